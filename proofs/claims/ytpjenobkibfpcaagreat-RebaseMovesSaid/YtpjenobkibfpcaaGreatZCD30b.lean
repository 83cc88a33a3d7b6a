import Derived.Test.YtpjenobkibfpcaaGreatZKG22d
import Derived.Test.YtpjenobkibfpcaaGreatZCL25i
import Derived.Test.YtpjenobkibfpcaaGreatZKD24
import Derived.Test.YtpjenobkibfpcaaGreatZKG22a
import Derived.Test.YtpjenobkibfpcaaGreatZKG21b
set_option linter.unusedSimpArgs false
set_option linter.unusedVariables false
namespace Go.AM.YtpjenobkibfpcaaGreat
open Go.AM Go.Proofs
theorem ZsN(s:Wst)(n:Int):(ZM s n).out.length<=s.out.length+3:=by
 have h:=Z7C s
 simp only [ZM]
 rw [Z69]
 split
 .rw [Km];omega
 .rw [Q7];simp;omega
theorem ZAg{s:Wst}{n B K:Int}(hB:0<=B)(hn:0<=n/\n<=K)(h:∀ o∈s.out,0<=o.n/\o.n<=B):∀ o∈(ZM s n).out,0<=o.n/\o.n<=B+K:=by
 have hF:∀ o∈(Z2 s).out,0<=o.n/\o.n<=B:=by
  intro o ho
  rcases Z7B s o ho with h1 | h1
  .exact h o h1
  .omega
 intro o ho
 simp only [ZM] at ho
 rw [Z69] at ho
 split at ho
 .rename_i hc
  rcases List.mem_or_eq_of_mem_set ho with ho | rfl
  .have:=hF o ho;omega
  .have:=hF _ (Ze (l:=(Z2 s).out) (i:=(Z2 s).out.length - 1) YS Op.nil)
   simp only;omega
 .rcases Qh.1 ho with ho | ho
  .have:=hF o ho;omega
  .simp only [Qf] at ho;subst ho;simp only;omega
theorem Zfx:∀ (l:List Kid),(Jz l).length=l.length
 | []=> rfl
 | k ::r=> by simp [Jz,Zfx r]
theorem Zni(e:Edit):(Zn e).words.length<=e.words.length/\(Zn e).kids.length<=e.kids.length:=by
 rw [Z54]
 split
 .simp
 .split
  .simp [Zfx]
  .split <;> simp
theorem Z9c{list:Int}{o:Op}{d:Int}(h:Zk list o d=true)(hk:o.kind=0):1<=o.n/\o.n<=1048576:=by
 obtain ⟨k,n,l,e⟩:=o
 simp only at hk
 subst hk
 simp [Zk] at h
 show 1<=n/\n<=1048576
 omega
theorem Z9d{list:Int}{o:Op}{d:Int}(h:Zk list o d=true)(hk:o.kind=3):Zb o.e d=true:=by
 obtain ⟨k,n,l,e⟩:=o
 simp only at hk
 subst hk
 simp [Zk] at h
 exact h.2.1.2
theorem Zhi{e:Edit}{d:Int}(h:Zb e d=true)(hk:e.kind=2):∀ k∈e.kids,∃ d,Zb k.e d=true:=by
 obtain ⟨k,o,n,w,ks,l,os⟩:=e
 change k=2 at hk
 subst hk
 have hks:∃ d last,ZK last ks d=true:=by
  unfold Zb at h
  split at h
  .cases h
  .split at h
   .cases h
   .rw [JL] at h
    simp only [Q3] at h
    exact ⟨_,_,h.1.1.1.2⟩
 obtain ⟨d',last,hks⟩:=hks
 change ∀ k∈ks,_
 clear h
 induction ks generalizing last with
 | nil=> intro k hk;cases hk
 | cons a r ih=>
  simp only [ZK,Q3] at hks
  intro k hk
  rcases Qc.1 hk with rfl | hk
  .obtain ⟨a,e⟩:=k
   simp only [JY,Q3] at hks
   exact ⟨_,hks.1.2⟩
  .exact ih _ hks.2 k hk
theorem Zlj{e:Edit}{d:Int}(h:Zb e d=true)(hk:e.kind=3):∀ o∈e.ops,∃ d,Zk e.list o d=true:=by
 obtain ⟨k,o,n,w,ks,l,os⟩:=e
 change k=3 at hk
 subst hk
 have hos:∃ d,ZO l os d=true:=by
  unfold Zb at h
  split at h
  .cases h
  .split at h
   .cases h
   .rw [JL] at h
    simp only [Q3] at h
    exact ⟨_,h.1.2⟩
 obtain ⟨d',hos⟩:=hos
 change ∀ o∈os,∃ d,Zk l o d=true
 clear h
 induction os with
 | nil=> intro k hk;cases hk
 | cons a r ih=>
  simp only [ZO,Q3] at hos
  intro k hk
  rcases Qc.1 hk with rfl | hk
  .exact ⟨_,hos.1⟩
  .exact ih hos.2 k hk
theorem ZJ4:ZCP:=by
 intro N list l _ hp hN
 simp only [Z5N,Zcb] at hp hN
 obtain ⟨p1,p3⟩:=hp
 have hl:=Y0 l
 refine ZHe _ _ _ _ ?_
 refine Z5 (ι:=Int × Wst) (fun s=> Y8 list l s.1 s.2.out s.2.gone s.2.brought)
  (fun s=> 0<=s.1/\s.1<=l.length/\Zt list (l.drop s.1.toNat) s.2=Zt list l ⟨[],[],[]⟩/\s.2.out.length<=3*s.1/\s.2.gone.length+s.2.brought.length+Zg (l.drop s.1.toNat)<=Zg l/\∀ o∈s.2.out,0<=o.n/\o.n<=s.1*1048576)
  (fun s=> ((l.length:Int) - s.1).toNat) (0,⟨[],[],[]⟩) rfl ⟨by simp,by simp,by simp,by simp,by simp,by simp⟩ ?_
 rintro ⟨i,s⟩ ⟨g1,g2,g3,g4,g5,g6⟩
 dsimp only at g1 g2 g3 g4 g5 g6
 refine Zue _ _ _ _ _ _ _ _ _ ?_
 rintro y1 hy1 y2 hy2 y3 hy3 y4 hy4 y5 hy5
 have hy:y2=Edit.nil:=hy2
 subst hy
 have es:Wst.mk s.out s.gone s.brought=s:=rfl
 simp only [es] at hy3 ⊢
 (simp only [iB,vcS])
 refine ⟨fun hi=> ?_,fun hi=> ?_⟩
 .have hmem:=Ze (l:=l) (i:=i.toNat) YS Op.nil
  have hm:=ZZ hmem
  have hr:=p3 _ hmem
  rw [ZQ g1 hi Op.nil] at g3 g5
  rw [<-hy1] at g3 g5 hm hr
  have hmo:=ZI y1
  simp only [Zt,YJ,Zg] at g3 g5
  rw [<-hy4,<-hy5] at g3
  obtain ⟨d,hr2⟩:=hr
  have hfl:=Z7C s
  have hP:∀ n:Int,0<=n/\n<=1048576->Z4Z ((s.out,s.gone,s.brought,()),n,()):=by
   intro n hn
   simp only [Z4Z]
   refine ⟨YS,YS,YS,fun o ho=> ?_,YS,YS⟩
   have:=g6 o ho
   constructor
   .omega
   .have:i*1048576<=20000000000*1048576:=YS
    omega
  have hK:∀ n:Int,0<=n/\n<=1048576->Zt list (l.drop (i+1).toNat) (ZM s n)=Zt list l ⟨[],[],[]⟩->
    (∃ j:Int × Wst,Y8 list l (i+1) (ZM s n).out (ZM s n).gone (ZM s n).brought=Y8 list l j.1 j.2.out j.2.gone j.2.brought/\(0<=j.1/\j.1<=l.length/\Zt list (l.drop j.1.toNat) j.2=Zt list l ⟨[],[],[]⟩/\j.2.out.length<=3*j.1/\j.2.gone.length+j.2.brought.length+Zg (l.drop j.1.toNat)<=Zg l/\∀ o∈j.2.out,0<=o.n/\o.n<=j.1*1048576)/\((l.length:Int) - j.1).toNat < ((l.length:Int) - i).toNat):=by
   intro n hn he
   have h1:=ZsN s n
   have h2:=ZAg (s:=s) (n:=n) (B:=i*1048576) (K:=1048576) YS hn g6
   refine ⟨(i+1,ZM s n),rfl,⟨V2,V2,he,V2,by simp only [ZM,List.length_nil];omega,fun o ho=> ?_⟩,V2⟩
   have:=h2 o ho
   dsimp only
   omega
  refine ⟨⟨g1,hi⟩,fun hk=> ?_,fun hk=> ⟨fun hk1=> ?_,fun hk1=> ⟨fun hk2=> ?_,fun hk2=> ⟨fun hk3=> ?_,fun hk3=> ?_⟩⟩⟩⟩
  .rw [if_pos hk] at g3
   have h1:=Z9c hr2 hk
   exact ⟨hP _ YS,V3,hK _ YS g3⟩
  .rw [if_neg hk,if_pos hk1] at g3
   refine ⟨by simp only [ZaW];omega,V3,(i+1,⟨s.out,s.gone++Z8 y1.l,s.brought⟩),rfl,⟨V2,V2,g3,V2,?_,fun o ho=> ?_⟩,V2⟩
   .have:=Zq y1.l
    simp only [Q7,Z8,Qv];omega
   .have:=g6 o ho
    dsimp only;omega
  .rw [if_neg hk,if_neg hk1,if_pos hk2] at g3
   refine ⟨by simp only [ZaW];omega,V3,(i+1,⟨s.out,s.gone,s.brought++Z8 y1.l⟩),rfl,⟨V2,V2,g3,V2,?_,fun o ho=> ?_⟩,V2⟩
   .have:=Zq y1.l
    simp only [Q7,Z8,Qv];omega
   .have:=g6 o ho
    dsimp only;omega
  .rw [if_neg hk,if_neg hk1,if_neg hk2,if_pos hk3] at g3
   have hre:=Z9d hr2 hk3
   rw [<-hy4] at hre
   have hw:=Zni y4
   rw [<-hy5] at hw
   have h1:=YC y4
   have h2:=YQ y4.kids
   have hmE:Z3 y4<=Zu y1:=by rw [hmo,hy4];omega
   refine ⟨by simp only [Z29];exact ⟨YS,d,hre⟩,by simp only [ZfD];omega,by simp only [Z6J];omega,fun hq=> ?_,fun hq=> ?_⟩
   .rw [if_pos hq] at g3
    exact ⟨hP 1 YS,V3,hK 1 YS g3⟩
   .rw [if_neg (by rw [hq];simp)] at g3
    rw [hy3,Z1S]
    refine ⟨by simp only [Z22];omega,by simp only [Q6,Q8];omega,by simp only [Q7,Q6,Q8];omega,YS,V3,(i+1,⟨(Z2 s).out++[⟨3,0,[],y5⟩],[],[]⟩),rfl,⟨V2,V2,g3,by simp;omega,by simp;omega,fun o ho=> ?_⟩,V2⟩
    dsimp only at ho ⊢
    rcases Qh.1 ho with ho | ho
    .rcases Z7B s o ho with h5 | h5
     .have:=g6 o h5;omega
     .omega
    .simp only [Qf] at ho
     subst ho
     simp only;omega
  .rw [if_neg hk,if_neg hk1,if_neg hk2,if_neg hk3] at g3
   refine ⟨V3,(i+1,s),rfl,⟨V2,V2,g3,V2,V2,fun o ho=> ?_⟩,V2⟩
   have:=g6 o ho
   dsimp only;omega
 .rw [Q9 YS] at g3
  simp only [Zt] at g3
  refine ⟨by simp only [Z22];omega,?_⟩
  simp only [ZeQ]
  rw [<-g3]
  exact JP
theorem b67:ZIp:=by
 intro N e _ hp hN
 simp only [Z29,ZfD] at hp hN
 obtain ⟨p1,d,p3⟩:=hp
 have h1:=YC e
 have h2:=YQ e.kids
 have h3:=Y0 e.ops
 have ha:=Z54 e
 refine ZIG _ _ _ ?_
 (simp only [iB,vcS])
 (simp only [Tree.eta,Edit.eta,Tree.kind_mk,Tree.words_mk,Tree.kids_mk])
 refine ⟨fun hk=> ⟨by simp only [Jy];omega,by simp only [Jy];omega,?_⟩,fun hk=> ⟨fun hk2=> ⟨by simp;omega,?_⟩,fun hk2=> ⟨fun hk3=> ⟨?_,by simp only [Zcb];omega,?_⟩,fun hk3=> ?_⟩⟩⟩
 .rw [if_pos hk] at ha
  simp only [ZbU,ha]
  exact JP
 .rw [if_neg hk,if_pos hk2] at ha
  refine Z5 (ι:=Int × List Kid) (fun s=> Z4r e s.1 s.2) (fun s=> 0<=s.1/\s.1<=e.kids.length/\s.2.length=s.1/\s.2++Jz (e.kids.drop s.1.toNat)=Jz e.kids) (fun s=> ((e.kids.length:Int) - s.1).toNat) (0,[]) rfl ⟨by simp,by simp,by simp,by simp⟩ ?_
  rintro ⟨j,ks⟩ ⟨f1,f2,f3,f4⟩
  dsimp only at f1 f2 f3 f4
  refine Zyg _ _ _ _ _ _ ?_
  rintro y1 hy1 y2 hy2 y3 hy3
  (simp only [iB,vcS])
  refine ⟨fun hj=> ?_,fun hj=> ?_⟩
  .have hmem:=Ze (l:=e.kids) (i:=j.toNat) YS (KidOf.mk 0 Edit.nil)
   have hm:=Jn hmem
   have hr:=Zhi p3 hk2 _ hmem
   rw [ZQ f1 hj (KidOf.mk 0 Edit.nil)] at f4
   rw [<-hy1] at f4 hm hr
   simp only [Jz,Zb7] at f4
   rw [<-hy2] at f4 hm hr
   rw [<-hy3] at f4
   refine ⟨⟨f1,hj⟩,by simp only [Z29];exact ⟨YS,hr⟩,by simp only [ZfD];omega,by simp;omega,V3,(j+1,ks++[⟨y1.at_,y3⟩]),rfl,⟨V2,V2,by simp;omega,?_⟩,V2⟩
   simp only [Qa,Qp,Qr]
   exact f4
  .rw [Q9 YS] at f4
   simp only [Jz,Qo] at f4
   rw [f4]
   simp only [ZbU,ha]
   exact JP
 .simp only [Z5N]
  exact ⟨YS,fun o ho=> Zlj p3 hk3 o ho⟩
 .rw [if_neg hk,if_neg hk2,if_pos hk3] at ha
  simp only [ZbU,ha]
  exact JP
 .rw [if_neg hk,if_neg hk2,if_neg hk3] at ha
  simp only [ZbU,ha]
  exact JP
theorem ZE9:Contract Tryz.prog cfg 67 Zen/\Contract Tryz.prog cfg 107 ZoD:=ZsF c75 Zxo ZEL Zt5 Zxl b67 ZJ4
noncomputable section
noncomputable section
def Z25(N:Nat):List (FuncId × Fs U):=(29,fs Zrz (fun a=> [Z29 a,ZfD a < N]) ZbU) ::(79,fs ZdS (fun a=> [Z5N a,Zcb a < N]) ZeQ) ::[(41,Z0l),(127,Z6z),(128,Z44)]
def ZfN:Zc U:=lvk [([1,2],[1,2]),([1,2,6],[1,2]),([1,2,6,7],[1,2]),([2],[2]),([1,2,6,16],[1,2]),([1,2,3],[1,2,3]),([1,2,3],[1,2,3]),([1,2,3,4],[1,2,((.loc 3),(an 8 [.own .kid]))]),([1,2,3,4,29],[1,2,3]),([1,2,3,4],[1,2,((.loc 3),(an 8 [.own .kid]))]),([1,2,3,4],[1,2,3]),([2],[2]),([1,2,52],[1,2]),([2],[2]),([2],[2])]
def Z4s(e:Edit)(x4:Int)(ml3_8:List Kid):LSt U:=(L2 [pL 1,pL 2,pL 3,pI 4 x4] [(.loc 1,(enc .edit e)),(.loc 2,zc1),(.loc 3,[ci 2,ci 0,.nils,.nils,ci 0,.nils,.nils,sU .wedit (([]:List WEdit)++e.words) (.own (.l 3 7)),sU .kid ml3_8 (.own (.l 3 8)),ci 0,.nils])])
abbrev W29(N:Nat)(e:Edit)(Q:QT):=AW (Z0 (Z25 N)) Tryz.f29 ZfN [] (L2 [(0,.agg (enc .edit e))] []) Q
abbrev Zoe(N:Nat):=awp cfg (Z0 (Z25 N)) (Yn cfg (Z0 (Z25 N))) Tryz.f29.ntmps ZfN
abbrev ZeC(N:Nat):=Zi0 cfg (Z0 (Z25 N)) (Yn cfg (Z0 (Z25 N))) Tryz.f29.ntmps ZfN
theorem ZIN(N:Nat)(e:Edit)(Q:QT)(h:((e.kind==1)=true->(Jy ((Tree.mk e.old.kind e.old.words e.old.kids),()))/\(Jy ((Tree.mk e.new.kind e.new.words e.new.kids),()))/\(Q .ret (L2 [pL 2] [(.loc 2,([ci 1]++enc .tree (Z4 (Tree.mk e.old.kind e.old.words e.old.kids))++enc .tree (Z4 (Tree.mk e.new.kind e.new.words e.new.kids))++[.nils,.nils,ci 0,.nils]))])))/\((e.kind==1)=false->((e.kind==2)=true->((([]:List WEdit).length+e.words.length)*32<=140737488355328)/\(Zd (AW (Z0 (Z25 N)) Tryz.f29 ZfN [1,0,1,0,1,1,1,0,1,1,0,1,0,0]) (Z4s e 0 []) (xB 1 (SW (Z0 (Z25 N)) Tryz.f29 ZfN [1,0,1,0,1,1,1,0,1,1,1] (xB 0 (SW (Z0 (Z25 N)) Tryz.f29 ZfN [1,1] Q))))))/\((e.kind==2)=false->((e.kind==3)=true->(Z5N (e.list,e.ops,()))/\(Zcb (e.list,e.ops,()) < N)/\(Q .ret (L2 [pL 2] [(.loc 2,[ci 3,ci 0,.nils,.nils,ci 0,.nils,.nils,.nils,.nils,ci e.list,sU .op ((Z2 (Zt e.list e.ops (Wst.mk [] [] []))).out) .unk])])))/\((e.kind==3)=false->Q .ret (L2 [pL 2] [(.loc 2,zc1)]))))):
  W29 N e Q:=by
 have e_:(W29 N e Q)=(((e.kind==1)=true->(Jy ((Tree.mk e.old.kind e.old.words e.old.kids),()))/\(Jy ((Tree.mk e.new.kind e.new.words e.new.kids),()))/\(Q .ret (L2 [pL 2] [(.loc 2,([ci 1]++enc .tree (Z4 (Tree.mk e.old.kind e.old.words e.old.kids))++enc .tree (Z4 (Tree.mk e.new.kind e.new.words e.new.kids))++[.nils,.nils,ci 0,.nils]))])))/\((e.kind==1)=false->(((e.kind==2)=true->(((([]:List WEdit).length+e.words.length)*32<=140737488355328)/\(Zd (Zoe N (cd Tryz.f29 [1,0,1,0,1,1,1,0,1,1,0,1,0,0])) (Z4s e 0 []) (xB 1 (ZeC N (cd Tryz.f29 [1,0,1,0,1,1,1,0,1,1,1]) (xB 0 (ZeC N (cd Tryz.f29 [1,1]) Q)))))))/\((e.kind==2)=false->(((e.kind==3)=true->(Z5N (e.list,e.ops,()))/\(Zcb (e.list,e.ops,()) < N)/\(Q .ret (L2 [pL 2] [(.loc 2,[ci 3,ci 0,.nils,.nils,ci 0,.nils,.nils,.nils,.nils,ci e.list,sU .op ((Z2 (Zt e.list e.ops (Wst.mk [] [] []))).out) .unk])])))/\((e.kind==3)=false->(Q .ret (L2 [pL 2] [(.loc 2,zc1)])))))))):=V4
 exact e_.mpr ⟨fun c_1=> ⟨(h.1 c_1).1,(h.1 c_1).2.1,(h.1 c_1).2.2⟩,fun c_1=> ⟨fun c_2=> ⟨((h.2 c_1).1 c_2).1,((h.2 c_1).1 c_2).2⟩,fun c_2=> ⟨fun c_3=> ⟨(((h.2 c_1).2 c_2).1 c_3).1,(((h.2 c_1).2 c_2).1 c_3).2.1,(((h.2 c_1).2 c_2).1 c_3).2.2⟩,fun c_3=> (((h.2 c_1).2 c_2).2 c_3)⟩⟩⟩
abbrev ZxL(N:Nat)(e:Edit)(x4:Int)(ml3_8:List Kid)(N0:NT)(Q:QT):=AW (Z0 (Z25 N)) Tryz.f29 ZfN [1,0,1,0,1,1,1,0,1,1,0,1,0,0] (Z4s e x4 ml3_8) (xT N0 (xB 1 (SW (Z0 (Z25 N)) Tryz.f29 ZfN [1,0,1,0,1,1,1,0,1,1,1] (xB 0 (SW (Z0 (Z25 N)) Tryz.f29 ZfN [1,1] Q)))))
theorem Zyo(N:Nat)(e:Edit)(x4:Int)(ml3_8:List Kid)(N0:NT)(Q:QT)(h:∀ y_1,y_1=(e.kids.getD x4.toNat (KidOf.mk 0 Edit.nil))->∀ y_2,y_2=(y_1.e)->∀ y_3,y_3=(Zn y_2)->((decide (x4 < (e.kids.length:Int)))=true->((0:Int)<=x4/\x4 < (e.kids.length:Int))/\((0:Int)<=x4/\x4 < (e.kids.length:Int))/\(Z29 (y_2,()))/\(ZfD (y_2,()) < N)/\((ml3_8.length+([(KidOf.mk y_1.at_ y_3:Kid)]).length)*208<=140737488355328)/\((InR (x4+1))/\(N0 (Z4s e (x4+1) (ml3_8++([(KidOf.mk y_1.at_ y_3:Kid)]))))))/\((decide (x4 < (e.kids.length:Int)))=false->Q .ret (L2 [pL 2] [(.loc 2,[ci 2,ci 0,.nils,.nils,ci 0,.nils,.nils,sU .wedit (([]:List WEdit)++e.words) (.own (.l 2 7)),sU .kid ml3_8 (.own (.l 2 8)),ci 0,.nils])]))):
  ZxL N e x4 ml3_8 N0 Q:=by
 have e_:(ZxL N e x4 ml3_8 N0 Q)=(let y_1:=(e.kids.getD x4.toNat (KidOf.mk 0 Edit.nil));let y_2:=(JF y_1.e);let y_3:=(JF (Zn y_2));(((decide ((x4:Int) < (e.kids.length:Int)))=true->((0:Int)<=x4/\x4 < (e.kids.length:Int))/\((0:Int)<=x4/\x4 < (e.kids.length:Int))/\(Z29 (y_2,()))/\(ZfD (y_2,()) < N)/\((ml3_8.length+([(KidOf.mk y_1.at_ y_3:Kid)]).length)*208<=140737488355328)/\((InR ((x4:Int)+1))/\(N0 (Z4s e ((x4:Int)+1) (ml3_8++([(KidOf.mk y_1.at_ y_3:Kid)]))))))/\((decide ((x4:Int) < (e.kids.length:Int)))=false->(Q .ret (L2 [pL 2] [(.loc 2,[ci 2,ci 0,.nils,.nils,ci 0,.nils,.nils,sU .wedit (([]:List WEdit)++e.words) (.own (.l 2 7)),sU .kid ml3_8 (.own (.l 2 8)),ci 0,.nils])]))))):=V4
 exact e_.mpr (by intro y_1 y_2 y_3;have hh:=h y_1 rfl y_2 (Z7 _) y_3 (Z7 _);exact ⟨fun c_4=> ⟨(hh.1 c_4).1,(hh.1 c_4).2.1,(hh.1 c_4).2.2.1,(hh.1 c_4).2.2.2.1,(hh.1 c_4).2.2.2.2.1,⟨(hh.1 c_4).2.2.2.2.2.1,(hh.1 c_4).2.2.2.2.2.2⟩⟩,fun c_4=> (hh.2 c_4)⟩)
def ZFA(N:Nat)(e:Edit):Prop:=AW (Z0 (Z25 N)) Tryz.f29 ZfN [] (Zh (Zrz.can (e,())) []) (EQ Tryz.f29 (ZbU (e,())) [])
abbrev ZIs:Prop:=∀ (N:Nat) (e:Edit) (_:Unit),Z29 (e,())->ZfD (e,()) < N+1->ZFA N e
def Z2o:Zc U:=lvk [([0,1],[]),([0,1,(5,[.wr .op])],[]),([0,1,(5,[.wr .op]),6],[]),([0,1,(5,[.wr .op]),6,16],[]),([0,1,(5,[.wr .op]),6],[]),([0,1,(5,[.wr .op]),6,7,8],[]),([0,1,(5,[.wr .op]),7,8,9],[]),([0,1,(5,[.wr .op]),7,8,9,33],[]),([0,1,(5,[.wr .op]),8,9],[]),([0,1,(5,[.wr .op]),8,9,41],[]),([0,1,(5,[.wr .op]),8,9,41],[]),([0,1,(5,[.wr .op]),6],[]),([0,1,(5,[.wr .op]),6,51],[]),([4],[]),([0,1,(5,[.wr .op]),6,11],[11]),([0,1,(5,[.wr .op]),6,11,64],[11]),([0,1,(5,[.wr .op]),6,11],[11]),([0,1,(5,[.wr .op]),6,11,75],[11]),([0,1,(5,[.wr .op]),6,11],[11]),([0,1,(5,[.wr .op]),6,11,12],[11]),([0,1,(5,[.wr .op]),6,11,12,94],[11]),([0,1,(5,[.wr .op]),6],[]),([0,1,(5,[.wr .op]),6],[]),([4],[])]
def Yc(list:Int)(l:List Op)(x6:Int)(re_5_0:List Op):LSt U:=(⟨[pI 0 list,(1,.c (sU .op l .unk)),(5,.c (.mref (.e 5 0))),pI 6 x6],[],[(.e 5 0,LC.mk (U:=U) .op re_5_0 0)]⟩:LSt U)
def Z1c(list:Int)(l:List Op)(x6:Int)(re_5_0_a:List Op):LSt U:=(⟨[pI 0 list,(1,.c (sU .op l .unk)),(5,.c (.mref (.e 5 0))),pI 8 (x6+ZN (l.drop x6.toNat)),(9,.c (sU .tree (YT 2 (l.drop x6.toNat)) .unk)),(41,.c (.bool (decide ((0:Int) < ((YT 2 (l.drop x6.toNat)).length:Int)))))],[],[(.e 5 0,LC.mk (U:=U) .op re_5_0_a 0)]⟩:LSt U)
abbrev W79(N:Nat)(list:Int)(l:List Op)(Q:QT):=AW (Z0 (Z25 N)) Tryz.f79 Z2o [] (L2 [pI 0 list,(1,.c (sU .op l .unk))] []) Q
abbrev Z3j(N:Nat):=awp cfg (Z0 (Z25 N)) (Yn cfg (Z0 (Z25 N))) Tryz.f79.ntmps Z2o
abbrev JD(N:Nat):=Zi0 cfg (Z0 (Z25 N)) (Yn cfg (Z0 (Z25 N))) Tryz.f79.ntmps Z2o
theorem ZIA(N:Nat)(list:Int)(l:List Op)(Q:QT)(h:Zd (AW (Z0 (Z25 N)) Tryz.f79 Z2o [1,1,0,1,0,0]) (Yc list l 0 []) (xB 0 (SW (Z0 (Z25 N)) Tryz.f79 Z2o [1,1,1] Q))):
  W79 N list l Q:=by
 have e_:(W79 N list l Q)=(Zd (Z3j N (cd Tryz.f79 [1,1,0,1,0,0])) (Yc list l 0 []) (xB 0 (JD N (cd Tryz.f79 [1,1,1]) Q))):=V4
 exact e_.mpr h
abbrev ZxJ(N:Nat)(list:Int)(l:List Op)(x6:Int)(re_5_0:List Op)(N0:NT)(Q:QT):=AW (Z0 (Z25 N)) Tryz.f79 Z2o [1,1,0,1,0,0] (Yc list l x6 re_5_0) (xT N0 (xB 0 (SW (Z0 (Z25 N)) Tryz.f79 Z2o [1,1,1] Q)))
theorem Zy9(N:Nat)(list:Int)(l:List Op)(x6:Int)(re_5_0:List Op)(N0:NT)(Q:QT)(h:∀ y_1,y_1=(Edit.mk 0 (Tree.mk 0 [] []) (Tree.mk 0 [] []) [] [] 0 [])->((decide (x6 < (l.length:Int)))=true->(Z50 (l,x6,1,()))/\((Z50 (l,x6,2,()))/\(((decide ((0:Int) < ((YT 1 (l.drop x6.toNat)).length:Int)))=true->((re_5_0.length+([(OpOf.mk 1 0 (YT 1 (l.drop x6.toNat)) y_1:Op)]).length)*240<=140737488355328)/\(((decide ((0:Int) < ((YT 2 (l.drop x6.toNat)).length:Int)))=true->(((re_5_0++([(OpOf.mk 1 0 (YT 1 (l.drop x6.toNat)) y_1:Op)])).length+([(OpOf.mk 2 0 (YT 2 (l.drop x6.toNat)) y_1:Op)]).length)*240<=140737488355328)/\(AW (Z0 (Z25 N)) Tryz.f79 Z2o [1,1,0,1,0,0,1,0,0,1,1,1,1] (Z1c list l x6 ((re_5_0++([(OpOf.mk 1 0 (YT 1 (l.drop x6.toNat)) y_1:Op)]))++([(OpOf.mk 2 0 (YT 2 (l.drop x6.toNat)) y_1:Op)]))) (xB 1 (SW (Z0 (Z25 N)) Tryz.f79 Z2o [1,1,0,1,0,0,1,1] (xT N0 (xB 0 (SW (Z0 (Z25 N)) Tryz.f79 Z2o [1,1,1] Q)))))))/\((decide ((0:Int) < ((YT 2 (l.drop x6.toNat)).length:Int)))=false->AW (Z0 (Z25 N)) Tryz.f79 Z2o [1,1,0,1,0,0,1,0,0,1,1,1,1] (Z1c list l x6 (re_5_0++([(OpOf.mk 1 0 (YT 1 (l.drop x6.toNat)) y_1:Op)]))) (xB 1 (SW (Z0 (Z25 N)) Tryz.f79 Z2o [1,1,0,1,0,0,1,1] (xT N0 (xB 0 (SW (Z0 (Z25 N)) Tryz.f79 Z2o [1,1,1] Q))))))))/\((decide ((0:Int) < ((YT 1 (l.drop x6.toNat)).length:Int)))=false->((decide ((0:Int) < ((YT 2 (l.drop x6.toNat)).length:Int)))=true->((re_5_0.length+([(OpOf.mk 2 0 (YT 2 (l.drop x6.toNat)) y_1:Op)]).length)*240<=140737488355328)/\(AW (Z0 (Z25 N)) Tryz.f79 Z2o [1,1,0,1,0,0,1,0,0,1,1,1,1] (Z1c list l x6 (re_5_0++([(OpOf.mk 2 0 (YT 2 (l.drop x6.toNat)) y_1:Op)]))) (xB 1 (SW (Z0 (Z25 N)) Tryz.f79 Z2o [1,1,0,1,0,0,1,1] (xT N0 (xB 0 (SW (Z0 (Z25 N)) Tryz.f79 Z2o [1,1,1] Q)))))))/\((decide ((0:Int) < ((YT 2 (l.drop x6.toNat)).length:Int)))=false->AW (Z0 (Z25 N)) Tryz.f79 Z2o [1,1,0,1,0,0,1,0,0,1,1,1,1] (Z1c list l x6 re_5_0) (xB 1 (SW (Z0 (Z25 N)) Tryz.f79 Z2o [1,1,0,1,0,0,1,1] (xT N0 (xB 0 (SW (Z0 (Z25 N)) Tryz.f79 Z2o [1,1,1] Q))))))))))/\((decide (x6 < (l.length:Int)))=false->Q .ret (L2 [(4,.c (sU .op re_5_0 (.own (.e 4 0))))] []))):
  ZxJ N list l x6 re_5_0 N0 Q:=by
 have e_:(ZxJ N list l x6 re_5_0 N0 Q)=(let y_1:=(Edit.mk 0 (Tree.mk 0 [] []) (Tree.mk 0 [] []) [] [] 0 []);let zz1:=(decide ((0:Int) < ((YT 1 (l.drop x6.toNat)).length:Int)));let zz0:=(decide ((0:Int) < ((YT 2 (l.drop x6.toNat)).length:Int)));(((decide ((x6:Int) < (l.length:Int)))=true->(Z50 (l,x6,1,()))/\((Z50 (l,x6,2,()))/\((zz1=true->((re_5_0.length+([(OpOf.mk 1 0 (YT 1 (l.drop x6.toNat)) y_1:Op)]).length)*240<=140737488355328)/\((zz0=true->(((re_5_0++([(OpOf.mk 1 0 (YT 1 (l.drop x6.toNat)) y_1:Op)])).length+([(OpOf.mk 2 0 (YT 2 (l.drop x6.toNat)) y_1:Op)]).length)*240<=140737488355328)/\(Z3j N (cd Tryz.f79 [1,1,0,1,0,0,1,0,0,1,1,1,1]) (Z1c list l x6 ((re_5_0++([(OpOf.mk 1 0 (YT 1 (l.drop x6.toNat)) y_1:Op)]))++([(OpOf.mk 2 0 (YT 2 (l.drop x6.toNat)) y_1:Op)]))) (xB 1 (JD N (cd Tryz.f79 [1,1,0,1,0,0,1,1]) (xT N0 (xB 0 (JD N (cd Tryz.f79 [1,1,1]) Q)))))))/\(zz0=false->Z3j N (cd Tryz.f79 [1,1,0,1,0,0,1,0,0,1,1,1,1]) (Z1c list l x6 (re_5_0++([(OpOf.mk 1 0 (YT 1 (l.drop x6.toNat)) y_1:Op)]))) (xB 1 (JD N (cd Tryz.f79 [1,1,0,1,0,0,1,1]) (xT N0 (xB 0 (JD N (cd Tryz.f79 [1,1,1]) Q))))))))/\(zz1=false->((zz0=true->((re_5_0.length+([(OpOf.mk 2 0 (YT 2 (l.drop x6.toNat)) y_1:Op)]).length)*240<=140737488355328)/\(Z3j N (cd Tryz.f79 [1,1,0,1,0,0,1,0,0,1,1,1,1]) (Z1c list l x6 (re_5_0++([(OpOf.mk 2 0 (YT 2 (l.drop x6.toNat)) y_1:Op)]))) (xB 1 (JD N (cd Tryz.f79 [1,1,0,1,0,0,1,1]) (xT N0 (xB 0 (JD N (cd Tryz.f79 [1,1,1]) Q)))))))/\(zz0=false->Z3j N (cd Tryz.f79 [1,1,0,1,0,0,1,0,0,1,1,1,1]) (Z1c list l x6 re_5_0) (xB 1 (JD N (cd Tryz.f79 [1,1,0,1,0,0,1,1]) (xT N0 (xB 0 (JD N (cd Tryz.f79 [1,1,1]) Q)))))))))))/\((decide ((x6:Int) < (l.length:Int)))=false->(Q .ret (L2 [(4,.c (sU .op re_5_0 (.own (.e 4 0))))] []))))):=V4
 exact e_.mpr (by intro y_1;have hh:=h y_1 rfl;exact ⟨fun c_5=> ⟨(hh.1 c_5).1,⟨(hh.1 c_5).2.1,⟨fun c_6=> ⟨((hh.1 c_5).2.2.1 c_6).1,⟨fun c_7=> ⟨(((hh.1 c_5).2.2.1 c_6).2.1 c_7).1,(((hh.1 c_5).2.2.1 c_6).2.1 c_7).2⟩,fun c_7=> (((hh.1 c_5).2.2.1 c_6).2.2 c_7)⟩⟩,fun c_6=> ⟨fun c_8=> ⟨(((hh.1 c_5).2.2.2 c_6).1 c_8).1,(((hh.1 c_5).2.2.2 c_6).1 c_8).2⟩,fun c_8=> (((hh.1 c_5).2.2.2 c_6).2 c_8)⟩⟩⟩⟩,fun c_5=> (hh.2 c_5)⟩)
abbrev Zof(N:Nat)(list:Int)(l:List Op)(x6:Int)(re_5_0_a:List Op)(N0:NT)(Q:QT):=AW (Z0 (Z25 N)) Tryz.f79 Z2o [1,1,0,1,0,0,1,0,0,1,1,1,1] (Z1c list l x6 re_5_0_a) (xB 1 (SW (Z0 (Z25 N)) Tryz.f79 Z2o [1,1,0,1,0,0,1,1] (xT N0 (xB 0 (SW (Z0 (Z25 N)) Tryz.f79 Z2o [1,1,1] Q)))))
theorem Zya(N:Nat)(list:Int)(l:List Op)(x6:Int)(re_5_0_a:List Op)(N0:NT)(Q:QT)(h:∀ y_1,y_1=(List.getD l (Int.toNat (x6+ZN (l.drop x6.toNat))) Op.nil)->∀ y_2,y_2=(Edit.mk 0 (Tree.mk 0 [] []) (Tree.mk 0 [] []) [] [] 0 [])->∀ y_3,y_3=(List.getD re_5_0_a (Int.toNat (((re_5_0_a.length:Int):Int) - 1)) Op.nil)->∀ y_4,y_4=(y_1.e)->∀ y_5,y_5=(y_3.e)->∀ y_6,y_6=(Zn y_4)->((decide (((l.length:Int):Int)<=(x6+ZN (l.drop x6.toNat))))=true->Q .ret (L2 [(4,.c (sU .op re_5_0_a (.own (.e 4 0))))] []))/\((decide (((l.length:Int):Int)<=(x6+ZN (l.drop x6.toNat))))=false->((0:Int)<=(x6+ZN (l.drop x6.toNat))/\(x6+ZN (l.drop x6.toNat)) < (l.length:Int))/\(((0:Int)<=(x6+ZN (l.drop x6.toNat))/\(x6+ZN (l.drop x6.toNat)) < (l.length:Int))/\(((y_1.kind==3)=true->((0:Int)<=(x6+ZN (l.drop x6.toNat))/\(x6+ZN (l.drop x6.toNat)) < (l.length:Int))/\(Z29 (y_4,()))/\(ZfD (y_4,()) < N)/\((Z9t (list,y_6,()))/\(((Z3F list y_6)=true->((bif ((0:Int)==0) then (decide ((0:Int) < (re_5_0_a.length:Int))) else false)=true->InR (((re_5_0_a.length:Int):Int) - 1))/\((bif ((0:Int)==0) then (decide ((0:Int) < (re_5_0_a.length:Int))) else false)=true->(0:Int)<=(((re_5_0_a.length:Int):Int) - 1)/\(((re_5_0_a.length:Int):Int) - 1) < (re_5_0_a.length:Int))/\(((bif (bif ((0:Int)==0) then (decide ((0:Int) < (re_5_0_a.length:Int))) else false) then (y_3.kind==0) else false)=true->(InR (((re_5_0_a.length:Int):Int) - 1))/\(InR (((re_5_0_a.length:Int):Int) - 1))/\((0:Int)<=(((re_5_0_a.length:Int):Int) - 1)/\(((re_5_0_a.length:Int):Int) - 1) < (re_5_0_a.length:Int))/\(InR (y_3.n+1))/\((0:Int)<=(((re_5_0_a.length:Int):Int) - 1)/\(((re_5_0_a.length:Int):Int) - 1) < (re_5_0_a.length:Int))/\((0:Nat)<=(Int.toNat (((re_5_0_a.length:Int):Int) - 1)))/\((InR (((x6+ZN (l.drop x6.toNat)):Int)+1))/\(N0 (Yc list l (((x6+ZN (l.drop x6.toNat)):Int)+1) (List.set re_5_0_a (Int.toNat (((re_5_0_a.length:Int):Int) - 1)) (OpOf.mk y_3.kind (y_3.n+1) y_3.l y_5:Op))))))/\((bif (bif ((0:Int)==0) then (decide ((0:Int) < (re_5_0_a.length:Int))) else false) then (y_3.kind==0) else false)=false->((re_5_0_a.length+([(OpOf.mk 0 1 [] y_2:Op)]).length)*240<=140737488355328)/\((InR (((x6+ZN (l.drop x6.toNat)):Int)+1))/\(N0 (Yc list l (((x6+ZN (l.drop x6.toNat)):Int)+1) (re_5_0_a++([(OpOf.mk 0 1 [] y_2:Op)]))))))))/\((Z3F list y_6)=false->((bif ((3:Int)==0) then (decide ((0:Int) < (re_5_0_a.length:Int))) else false)=true->InR (((re_5_0_a.length:Int):Int) - 1))/\((bif ((3:Int)==0) then (decide ((0:Int) < (re_5_0_a.length:Int))) else false)=true->(0:Int)<=(((re_5_0_a.length:Int):Int) - 1)/\(((re_5_0_a.length:Int):Int) - 1) < (re_5_0_a.length:Int))/\(((bif (bif ((3:Int)==0) then (decide ((0:Int) < (re_5_0_a.length:Int))) else false) then (y_3.kind==0) else false)=true->(InR (((re_5_0_a.length:Int):Int) - 1))/\(InR (((re_5_0_a.length:Int):Int) - 1))/\((0:Int)<=(((re_5_0_a.length:Int):Int) - 1)/\(((re_5_0_a.length:Int):Int) - 1) < (re_5_0_a.length:Int))/\(InR (y_3.n+0))/\((0:Int)<=(((re_5_0_a.length:Int):Int) - 1)/\(((re_5_0_a.length:Int):Int) - 1) < (re_5_0_a.length:Int))/\((0:Nat)<=(Int.toNat (((re_5_0_a.length:Int):Int) - 1)))/\((InR (((x6+ZN (l.drop x6.toNat)):Int)+1))/\(N0 (Yc list l (((x6+ZN (l.drop x6.toNat)):Int)+1) (List.set re_5_0_a (Int.toNat (((re_5_0_a.length:Int):Int) - 1)) (OpOf.mk y_3.kind (y_3.n+0) y_3.l y_5:Op))))))/\((bif (bif ((3:Int)==0) then (decide ((0:Int) < (re_5_0_a.length:Int))) else false) then (y_3.kind==0) else false)=false->((re_5_0_a.length+([(OpOf.mk 3 0 [] y_6:Op)]).length)*240<=140737488355328)/\((InR (((x6+ZN (l.drop x6.toNat)):Int)+1))/\(N0 (Yc list l (((x6+ZN (l.drop x6.toNat)):Int)+1) (re_5_0_a++([(OpOf.mk 3 0 [] y_6:Op)])))))))))))/\((y_1.kind==3)=false->((bif ((0:Int)==0) then (decide ((0:Int) < (re_5_0_a.length:Int))) else false)=true->InR (((re_5_0_a.length:Int):Int) - 1))/\((bif ((0:Int)==0) then (decide ((0:Int) < (re_5_0_a.length:Int))) else false)=true->(0:Int)<=(((re_5_0_a.length:Int):Int) - 1)/\(((re_5_0_a.length:Int):Int) - 1) < (re_5_0_a.length:Int))/\(((bif (bif ((0:Int)==0) then (decide ((0:Int) < (re_5_0_a.length:Int))) else false) then (y_3.kind==0) else false)=true->(InR (((re_5_0_a.length:Int):Int) - 1))/\(InR (((re_5_0_a.length:Int):Int) - 1))/\((0:Int)<=(((re_5_0_a.length:Int):Int) - 1)/\(((re_5_0_a.length:Int):Int) - 1) < (re_5_0_a.length:Int))/\(InR (y_3.n+y_1.n))/\((0:Int)<=(((re_5_0_a.length:Int):Int) - 1)/\(((re_5_0_a.length:Int):Int) - 1) < (re_5_0_a.length:Int))/\((0:Nat)<=(Int.toNat (((re_5_0_a.length:Int):Int) - 1)))/\((InR (((x6+ZN (l.drop x6.toNat)):Int)+1))/\(N0 (Yc list l (((x6+ZN (l.drop x6.toNat)):Int)+1) (List.set re_5_0_a (Int.toNat (((re_5_0_a.length:Int):Int) - 1)) (OpOf.mk y_3.kind (y_3.n+y_1.n) y_3.l y_5:Op))))))/\((bif (bif ((0:Int)==0) then (decide ((0:Int) < (re_5_0_a.length:Int))) else false) then (y_3.kind==0) else false)=false->((re_5_0_a.length+([(OpOf.mk 0 y_1.n [] y_2:Op)]).length)*240<=140737488355328)/\((InR (((x6+ZN (l.drop x6.toNat)):Int)+1))/\(N0 (Yc list l (((x6+ZN (l.drop x6.toNat)):Int)+1) (re_5_0_a++([(OpOf.mk 0 y_1.n [] y_2:Op)])))))))))))):
  Zof N list l x6 re_5_0_a N0 Q:=by
 have e_:(Zof N list l x6 re_5_0_a N0 Q)=(let y_1:=(List.getD l (Int.toNat (x6+ZN (l.drop x6.toNat))) Op.nil);let y_2:=(Edit.mk 0 (Tree.mk 0 [] []) (Tree.mk 0 [] []) [] [] 0 []);let y_3:=(List.getD re_5_0_a (Int.toNat ((re_5_0_a.length:Int) - 1)) Op.nil);let y_4:=(JF y_1.e);let y_5:=(JF y_3.e);let y_6:=(JF (Zn y_4));let zz3:=(decide ((l.length:Int)<=(x6+ZN (l.drop x6.toNat))));let zz2:=(y_3.kind==0);let zz1:=(bif ((3:Int)==0) then (decide ((0:Int) < (re_5_0_a.length:Int))) else false);let zz0:=(bif ((0:Int)==0) then (decide ((0:Int) < (re_5_0_a.length:Int))) else false);((zz3=true->(Q .ret (L2 [(4,.c (sU .op re_5_0_a (.own (.e 4 0))))] [])))/\(zz3=false->((0:Int)<=(x6+ZN (l.drop x6.toNat))/\(x6+ZN (l.drop x6.toNat)) < (l.length:Int))/\(((0:Int)<=(x6+ZN (l.drop x6.toNat))/\(x6+ZN (l.drop x6.toNat)) < (l.length:Int))/\(((y_1.kind==3)=true->((0:Int)<=(x6+ZN (l.drop x6.toNat))/\(x6+ZN (l.drop x6.toNat)) < (l.length:Int))/\(Z29 (y_4,()))/\(ZfD (y_4,()) < N)/\((Z9t (list,y_6,()))/\(((Z3F list y_6)=true->((Tr (((0:Int)==0)=true))/\(Tr (((0:Int)==0)=true))/\(Tr (zz0=true))/\(zz0=true->InR ((re_5_0_a.length:Int) - 1))/\(Tr (zz0=true))/\(Tr (zz0=true))/\(zz0=true->(0:Int)<=((re_5_0_a.length:Int) - 1)/\((re_5_0_a.length:Int) - 1) < (re_5_0_a.length:Int))/\(Tr (zz0=true))/\(Tr (zz0=true))/\(Tr (zz0=true))/\(Tr (zz0=true))/\(((bif zz0 then zz2 else false)=true->(InR ((re_5_0_a.length:Int) - 1))/\(InR ((re_5_0_a.length:Int) - 1))/\((0:Int)<=((re_5_0_a.length:Int) - 1)/\((re_5_0_a.length:Int) - 1) < (re_5_0_a.length:Int))/\(InR (y_3.n+1))/\((0:Int)<=((re_5_0_a.length:Int) - 1)/\((re_5_0_a.length:Int) - 1) < (re_5_0_a.length:Int))/\((0:Nat)<=(Int.toNat ((re_5_0_a.length:Int) - 1)))/\((InR (((x6+ZN (l.drop x6.toNat)):Int)+1))/\(N0 (Yc list l (((x6+ZN (l.drop x6.toNat)):Int)+1) (List.set re_5_0_a (Int.toNat ((re_5_0_a.length:Int) - 1)) (OpOf.mk y_3.kind (y_3.n+1) y_3.l y_5:Op))))))/\((bif zz0 then zz2 else false)=false->((re_5_0_a.length+([(OpOf.mk 0 1 [] y_2:Op)]).length)*240<=140737488355328)/\((InR (((x6+ZN (l.drop x6.toNat)):Int)+1))/\(N0 (Yc list l (((x6+ZN (l.drop x6.toNat)):Int)+1) (re_5_0_a++([(OpOf.mk 0 1 [] y_2:Op)])))))))))/\((Z3F list y_6)=false->((Tr (((3:Int)==0)=true))/\(Tr (((3:Int)==0)=true))/\(Tr (zz1=true))/\(zz1=true->InR ((re_5_0_a.length:Int) - 1))/\(Tr (zz1=true))/\(Tr (zz1=true))/\(zz1=true->(0:Int)<=((re_5_0_a.length:Int) - 1)/\((re_5_0_a.length:Int) - 1) < (re_5_0_a.length:Int))/\(Tr (zz1=true))/\(Tr (zz1=true))/\(Tr (zz1=true))/\(Tr (zz1=true))/\(((bif zz1 then zz2 else false)=true->(InR ((re_5_0_a.length:Int) - 1))/\(InR ((re_5_0_a.length:Int) - 1))/\((0:Int)<=((re_5_0_a.length:Int) - 1)/\((re_5_0_a.length:Int) - 1) < (re_5_0_a.length:Int))/\(InR (y_3.n+0))/\((0:Int)<=((re_5_0_a.length:Int) - 1)/\((re_5_0_a.length:Int) - 1) < (re_5_0_a.length:Int))/\((0:Nat)<=(Int.toNat ((re_5_0_a.length:Int) - 1)))/\((InR (((x6+ZN (l.drop x6.toNat)):Int)+1))/\(N0 (Yc list l (((x6+ZN (l.drop x6.toNat)):Int)+1) (List.set re_5_0_a (Int.toNat ((re_5_0_a.length:Int) - 1)) (OpOf.mk y_3.kind (y_3.n+0) y_3.l y_5:Op))))))/\((bif zz1 then zz2 else false)=false->((re_5_0_a.length+([(OpOf.mk 3 0 [] y_6:Op)]).length)*240<=140737488355328)/\((InR (((x6+ZN (l.drop x6.toNat)):Int)+1))/\(N0 (Yc list l (((x6+ZN (l.drop x6.toNat)):Int)+1) (re_5_0_a++([(OpOf.mk 3 0 [] y_6:Op)]))))))))))))/\((y_1.kind==3)=false->((Tr (((0:Int)==0)=true))/\(Tr (((0:Int)==0)=true))/\(Tr (zz0=true))/\(zz0=true->InR ((re_5_0_a.length:Int) - 1))/\(Tr (zz0=true))/\(Tr (zz0=true))/\(zz0=true->(0:Int)<=((re_5_0_a.length:Int) - 1)/\((re_5_0_a.length:Int) - 1) < (re_5_0_a.length:Int))/\(Tr (zz0=true))/\(Tr (zz0=true))/\(Tr (zz0=true))/\(Tr (zz0=true))/\(((bif zz0 then zz2 else false)=true->(InR ((re_5_0_a.length:Int) - 1))/\(InR ((re_5_0_a.length:Int) - 1))/\((0:Int)<=((re_5_0_a.length:Int) - 1)/\((re_5_0_a.length:Int) - 1) < (re_5_0_a.length:Int))/\(InR (y_3.n+y_1.n))/\((0:Int)<=((re_5_0_a.length:Int) - 1)/\((re_5_0_a.length:Int) - 1) < (re_5_0_a.length:Int))/\((0:Nat)<=(Int.toNat ((re_5_0_a.length:Int) - 1)))/\((InR (((x6+ZN (l.drop x6.toNat)):Int)+1))/\(N0 (Yc list l (((x6+ZN (l.drop x6.toNat)):Int)+1) (List.set re_5_0_a (Int.toNat ((re_5_0_a.length:Int) - 1)) (OpOf.mk y_3.kind (y_3.n+y_1.n) y_3.l y_5:Op))))))/\((bif zz0 then zz2 else false)=false->((re_5_0_a.length+([(OpOf.mk 0 y_1.n [] y_2:Op)]).length)*240<=140737488355328)/\((InR (((x6+ZN (l.drop x6.toNat)):Int)+1))/\(N0 (Yc list l (((x6+ZN (l.drop x6.toNat)):Int)+1) (re_5_0_a++([(OpOf.mk 0 y_1.n [] y_2:Op)])))))))))))))):=V4
 exact e_.mpr (by intro y_1 y_2 y_3 y_4 y_5 y_6;have hh:=h y_1 rfl y_2 rfl y_3 rfl y_4 (Z7 _) y_5 (Z7 _) y_6 (Z7 _);exact ⟨fun c_9=> (hh.1 c_9),fun c_9=> ⟨(hh.2 c_9).1,⟨(hh.2 c_9).2.1,⟨fun c_10=> ⟨((hh.2 c_9).2.2.1 c_10).1,((hh.2 c_9).2.2.1 c_10).2.1,((hh.2 c_9).2.2.1 c_10).2.2.1,⟨((hh.2 c_9).2.2.1 c_10).2.2.2.1,⟨fun c_11=> ⟨id,(by generalize ((0:Int)==0)=b0;revert b0;decide),id,(((hh.2 c_9).2.2.1 c_10).2.2.2.2.1 c_11).1,id,id,(((hh.2 c_9).2.2.1 c_10).2.2.2.2.1 c_11).2.1,id,id,id,(by generalize (decide ((0:Int) < (re_5_0_a.length:Int)))=b0;generalize ((0:Int)==0)=b1;revert b0 b1;decide),⟨fun c_12=> ⟨((((hh.2 c_9).2.2.1 c_10).2.2.2.2.1 c_11).2.2.1 c_12).1,((((hh.2 c_9).2.2.1 c_10).2.2.2.2.1 c_11).2.2.1 c_12).2.1,((((hh.2 c_9).2.2.1 c_10).2.2.2.2.1 c_11).2.2.1 c_12).2.2.1,((((hh.2 c_9).2.2.1 c_10).2.2.2.2.1 c_11).2.2.1 c_12).2.2.2.1,((((hh.2 c_9).2.2.1 c_10).2.2.2.2.1 c_11).2.2.1 c_12).2.2.2.2.1,((((hh.2 c_9).2.2.1 c_10).2.2.2.2.1 c_11).2.2.1 c_12).2.2.2.2.2.1,⟨((((hh.2 c_9).2.2.1 c_10).2.2.2.2.1 c_11).2.2.1 c_12).2.2.2.2.2.2.1,((((hh.2 c_9).2.2.1 c_10).2.2.2.2.1 c_11).2.2.1 c_12).2.2.2.2.2.2.2⟩⟩,fun c_12=> ⟨((((hh.2 c_9).2.2.1 c_10).2.2.2.2.1 c_11).2.2.2 c_12).1,⟨((((hh.2 c_9).2.2.1 c_10).2.2.2.2.1 c_11).2.2.2 c_12).2.1,((((hh.2 c_9).2.2.1 c_10).2.2.2.2.1 c_11).2.2.2 c_12).2.2⟩⟩⟩⟩,fun c_11=> ⟨id,(by generalize ((3:Int)==0)=b0;revert b0;decide),id,(((hh.2 c_9).2.2.1 c_10).2.2.2.2.2 c_11).1,id,id,(((hh.2 c_9).2.2.1 c_10).2.2.2.2.2 c_11).2.1,id,id,id,(by generalize (decide ((0:Int) < (re_5_0_a.length:Int)))=b0;generalize ((3:Int)==0)=b1;revert b0 b1;decide),⟨fun c_13=> ⟨((((hh.2 c_9).2.2.1 c_10).2.2.2.2.2 c_11).2.2.1 c_13).1,((((hh.2 c_9).2.2.1 c_10).2.2.2.2.2 c_11).2.2.1 c_13).2.1,((((hh.2 c_9).2.2.1 c_10).2.2.2.2.2 c_11).2.2.1 c_13).2.2.1,((((hh.2 c_9).2.2.1 c_10).2.2.2.2.2 c_11).2.2.1 c_13).2.2.2.1,((((hh.2 c_9).2.2.1 c_10).2.2.2.2.2 c_11).2.2.1 c_13).2.2.2.2.1,((((hh.2 c_9).2.2.1 c_10).2.2.2.2.2 c_11).2.2.1 c_13).2.2.2.2.2.1,⟨((((hh.2 c_9).2.2.1 c_10).2.2.2.2.2 c_11).2.2.1 c_13).2.2.2.2.2.2.1,((((hh.2 c_9).2.2.1 c_10).2.2.2.2.2 c_11).2.2.1 c_13).2.2.2.2.2.2.2⟩⟩,fun c_13=> ⟨((((hh.2 c_9).2.2.1 c_10).2.2.2.2.2 c_11).2.2.2 c_13).1,⟨((((hh.2 c_9).2.2.1 c_10).2.2.2.2.2 c_11).2.2.2 c_13).2.1,((((hh.2 c_9).2.2.1 c_10).2.2.2.2.2 c_11).2.2.2 c_13).2.2⟩⟩⟩⟩⟩⟩⟩,fun c_10=> ⟨id,(by generalize ((0:Int)==0)=b0;revert b0;decide),id,((hh.2 c_9).2.2.2 c_10).1,id,id,((hh.2 c_9).2.2.2 c_10).2.1,id,id,id,(by generalize (decide ((0:Int) < (re_5_0_a.length:Int)))=b0;generalize ((0:Int)==0)=b1;revert b0 b1;decide),⟨fun c_14=> ⟨(((hh.2 c_9).2.2.2 c_10).2.2.1 c_14).1,(((hh.2 c_9).2.2.2 c_10).2.2.1 c_14).2.1,(((hh.2 c_9).2.2.2 c_10).2.2.1 c_14).2.2.1,(((hh.2 c_9).2.2.2 c_10).2.2.1 c_14).2.2.2.1,(((hh.2 c_9).2.2.2 c_10).2.2.1 c_14).2.2.2.2.1,(((hh.2 c_9).2.2.2 c_10).2.2.1 c_14).2.2.2.2.2.1,⟨(((hh.2 c_9).2.2.2 c_10).2.2.1 c_14).2.2.2.2.2.2.1,(((hh.2 c_9).2.2.2 c_10).2.2.1 c_14).2.2.2.2.2.2.2⟩⟩,fun c_14=> ⟨(((hh.2 c_9).2.2.2 c_10).2.2.2 c_14).1,⟨(((hh.2 c_9).2.2.2 c_10).2.2.2 c_14).2.1,(((hh.2 c_9).2.2.2 c_10).2.2.2 c_14).2.2⟩⟩⟩⟩⟩⟩⟩⟩)
def ZFn(N:Nat)(list:Int)(l:List Op):Prop:=AW (Z0 (Z25 N)) Tryz.f79 Z2o [] (Zh (ZdS.can (list,l,())) []) (EQ Tryz.f79 (ZeQ (list,l,())) [])
abbrev ZIm:Prop:=∀ (N:Nat) (list:Int) (l:List Op) (_:Unit),Z5N (list,l,())->Zcb (list,l,()) < N+1->ZFn N list l
theorem ZsH(c41:CT 41 Z0l)(ZEW:CT 127 Z6z)(Zxp:CT 128 Z44)(ha:ZIs)(hb:ZIm):CT 29 Zen/\CT 79 ZoD:=
 Z3V (μA:=ZfD) (μB:=Zcb) (l:=[(41,Z0l),(127,Z6z),(128,Z44)]) Zi rfl (⟨c41,ZEW,Zxp,trivial⟩) ZfN Z2o Tryz.func29 Tryz.func79 rfl rfl rfl rfl 1 2 (fun _=> rfl) (fun _=> rfl) V1 V1 (fun N ⟨e,_⟩=> ha N e ()) (fun N ⟨list,l,_⟩=> hb N list l ())
end
end
theorem Zhr:∀ (l:List Op),0<=ZN l/\(ZN l < l.length->(l.getD (ZN l).toNat Op.nil).kind≠1/\(l.getD (ZN l).toNat Op.nil).kind≠2)
 | []=> by simp [ZN]
 | o ::r=> by
  obtain ⟨h1,h2⟩:=Zhr r
  rw [ZN]
  split
  .rename_i hk
   refine ⟨YS,fun h=> ?_⟩
   rw [show (1+ZN r).toNat=(ZN r).toNat+1 by omega,K2]
   exact h2 (by simp at h;omega)
  .rename_i hk
   refine ⟨YS,fun _=> ?_⟩
   simp only [Int.toNat_zero,Ql]
   omega
theorem ZqI:∀ (l:List Op),ZN l<=l.length
 | []=> by simp [ZN]
 | o ::r=> by
  have:=ZqI r
  rw [ZN]
  split <;> simp <;> omega
theorem ZnU(l:List Op)(i k:Nat):(l.drop i).getD k Op.nil=l.getD (i+k) Op.nil:=by
 simp [List.getD,Qx]
theorem Zi5{list:Int}{o:Op}{d:Int}(h:Zk list o d=true):o.kind=0\/o.kind=1\/o.kind=2\/o.kind=3:=by
 obtain ⟨k,n,l,e⟩:=o
 show k=0\/k=1\/k=2\/k=3
 rw [Zk] at h
 split at h
 .omega
 .split at h
  .cases h
  .omega
theorem b79:ZIm:=by
 intro N list l _ hp hN
 simp only [Z5N,Zcb] at hp hN
 obtain ⟨p1,p3⟩:=hp
 have hl:=Y0 l
 refine ZIA _ _ _ _ ?_
 refine Z5 (ι:=Int × List Op) (fun s=> Yc list l s.1 s.2)
  (fun s=> 0<=s.1/\s.1<=l.length/\(Z2 (Zt list (l.drop s.1.toNat) ⟨s.2,[],[]⟩)).out=(Z2 (Zt list l ⟨[],[],[]⟩)).out/\s.2.length<=3*s.1/\∀ o∈s.2,0<=o.n/\o.n<=s.1*1048576)
  (fun s=> ((l.length:Int) - s.1).toNat) (0,[]) rfl ⟨by simp,by simp,by simp,by simp,by simp⟩ ?_
 rintro ⟨i,out⟩ ⟨g1,g2,g3,g4,g6⟩
 dsimp only at g1 g2 g3 g4 g6
 have key:i < l.length->∀ F,F=(Z2 ⟨out,YT 1 (l.drop i.toNat),YT 2 (l.drop i.toNat)⟩).out->
   Zof N list l i F (fun s2=> ∃ j:Int × List Op,s2=Yc list l j.1 j.2/\(0<=j.1/\j.1<=l.length/\(Z2 (Zt list (l.drop j.1.toNat) ⟨j.2,[],[]⟩)).out=(Z2 (Zt list l ⟨[],[],[]⟩)).out/\j.2.length<=3*j.1/\∀ o∈j.2,0<=o.n/\o.n<=j.1*1048576)/\((l.length:Int) - j.1).toNat < ((l.length:Int) - i).toNat) (Y3 cfg Tryz.f79.ntmps Tryz.f79.results.toList (ZeQ (list,l,())) []):=by
  intro hi F hF
  obtain ⟨q1,q2⟩:=Zhr (l.drop i.toNat)
  have q3:=ZqI (l.drop i.toNat)
  rw [Qk] at q2 q3
  rw [ZnU,show i.toNat+(ZN (l.drop i.toNat)).toNat=(i+ZN (l.drop i.toNat)).toNat by omega] at q2
  rw [Zh1,Xo,show i.toNat+(ZN (l.drop i.toNat)).toNat=(i+ZN (l.drop i.toNat)).toNat by omega] at g3
  simp only [Qr] at g3
  have hfl:=Z7C ⟨out,YT 1 (l.drop i.toNat),YT 2 (l.drop i.toNat)⟩
  have hfm:=Z7B ⟨out,YT 1 (l.drop i.toNat),YT 2 (l.drop i.toNat)⟩
  have hflush:Z2 ⟨out,YT 1 (l.drop i.toNat),YT 2 (l.drop i.toNat)⟩=⟨F,[],[]⟩:=by rw [hF];try rfl
  have hkeep:∀ n,ZM ⟨out,YT 1 (l.drop i.toNat),YT 2 (l.drop i.toNat)⟩ n=⟨Jp F n,[],[]⟩:=by intro n;rw [hF];try rfl
  rw [<-hF] at hfl hfm
  simp only at hfl hfm
  refine Zya _ _ _ _ _ _ _ ?_
  rintro y1 hy1 y2 hy2 y3 hy3 y4 hy4 y5 hy5 y6 hy6
  generalize hj:i+ZN (l.drop i.toNat)=j at*
  have hy:y2=Edit.nil:=hy2
  subst hy
  have hFn:∀ o∈F,0<=o.n/\o.n<=i*1048576:=by
   intro o ho
   rcases hfm o ho with h1 | h1
   .exact g6 o h1
   .omega
  simp only [show ((0:Int)==0)=true from rfl,show ((3:Int)==0)=false from rfl,cond_true,cond_false]
  (simp only [iB,vcS])
  refine ⟨fun hjl=> ?_,fun hjl=> ?_⟩
  .rw [Q9 YS] at g3
   simp only [Zt,hflush] at g3
   simp only [ZeQ]
   rw [<-g3]
   exact JP
  .have hmem:=Ze (l:=l) (i:=j.toNat) YS Op.nil
   have hm:=ZZ hmem
   obtain ⟨d,hr2⟩:=p3 _ hmem
   have hq:=q2 YS
   rw [<-hy1] at hm hr2 hq
   have hkind:=Zi5 hr2
   rw [ZQ YS YS Op.nil,<-hy1,Zt,YJ] at g3
   have hmo:=ZI y1
   have hlast:(F.length:Int) - 1=((F.length - 1:Nat):Int)\/F.length=0:=YS
   have e2:((F.length:Int) - 1).toNat=F.length - 1:=YS
   rw [e2] at hy3 ⊢
   have hk3:0 < F.length->0<=y3.n/\y3.n<=i*1048576:=fun h=> by
    rw [hy3];exact hFn _ (Ze YS _)
   have keeps:∀ n:Int,0<=n/\n<=1048576->(Z2 (Zt list (l.drop (j+1).toNat) ⟨Jp F n,[],[]⟩)).out=(Z2 (Zt list l ⟨[],[],[]⟩)).out->
     ((0 < F.length/\y3.kind=0->∃ q:Int × List Op,Yc list l (j+1) (F.set (F.length - 1) ⟨y3.kind,y3.n+n,y3.l,y5⟩)=Yc list l q.1 q.2/\(0<=q.1/\q.1<=l.length/\(Z2 (Zt list (l.drop q.1.toNat) ⟨q.2,[],[]⟩)).out=(Z2 (Zt list l ⟨[],[],[]⟩)).out/\q.2.length<=3*q.1/\∀ o∈q.2,0<=o.n/\o.n<=q.1*1048576)/\((l.length:Int) - q.1).toNat < ((l.length:Int) - i).toNat)/\
      (¬(0 < F.length/\y3.kind=0)->∃ q:Int × List Op,Yc list l (j+1) (F++[⟨0,n,[],Edit.nil⟩])=Yc list l q.1 q.2/\(0<=q.1/\q.1<=l.length/\(Z2 (Zt list (l.drop q.1.toNat) ⟨q.2,[],[]⟩)).out=(Z2 (Zt list l ⟨[],[],[]⟩)).out/\q.2.length<=3*q.1/\∀ o∈q.2,0<=o.n/\o.n<=q.1*1048576)/\((l.length:Int) - q.1).toNat < ((l.length:Int) - i).toNat)):=by
    intro n hn hg
    rw [Z69,<-hy3,<-hy5] at hg
    refine ⟨fun hc=> ?_,fun hc=> ?_⟩
    .rw [if_pos ⟨YS,hc.2⟩] at hg
     refine ⟨(j+1,_),rfl,⟨V2,V2,hg,by dsimp only;rw [List.length_set];omega,fun o ho=> ?_⟩,V2⟩
     dsimp only at ho ⊢
     have hk4:=hk3 YS
     rcases List.mem_or_eq_of_mem_set ho with ho | rfl
     .have:=hFn o ho;omega
     .simp only;omega
    .rw [if_neg (fun h=> hc ⟨YS,h.2⟩)] at hg
     refine ⟨(j+1,_),rfl,⟨V2,V2,hg,by dsimp only;rw [List.length_append,List.length_singleton];omega,fun o ho=> ?_⟩,V2⟩
     dsimp only at ho ⊢
     rcases Qh.1 ho with ho | ho
     .have:=hFn o ho;omega
     .simp only [Qf] at ho
      subst ho
      simp only;omega
   refine ⟨YS,YS,fun hk=> ?_,fun hk=> ?_⟩
   .rw [JL,JL,JL,if_pos hk] at g3
    rw [<-hy4,<-hy6,hkeep,hflush] at g3
    have hre:=Z9d hr2 hk
    rw [<-hy4] at hre
    have hmE:Z3 y4<=Zu y1:=by rw [hmo,hy4];omega
    refine ⟨YS,by simp only [Z29];exact ⟨YS,d,hre⟩,by simp only [ZfD];omega,by simp only [Z9t],fun hq=> ?_,fun hq=> ?_⟩
    .rw [if_pos hq] at g3
     have hK:=keeps 1 YS g3
     refine ⟨V3,YS,fun hc=> ?_,fun hc=> ?_⟩
     .have hk4:=hk3 YS
      exact ⟨V3,V3,YS,V3,YS,YS,V3,hK.1 ⟨YS,hc.2⟩⟩
     .exact ⟨by simp only [Qt];omega,V3,hK.2 (fun h=> by omega)⟩
    .rw [if_neg (by rw [hq];simp)] at g3
     refine ⟨fun h=> (nomatch h),fun h=> (nomatch h),fun h=> (nomatch h),fun _=> ⟨by simp only [Qt];omega,V3,(j+1,F++[⟨3,0,[],y6⟩]),rfl,⟨V2,V2,g3,by dsimp only;rw [List.length_append,List.length_singleton];omega,fun o ho=> ?_⟩,V2⟩⟩
     dsimp only at ho ⊢
     rcases Qh.1 ho with ho | ho
     .have:=hFn o ho;omega
     .simp only [Qf] at ho
      subst ho
      simp only;omega
   .have hk0:y1.kind=0:=YS
    rw [if_pos hk0,hkeep] at g3
    have h1:=Z9c hr2 hk0
    have hK:=keeps y1.n YS g3
    refine ⟨V3,YS,fun hc=> ?_,fun hc=> ?_⟩
    .have hk4:=hk3 YS
     exact ⟨V3,V3,YS,V3,YS,YS,V3,hK.1 ⟨YS,hc.2⟩⟩
    .exact ⟨by simp only [Qt];omega,V3,hK.2 (fun h=> by omega)⟩
 refine Zy9 _ _ _ _ _ _ _ ?_
 rintro y1 hy1
 have hy:y1=Edit.nil:=hy1
 subst hy
 (simp only [iB,vcS])
 refine ⟨fun hi=> ?_,fun hi=> ?_⟩
 .have kk:=key hi
  simp only [Z2,Z0r] at kk
  refine ⟨by simp only [Z50];omega,by simp only [Z50];omega,fun h1=> ⟨by simp only [Qt];omega,fun h2=> ⟨by simp only [Q7,Qt];omega,?_⟩,fun h2=> ?_⟩,fun h1=> ⟨fun h2=> ⟨by simp only [Qt];omega,?_⟩,fun h2=> ?_⟩⟩
  .refine kk _ ?_
   rw [JL,JL];simp
  .refine kk _ ?_
   rw [JL,V0];simp
  .refine kk _ ?_
   rw [V0,JL];simp
  .refine kk _ ?_
   rw [V0,V0];simp
 .rw [Q9 YS] at g3
  have:(Z2 (Zt list [] ⟨out,[],[]⟩)).out=out:=by simp [Zt,Z2,Z0r]
  rw [this] at g3
  simp only [ZeQ]
  rw [<-g3]
  exact JP
theorem ZmI{e:Edit}{d:Int}(h:Zb e d=true):(e.kind=0\/e.kind=1\/e.kind=2\/e.kind=3)/\(e.kind≠3->e.list=0):=by
 obtain ⟨k,o,n,w,ks,l,os⟩:=e
 show (k=0\/k=1\/k=2\/k=3)/\(k≠3->l=0)
 rw [Zb] at h
 split at h
 .cases h
 .split at h
  .cases h
  .rename_i h1 h2
   refine ⟨YS,fun hk=> ?_⟩
   apply XK
   intro hl
   exact h2 (.inr (.inr ⟨hk,.inl hl⟩))
theorem b29:ZIs:=by
 intro N e _ hp hN
 simp only [Z29,ZfD] at hp hN
 obtain ⟨p1,d,p3⟩:=hp
 have h1:=YC e
 have h2:=YQ e.kids
 have h3:=Y0 e.ops
 have ha:=Z54 e
 obtain ⟨hkd,hli⟩:=ZmI p3
 refine ZIN _ _ _ ?_
 (simp only [iB,vcS])
 (simp only [Tree.eta,Edit.eta,Tree.kind_mk,Tree.words_mk,Tree.kids_mk])
 refine ⟨fun hk=> ⟨by simp only [Jy];omega,by simp only [Jy];omega,?_⟩,fun hk=> ⟨fun hk2=> ⟨by simp;omega,?_⟩,fun hk2=> ⟨fun hk3=> ⟨?_,by simp only [Zcb];omega,?_⟩,fun hk3=> ?_⟩⟩⟩
 .rw [if_pos hk] at ha
  simp only [ZbU,ha]
  (repeat' (first | exact trivial | exact rfl | apply And.intro))
  .exact hk.symm
  .exact (hli YS).symm
 .rw [if_neg hk,if_pos hk2] at ha
  refine Z5 (ι:=Int × List Kid) (fun s=> Z4s e s.1 s.2) (fun s=> 0<=s.1/\s.1<=e.kids.length/\s.2.length=s.1/\s.2++Jz (e.kids.drop s.1.toNat)=Jz e.kids) (fun s=> ((e.kids.length:Int) - s.1).toNat) (0,[]) rfl ⟨by simp,by simp,by simp,by simp⟩ ?_
  rintro ⟨j,ks⟩ ⟨f1,f2,f3,f4⟩
  dsimp only at f1 f2 f3 f4
  refine Zyo _ _ _ _ _ _ ?_
  rintro y1 hy1 y2 hy2 y3 hy3
  (simp only [iB,vcS])
  refine ⟨fun hj=> ?_,fun hj=> ?_⟩
  .have hmem:=Ze (l:=e.kids) (i:=j.toNat) YS (KidOf.mk 0 Edit.nil)
   have hm:=Jn hmem
   have hr:=Zhi p3 hk2 _ hmem
   rw [ZQ f1 hj (KidOf.mk 0 Edit.nil)] at f4
   rw [<-hy1] at f4 hm hr
   simp only [Jz,Zb7] at f4
   rw [<-hy2] at f4 hm hr
   rw [<-hy3] at f4
   refine ⟨⟨f1,hj⟩,⟨f1,hj⟩,by simp only [Z29];exact ⟨YS,hr⟩,by simp only [ZfD];omega,by simp;omega,V3,(j+1,ks++[⟨y1.at_,y3⟩]),rfl,⟨V2,V2,by simp;omega,?_⟩,V2⟩
   simp only [Qa,Qp,Qr]
   exact f4
  .rw [Q9 YS] at f4
   simp only [Jz,Qo] at f4
   rw [f4]
   simp only [ZbU,ha]
   (repeat' (first | exact trivial | exact rfl | apply And.intro))
   .exact hk2.symm
   .exact (hli YS).symm
 .simp only [Z5N]
  exact ⟨YS,fun o ho=> Zlj p3 hk3 o ho⟩
 .rw [if_neg hk,if_neg hk2,if_pos hk3] at ha
  simp only [ZbU,ha]
  (repeat' (first | exact trivial | exact rfl | apply And.intro))
  exact hk3.symm
 .rw [if_neg hk,if_neg hk2,if_neg hk3] at ha
  simp only [ZbU,ha]
  (repeat' (first | exact trivial | exact rfl | apply And.intro))
  .show 0=e.kind
   omega
  .exact (hli hk3).symm
theorem ZEb:Contract Tryz.prog cfg 29 Zen/\Contract Tryz.prog cfg 79 ZoD:=ZsH c41 ZEW Zxp b29 b79
theorem Z1O{n:Nat}{rs:List ResultVar}{r r':V U}{X:List (List (C U))}{e:AExit}{s:LSt U}(hr:r=r')(h:Y3 cfg n rs r' X e s):Y3 cfg n rs r X e s:=by rw [hr];exact h
theorem Zhf(e:Edit):e.words.length+e.ops.length+Ya e.kids+Zg e.ops+Zm e.old+Zm e.new+1=Z3 e:=by obtain ⟨k,o,n,w,ks,l,os⟩:=e;simp only [Z3,Edit.words_mk,Edit.ops_mk,Edit.kids_mk,Edit.old_mk,Edit.new_mk];omega
theorem Zhc(t:Tree):1<=Zm t:=by obtain ⟨k,w,ks⟩:=t;simp only [Zm];omega
theorem Ju{e:Edit}(h:J2 e):Z3 e<=9000000000:=Xf (Zj8 e) h.1
theorem ZoZ{e:Edit}(h:J2 e):Zyz e.ops:=by
 obtain ⟨m,r,d,hr⟩:=h
 have:=JO e
 exact ⟨YS,(ZR r).2.2.2.2,fun o ho=> ⟨_,_,rightOs_mem (Zj hr).ops ho⟩⟩
theorem Zld{l:List Op}{o:Op}(h:Part l o)(ho:ZC o)(hl:Z30 l):Z28 o:=by
 obtain ⟨o',m,k,e1,_,lt⟩:=h
 have G:=Z0y (Z0M hl m)
 obtain ⟨kk,nn,ll,ee⟩:=o
 have k:kk=o'.kind:=k
 have e1:ee=o'.e:=e1
 have lt:∀ t∈ll,t∈o'.l:=lt
 refine ⟨by rw [k];exact G.1,?_,Zi4 fun t ht=> JX G.2.2.1 (lt t ht),by rw [e1];exact G.2.2.2⟩
 rcases ho with h | h | h
 .have:=h.2.2.1
  unfold InR
  dsimp only at this
  omega
 .have h2:nn=0:=h.2.1
  rw [h2];exact YW V1 V1
 .have h2:nn=0:=h.2.1
  rw [h2];exact YW V1 V1
theorem Zdy{l:List Op}{o:Op}(h:Part l o):Z5h o<=Jx l/\Zu o<=Zg l:=by
 obtain ⟨o',m,k,e1,hm,_⟩:=h
 have h1:=Z6i m
 have h2:=ZZ m
 have a:=Z3G o
 rw [ZI,ZI,e1] at hm
 rw [e1] at a
 rw [ZI] at h2
 rw [ZI,e1]
 omega
theorem Zfq{l:List Op}{o:Op}(h:Part l o)(hl:∀ o∈l,∃ list d,Zk list o d=true)(k3:o.kind=3):∃ d,Zb o.e d=true:=by
 obtain ⟨o',m,k,e1,hm,_⟩:=h
 obtain ⟨list,d,hr⟩:=hl o' m
 exact ⟨d,by rw [e1];exact J5 hr YS⟩
theorem ZC2{p:List Op}(hp:Zyz p):Z9z p:=by
 refine ⟨fun o ho=> ?_,?_⟩
 .obtain ⟨_,_,h⟩:=hp.2.2 o ho
  exact Z31 h
 .have:=Z4i p
  have:=hp.1
  omega
theorem Z6o{α:Type}{l:List α}{i:Nat}(h:i < l.length)(d:α):l.take (i+1)=l.take i++[l.getD i d]:=by
 rw [QV h,Qg,Q0 h];try rfl
theorem Z4j(o:Op):Z9 o.l<=Z5h o:=by rw [Z3G];omega
noncomputable section
def Zr2:ArgL (List Int × List Int × Unit):=(.cons (aSl .int) (.cons (aSl .int) .nil))
def ZiC(a:List Int × List Int × Unit):Prop:=(a.1).length<=1000000/\(a.2.1).length<=1000000
def ZmL(a:List Int × List Int × Unit):V U:= .c (sU .int (Yv a.1 a.2.1) .unk)
def Z8R:Fs U:=fs Zr2 (fun a=> [ZiC a]) ZmL
def Zn9(a:Edit × Edit × Unit):Prop:=((a.1).words.length<=1000000/\(a.1).kids.length<=1000000)/\(a.2.1).words.length<=1000000/\(a.2.1).kids.length<=1000000
def ZuZ(a:Edit × Edit × Unit):V U:= .tup [(false,[sU .int (Yv ((a.1).words.map WEdit.at_) ((a.2.1).words.map WEdit.at_)) .unk]),(false,[sU .int (Yv ((a.1).kids.map KidOf.at_) ((a.2.1).kids.map KidOf.at_)) .unk])]
def Zd2:Fs U:=fs Zoa (fun a=> [Zn9 a]) ZuZ
def Zps:Zc U:=lvk [([0,1],[]),([0,1,5],[]),([0,1,(5,[.own .int]),6,7],[]),([0,1,5,6,7,18],[]),([0,1,5,6,7],[]),([0,1,5,6,7,8],[]),([0,1,5,6,7,23],[]),([0,1,5,6,7,8],[]),([0,1,5,6,7,8,60],[]),([0,1,5,6,7,8,60],[]),([0,1,5,6,7,8,74],[]),([0,1,5,6,7,8,74],[]),([0,1,(5,[.own .int]),6,7],[]),([4],[])]
def Z1z(a b:List Int)(x6 x7:Int)(x5:List Int):LSt U:=(L2 [(0,.c (sU .int a .unk)),(1,.c (sU .int b .unk)),(5,.c (sU .int x5 (.own (.e 5 0)))),pI 6 x6,pI 7 x7] [])
def Z74(a b:List Int)(x6 x7:Int)(x5:List Int)(x8_a:Int):LSt U:=(L2 [(0,.c (sU .int a .unk)),(1,.c (sU .int b .unk)),(5,.c (sU .int x5 (.own (.e 5 0)))),pI 6 x6,pI 7 x7,pI 8 x8_a] [])
def Z73(a b:List Int)(x6 x7:Int)(x5:List Int)(x8_a x6_b:Int):LSt U:=(L2 [(0,.c (sU .int a .unk)),(1,.c (sU .int b .unk)),(5,.c (sU .int x5 (.own (.e 5 0)))),pI 6 x6_b,pI 7 x7,pI 8 x8_a,(60,.c (.bool (bif (decide ((x6:Int) < (a.length:Int))) then (((a.getD x6.toNat (0:Int)):Int)==x8_a) else false)))] [])
def Z72(a b:List Int)(x7:Int)(x5:List Int)(x8_a x6_b x7_c:Int):LSt U:=(L2 [(0,.c (sU .int a .unk)),(1,.c (sU .int b .unk)),(5,.c (sU .int x5 (.own (.e 5 0)))),pI 6 x6_b,pI 7 x7_c,pI 8 x8_a,(74,.c (.bool (bif (decide ((x7:Int) < (b.length:Int))) then (((b.getD x7.toNat (0:Int)):Int)==x8_a) else false)))] [])
abbrev Z8A(p:List Nat):=AW (Z0 ZnJ) Tryz.f200 Zps p
abbrev Zgk(p:List Nat):=SW (Z0 ZnJ) Tryz.f200 Zps p
theorem ZGf(a b:List Int)(Q:QT)(h:(Zd (Z8A [1,1,1,0,0,0]) (Z1z a b 0 0 []) (xB 0 (Zgk [1,1,1,1] Q)))):
  Z8A [] (L2 [(0,.c (sU .int a .unk)),(1,.c (sU .int b .unk))] []) Q:=
 Eq.mpr V4 h
theorem Ztv(a b:List Int)(x6 x7:Int)(x5:List Int)(N0:NT)(Q:QT)(h:∀ y_1,y_1=(a.getD x6.toNat (0:Int))->∀ y_2,y_2=(b.getD x7.toNat (0:Int))->let z3:=xB 1 (xT N0 (xB 0 (Zgk [1,1,1,1] Q)));let z2:=decide (x6 < (a.length:Int));let z1:=decide (((b.length:Int):Int)<=x7);let z0:=(!z1) && z2;(Tt (!z2))/\(Tt (!z2))/\(Tt (!z2))/\(z2=false->(!z2)=true)/\(iB (bif z2 then true else (decide (x7 < (b.length:Int)))) (((Tt (!z1))/\(Tt (!z1))/\(Tt (!z1))/\(Tt (!z1))/\(Tt z0)/\(Tt z0)/\(z0=true->(0:Int)<=x6/\x6 < (a.length:Int))/\(Tt z0)/\(Tt z0)/\(Tt z0)/\(z0=true->(0:Int)<=x7/\x7 < (b.length:Int))/\(Tt z0)/\(Tt z0)/\(Tt z0)/\((!z1)=true->(True->(!z1)=true))/\((!z1)=true->(z2=true->z0=true))/\(z1=false->(!z1)=true)/\(iB (bif z1 then true else (bif z2 then (decide (y_1 < y_2)) else false)) (((0:Int)<=x6/\x6 < (a.length:Int))/\(Z8A [1,1,1,0,0,0,1,0,1,1] (Z74 a b x6 x7 x5 y_1) z3)) (((0:Int)<=x7/\x7 < (b.length:Int))/\(Z8A [1,1,1,0,0,0,1,0,1,1] (Z74 a b x6 x7 x5 y_2) z3))))) ((Q .ret (L2 [(4,.c (sU .int x5 (.own (.e 4 0))))] []))))):
  Z8A [1,1,1,0,0,0] (Z1z a b x6 x7 x5) (xT N0 (xB 0 (Zgk [1,1,1,1] Q))):=
 Eq.mpr V4 (h _ rfl _ rfl)
theorem Zty(a b:List Int)(x6 x7:Int)(x5:List Int)(x8_a:Int)(N0:NT)(Q:QT)(h:let z1:=xB 1 (xT N0 (xB 0 (Zgk [1,1,1,1] Q)));let z0:=decide (x6 < (a.length:Int));(Tt z0)/\(Tt z0)/\(z0=true->(0:Int)<=x6/\x6 < (a.length:Int))/\(Tt z0)/\(Tt z0)/\(Tt z0)/\(Tt z0)/\(iB (bif z0 then (((a.getD x6.toNat (0:Int)):Int)==x8_a) else false) ((InR (x6+1))/\(Z8A [1,1,1,0,0,0,1,0,1,1,1] (Z73 a b x6 x7 x5 x8_a (x6+1)) z1)) (Z8A [1,1,1,0,0,0,1,0,1,1,1] (Z73 a b x6 x7 x5 x8_a x6) z1))):
  Z8A [1,1,1,0,0,0,1,0,1,1] (Z74 a b x6 x7 x5 x8_a) (xB 1 (xT N0 (xB 0 (Zgk [1,1,1,1] Q)))):=
 Eq.mpr V4 h
theorem Ztx(a b:List Int)(x6 x7:Int)(x5:List Int)(x8_a x6_b:Int)(N0:NT)(Q:QT)(h:let z1:=xB 1 (xT N0 (xB 0 (Zgk [1,1,1,1] Q)));let z0:=decide (x7 < (b.length:Int));(Tt z0)/\(Tt z0)/\(z0=true->(0:Int)<=x7/\x7 < (b.length:Int))/\(Tt z0)/\(Tt z0)/\(Tt z0)/\(Tt z0)/\(iB (bif z0 then (((b.getD x7.toNat (0:Int)):Int)==x8_a) else false) ((InR (x7+1))/\(Z8A [1,1,1,0,0,0,1,0,1,1,1,1] (Z72 a b x7 x5 x8_a x6_b (x7+1)) z1)) (Z8A [1,1,1,0,0,0,1,0,1,1,1,1] (Z72 a b x7 x5 x8_a x6_b x7) z1))):
  Z8A [1,1,1,0,0,0,1,0,1,1,1] (Z73 a b x6 x7 x5 x8_a x6_b) (xB 1 (xT N0 (xB 0 (Zgk [1,1,1,1] Q)))):=
 Eq.mpr V4 h
theorem Ztw(a b:List Int)(x7:Int)(x5:List Int)(x8_a x6_b x7_c:Int)(N0:NT)(Q:QT)(h:((x5.length+([x8_a]).length)*8<=140737488355328)/\(N0 (Z1z a b x6_b x7_c (x5++([x8_a]))))):
  Z8A [1,1,1,0,0,0,1,0,1,1,1,1] (Z72 a b x7 x5 x8_a x6_b x7_c) (xB 1 (xT N0 (xB 0 (Zgk [1,1,1,1] Q)))):=
 Eq.mpr V4 h
def ZAS(a b:List Int):Prop:=AW (Z0 ZnJ) Tryz.f200 Zps [] (Zh (Zr2.can (a,b,())) []) (EQ Tryz.f200 (ZmL (a,b,())) [])
theorem Zz4(hb:∀ (a:List Int) (b:List Int) (_:Unit),ZiC (a,b,())->ZAS a b):CT 200 Z8R:=
 Z1 (l:=[]) Zi rfl trivial Zps Tryz.func200 rfl rfl 2 (fun _=> rfl) V1 (fun ⟨a,b,_⟩=> hb a b ())
def Zjv:List (FuncId × Fs U):=[(200,Z8R)]
def ZpI:Zc U:=lvk [([2,3],[2,3]),([2,3,6,7,8,9],[2,3]),([2,3,(6,[.own .int]),7,8,9,10],[2,3]),([2,3,6,7,8,9,10,18],[2,3]),([2,3,(6,[.own .int]),7,8,9,10],[2,3]),([2,3,6,7,8,9,10],[2,3]),([2,3,6,(7,[.own .int]),8,9,11],[2,3]),([2,3,6,7,8,9,11,34],[2,3]),([2,3,6,(7,[.own .int]),8,9,11],[2,3]),([2,3,6,7,8,9,11],[2,3]),([2,3,6,7,(8,[.own .int]),9,12],[2,3]),([2,3,6,7,8,9,12,50],[2,3]),([2,3,6,7,(8,[.own .int]),9,12],[2,3]),([2,3,6,7,8,9,12],[2,3]),([3,6,7,8,(9,[.own .int]),13],[3]),([3,6,7,8,9,13,66],[3]),([3,6,7,8,(9,[.own .int]),13],[3]),([3,6,7,8,9,13],[3]),([4,5],[])]
def Z7i(p q:Edit)(x10:Int)(x6:List Int):LSt U:=(L2 [pL 2,pL 3,(6,.c (sU .int x6 (.own (.e 6 0)))),(7,.c (.nils)),(8,.c (.nils)),(9,.c (.nils)),pI 10 x10] [(.loc 2,(enc .edit p)),(.loc 3,(enc .edit q))])
def Z7h(p q:Edit)(x6:List Int)(x11_a:Int)(x7_a:List Int):LSt U:=(L2 [pL 2,pL 3,(6,.c (sU .int x6 (.own (.e 6 0)))),(7,.c (sU .int x7_a (.own (.e 7 0)))),(8,.c (.nils)),(9,.c (.nils)),pI 11 x11_a] [(.loc 2,(enc .edit p)),(.loc 3,(enc .edit q))])
def Z7g(p q:Edit)(x6 x7_a:List Int)(x12_b:Int)(x8_b:List Int):LSt U:=(L2 [pL 2,pL 3,(6,.c (sU .int x6 (.own (.e 6 0)))),(7,.c (sU .int x7_a (.own (.e 7 0)))),(8,.c (sU .int x8_b (.own (.e 8 0)))),(9,.c (.nils)),pI 12 x12_b] [(.loc 2,(enc .edit p)),(.loc 3,(enc .edit q))])
def Z7f(p q:Edit)(x6 x7_a x8_b:List Int)(x13_c:Int)(x9_c:List Int):LSt U:=(L2 [pL 3,(6,.c (sU .int x6 (.own (.e 6 0)))),(7,.c (sU .int x7_a (.own (.e 7 0)))),(8,.c (sU .int x8_b (.own (.e 8 0)))),(9,.c (sU .int x9_c (.own (.e 9 0)))),pI 13 x13_c] [(.loc 3,(enc .edit q))])
abbrev Zkb(p:List Nat):=AW (Z0 Zjv) Tryz.f152 ZpI p
abbrev Zmo(p:List Nat):=SW (Z0 Zjv) Tryz.f152 ZpI p
theorem ZGO(p q:Edit)(Q:QT)(h:(Zd (Zkb [1,1,0,1,0,0]) (Z7i p q 0 []) (xB 0 (Zmo [1,1,1] Q)))):
  Zkb [] (L2 [(0,.agg (enc .edit p)),(1,.agg (enc .edit q))] []) Q:=
 Eq.mpr V4 h
theorem ZtY(p q:Edit)(x10:Int)(x6:List Int)(N0:NT)(Q:QT)(h:let z0:=p.words.getD x10.toNat (WEdit.mk 0 0 0 0);(iB (decide (x10 < (p.words.length:Int))) (((0:Int)<=x10/\x10 < (p.words.length:Int))/\((x6.length+([WEdit.at_ z0]).length)*8<=140737488355328)/\((InR (x10+1))/\(N0 (Z7i p q (x10+1) (x6++([WEdit.at_ z0])))))) ((Zd (Zkb [1,1,1,0,1,0,0]) (Z7h p q x6 0 []) (xB 2 (Zmo [1,1,1,1] Q)))))):
  Zkb [1,1,0,1,0,0] (Z7i p q x10 x6) (xT N0 (xB 0 (Zmo [1,1,1] Q))):=
 Eq.mpr V4 h
theorem ZtX(p q:Edit)(x6:List Int)(x11_a:Int)(x7_a:List Int)(N1:NT)(Q:QT)(h:let z0:=q.words.getD x11_a.toNat (WEdit.mk 0 0 0 0);(iB (decide (x11_a < (q.words.length:Int))) (((0:Int)<=x11_a/\x11_a < (q.words.length:Int))/\((x7_a.length+([WEdit.at_ z0]).length)*8<=140737488355328)/\((InR (x11_a+1))/\(N1 (Z7h p q x6 (x11_a+1) (x7_a++([WEdit.at_ z0])))))) ((Zd (Zkb [1,1,1,1,0,1,0,0]) (Z7g p q x6 x7_a 0 []) (xB 4 (Zmo [1,1,1,1,1] Q)))))):
  Zkb [1,1,1,0,1,0,0] (Z7h p q x6 x11_a x7_a) (xT N1 (xB 2 (Zmo [1,1,1,1] Q))):=
 Eq.mpr V4 h
theorem ZtW(p q:Edit)(x6 x7_a:List Int)(x12_b:Int)(x8_b:List Int)(N2:NT)(Q:QT)(h:let z0:=p.kids.getD x12_b.toNat (KidOf.mk 0 Edit.nil);(iB (decide (x12_b < (p.kids.length:Int))) (((0:Int)<=x12_b/\x12_b < (p.kids.length:Int))/\((x8_b.length+([KidOf.at_ z0]).length)*8<=140737488355328)/\((InR (x12_b+1))/\(N2 (Z7g p q x6 x7_a (x12_b+1) (x8_b++([KidOf.at_ z0])))))) ((Zd (Zkb [1,1,1,1,1,0,1,0,0]) (Z7f p q x6 x7_a x8_b 0 []) (xB 6 (Zmo [1,1,1,1,1,1] Q)))))):
  Zkb [1,1,1,1,0,1,0,0] (Z7g p q x6 x7_a x12_b x8_b) (xT N2 (xB 4 (Zmo [1,1,1,1,1] Q))):=
 Eq.mpr V4 h
theorem ZtV(p q:Edit)(x6 x7_a x8_b:List Int)(x13_c:Int)(x9_c:List Int)(N3:NT)(Q:QT)(h:let z0:=q.kids.getD x13_c.toNat (KidOf.mk 0 Edit.nil);(iB (decide (x13_c < (q.kids.length:Int))) (((0:Int)<=x13_c/\x13_c < (q.kids.length:Int))/\((x9_c.length+([KidOf.at_ z0]).length)*8<=140737488355328)/\((InR (x13_c+1))/\(N3 (Z7f p q x6 x7_a x8_b (x13_c+1) (x9_c++([KidOf.at_ z0])))))) ((ZiC (x6,x7_a,()))/\(ZiC (x8_b,x9_c,()))/\(Q .ret (L2 [(4,.c (sU .int (Yv x6 x7_a) .unk)),(5,.c (sU .int (Yv x8_b x9_c) .unk))] []))))):
  Zkb [1,1,1,1,1,0,1,0,0] (Z7f p q x6 x7_a x8_b x13_c x9_c) (xT N3 (xB 6 (Zmo [1,1,1,1,1,1] Q))):=
 Eq.mpr V4 h
def ZBr(p q:Edit):Prop:=AW (Z0 Zjv) Tryz.f152 ZpI [] (Zh (Zoa.can (p,q,())) []) (EQ Tryz.f152 (ZuZ (p,q,())) [])
theorem ZzA(ZEl:CT 200 Z8R)(hb:∀ (p:Edit) (q:Edit) (_:Unit),Zn9 (p,q,())->ZBr p q):CT 152 Zd2:=
 Z1 (l:=[(200,Z8R)]) Zi rfl (⟨ZEl,trivial⟩) ZpI Tryz.func152 rfl rfl 2 (fun _=> rfl) V1 (fun ⟨p,q,_⟩=> hb p q ())
end
theorem Zdv{e:Edit}(h:J2 e):Wk e:=by obtain ⟨d,hr⟩:=h.2.2;exact .of hr h.2.1
theorem ZEl:Contract Tryz.prog cfg 200 Z8R:=by
 refine Zz4 ?_
 intro a b _ hp
 obtain ⟨la,lb⟩:=hp
 dsimp only at la lb
 refine ZGf _ _ _ ?_
 refine Z5 (ι:=Int × Int × List Int) (fun s=> Z1z a b s.1 s.2.1 s.2.2) (fun s=> (0<=s.1/\s.1<=a.length)/\(0<=s.2.1/\s.2.1<=b.length)/\Yv a b=s.2.2++Yv (a.drop s.1.toNat) (b.drop s.2.1.toNat)/\(s.2.2.length:Int)<=s.1+s.2.1)
  (fun s=> ((a.length:Int) - s.1+(b.length - s.2.1)).toNat) (0,0,[]) rfl ⟨by simp,by simp,by simp,by simp⟩ ?_
 rintro ⟨i,j,o⟩ ⟨⟨i0,i1⟩,⟨j0,j1⟩,f3,f4⟩
 dsimp only at i0 i1 j0 j1 f3 f4
 refine Ztv _ _ _ _ _ _ _ ?_
 intro y1 h1 y2 h2
 (simp only [iB,vcT,vcS])
 have step:∀ (n i' j':Int) (N0:LSt U->Prop) (Q:AExit->LSt U->Prop),i'=(if i < a.length/\a.getD i.toNat 0=n then i+1 else i)->j'=(if j < b.length/\b.getD j.toNat 0=n then j+1 else j)->N0 (Z1z a b i' j' (o++[n]))->
   Z8A [1,1,1,0,0,0,1,0,1,1] (Z74 a b i j o n) (AExit.inBlock 1 (AExit.then N0 (AExit.inBlock 0 (Zgk [1,1,1,1] Q)))):=by
  intro n i' j' N0 Q hi' hj' hN
  have fin:∀ (x y:Int),x=i'->y=j'->Z8A [1,1,1,0,0,0,1,0,1,1,1,1] (Z72 a b j o n x y) (AExit.inBlock 1 (AExit.then N0 (AExit.inBlock 0 (Zgk [1,1,1,1] Q)))):=by
   rintro x y rfl rfl
   exact Ztw _ _ _ _ _ _ _ _ _ ⟨by simp only [Q6,Q8];omega,hN⟩
  have two:∀ (x:Int),x=i'->Z8A [1,1,1,0,0,0,1,0,1,1,1] (Z73 a b i j o n x) (AExit.inBlock 1 (AExit.then N0 (AExit.inBlock 0 (Zgk [1,1,1,1] Q)))):=by
   intro x hx
   refine Ztx _ _ _ _ _ _ _ _ _ ?_
   (simp only [iB,vcT,vcS])
   refine ⟨fun h=> ⟨j0,h⟩,fun h=> ⟨V3,fin _ _ hx (by rw [hj',if_pos h])⟩,fun h=> fin _ _ hx (by rw [hj',JL])⟩
  refine Zty _ _ _ _ _ _ _ _ ?_
  (simp only [iB,vcT,vcS])
  refine ⟨fun h=> ⟨i0,h⟩,fun h=> ⟨V3,two _ (by rw [hi',if_pos h])⟩,fun h=> two _ (by rw [hi',JL])⟩
 have next:∀ (n i' j':Int),i<=i'->j<=j'->i'<=a.length->j'<=b.length->i+j < i'+j'->Yv (a.drop i.toNat) (b.drop j.toNat)=n ::Yv (a.drop i'.toNat) (b.drop j'.toNat)->
   ∃ s:Int × Int × List Int,Z1z a b i' j' (o++[n])=Z1z a b s.1 s.2.1 s.2.2/\((0<=s.1/\s.1<=a.length)/\(0<=s.2.1/\s.2.1<=b.length)/\Yv a b=s.2.2++Yv (a.drop s.1.toNat) (b.drop s.2.1.toNat)/\(s.2.2.length:Int)<=s.1+s.2.1)/\
    ((a.length:Int) - s.1+(b.length - s.2.1)).toNat < ((a.length:Int) - i+(b.length - j)).toNat:=by
  intro n i' j' a1 a2 a3 a4 a5 a6
  refine ⟨(i',j',o++[n]),rfl,⟨⟨V2,a3⟩,⟨V2,a4⟩,?_,by dsimp only;simp only [List.length_append,List.length_cons,List.length_nil];omega⟩,V2⟩
  rw [f3,a6];simp
 refine ⟨fun hne=> ⟨fun h=> ⟨i0,h.2⟩,fun h=> ⟨j0,YS⟩,fun h1 h2=> ⟨h1,h2⟩,fun hA=> ?_,fun hB=> ?_⟩,fun hE=> ?_⟩
 .have hi:i < a.length:=YS
  refine ⟨⟨i0,hi⟩,step y1 (i+1) j _ _ (by rw [if_pos ⟨hi,h1.symm⟩]) (by rw [if_neg];rintro ⟨q1,q2⟩;rw [<-h2] at q2;omega) (next _ _ _ YS YS YS j1 YS ?_)⟩
  rw [ZQ i0 hi 0,<-h1]
  by_cases hj:j < b.length
  .rw [ZQ j0 hj 0,<-h2,Yv,V0]
  .rw [Q9 (l:=b) YS,Z17,Z17]
 .have hj:j < b.length:=YS
  refine ⟨⟨j0,hj⟩,?_⟩
  by_cases he:i < a.length/\y1=y2
  .refine step y2 (i+1) (j+1) _ _ (by rw [if_pos ⟨he.1,by rw [<-h1];exact he.2⟩]) (by rw [if_pos ⟨hj,h2.symm⟩]) (next _ _ _ YS YS YS YS YS ?_)
   rw [ZQ i0 he.1 0,ZQ j0 hj 0,<-h1,<-h2,Yv,JL,JL,he.2]
  .refine step y2 i (j+1) _ _ (by rw [if_neg];rintro ⟨q1,q2⟩;rw [<-h1] at q2;exact he ⟨q1,q2⟩) (by rw [if_pos ⟨hj,h2.symm⟩]) (next _ _ _ YS YS YS YS YS ?_)
   rw [ZQ j0 hj 0,<-h2]
   by_cases hi:i < a.length
   .rw [ZQ i0 hi 0,<-h1,Yv,JL,V0]
   .rw [Q9 (l:=a) YS,Yv,Yv]
 .rw [Q9 (l:=a) YS,Q9 (l:=b) YS,Yv,Qo] at f3
  refine Z1O (r':= .c (.slice (U:=U) .int o .unk)) ?_ JP
  simp only [ZmL,f3]
theorem Z8J{α β:Type}{f:α->β}{l:List α}{i:Int}(h0:0<=i)(h:i < l.length)(d:α):(l.take i.toNat).map f++[f (l.getD i.toNat d)]=(l.take (i+1).toNat).map f:=by
 rw [show (i+1).toNat=i.toNat+1 by omega,Z6o YS d,Xs];try rfl
theorem ZEK:Contract Tryz.prog cfg 152 Zd2:=by
 refine ZzA ZEl ?_
 intro p q _ hp
 obtain ⟨⟨p1,p2⟩,q1,q2⟩:=hp
 dsimp only at p1 p2 q1 q2
 refine ZGO _ _ _ ?_
 have e0:∀ {α β:Type} (l:List α) (f:α->β),(l.take (0:Int).toNat).map f=[]:=fun l f=> by simp
 refine Z5 (ι:=Int) (fun i=> Z7i p q i ((p.words.take i.toNat).map WEdit.at_)) (fun i=> 0<=i/\i<=p.words.length) (fun i=> ((p.words.length:Int) - i).toNat) 0 rfl ⟨YS,YS⟩ ?_
 rintro i ⟨i0,i1⟩
 refine ZtY _ _ _ _ _ _ ?_
 (simp only [iB,vcT,vcS])
 refine ⟨fun hi=> ⟨⟨i0,hi⟩,by simp only [Qv,Qj,Q6,Q8];omega,V3,i+1,by rw [Z8J i0 hi],⟨YS,YS⟩,YS⟩,fun hi=> ?_⟩
 rw [Qu (l:=p.words) (i:=i.toNat) YS]
 refine Z5 (ι:=Int) (fun i=> Z7h p q (p.words.map WEdit.at_) i ((q.words.take i.toNat).map WEdit.at_)) (fun i=> 0<=i/\i<=q.words.length) (fun i=> ((q.words.length:Int) - i).toNat) 0 rfl ⟨YS,YS⟩ ?_
 rintro j ⟨j0,j1⟩
 refine ZtX _ _ _ _ _ _ _ ?_
 (simp only [iB,vcT,vcS])
 refine ⟨fun hj=> ⟨⟨j0,hj⟩,by simp only [Qv,Qj,Q6,Q8];omega,V3,j+1,by rw [Z8J j0 hj],⟨YS,YS⟩,YS⟩,fun hj=> ?_⟩
 rw [Qu (l:=q.words) (i:=j.toNat) YS]
 refine Z5 (ι:=Int) (fun i=> Z7g p q (p.words.map WEdit.at_) (q.words.map WEdit.at_) i ((p.kids.take i.toNat).map KidOf.at_)) (fun i=> 0<=i/\i<=p.kids.length) (fun i=> ((p.kids.length:Int) - i).toNat) 0 rfl ⟨YS,YS⟩ ?_
 rintro k ⟨k0,k1⟩
 refine ZtW _ _ _ _ _ _ _ _ ?_
 (simp only [iB,vcT,vcS])
 refine ⟨fun hk=> ⟨⟨k0,hk⟩,by simp only [Qv,Qj,Q6,Q8];omega,V3,k+1,by rw [Z8J k0 hk],⟨YS,YS⟩,YS⟩,fun hk=> ?_⟩
 rw [Qu (l:=p.kids) (i:=k.toNat) YS]
 refine Z5 (ι:=Int) (fun i=> Z7f p q (p.words.map WEdit.at_) (q.words.map WEdit.at_) (p.kids.map KidOf.at_) i ((q.kids.take i.toNat).map KidOf.at_)) (fun i=> 0<=i/\i<=q.kids.length) (fun i=> ((q.kids.length:Int) - i).toNat) 0 rfl ⟨YS,YS⟩ ?_
 rintro m ⟨m0,m1⟩
 refine ZtV _ _ _ _ _ _ _ _ _ ?_
 (simp only [iB,vcT,vcS])
 refine ⟨fun hm=> ⟨⟨m0,hm⟩,by simp only [Qv,Qj,Q6,Q8];omega,V3,m+1,by rw [Z8J m0 hm],⟨YS,YS⟩,YS⟩,fun hm=> ?_⟩
 rw [Qu (l:=q.kids) (i:=m.toNat) YS]
 exact ⟨⟨by simpa using p1,by simpa using q1⟩,⟨by simpa using p2,by simpa using q2⟩,JP⟩
theorem kids_sum:∀ {l:List Op},(∀ o∈l,ZC o)->Z1y l<=Jd l+YH l
 | [],_=> by simp [Z1y,Jd,YH]
 | o ::r,h=> by
  have h1:=Zw (h o Q2)
  have h2:=kids_sum fun x hx=> h x (Q1 _ hx)
  simp only [Z1y,Jd,YH]
  split <;> split <;> omega
theorem ZgP{e:Edit}{d:Int}(h:Zb e d=true):Jd e.ops < 1048576/\YH e.ops < 1048576:=by
 have R:=Zj h
 have ok:∀ o∈e.ops,0<=Z6 o:=fun o ho=> Z9y (ZS h o ho)
 have a:=Z0u e.ops 0 ok V1 V1
 have b:=Z19 e.ops 0 ok V1 V1
 have:=R.len
 omega
theorem ZbD{e:Edit}{t:Tree}(h:J2 e)(hm:Zm t<=100000000000)(ht:rng t):Z4c (e,t,()):=by
 have:=Ju h
 have:=h.1
 exact ⟨⟨V2,h.2⟩,V2,ht⟩
theorem Z4b:J2 Edit.nil:=by
 refine ⟨V1,?_,1,Z4g⟩
 exact ⟨YW V1 V1,Z6E,Z6E,by simp [Edit.nil],YW V1 V1,trivial,trivial⟩
theorem Zok{e:Edit}(h:J2 e)(n:Int):∀ w,Z0Y e.words n=some w->wOk w:=by
 intro w hw
 obtain ⟨d,hr⟩:=h.2.2
 have hm:=List.mem_of_find?_eq_some hw
 have a:=Yu (Zj hr).words w hm
 exact ⟨(ZR h.2.1).2.2.1 w hm,a.2.2.2.1,a.2.2.2.2⟩
theorem Zx4{e:Edit}(h:J2 e)(n:Int):J2 (Ys e.kids n):=by
 rcases Z6a e.kids n with ⟨a,_⟩ | ⟨k,hk,a⟩
 .rw [a];exact Z4b
 .rw [a]
  obtain ⟨d,hr⟩:=h.2.2
  have c:=Z6j hk
  have:=JO e
  have:=h.1
  exact ⟨YS,(Yz (ZR h.2.1).2.2.2.1 hk).2,_,(Zp (Zj hr).kids k hk).2⟩
theorem Zop{e:Edit}(h:J2 e){o:Op}(ho:o∈e.ops){a:Int}{u:AUnit}(hu:UnitOf o a u):uOk u:=by
 obtain ⟨d,hr⟩:=h.2.2
 have hk:=YX (ZS hr o ho)
 have c:=Z6i ho
 have ce:=JO e
 have h1:=h.1
 have g:=Z0y (Z0M (ZR h.2.1).2.2.2.2 ho)
 have R:=rightOs_mem (Zj hr).ops ho
 refine ⟨by rw [hu.kind];rcases hk with k | k | k | k <;> omega,?_,?_,fun h3=> ?_⟩
 .rcases hu.t with e | e
  .rw [e];decide
  .have:=YN e;omega
 .rcases hu.t with e | e
  .rw [e];exact Z6E
  .exact JX g.2.2.1 e
 .rw [hu.into h3]
  exact ⟨YS,g.2.2.2,_,J5 R (by rw [<-hu.kind];exact h3)⟩
theorem Zso:∀ (k:Nat) (P Q:List AUnit) (out:List APair),P.length+Q.length<=k->(ZB P Q out).1.length<=out.length+P.length+Q.length:=by
 intro k
 induction k with
 | zero=>
  intro P Q out hk
  have e1:P=[]:=Q4 YS
  have e2:Q=[]:=Q4 YS
  subst e1 e2
  rw [ZB,dif_neg (by simp [alo]),dif_neg (by simp [alo]),dif_pos (by simp),if_pos rfl];simp
 | succ k ih=>
  intro P Q out hk
  rw [ZB]
  by_cases h1:alo P=true
  .rw [dif_pos h1]
   have hl:=(of_decide_eq_true h1).1
   have:=ih (P.drop 1) Q (out++[⟨1,P.getD 0 AUnit.nil,AUnit.nil⟩]) (by rw [Qk];omega)
   rw [Q7,Qk,Qt] at this
   omega
  .rw [dif_neg h1]
   by_cases h2:alo Q=true
   .rw [dif_pos h2]
    have hl:=(of_decide_eq_true h2).1
    have:=ih P (Q.drop 1) (out++[⟨2,AUnit.nil,Q.getD 0 AUnit.nil⟩]) (by rw [Qk];omega)
    rw [Q7,Qk,Qt] at this
    omega
   .rw [dif_neg h2]
    by_cases h3:P.length=0\/Q.length=0
    .rw [dif_pos h3]
     split
     .dsimp only;omega
     .simp
    .rw [dif_neg h3]
     have:=ih (P.drop 1) (Q.drop 1) (out++[⟨0,P.getD 0 AUnit.nil,Q.getD 0 AUnit.nil⟩]) (by rw [Qk,Qk];omega)
     rw [Q7,Qk,Qk,Qt] at this
     omega
theorem Zxa{e:Edit}(h:Z06 e=true):Z3 e<=3000/\Zb e 64=true:=by
 simp only [Z06,Q3,decide_eq_true_eq] at h
 exact ⟨Zbw h.1.1,h.1.2⟩
theorem Zne{r:Bool}{e:Edit}{t:Tree}(hr:∃ d,Zb e d=true)(ht:Zm t+ctE e<=200000000000):Zm (Z0O (doE r e t))<=1000000000000:=by
 cases h:doE r e t with
 | none=> simp [Z0O,Tree.nil,Zm,Z9]
 | some u=> exact Zm3 hr ht h
theorem Znd(o:Option Tree):Z0O (o.map Z4)=Z4 (Z0O o):=by cases o;exact Zb9.symm;rfl
theorem ZfH{e:Edit}{t:Tree}(hr:∃ d,Zb e d=true)(ht:Zm t+ctE e<=200000000000):Zm (Z0O ((doE false e t).map Z4))<=1000000000000:=by
 rw [Znd]
 exact Xf (JH _) (Zne hr ht)
theorem ZlW{e:Edit}(h:Z06 e=true)(g:J8 e):ZHs e/\Z3 e<=3000/\Zb e 64=true:=by
 obtain ⟨m,r⟩:=Zxa h
 have hl:YR e=true:=by
  simp only [Z06,Q3] at h
  exact h.2
 have:=Zuq _ e (Qb _) ⟨64,r⟩ hl
 exact ⟨⟨YS,g,64,r⟩,m,r⟩
noncomputable section
def Z4n(w:WEdit)(m:Int):WEdit × Bool:=
 (⟨w.at_,Z1h m w.mask,mix 0 w.old (Z1h m w.mask),mix 0 w.new (Z1h m w.mask)⟩,decide (Z1h m w.mask≠0))
def Yi(p q:WEdit):Bool:=decide (mix 0 p.old (Z1h p.mask q.mask)≠mix 0 q.old (Z1h p.mask q.mask))
def Jj(p q:WEdit):Bool:=decide (mix 0 p.new (Z1h p.mask q.mask)≠mix 0 q.new (Z1h p.mask q.mask))
def Z0g(l:List Tree):List Op:=if l=[] then [] else [⟨2,0,l,Edit.nil⟩]
def Z0j(e:Edit):Op:=if e.kind=0 then ⟨0,1,[],Edit.nil⟩ else ⟨3,0,[],e⟩
end
end Go.AM.YtpjenobkibfpcaaGreat
namespace Go.AM
instance:Inhabited PStep:=⟨⟨0,0⟩⟩
def Yl(n:Int):List Op:=if n=0 then [] else [⟨0,n,[],Edit.nil⟩]
def ZCl(s:PStep)(t:Tree):Prop:=s.kind=0/\0<=s.at_/\(t.kind=1/\s.at_ < 65535\/(2<=t.kind/\t.kind<=9)/\s.at_ < t.kids.length)
instance (s:PStep) (t:Tree):Decidable (ZCl s t):=by unfold ZCl;infer_instance
end Go.AM
namespace Go.AM.YtpjenobkibfpcaaGreat
open Go.AM Go.Proofs
noncomputable section
structure Lft where
 x:Edit
 y:Edit
 c:Bool
 a:Bool
def Z7P(m:Int):Int:=IntKind.wrap .u8 (BitVec.ofInt (IntKind.bits .u8) 255 ^^^ BitVec.ofInt (IntKind.bits .u8) m).toNat
def Z1b{α:Type}(at_:α->Int)(l:List α)(n:Int):Option α:=l.foldl (fun o b=> if at_ b=n then some b else o) none
def YL{α:Type}(at_:α->Int)(f:α->α->α)(q:List α)(a:α):α:=match Z1b at_ q (at_ a) with
 | some b=> f a b
 | none=> a
def Yo{α:Type}(at_:α->Int)(g:α->α->Bool)(p q:List α):Bool:=p.any fun a=> q.any fun b=> decide (at_ a=at_ b) && g a b
def Z1m(a b:WEdit):WEdit:=(Z4n a (Z7P b.mask)).1
def Z5D(e:Edit):Edit:=
 if (e.words.filter fun w=> !decide (w.mask=0)).length+(e.kids.filter fun k=> !decide (k.e.kind=0)).length=0 then Edit.nil
 else .mk e.kind e.old e.new (e.words.filter fun w=> !decide (w.mask=0)) (e.kids.filter fun k=> !decide (k.e.kind=0)) e.list e.ops
def Z0k(e:Edit)(o n:Tree):Lft:=⟨Edit.nil,Edit.nil,(doB e o).2 && !ZU (Z4 (doB e o).1) (Z4 n),!(doB e o).2⟩
def Z2g(f:Edit->Edit->Lft)(p q:Edit):Lft:=
 ⟨Z5D (.mk 2 Tree.nil Tree.nil (p.words.map (YL WEdit.at_ Z1m q.words)) (p.kids.map (YL KidOf.at_ (fun a b=> ⟨a.at_,(f a.e b.e).x⟩) q.kids)) 0 []),
  Z5D (.mk 2 Tree.nil Tree.nil (q.words.map (YL WEdit.at_ Z1m p.words)) (q.kids.map (YL KidOf.at_ (fun b a=> ⟨b.at_,(f a.e b.e).y⟩) p.kids)) 0 []),
  Yo WEdit.at_ (fun a b=> !Yi a b && Jj a b) p.words q.words || Yo KidOf.at_ (fun a b=> (f a.e b.e).c) p.kids q.kids,
  Yo WEdit.at_ Yi p.words q.words || Yo KidOf.at_ (fun a b=> (f a.e b.e).a) p.kids q.kids⟩
structure PL where
 x:List Op
 y:List Op
 c:Bool
 a:Bool
def PL.app(s t:PL):PL:=⟨s.x++t.x,s.y++t.y,s.c || t.c,s.a || t.a⟩
def Ym(m h:List Tree):PL:=
 if m≠[]/\h≠[] then ⟨Yl h.length,Yl m.length,!Z2u m h,false⟩
 else ⟨Z0g m++Yl h.length,Yl m.length++Z0g h,false,false⟩
def ZA(f:Edit->Edit->Lft)(p q:Op):PL:=
 if p.kind=0/\q.kind=1 then ⟨[],[q],false,false⟩
 else if p.kind=1/\q.kind=0 then ⟨[p],[],false,false⟩
 else if p.kind=0 then ⟨[⟨0,if q.n < 1 then 1 else q.n,[],Edit.nil⟩],[q],false,false⟩
 else if q.kind=0 then ⟨[p],[⟨0,1,[],Edit.nil⟩],false,false⟩
 else if p.kind=1/\q.kind=1 then ⟨[],[],false,!Z2u p.l q.l⟩
 else if p.kind=1 then ⟨[],[],true,!(doE false q.e (p.l.getD 0 Tree.nil)).isSome⟩
 else if q.kind=1 then ⟨[],[],true,!(doE false p.e (q.l.getD 0 Tree.nil)).isSome⟩
 else ⟨[Z0j (f p.e q.e).x],[Z0j (f p.e q.e).y],(f p.e q.e).c,(f p.e q.e).a⟩
def Z14(f:Edit->Edit->Lft):List Piece->List Tree->List Tree->PL
 | [],m,h=> Ym m h
 | x ::r,m,h=>
  if x.of=1 then Z14 f r (m++x.p.l) h
  else if x.of=2 then Z14 f r m (h++x.q.l)
  else ((Ym m h).app (ZA f x.p x.q)).app (Z14 f r [] [])
def Yx(list:Int)(l:List Op):Edit:=if (l.any fun o=> !decide (o.kind=0))=true then .mk 3 Tree.nil Tree.nil [] [] list l else Edit.nil
def Z4k(f:Edit->Edit->Lft)(p q:Edit):Lft:=
 if (ZH 2 2 p.ops q.ops []).2.1=true then
  ⟨Yx p.list (Z14 f (ZH 2 2 p.ops q.ops []).1 [] []).x,Yx p.list (Z14 f (ZH 2 2 p.ops q.ops []).1 [] []).y,(Z14 f (ZH 2 2 p.ops q.ops []).1 [] []).c,(Z14 f (ZH 2 2 p.ops q.ops []).1 [] []).a⟩
 else ⟨Edit.nil,Edit.nil,false,true⟩
def YD(f:Edit->Edit->Lft)(p q:Edit):Lft:=
 if p.kind=0\/q.kind=0 then ⟨p,q,false,false⟩
 else if p.kind=1 then Z0k q p.old p.new
 else if q.kind=1 then Z0k p q.old q.new
 else if p.kind≠q.kind\/p.list≠q.list then ⟨Edit.nil,Edit.nil,false,true⟩
 else if p.kind=2 then Z2g f p q
 else Z4k f p q
def lbF:Nat->Edit->Edit->Lft
 | 0,_,_=> ⟨Edit.nil,Edit.nil,false,false⟩
 | n+1,p,q=> YD (lbF n) p q
def lbE(p q:Edit):Lft:=lbF (Z3 p+Z3 q) p q
def lbN(p q:Edit):Edit × Edit × Int:=
 if (lbE (Zn p) (Zn q)).a=true then (Edit.nil,Edit.nil,14)
 else if (lbE (Zn p) (Zn q)).c=true then (Edit.nil,Edit.nil,13)
 else (Zn (lbE (Zn p) (Zn q)).x,Zn (lbE (Zn p) (Zn q)).y,0)
def Yy{α:Type}(f:α->Bool):List α->Int->Int
 | [],_=> -1
 | a ::r,i=> if f a=true then i else Yy f r (i+1)
end
end Go.AM.YtpjenobkibfpcaaGreat
