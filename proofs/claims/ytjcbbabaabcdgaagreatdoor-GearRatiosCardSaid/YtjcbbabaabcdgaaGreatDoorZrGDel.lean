/- The reference of chapter 1: what decimal writes value reads. -/
import Derived.Test.YtjcbbabaabcdgaaGreatDoorZrRml
import Derived.Test.YtjcbbabaabcdgaaGreatDoorZrRnm
import Derived.Test.YtjcbbabaabcdgaaGreatDoorZrGAw1
import Derived.Test.YtjcbbabaabcdgaaGreatDoorZrGRun
import Derived.Lib.ItoaNum
import Derived.Lib.Atoi
import Derived.Lib.IndexMore
import Derived.Lib.Strings
import Derived.Deep.RegionLaw
import Derived.Lib.SliceRun
import Derived.Shelf.RegionOpenPlain
namespace Go.Proofs.YtjcbbabaabcdgaaGreatDoor
open Go.RowKit Sv
set_option linter.unusedVariables false
noncomputable section
theorem digU_nat (n:Int):(digU n).toNat=48+(n%10).toNat:=by
 unfold digU
 have h1:=Int.emod_lt_of_pos n (show(0:Int)<10 by decide)
 have h2:=Int.emod_nonneg n (show(10:Int)≠0 by decide)
 have h3:(n%10).toNat<10:=by omega
 rw [UInt8.toNat_ofNat']
 show(48+(n%10).toNat)%2^8=_
 omega
theorem digU_in (n:Int):48≤(digU n).toNat∧(digU n).toNat≤57:=by
 have h1:=Int.emod_lt_of_pos n (show(0:Int)<10 by decide)
 have h2:=Int.emod_nonneg n (show(10:Int)≠0 by decide)
 rw [digU_nat];omega
theorem digB_cons {b:UInt8} {l:List UInt8}:digB (b::l)=(decide (48≤b.toNat)&&decide (b.toNat≤57)&&digB l):=rfl
theorem decF_dig:∀(f:Nat) (n m:Int) (s:List UInt8),digB s=true→digB (decF f n m s)=true
 |0,_,_,s,h=>h
 |f+1,n,m,s,h=>by
  unfold decF
  split
  ·refine decF_dig f _ _ _ ?_
   have:=digU_in n
   rw [digB_cons,h,decide_eq_true this.1,decide_eq_true this.2];rfl
  ·exact h
theorem valD_from:∀(l:List UInt8) (n:Int),l.foldl (fun n b=>10*n+((b.toNat:Int)-48)) n=n*10^l.length+valD l
 |[],n=>by simp [valD]
 |b::r,n=>by
  have h1:=valD_from r (10*n+((b.toNat:Int)-48))
  have h2:=valD_from r (10*0+((b.toNat:Int)-48))
  unfold valD at*
  simp only [List.foldl_cons,List.length_cons]
  rw [h1,h2,Int.pow_succ]
  grind
theorem valD_cons (b:UInt8) (r:List UInt8):valD (b::r)=((b.toNat:Int)-48)*10^r.length+valD r:=by
 have:=valD_from r (10*0+((b.toNat:Int)-48))
 unfold valD at*
 simp only [List.foldl_cons]
 rw [this]
 simp
theorem decF_val:∀(f:Nat) (n m:Int) (s:List UInt8),0≤n→n<10^f→valD (decF f n m s)=n*10^s.length+valD s
 |0,n,m,s,h0,h1=>by
  have:n=0:=by simp at h1;omega
  subst this
  show valD s=_
  simp
 |f+1,n,m,s,h0,h1=>by
  have q1:=Int.emod_lt_of_pos n (show(0:Int)<10 by decide)
  have q2:=Int.emod_nonneg n (show(10:Int)≠0 by decide)
  have q3:=Int.mul_ediv_add_emod n 10
  rw [Int.pow_succ]at h1
  unfold decF
  split
  ·rw [decF_val f (n/10) m (digU n::s) (by omega) (by omega),valD_cons,digU_nat]
   have e:((48+(n%10).toNat:Nat):Int)-48=n%10:=by omega
   rw [e,List.length_cons,Int.pow_succ]
   grind
  ·rename_i hc
   have:n=0:=by omega
   subst this
   simp
theorem decF_few:∀(f k:Nat) (n m:Int) (s:List UInt8),0≤n→n<10^k→m≤s.length+k→(decF f n m s).length≤s.length+k
 |0,k,n,m,s,_,_,_=>by show s.length≤_;omega
 |f+1,0,n,m,s,h0,h1,h2=>by
  unfold decF
  rw [if_neg (by simp at h1;simp at h2;omega)]
  omega
 |f+1,k+1,n,m,s,h0,h1,h2=>by
  have q1:=Int.emod_lt_of_pos n (show(0:Int)<10 by decide)
  have q3:=Int.mul_ediv_add_emod n 10
  rw [Int.pow_succ]at h1
  unfold decF
  split
  ·have:=decF_few f k (n/10) m (digU n::s) (by omega) (by omega) (by simp;omega)
   simp at this
   omega
  ·omega
theorem decF_pos {f:Nat} (hf:0<f) (n:Int):0<(decF f n 1 []).length:=by
 obtain⟨g,rfl⟩:∃g,f=g+1:=⟨f-1,by omega⟩
 have mono:∀(f:Nat) (n m:Int) (s:List UInt8),s.length≤(decF f n m s).length:=by
  intro f
  induction f with
  |zero=>intro n m s;exact Nat.le_refl _
  |succ f ih=>
   intro n m s
   unfold decF
   split
   ·have:=ih (n/10) m (digU n::s)
    simp at this
    omega
   ·exact Nat.le_refl _
 unfold decF
 rw [if_pos (.inr (by simp))]
 have:=mono g (n/10) 1 [digU n]
 simp at this
 omega
theorem slAt_dig:∀(l:List UInt8),digB l=true→slAt l=l.length
 |[],_=>rfl
 |b::r,h=>by
  rw [digB_cons]at h
  simp only [Bool.and_eq_true,decide_eq_true_eq]at h
  unfold slAt
  rw [if_neg (by omega),slAt_dig r h.2,List.length_cons]
theorem slAt_two:∀(l r:List UInt8),digB l=true→slAt (l++47::r)=l.length
 |[],r,_=>by show slAt (47::r)=0;unfold slAt;rw [if_pos (by decide)]
 |b::l,r,h=>by
  rw [digB_cons]at h
  simp only [Bool.and_eq_true,decide_eq_true_eq]at h
  rw [List.cons_append]
  unfold slAt
  rw [if_neg (by omega),slAt_two l r h.2,List.length_cons]
theorem bs_ext (s:ByteArray) (i j:Nat):bsL (s.extract i j)=((bsL s).take j).drop i:=by
 show(s.extract i j).data.toList=_
 rw [ByteArray.data_extract,Array.toList_extract]
 simp [List.extract,List.drop_take]
theorem tq_facts {p q:Int} (hp:0≤p) (hp2:p<1000000000) (hq:1≤q) (hq2:q<1000000000):okQk (tqS p q)=true∧qkN (tqS p q)=p∧qkD (tqS p q)=q:=by
 obtain⟨dp,hdp⟩:∃l,decF 20 p 1 []=l:=⟨_,rfl⟩
 obtain⟨dq,hdq⟩:∃l,decF 20 q 1 []=l:=⟨_,rfl⟩
 have p1:=decF_dig 20 p 1 [] rfl
 have p2:=decF_val 20 p 1 [] hp (by omega)
 have p3:=decF_few 20 9 p 1 [] hp (by omega) (by simp)
 have p4:=decF_pos (f:=20) (by decide) p
 have q1:=decF_dig 20 q 1 [] rfl
 have q2:=decF_val 20 q 1 [] (by omega) (by omega)
 have q3:=decF_few 20 9 q 1 [] (by omega) (by omega) (by simp)
 have q4:=decF_pos (f:=20) (by decide) q
 rw [hdp]at p1 p2 p3 p4
 rw [hdq]at q1 q2 q3 q4
 simp [valD]at p2 q2 p3 q3
 have hb:bsL (tqS p q)=dp++(if q>1 then 47::dq else []):=by
  show(decF 20 p 1 []++(if q>1 then 47::decF 20 q 1 []else [])).toArray.toList=_
  rw [hdp,hdq]
 have hsz:(tqS p q).size=(bsL (tqS p q)).length:=size_bs _
 have h0:(sb0 (tqS p q) 0).toNat≠45:=by
  show((bsL (tqS p q)).getD 0 0).toNat≠45
  rw [hb]
  cases dp with
  |nil=>simp at p4
  |cons x r=>
   rw [digB_cons]at p1
   simp only [Bool.and_eq_true,decide_eq_true_eq]at p1
   show x.toNat≠45
   omega
 by_cases h1:q>1
 ·rw [if_pos h1]at hb
  have hs:slAt (bsL (tqS p q))=dp.length:=by rw [hb];exact slAt_two _ _ p1
  have hl:(tqS p q).size=dp.length+(dq.length+1):=by rw [hsz,hb];simp
  have t1:bsL ((tqS p q).extract 0 (slAt (bsL (tqS p q))))=dp:=by rw [bs_ext,hs,hb];simp
  have t2:bsL ((tqS p q).extract (slAt (bsL (tqS p q))+1) (tqS p q).size)=dq:=by
   rw [bs_ext,hs,hl,hb,List.take_of_length_le (by simp),show dp++(47:UInt8)::dq=(dp++[47])++dq by simp,show dp.length+1=(dp++[(47:UInt8)]).length by simp,List.drop_left]
  refine⟨okQk_iff.2 ⟨by omega,by omega,h0,by omega,by omega,by rw [t1];exact p1,by rw [t2];exact q1⟩, ?_, ?_⟩
  ·unfold qkN;rw [t1];unfold valD;exact p2
  ·unfold qkD;rw [if_pos (by omega),t2];unfold valD;exact q2
 ·rw [if_neg h1,List.append_nil]at hb
  have hs:slAt (bsL (tqS p q))=dp.length:=by rw [hb];exact slAt_dig _ p1
  have hl:(tqS p q).size=dp.length:=by rw [hsz,hb]
  have t1:bsL ((tqS p q).extract 0 (slAt (bsL (tqS p q))))=dp:=by rw [bs_ext,hs,hb];simp
  have t2:bsL ((tqS p q).extract (slAt (bsL (tqS p q))+1) (tqS p q).size)=[]:=by
   rw [bs_ext,hs,hl,hb]
   simp
  refine⟨okQk_iff.2 ⟨by omega,by omega,h0,by omega,by omega,by rw [t1];exact p1,by rw [t2];rfl⟩, ?_, ?_⟩
  ·unfold qkN;rw [t1];unfold valD;exact p2
  ·unfold qkD;rw [if_neg (by omega)];omega
end
end Go.Proofs.YtjcbbabaabcdgaaGreatDoor
/- The reference of chapter 5: Ratio. -/
namespace Go.Proofs.YtjcbbabaabcdgaaGreatDoor
open Go.RowKit Sv
set_option maxRecDepth 100000
set_option linter.unusedVariables false
set_option linter.unusedSimpArgs false
noncomputable section
noncomputable def BRrt:Code:=(Tryz.f13.body).getD .skip
noncomputable def rrtCs:VCaller:=ctrs [cMl,cRof]
def SRrt (t:List (Int×Int)) (s:ByteArray) (k:Nat):St:={n:=25,sl:=[(0,pl t),(3,sv s),(4,iv k)],en:=[],next:=64}
def redN (n d:Int):Int:=n/Int.gcd n d
def redD (n d:Int):Int:=d/Int.gcd n d
set_option pp.structureInstances false
theorem rrt_start (t:List (Int×Int)):
  Tst.path (vrun0 Tryz.prog rrtCs (fl BRrt []) 3 25 [pl t]) [] (toSt Tryz.prog 25 .normal [] (SRrt t (ByteArray.mk #[49]) 0)):=
 mp (an (rr t) (an (rr (ByteArray.mk #[(49:UInt8)])) (an (rr ((0:Int))) trivial)))
theorem rrt_go (t:List (Int×Int)) (s:ByteArray) (k:Nat) (h1:(↑k:Int)<(↑t.length:Int)) (h2:k<t.length) (h3:(decide ((0:Ty.den (.int .i64))≤(List.getD t k ((0:Int),(0:Int))).1)&&decide ((List.getD t k ((0:Int),(0:Int))).1≤(4000000000000000000:Ty.den (.int .i64)))&&(decide ((0:Ty.den (.int .i64))<(List.getD t k ((0:Int),(0:Int))).2)&&decide ((List.getD t k ((0:Int),(0:Int))).2≤(4000000000000000000:Ty.den (.int .i64)))))=true) (h4:(okMl s (tqS ((List.getD t k ((0:Int),(0:Int))).1/(↑(Int.gcd (List.getD t k ((0:Int),(0:Int))).1 (List.getD t k ((0:Int),(0:Int))).2):Int)) ((List.getD t k ((0:Int),(0:Int))).2/(↑(Int.gcd (List.getD t k ((0:Int),(0:Int))).1 (List.getD t k ((0:Int),(0:Int))).2):Int))))=true) (h5: -9223372036854775808≤(↑k:Int)+1∧(↑k:Int)+1≤9223372036854775807):
  Tst.path (vall Tryz.prog rrtCs (fl BRrt [1,1,0,1,0,0]) (SRrt t s k)) [true] (toSt Tryz.prog 25 .normal [] (SRrt t (mlS s (tqS ((g0 t k).1/Int.gcd (g0 t k).1 (g0 t k).2) ((g0 t k).2/Int.gcd (g0 t k).1 (g0 t k).2))) (k+1))):=
 mp (an (decide_eq_true h1) (an (show(decide ((0:Int)≤(↑k:Int)))=true from decide_eq_true (by omega)) (an (decide_eq_true h2) (an (sr (iv (List.getD t k ((0:Int),(0:Int))).1)) (an (show(decide ((0:Int)≤(↑k:Int)))=true from decide_eq_true (by omega)) (an (decide_eq_true h2) (an (sr (iv (List.getD t k ((0:Int),(0:Int))).2)) (an h3 (an h4 (an (fits_i64 h5) (an (rr t) (an (rr (mlS s (tqS ((List.getD t k ((0:Int),(0:Int))).1/(↑(Int.gcd (List.getD t k ((0:Int),(0:Int))).1 (List.getD t k ((0:Int),(0:Int))).2):Int)) ((List.getD t k ((0:Int),(0:Int))).2/(↑(Int.gcd (List.getD t k ((0:Int),(0:Int))).1 (List.getD t k ((0:Int),(0:Int))).2):Int))))) (an (show((↑k:Int)+1)=((↑(k+(1:Nat)):Int))from(by omega)) trivial)))))))))))))
theorem rrt_end (t:List (Int×Int)) (s:ByteArray) (k:Nat) (h1:¬(↑k:Int)<(↑t.length:Int)):
  Tst.path (vall Tryz.prog rrtCs (fl BRrt [1,1,0,1,0,0]) (SRrt t s k)) [false] (toSt Tryz.prog 25 (.exit 0) [] (SRrt t s k)):=
 mp (an (decide_eq_false h1) (an (rr t) (an (rr s) (an (rr ((↑k:Int))) trivial))))
theorem rrt_fin (t:List (Int×Int)) (s:ByteArray) (k:Nat):
  Tst.path (vall Tryz.prog rrtCs (List.drop 4 (fl BRrt [])) (SRrt t s k)) [] (toRet Tryz.prog Tryz.f13 true (sv s)):=
 mp (rr s)
theorem rrtCs_ok:CallOk Tryz.prog (gS rrtCs):=ctrs_ok fun c hc=>by
 simp only [List.mem_cons,List.not_mem_nil,or_false]at hc
 rcases hc with rfl |rfl
 ·exact cMl_ok
 ·exact cRof_ok
def ratT (t:List (Int×Int)):Nat→Int×Int
 |0=>(1,1)
 |k+1=>(redN ((ratT t k).1*redN (g0 t k).1 (g0 t k).2) ((ratT t k).2*redD (g0 t k).1 (g0 t k).2),redD ((ratT t k).1*redN (g0 t k).1 (g0 t k).2) ((ratT t k).2*redD (g0 t k).1 (g0 t k).2))
theorem red_in {n d b:Int} (h1:1≤n) (h2:1≤d) (h3:n≤b) (h4:d≤b):(1≤redN n d∧redN n d≤b)∧1≤redD n d∧redD n d≤b:=by
 have hg:0<Int.gcd n d:=Int.gcd_pos_of_ne_zero_right _ (by omega)
 unfold redN redD
 have d1:(Int.gcd n d:Int)∣n:=Int.gcd_dvd_left ..
 have d2:(Int.gcd n d:Int)∣d:=Int.gcd_dvd_right ..
 have e1:=Int.ediv_mul_cancel d1
 have e2:=Int.ediv_mul_cancel d2
 have b2:n/(Int.gcd n d:Int)≤n:=Int.ediv_le_self _ (by omega)
 have b4:d/(Int.gcd n d:Int)≤d:=Int.ediv_le_self _ (by omega)
 have b1:0≤n/(Int.gcd n d:Int):=Int.ediv_nonneg (by omega) (by omega)
 have b3:0≤d/(Int.gcd n d:Int):=Int.ediv_nonneg (by omega) (by omega)
 refine⟨⟨?_,by omega⟩, ?_,by omega⟩
 ·rcases Int.lt_or_le 0 (n/(Int.gcd n d:Int))with h|h
  ·omega
  ·have:n/(Int.gcd n d:Int)=0:=by omega
   rw [this]at e1;omega
 ·rcases Int.lt_or_le 0 (d/(Int.gcd n d:Int))with h|h
  ·omega
  ·have:d/(Int.gcd n d:Int)=0:=by omega
   rw [this]at e2;omega
theorem mul_in {p a B C:Int} (h1:1≤p) (h2:p≤B) (h3:1≤a) (h4:a≤C):1≤p*a∧p*a≤B*C:=by
 have h5:p*a≤B*C:=Int.mul_le_mul h2 h4 (by omega) (by omega)
 have h6:1*1≤p*a:=Int.mul_le_mul h1 h3 (by omega) (by omega)
 omega
theorem ratT_in {t:List (Int×Int)} (h:∀k,k<t.length→(1≤(g0 t k).1∧(g0 t k).1≤400)∧1≤(g0 t k).2∧(g0 t k).2≤400):∀k,k≤t.length→(1≤(ratT t k).1∧(ratT t k).1≤400^k)∧1≤(ratT t k).2∧(ratT t k).2≤400^k
 |0,_=>by unfold ratT;decide
 |k+1,hk=>by
  have ih:=ratT_in h k (by omega)
  have hp:=h k (by omega)
  have r:=red_in hp.1.1 hp.2.1 hp.1.2 hp.2.2
  have m1:=mul_in ih.1.1 ih.1.2 r.1.1 r.1.2
  have m2:=mul_in ih.2.1 ih.2.2 r.2.1 r.2.2
  rw [Int.pow_succ]
  exact red_in m1.1 m2.1 m1.2 m2.2
theorem pow400 {k:Nat} (h:k≤3):(400:Int)^k≤64000000:=by
 have:k=0∨k=1∨k=2∨k=3:=by omega
 rcases this with rfl |rfl |rfl |rfl<;>decide
theorem rrt_step {p q a b:Int} (h1:1≤p∧p≤64000000) (h2:1≤q∧q≤64000000) (h3:1≤a∧a≤400) (h4:1≤b∧b≤400):
  okMl (tqS p q) (tqS a b)=true∧mlS (tqS p q) (tqS a b)=tqS (redN (p*a) (q*b)) (redD (p*a) (q*b)):=by
 obtain⟨f1,f2,f3⟩:=tq_facts (p:=p) (q:=q) (by omega) (by omega) (by omega) (by omega)
 obtain⟨g1,g2,g3⟩:=tq_facts (p:=a) (q:=b) (by omega) (by omega) (by omega) (by omega)
 have m1:=mul_in h1.1 h1.2 h3.1 h3.2
 have m2:=mul_in h2.1 h2.2 h4.1 h4.2
 refine⟨?_, ?_⟩
 ·unfold okMl
  simp only [Bool.and_eq_true,decide_eq_true_eq]
  rw [f2,f3,g2,g3]
  exact⟨⟨f1,g1⟩,⟨by omega,by omega⟩,by omega,by omega⟩
 ·unfold mlS
  rw [f2,f3,g2,g3]
  rfl
theorem rrt_holds (t:List (Int×Int)) (hl:t.length≤4) (h:∀k,k<t.length→(1≤(g0 t k).1∧(g0 t k).1≤400)∧1≤(g0 t k).2∧(g0 t k).2≤400):
  Holds Tryz.prog true 13 [pl t] (sv (tqS (ratT t t.length).1 (ratT t t.length).2)):=by
 have hS:=rrtCs_ok
 refine holds_fl (c:=BRrt) Tryz.func13 rfl rfl fun w F=> ?_
 refine GoalL.to known mixed hS 3 _ (rrt_start t) (by kernel_rfl) ?_
 refine GoalL.loop (ι:={k:Nat//k≤t.length}) (id:=0) (b:=cat BRrt [1,1,0,1,0,0]) (rest:=List.drop 4 (fl BRrt [])) (by kernel_rfl) (fun k=>SRrt t (tqS (ratT t k.1).1 (ratT t k.1).2) k.1) (fun k=>t.length-k.1) ⟨0,Nat.zero_le _⟩ (fun _=>rfl) ?_
 rintro⟨k,hk⟩
 by_cases hlt:k<t.length
 ·have hp:=h k hlt
  have r:=red_in hp.1.1 hp.2.1 hp.1.2 hp.2.2
  have hr:=ratT_in h k hk
  have hb:=pow400 (k:=k) (by omega)
  obtain⟨m1,m2⟩:=rrt_step (p:=(ratT t k).1) (q:=(ratT t k).2) ⟨hr.1.1,by omega⟩ ⟨hr.2.1,by omega⟩ r.1 r.2
  have key:=rrt_go t (tqS (ratT t k).1 (ratT t k).2) k
  have key2:Tst.path (vall Tryz.prog rrtCs (fl BRrt [1,1,0,1,0,0]) (SRrt t (tqS (ratT t k).1 (ratT t k).2) k)) [true] (toSt Tryz.prog 25 .normal [] (SRrt t (tqS (ratT t (k+1)).1 (ratT t (k+1)).2) (k+1))):=by
   have:=key (by omega) hlt (by simp only [Bool.and_eq_true];exact⟨⟨decide_eq_true (show(0:Int)≤(g0 t k).1 by omega),decide_eq_true (show(g0 t k).1≤4000000000000000000 by omega)⟩,decide_eq_true (show(0:Int)<(g0 t k).2 by omega),decide_eq_true (show(g0 t k).2≤4000000000000000000 by omega)⟩) m1 (by omega)
   have e:mlS (tqS (ratT t k).1 (ratT t k).2) (tqS ((g0 t k).1/Int.gcd (g0 t k).1 (g0 t k).2) ((g0 t k).2/Int.gcd (g0 t k).1 (g0 t k).2))=tqS (ratT t (k+1)).1 (ratT t (k+1)).2:=m2
   rw [e]at this
   exact this
  refine GoalL.all (s:=SRrt t (tqS (ratT t k).1 (ratT t k).2) k) known mixed hS _ key2 (by kernel_rfl) ?_
  exact⟨⟨k+1,hlt⟩,by simp;omega,rfl,rfl⟩
 ·refine GoalL.all (s:=SRrt t _ k) known mixed hS _ (rrt_end t _ k (by omega)) (by kernel_rfl) ?_
  refine onN_exit (inB_exit ?_)
  obtain rfl:k=t.length:=by omega
  exact GoalL.allRet (s:=SRrt t _ t.length) known mixed hS _ (rrt_fin t _ _) fun T H h=>h
end
end Go.Proofs.YtjcbbabaabcdgaaGreatDoor
/- Package gear: ratio. -/
namespace Go.Proofs.YtjcbbabaabcdgaaGreatDoor
open Go.RowKit Sv
set_option maxRecDepth 100000
set_option linter.unusedVariables false
set_option linter.unusedSimpArgs false
noncomputable section
noncomputable def BGr:Code:=(Tryz.f45.body).getD .skip
noncomputable def grCs:VCaller:=ctrs [cF,cOf,cMake,cQMul]
abbrev r2:Sv.Ren:=[(64,64,none),(65,65,none)]
abbrev bQ (q:NQ):Ent:= .blk (.cells 77 [iv q.1.1, .lst true (.int .u64) q.1.2,iv q.2.1, .lst true (.int .u64) q.2.2] true false false)
def SGr (t:List (Int×Int)) (q:NQ) (k:Nat):St:={n:=24,sl:=[(0,pl t),(2, .ptr 64 0),(3, .ptr 65 0),(7,pl t),(8,iv t.length),(9,iv k)],en:=[(64,bQ0),(65,bQ q)],next:=66}
theorem gr_start (t:List (Int×Int)):
  Tst.path (vrun0 Tryz.prog grCs (fl BGr []) 3 24 [pl t]) [] (toSt Tryz.prog 24 .normal r2 (SGr t (qOf (iOf 1)) 0)):=
 mp (an rt (an (rr t) (an (rr ((0:Nat))) (an (rr ((0:Nat))) (an (rr t) (an (rr ((↑t.length:Int))) (an (rr ((0:Int))) (an (an (rr ((0:Int))) (an (rr (Value.slice none (0:Nat) (0:Nat))) (an (rr ((0:Int))) (an (rr (Value.slice none (0:Nat) (0:Nat))) trivial)))) (an (an (rr (qOf (iOf (1:Int))).1.1) (an (rr (qOf (iOf (1:Int))).1.2) (an (rr (qOf (iOf (1:Int))).2.1) (an (rr (qOf (iOf (1:Int))).2.2) trivial)))) trivial)))))))))
theorem gr_go (t:List (Int×Int)) (q:NQ) (k:Nat) (h1:(↑k:Int)<(↑t.length:Int)) (h2:k<t.length) (h3:(okQuo ((iOf (List.getD t k ((0:Int),(0:Int))).1).1,(iOf (List.getD t k ((0:Int),(0:Int))).1).2) ((iOf (List.getD t k ((0:Int),(0:Int))).2).1,(iOf (List.getD t k ((0:Int),(0:Int))).2).2))=true) (h4:(okQ (20000:Nat) ((q.1.1,q.1.2),q.2.1,q.2.2)&&okQ (20000:Nat) (((qMake ((iOf (List.getD t k ((0:Int),(0:Int))).1).1,(iOf (List.getD t k ((0:Int),(0:Int))).1).2) ((iOf (List.getD t k ((0:Int),(0:Int))).2).1,(iOf (List.getD t k ((0:Int),(0:Int))).2).2)).1.1,(qMake ((iOf (List.getD t k ((0:Int),(0:Int))).1).1,(iOf (List.getD t k ((0:Int),(0:Int))).1).2) ((iOf (List.getD t k ((0:Int),(0:Int))).2).1,(iOf (List.getD t k ((0:Int),(0:Int))).2).2)).1.2),(qMake ((iOf (List.getD t k ((0:Int),(0:Int))).1).1,(iOf (List.getD t k ((0:Int),(0:Int))).1).2) ((iOf (List.getD t k ((0:Int),(0:Int))).2).1,(iOf (List.getD t k ((0:Int),(0:Int))).2).2)).2.1,(qMake ((iOf (List.getD t k ((0:Int),(0:Int))).1).1,(iOf (List.getD t k ((0:Int),(0:Int))).1).2) ((iOf (List.getD t k ((0:Int),(0:Int))).2).1,(iOf (List.getD t k ((0:Int),(0:Int))).2).2)).2.2))=true) (h5: -9223372036854775808≤(↑k:Int)+1∧(↑k:Int)+1≤9223372036854775807):
  Tst.path (vall Tryz.prog grCs (fl BGr [1,1,0,1,0,0]) (SGr t q k)) [true] (toSt Tryz.prog 24 .normal r2 (SGr t (qMul q (qMake (iOf (g0 t k).1) (iOf (g0 t k).2))) (k+1))):=
 mp (an (decide_eq_true h1) (an (show(decide ((0:Int)≤(↑k:Int)))=true from decide_eq_true (by omega)) (an (decide_eq_true h2) (an (sr (AV.agg [iv q.1.1,AV.lst true (.int .u64) q.1.2,iv q.2.1,AV.lst true (.int .u64) q.2.2])) (an (sr (iv (List.getD t k ((0:Int),(0:Int))).1)) (an rt (an (sr (AV.agg [iv q.1.1,AV.lst true (.int .u64) q.1.2,iv q.2.1,AV.lst true (.int .u64) q.2.2])) (an (sr (iv (List.getD t k ((0:Int),(0:Int))).2)) (an (sr (iv (List.getD t k ((0:Int),(0:Int))).2)) (an rt (an (sr (AV.agg [iv q.1.1,AV.lst true (.int .u64) q.1.2,iv q.2.1,AV.lst true (.int .u64) q.2.2])) (an h3 (an (sr (AV.agg [iv q.1.1,AV.lst true (.int .u64) q.1.2,iv q.2.1,AV.lst true (.int .u64) q.2.2])) (an h4 (an (fits_i64 h5) (an (rr t) (an (rr ((0:Nat))) (an (rr ((0:Nat))) (an (rr t) (an (rr ((↑t.length:Int))) (an (show((↑k:Int)+1)=((↑(k+(1:Nat)):Int))from(by omega)) (an (an (rr ((0:Int))) (an (rr (Value.slice none (0:Nat) (0:Nat))) (an (rr ((0:Int))) (an (rr (Value.slice none (0:Nat) (0:Nat))) trivial)))) (an (an (rr (qMul ((q.1.1,q.1.2),q.2.1,q.2.2) (((qMake ((iOf (List.getD t k ((0:Int),(0:Int))).1).1,(iOf (List.getD t k ((0:Int),(0:Int))).1).2) ((iOf (List.getD t k ((0:Int),(0:Int))).2).1,(iOf (List.getD t k ((0:Int),(0:Int))).2).2)).1.1,(qMake ((iOf (List.getD t k ((0:Int),(0:Int))).1).1,(iOf (List.getD t k ((0:Int),(0:Int))).1).2) ((iOf (List.getD t k ((0:Int),(0:Int))).2).1,(iOf (List.getD t k ((0:Int),(0:Int))).2).2)).1.2),(qMake ((iOf (List.getD t k ((0:Int),(0:Int))).1).1,(iOf (List.getD t k ((0:Int),(0:Int))).1).2) ((iOf (List.getD t k ((0:Int),(0:Int))).2).1,(iOf (List.getD t k ((0:Int),(0:Int))).2).2)).2.1,(qMake ((iOf (List.getD t k ((0:Int),(0:Int))).1).1,(iOf (List.getD t k ((0:Int),(0:Int))).1).2) ((iOf (List.getD t k ((0:Int),(0:Int))).2).1,(iOf (List.getD t k ((0:Int),(0:Int))).2).2)).2.2)).1.1) (an (rr (qMul ((q.1.1,q.1.2),q.2.1,q.2.2) (((qMake ((iOf (List.getD t k ((0:Int),(0:Int))).1).1,(iOf (List.getD t k ((0:Int),(0:Int))).1).2) ((iOf (List.getD t k ((0:Int),(0:Int))).2).1,(iOf (List.getD t k ((0:Int),(0:Int))).2).2)).1.1,(qMake ((iOf (List.getD t k ((0:Int),(0:Int))).1).1,(iOf (List.getD t k ((0:Int),(0:Int))).1).2) ((iOf (List.getD t k ((0:Int),(0:Int))).2).1,(iOf (List.getD t k ((0:Int),(0:Int))).2).2)).1.2),(qMake ((iOf (List.getD t k ((0:Int),(0:Int))).1).1,(iOf (List.getD t k ((0:Int),(0:Int))).1).2) ((iOf (List.getD t k ((0:Int),(0:Int))).2).1,(iOf (List.getD t k ((0:Int),(0:Int))).2).2)).2.1,(qMake ((iOf (List.getD t k ((0:Int),(0:Int))).1).1,(iOf (List.getD t k ((0:Int),(0:Int))).1).2) ((iOf (List.getD t k ((0:Int),(0:Int))).2).1,(iOf (List.getD t k ((0:Int),(0:Int))).2).2)).2.2)).1.2) (an (rr (qMul ((q.1.1,q.1.2),q.2.1,q.2.2) (((qMake ((iOf (List.getD t k ((0:Int),(0:Int))).1).1,(iOf (List.getD t k ((0:Int),(0:Int))).1).2) ((iOf (List.getD t k ((0:Int),(0:Int))).2).1,(iOf (List.getD t k ((0:Int),(0:Int))).2).2)).1.1,(qMake ((iOf (List.getD t k ((0:Int),(0:Int))).1).1,(iOf (List.getD t k ((0:Int),(0:Int))).1).2) ((iOf (List.getD t k ((0:Int),(0:Int))).2).1,(iOf (List.getD t k ((0:Int),(0:Int))).2).2)).1.2),(qMake ((iOf (List.getD t k ((0:Int),(0:Int))).1).1,(iOf (List.getD t k ((0:Int),(0:Int))).1).2) ((iOf (List.getD t k ((0:Int),(0:Int))).2).1,(iOf (List.getD t k ((0:Int),(0:Int))).2).2)).2.1,(qMake ((iOf (List.getD t k ((0:Int),(0:Int))).1).1,(iOf (List.getD t k ((0:Int),(0:Int))).1).2) ((iOf (List.getD t k ((0:Int),(0:Int))).2).1,(iOf (List.getD t k ((0:Int),(0:Int))).2).2)).2.2)).2.1) (an (rr (qMul ((q.1.1,q.1.2),q.2.1,q.2.2) (((qMake ((iOf (List.getD t k ((0:Int),(0:Int))).1).1,(iOf (List.getD t k ((0:Int),(0:Int))).1).2) ((iOf (List.getD t k ((0:Int),(0:Int))).2).1,(iOf (List.getD t k ((0:Int),(0:Int))).2).2)).1.1,(qMake ((iOf (List.getD t k ((0:Int),(0:Int))).1).1,(iOf (List.getD t k ((0:Int),(0:Int))).1).2) ((iOf (List.getD t k ((0:Int),(0:Int))).2).1,(iOf (List.getD t k ((0:Int),(0:Int))).2).2)).1.2),(qMake ((iOf (List.getD t k ((0:Int),(0:Int))).1).1,(iOf (List.getD t k ((0:Int),(0:Int))).1).2) ((iOf (List.getD t k ((0:Int),(0:Int))).2).1,(iOf (List.getD t k ((0:Int),(0:Int))).2).2)).2.1,(qMake ((iOf (List.getD t k ((0:Int),(0:Int))).1).1,(iOf (List.getD t k ((0:Int),(0:Int))).1).2) ((iOf (List.getD t k ((0:Int),(0:Int))).2).1,(iOf (List.getD t k ((0:Int),(0:Int))).2).2)).2.2)).2.2) trivial)))) trivial)))))))))))))))))))))))
theorem gr_end (t:List (Int×Int)) (q:NQ) (k:Nat) (h1:¬(↑k:Int)<(↑t.length:Int)):
  Tst.path (vall Tryz.prog grCs (fl BGr [1,1,0,1,0,0]) (SGr t q k)) [false] (toSt Tryz.prog 24 (.exit 0) r2 (SGr t q k)):=
 mp (an (decide_eq_false h1) (an (rr t) (an (rr ((0:Nat))) (an (rr ((0:Nat))) (an (rr t) (an (rr ((↑t.length:Int))) (an (rr ((↑k:Int))) (an (an (rr ((0:Int))) (an (rr (Value.slice none (0:Nat) (0:Nat))) (an (rr ((0:Int))) (an (rr (Value.slice none (0:Nat) (0:Nat))) trivial)))) (an (an (rr q.1.1) (an (rr q.1.2) (an (rr q.2.1) (an (rr q.2.2) trivial)))) trivial)))))))))
theorem gr_fin (t:List (Int×Int)) (q:NQ) (k:Nat):
  Tst.path (vall Tryz.prog grCs (List.drop 4 (fl BGr [])) (SGr t q k)) [] (toRet Tryz.prog Tryz.f45 false (qv q)):=
 mp (an (rr q.1.1) (an (rr q.1.2) (an (rr q.2.1) (an (rr q.2.2) trivial))))
theorem grCs_ok:CallOk Tryz.prog (gS grCs):=ctrs_ok fun c hc=>by
 simp only [List.mem_cons,List.not_mem_nil,or_false]at hc
 rcases hc with rfl |rfl |rfl |rfl
 ·exact cF_ok
 ·exact cOf_ok
 ·exact cMake_ok
 ·exact cQMul_ok
def ratQ (t:List (Int×Int)):Nat→NQ
 |0=>qOf (iOf 1)
 |k+1=>qMul (ratQ t k) (qMake (iOf (g0 t k).1) (iOf (g0 t k).2))
def ratR (t:List (Int×Int)):Nat→Rat
 |0=>1
 |k+1=>ratR t k*Rat.divInt (g0 t k).1 (g0 t k).2
theorem ok_iOf {n:Nat} {x:Int} (h: -9223372036854775808≤x∧x≤9223372036854775807):okN n (iOf x)=true:=by
 rw [okN_sm (a:=iOf x) rfl]
 unfold i64B
 rw [Bool.and_eq_true]
 exact⟨decide_eq_true h.1,decide_eq_true h.2⟩
theorem val_iOf (x:Int):valI (iOf x)=x:=if_pos rfl
theorem pair_qr {a b:Int} (ha:1≤a∧a≤400) (hb:1≤b∧b≤400):QR 1 (qMake (iOf a) (iOf b)) (Rat.divInt a b):=by
 have:=(qMake_law (n:=1) (a:=iOf a) (b:=iOf b) (ok_iOf (by omega)) (ok_iOf (by omega)) (by decide) (by rw [val_iOf];omega)).qr (by rw [val_iOf];omega)
 rwa [val_iOf,val_iOf]at this
theorem ratQ_qr {t:List (Int×Int)} (h:∀k,k<t.length→(1≤(g0 t k).1∧(g0 t k).1≤400)∧1≤(g0 t k).2∧(g0 t k).2≤400):∀k,k≤t.length→QR (k+1) (ratQ t k) (ratR t k)
 |0,_=>by
  have:=qOf_qr (n:=1) (a:=iOf 1) (ok_iOf (by decide))
  rw [val_iOf]at this
  exact this
 |k+1,hk=>by
  have ih:=ratQ_qr h k (by omega)
  have hp:=h k (by omega)
  exact qMul_qr ih (pair_qr hp.1 hp.2) (by omega) (by decide)
theorem gr_holds (t:List (Int×Int)) (hl:t.length≤4) (h:∀k,k<t.length→(1≤(g0 t k).1∧(g0 t k).1≤400)∧1≤(g0 t k).2∧(g0 t k).2≤400):
  Holds Tryz.prog false 45 [pl t] (qv (ratQ t t.length)):=by
 have hS:=grCs_ok
 refine holds_fl (c:=BGr) Tryz.func45 rfl rfl fun w F=> ?_
 refine GoalL.to known mixed hS 3 _ (gr_start t) (by kernel_rfl) ?_
 refine GoalL.loop (ι:={k:Nat//k≤t.length}) (id:=0) (b:=cat BGr [1,1,0,1,0,0]) (rest:=List.drop 4 (fl BGr [])) (by kernel_rfl) (fun k=>SGr t (ratQ t k.1) k.1) (fun k=>t.length-k.1) ⟨0,Nat.zero_le _⟩ (fun _=>rfl) ?_
 rintro⟨k,hk⟩
 by_cases hlt:k<t.length
 ·have hp:=h k hlt
  have q1:=(ratQ_qr h k hk).mono (show k+1≤20000 by omega)
  have q2:=(pair_qr hp.1 hp.2).mono (show 1≤20000 by decide)
  refine GoalL.all (s:=SGr t (ratQ t k) k) known mixed hS _ (gr_go t (ratQ t k) k (by omega) hlt (okQuo_iff.2 ⟨ok_iOf (by show-9223372036854775808≤(g0 t k).1∧(g0 t k).1≤9223372036854775807;omega),ok_iOf (by show-9223372036854775808≤(g0 t k).2∧(g0 t k).2≤9223372036854775807;omega),by show valI (iOf (g0 t k).2)≠0;rw [val_iOf];omega⟩) (by rw [Bool.and_eq_true];exact⟨q1.ok,q2.ok⟩) (by omega)) (by kernel_rfl) ?_
  exact⟨⟨k+1,hlt⟩,by simp;omega,rfl,rfl⟩
 ·refine GoalL.all (s:=SGr t (ratQ t k) k) known mixed hS _ (gr_end t _ k (by omega)) (by kernel_rfl) ?_
  refine onN_exit (inB_exit ?_)
  obtain rfl:k=t.length:=by omega
  exact GoalL.allRet (s:=SGr t _ t.length) known mixed hS _ (gr_fin t _ _) fun T H h=>h
end
end Go.Proofs.YtjcbbabaabcdgaaGreatDoor
/- Package num: notations of small numbers. -/
namespace Go.Proofs.YtjcbbabaabcdgaaGreatDoor
open Go.RowKit Sv
set_option maxRecDepth 100000
set_option linter.unusedVariables false
set_option linter.unusedSimpArgs false
noncomputable section
noncomputable def BSt:Code:=(Tryz.f108.body).getD .skip
noncomputable def BTx:Code:=(Tryz.f46.body).getD .skip
noncomputable def stsCs:VCaller:=ctrs [cItoa]
theorem sts_all (a:NI) (h1:a.2.isEmpty=true) (h2:(i64B a.1)=true):
  Tst.path (vrun0 Tryz.prog stsCs (fl BSt []) 4 69 [nv a]) [true] (toRet Tryz.prog Tryz.f108 true (sv (itoaS a.1))):=
 mp (an (bT h1) (an h2 (rr (itoaS a.1))))
theorem stsCs_ok:CallOk Tryz.prog (gS stsCs):=ctrs_ok fun c hc=>by
 simp only [List.mem_cons,List.not_mem_nil,or_false]at hc
 rcases hc with rfl
 exact cItoa_ok
theorem sts_holds (a:NI) (h:List.isEmpty a.2=true) (h2:i64B a.1=true):Holds Tryz.prog true 108 [nv a] (sv (itoaS a.1)):=by
 refine holds_fl (c:=BSt) Tryz.func108 rfl rfl fun w F=> ?_
 exact GoalL.ret known mixed stsCs_ok 4 _ (sts_all a h h2) fun T H h=>h
noncomputable def cSts:Ctr:={f:=108,ps:=[tI],rs:=[.str],fresh:=true,pre:=fun d=>List.isEmpty (α:=Int) d.1.2&&i64B d.1.1,fn:=fun d=>(itoaS d.1.1,())}
theorem cSts_ok:cSts.Ok Tryz.prog:=fun⟨a,_⟩ h=>by
 have h:(List.isEmpty a.2&&i64B a.1)=true:=h
 rw [Bool.and_eq_true]at h
 exact sts_holds a h.1 h.2
noncomputable def txCs:VCaller:=ctrs [cSts,cIsW]
set_option pp.structureInstances false
theorem tx_int (q:NQ) (h1:(isW ((q.1.1,q.1.2),q.2.1,q.2.2))=true) (h2:(q.1.2.isEmpty&&i64B q.1.1)=true):
  Tst.path (vrun0 Tryz.prog txCs (fl BTx []) 9 16 [qv q]) [true] (toRet Tryz.prog Tryz.f46 true (sv (itoaS q.1.1))):=
 mp (an rt (an h1 (an h2 (rr (itoaS q.1.1)))))
theorem tx_f (q:NQ) (h1:(isW ((q.1.1,q.1.2),q.2.1,q.2.2))=false) (h2:(q.1.2.isEmpty&&i64B q.1.1)=true) (h3:(itoaS q.1.1).size+(ByteArray.mk #[(47:UInt8)]).size≤(9223372036854775807:Nat)) (h4:(q.2.2.isEmpty&&i64B q.2.1)=true) (h5:(itoaS q.1.1++ByteArray.mk #[(47:UInt8)]).size+(itoaS q.2.1).size≤(9223372036854775807:Nat)):
  Tst.path (vrun0 Tryz.prog txCs (fl BTx []) 9 16 [qv q]) [false] (toRet Tryz.prog Tryz.f46 true (sv (itoaS q.1.1++ByteArray.mk #[47]++itoaS q.2.1))):=
 mp (an rt (an h1 (an (sr (AV.agg [iv q.1.1,AV.lst true (.int .u64) q.1.2])) (an h2 (an (decide_eq_true h3) (an (sr (AV.agg [iv q.2.1,AV.lst true (.int .u64) q.2.2])) (an (sr (AV.agg [iv q.2.1,AV.lst true (.int .u64) q.2.2])) (an h4 (an (decide_eq_true h5) (rr (itoaS q.1.1++ByteArray.mk #[(47:UInt8)]++itoaS q.2.1)))))))))))
def okTx (q:NQ):Bool:=((List.isEmpty q.1.2&&i64B q.1.1)&&(List.isEmpty q.2.2&&i64B q.2.1))&&(decide ((itoaS q.1.1).size≤100)&&decide ((itoaS q.2.1).size≤100))
def txS (q:NQ):ByteArray:=if isW q=true then itoaS q.1.1 else itoaS q.1.1++ByteArray.mk #[47]++itoaS q.2.1
theorem txCs_ok:CallOk Tryz.prog (gS txCs):=ctrs_ok fun c hc=>by
 simp only [List.mem_cons,List.not_mem_nil,or_false]at hc
 rcases hc with rfl |rfl
 ·exact cSts_ok
 ·exact cIsW_ok
theorem tx_holds (q:NQ) (h:okTx q=true):Holds Tryz.prog true 46 [qv q] (sv (txS q)):=by
 unfold okTx at h
 rw [Bool.and_eq_true]at h
 obtain⟨h1,h2⟩:=h
 rw [Bool.and_eq_true]at h1 h2
 obtain⟨g1,g2⟩:=h1
 have g3:=of_decide_eq_true h2.1
 have g4:=of_decide_eq_true h2.2
 refine holds_fl (c:=BTx) Tryz.func46 rfl rfl fun w F=> ?_
 cases hw:isW q with
 |true=>
  have e:txS q=itoaS q.1.1:=by unfold txS;rw [if_pos hw]
  rw [e]
  exact GoalL.ret known mixed txCs_ok 9 _ (tx_int q hw g1) fun T H h=>h
 |false=>
  have e:txS q=itoaS q.1.1++ByteArray.mk #[47]++itoaS q.2.1:=by unfold txS;rw [if_neg (by rw [hw];decide)]
  rw [e]
  have z1:(ByteArray.mk #[47]).size=1:=rfl
  exact GoalL.ret known mixed txCs_ok 9 _ (tx_f q hw g1 (by rw [z1];omega) g2 (by rw [ByteArray.size_append,z1];omega)) fun T H h=>h
noncomputable def cTx:Ctr:={f:=46,ps:=[tQ],rs:=[.str],fresh:=true,pre:=fun d=>okTx d.1,fn:=fun d=>(txS d.1,())}
theorem cTx_ok:cTx.Ok Tryz.prog:=fun⟨q,_⟩ h=>tx_holds q h
end
end Go.Proofs.YtjcbbabaabcdgaaGreatDoor
/- The ratio's lowest terms are the reference's; its text. -/
namespace Go.Proofs.YtjcbbabaabcdgaaGreatDoor
open Go.RowKit Sv
set_option linter.unusedVariables false
theorem red_div {n d:Int} (hd:1≤d):Rat.divInt (redN n d) (redD n d)=Rat.divInt n d:=by
 have hg:0<Int.gcd n d:=Int.gcd_pos_of_ne_zero_right _ (by omega)
 have e1:=Int.ediv_mul_cancel (show(Int.gcd n d:Int)∣n from Int.gcd_dvd_left ..)
 have e2:=Int.ediv_mul_cancel (show(Int.gcd n d:Int)∣d from Int.gcd_dvd_right ..)
 unfold redN redD
 have e:Rat.divInt n d=Rat.divInt (n/(Int.gcd n d:Int)*(Int.gcd n d:Int)) (d/(Int.gcd n d:Int)*(Int.gcd n d:Int)):=by rw [e1,e2]
 rw [e]
 exact(Rat.divInt_mul_right (show(Int.gcd n d:Int)≠0 by omega)).symm
theorem red_cop {n d:Int} (hd:1≤d):Int.gcd (redN n d) (redD n d)=1:=Int.gcd_ediv_gcd_ediv_gcd (by have:=Int.gcd_pos_of_ne_zero_right n (show d≠0 by omega);omega)
theorem ratT_cop {t:List (Int×Int)} (h:∀k,k<t.length→(1≤(g0 t k).1∧(g0 t k).1≤400)∧1≤(g0 t k).2∧(g0 t k).2≤400):∀k,k≤t.length→Int.gcd (ratT t k).1 (ratT t k).2=1
 |0,_=>by unfold ratT;decide
 |k+1,hk=>by
  have ih:=ratT_in h k (by omega)
  have hp:=h k (by omega)
  have r:=red_in hp.1.1 hp.2.1 hp.1.2 hp.2.2
  have m2:=mul_in ih.2.1 ih.2.2 r.2.1 r.2.2
  exact red_cop m2.1
theorem ratR_div {t:List (Int×Int)} (h:∀k,k<t.length→(1≤(g0 t k).1∧(g0 t k).1≤400)∧1≤(g0 t k).2∧(g0 t k).2≤400):∀k,k≤t.length→ratR t k=Rat.divInt (ratT t k).1 (ratT t k).2
 |0,_=>by show(1:Rat)=Rat.divInt 1 1;decide
 |k+1,hk=>by
  have ih:=ratT_in h k (by omega)
  have hp:=h k (by omega)
  have r:=red_in hp.1.1 hp.2.1 hp.1.2 hp.2.2
  have m2:=mul_in ih.2.1 ih.2.2 r.2.1 r.2.2
  show ratR t k*Rat.divInt (g0 t k).1 (g0 t k).2=Rat.divInt (redN _ _) (redD _ _)
  rw [red_div m2.1,ratR_div h k (by omega),←red_div hp.2.1,Rat.divInt_mul_divInt]
theorem cop_num {p q:Int} (hq:1≤q) (h:Int.gcd p q=1):(Rat.divInt p q).num=p∧((Rat.divInt p q).den:Int)=q:=by
 have hd:0<(Rat.divInt p q).den:=(Rat.divInt p q).den_pos
 have e:(Rat.divInt p q).num*q=p*((Rat.divInt p q).den:Int):=(Rat.divInt_eq_divInt_iff (by omega) (by omega)).1 (Rat.num_divInt_den _)
 have g:Int.gcd (Rat.divInt p q).num ((Rat.divInt p q).den:Int)=1:=(Rat.divInt p q).reduced
 exact low_unique (by omega) (by omega) g h e
theorem sm_val {n:Nat} {a:NI} {z:Int} (h:okN n a=true) (hv:valI a=z) (h1: -9223372036854775808<z) (h2:z<9223372036854775808):a=(z,[]):=by
 rw [ok_mk h (by omega),hv,mkI_small (by omega)]
theorem dd_small {u:Nat} (h:u<10):Lib.decDigits u=[UInt8.ofNat (48+u)]:=by rw [Lib.decDigits,dif_pos h]
theorem dd_big {u:Nat} (h:¬u<10):Lib.decDigits u=Lib.decDigits (u/10)++[UInt8.ofNat (48+u%10)]:=by rw [Lib.decDigits,dif_neg h]
theorem decF_all:∀(f:Nat) (n:Int) (s:List UInt8),0≤n→n<10^f→1≤s.length→decF f n 1 s=(if n=0 then []else Lib.decDigits n.toNat)++s
 |0,n,s,h0,h1,hs=>by
  have:n=0:=by simp at h1;omega
  subst this
  rfl
 |f+1,n,s,h0,h1,hs=>by
  have q1:=Int.emod_lt_of_pos n (show(0:Int)<10 by decide)
  have q2:=Int.emod_nonneg n (show(10:Int)≠0 by decide)
  have q3:=Int.mul_ediv_add_emod n 10
  rw [Int.pow_succ]at h1
  unfold decF
  split
  ·rename_i hc
   have hn:0<n:=by omega
   rw [decF_all f (n/10) (digU n::s) (by omega) (by omega) (by simp),if_neg (show¬n=0 by omega)]
   unfold digU
   by_cases h10:n<10
   ·rw [if_pos (by omega),dd_small (u:=n.toNat) (by omega),show n%10=n by omega]
    simp
   ·rw [if_neg (by omega),dd_big (u:=n.toNat) (by omega),show(n/10).toNat=n.toNat/10 by omega,show(n%10).toNat=n.toNat%10 by omega]
    simp
  ·rename_i hc
   have:n=0:=by omega
   subst this
   rfl
theorem decF_itoa {n:Int} (h0:0≤n) (h1:n<100000000000000000000):decF 20 n 1 []=Lib.itoa n:=by
 have q1:=Int.emod_lt_of_pos n (show(0:Int)<10 by decide)
 have q2:=Int.emod_nonneg n (show(10:Int)≠0 by decide)
 have q3:=Int.mul_ediv_add_emod n 10
 show decF (19+1) n 1 []=_
 unfold decF
 rw [if_pos (.inr (by simp)),decF_all 19 (n/10) [digU n] (by omega) (by omega) (by simp)]
 unfold Lib.itoa digU
 rw [if_neg (show¬n<0 by omega)]
 by_cases h10:n<10
 ·rw [if_pos (by omega),dd_small (u:=n.toNat) (by omega),show n%10=n by omega]
  simp
 ·rw [if_neg (by omega),dd_big (u:=n.toNat) (by omega),show(n/10).toNat=n.toNat/10 by omega,show(n%10).toNat=n.toNat%10 by omega]
theorem tq_txS {q:NQ} {x y:Int} (h1:q.1=(x,[])) (h2:q.2=(y,[])) (hx:1≤x∧x≤25600000000) (hy:1≤y∧y≤25600000000):okTx q=true∧txS q=tqS x y:=by
 have ix:=decF_itoa (n:=x) (by omega) (by omega)
 have iy:=decF_itoa (n:=y) (by omega) (by omega)
 have lx:=decF_len 20 x 1 []
 have ly:=decF_len 20 y 1 []
 have sx:(itoaS x).size≤100:=by unfold itoaS;rw [←ix,mk_size];simp at lx;omega
 have sy:(itoaS y).size≤100:=by unfold itoaS;rw [←iy,mk_size];simp at ly;omega
 obtain⟨a,b⟩:=q
 have h1:a=(x,[]):=h1
 have h2:b=(y,[]):=h2
 subst h1 h2
 refine⟨?_, ?_⟩
 ·unfold okTx
  rw [Bool.and_eq_true,Bool.and_eq_true,Bool.and_eq_true,Bool.and_eq_true,Bool.and_eq_true]
  refine⟨⟨⟨rfl, ?_⟩,rfl, ?_⟩,decide_eq_true sx,decide_eq_true sy⟩
  ·exact i64B_iff.2 (show-9223372036854775808≤x∧x≤9223372036854775807 by omega)
  ·exact i64B_iff.2 (show-9223372036854775808≤y∧y≤9223372036854775807 by omega)
 ·apply ba_ext
  have bx:(itoaS x).data.toList=decF 20 x 1 []:=by rw [ix];unfold itoaS;simp
  have b_y:(itoaS y).data.toList=decF 20 y 1 []:=by rw [iy];unfold itoaS;simp
  unfold txS isW smI tqS
  by_cases hy1:y=1
  ·subst hy1
   rw [if_pos (by rfl)]
   show(itoaS x).data.toList=decF 20 x 1 []++[]
   rw [bx,List.append_nil]
  ·have e:(decide (y=1))=false:=decide_eq_false hy1
   rw [if_neg (by show¬((List.isEmpty (α:=Int) []&&(y==1))=true);simp;exact hy1),if_pos (by omega)]
   show(itoaS x++ByteArray.mk #[47]++itoaS y).data.toList=decF 20 x 1 []++47::decF 20 y 1 []
   rw [bs_app,bs_app,bx,b_y,List.append_assoc]
   rfl
theorem ratQ_txt {t:List (Int×Int)} (hl:t.length≤4) (h:∀k,k<t.length→(1≤(g0 t k).1∧(g0 t k).1≤400)∧1≤(g0 t k).2∧(g0 t k).2≤400):
  okTx (ratQ t t.length)=true∧txS (ratQ t t.length)=tqS (ratT t t.length).1 (ratT t t.length).2:=by
 have q:=ratQ_qr h t.length (Nat.le_refl _)
 have c:=ratT_cop h t.length (Nat.le_refl _)
 have b:=ratT_in h t.length (Nat.le_refl _)
 have hb:(400:Int)^t.length≤25600000000:=by
  have:t.length=0∨t.length=1∨t.length=2∨t.length=3∨t.length=4:=by omega
  rcases this with e|e|e|e|e<;>rw [e]<;>decide
 obtain⟨n1,n2⟩:=cop_num b.2.1 c
 have v1:=q.num
 have v2:=q.den
 rw [ratR_div h _ (Nat.le_refl _)]at v1 v2
 rw [n1]at v1
 rw [n2]at v2
 exact tq_txS (sm_val q.o1 v1 (by omega) (by omega)) (sm_val q.o2 v2 (by omega) (by omega)) ⟨b.1.1,by omega⟩ ⟨b.2.1,by omega⟩
end Go.Proofs.YtjcbbabaabcdgaaGreatDoor
/- Go's library: slices.Delete of the first one of two integers. -/
namespace Go.Proofs.YtjcbbabaabcdgaaGreatDoor
open Go.RowKit Sv
set_option maxRecDepth 100000 in
set_option maxHeartbeats 4000000 in
theorem del2 (g k:Nat) (x y:Int) (cur:Array Value) (w:World) (hb:w.heap[g]? =some (.cells cur 3 (0,0))) (h0:cur[0]? =some (.int .i64 x)) (h1:cur[1]? =some (.int .i64 y)) (hk:2≤k):
  Calls Tryz.prog 48 #[.slice (some ⟨g,0,none⟩) 2 k, .int .i64 0, .int .i64 1] w fun e w'=>e= .returned (.slice (some ⟨g,0,none⟩) 1 k)∧w'=(w.drew.setCells g 0 [.int .i64 y]).setCells g 1 [.int .i64 0]:=by
 obtain⟨i0,hi0,iz0,iz1,iz2⟩:=info_parts Tryz.info3
 have c0:w.cell? ⟨g,0,none⟩=some (.int .i64 x):=by rw [cell_of_row _ _ 0 cur _ _ hb];exact h0
 have c1:w.cell? ⟨g,1,none⟩=some (.int .i64 y):=by rw [cell_of_row _ _ 1 cur _ _ hb];exact h1
 have f0:w.frozen? ⟨g,0,none⟩=false:=by simp [World.frozen?,hb]
 have f1:w.frozen? ⟨g,1,none⟩=false:=by simp [World.frozen?,hb]
 have k1:¬k=1:=by omega
 have k0:0≤k:=by omega
 have k11:1≤k:=by omega
 refine calls_of_wp Tryz.func48 rfl ?_
 simp only [Tryz.ntmps48,List.size_toArray,List.length_cons,List.length_nil,Nat.reduceAdd,Nat.reduceSub,Array.replicate_succ,Array.replicate_zero,List.push_toArray,List.append_toArray,List.nil_append,List.cons_append]
 go_wp2_with fail
 have s1:=Lib.hid (show∀t u,[Value.int .i64 y][t]? =some u→w.drew.cell? ((⟨g,1,none⟩:Addr).add t)=some u from fun t u hu=>by
  cases t with
  |zero=>simp at hu;subst hu;exact c1
  |succ t=>simp at hu)
 have s2:=Lib.hid (show∀t,t<[Value.int .i64 y].length→(w.drew.cell? ⟨g,0+0*1+t,none⟩).isSome=true∧w.drew.frozen? ⟨g,0+0*1+t,none⟩=false from fun t ht=>by
  obtain rfl:t=0:=by simpa using ht
  exact⟨by show(w.cell? _).isSome=true;rw [c0];rfl,f0⟩)
 have s3:=Lib.hid (show∀u∈[Value.int .i64 y],u.oneCell'=true from fun u hu=>by simp at hu;subst hu;rfl)
 obtain⟨W1,hW1⟩:∃W1,W1=w.drew.setCells g (0+0*1) [.int .i64 y]:=⟨_,rfl⟩
 have hW:=Lib.hid hW1
 have b1:Blk W1 g 3 (cur.setIfInBounds 0 (.int .i64 y)):=by rw [hW1];exact(Blk.drew hb).set 0 _
 have e1:(cur.setIfInBounds 0 (Value.int .i64 y))[1]? =some (.int .i64 y):=by rw [Array.getElem?_setIfInBounds];simpa using h1
 have w1:W1.cell? ⟨g,1,none⟩=some (.int .i64 y):=by rw [b1.cell 1];exact e1
 have hc1:∀j,j<1→(W1.cell? ⟨g,1+j,none⟩).isSome=true:=fun j hj=>by
  obtain rfl:j=0:=by omega
  rw [Nat.add_zero,w1];rfl
 have hf1:∀j,j<1→W1.frozen? ⟨g,1+j,none⟩=false:=fun j hj=>b1.frozen _
 have hz1:∀w,(zeroValue 3).run Tryz.prog w= .ok (.int .i64 0) w:=fun w=>run_zeroB (by simp [zeroB,hi0,iz0]) w
 have hcl:∀ty,(Builtin.clear_ #[80] ty #[.slice (some ⟨g,1,none⟩) 1 (k-1)]).run Tryz.prog W1= .ok (.tuple #[]) (W1.setCells g 1 [.int .i64 0]):=fun ty=>
  Lib.run_clear_slice W1 _ _ ty _ Tryz.underlying80 hz1 rfl rfl g 1 1 (k-1) (by decide) hc1 hf1
 clear hW1
 have mx:Tryz.prog.follows .mixedOrders=true:=mixed
 go_region_law_o (refine step_append_room rfl (.tmp 22) (.tmp 25) 80 rfl 3 i0 1 Tryz.underlying80 hi0 iz1 g 0 0 k (by simp [Act.eval,Act.put]) ⟨g,1,none⟩ 1 (k-1) [.int .i64 y] (by simp [Act.eval,Act.put]) rfl s1.out s3.out (by omega) s2.out ?_;rw [←hW.out])
 go_wp2
 go_ret
 exact⟨rfl,by rw [hW.out]⟩
end Go.Proofs.YtjcbbabaabcdgaaGreatDoor
/- Go's library in the runner of closed calls: slices.Delete of a row of integers of the run's own. -/
namespace Go.Proofs.YtjcbbabaabcdgaaGreatDoor
open Go.RowKit Sv
set_option linter.unusedSectionVars false
noncomputable section
def delRun (i:Nat) (H:AHeap) (blk:Option ABlk):VR:=match blk with
 |some (.cells e [.raw (.int .i64 _), .raw (.int .i64 y)] false false false)=>cond (Nat.beq e 3) (.ok (.slice i 0 1 .full) (H.set i (.cells e [.raw (.int .i64 y)] false false false))) .no
 |_=> .no
def delC (args:List AV) (H:AHeap):VR:=match args with
 |[.slice i 0 2 .full, .raw (.int .i64 0), .raw (.int .i64 1)]=>delRun i H (H.get i)
 |_=> .no
def dS:Caller:=fun f args H=> @Bool.rec (fun _=>VR) (gS gearCs f args H) (delC args H) (Nat.beq f 48)
theorem delC_some {args:List AV} {H:AHeap} {v:AV} {H':AHeap} (h:delC args H= .ok v H'):∃i x y,args=[.slice i 0 2 .full, .raw (.int .i64 0), .raw (.int .i64 1)]∧H.get i=some (.cells 3 [.raw (.int .i64 x), .raw (.int .i64 y)] false false false)∧
  v= .slice i 0 1 .full∧H'=H.set i (.cells 3 [.raw (.int .i64 y)] false false false):=by
 unfold delC at h
 split at h
 ·rename_i i
  unfold delRun at h
  split at h
  ·rename_i e x y hg
   cases hb:Nat.beq e 3 with
   |false=>rw [hb]at h;cases h
   |true=>
    rw [hb]at h
    obtain rfl:=Nat.eq_of_beq_eq_true hb
    cases h
    exact⟨i,x,y,rfl,hg,rfl,rfl⟩
  ·cases h
 ·cases h
theorem dS_ok:CallOk Tryz.prog dS where
 mono f args H v H' h:=by
  unfold dS at h
  cases hb:Nat.beq f 48 with
  |false=>rw [hb]at h;exact gear_ok.mono _ _ _ _ _ h
  |true=>
   rw [hb]at h
   obtain⟨i,x,y,_,_,_,rfl⟩:=delC_some h
   exact Nat.le_refl _
 sim f args H v H' h B ρ xs w m hH hG hd hf:=by
  unfold dS at h
  cases hb:Nat.beq f 48 with
  |false=>rw [hb]at h;exact gear_ok.sim _ _ _ _ _ h B ρ xs w m hH hG hd hf
  |true=>
   rw [hb]at h
   obtain rfl:=Nat.eq_of_beq_eq_true hb
   obtain⟨i,x,y,rfl,hg,rfl,rfl⟩:=delC_some h
   match xs,hd with
   |[x0,x1,x2], .cons d0 (.cons d1 (.cons d2 .nil))=>
    obtain⟨g,c,k,r0,hk,hlk,rfl⟩:=d0.slice_inv
    have hk:k=c:=hk
    subst hk
    rw [d1.raw_eq,d2.raw_eq]
    obtain⟨ys,fz,g1,g2,g3,_,g5,g6⟩:=cells_at hH hg r0
    have g2:=g2 rfl
    subst g2
    have g5:=g5 rfl
    have n0:ys[0]? =some (.int .i64 x):=by
     obtain⟨z,z1,z2⟩:=g3.get (i:=0) rfl
     rw [z2.raw_eq]at z1
     simpa using z1
    have n1:ys[1]? =some (.int .i64 y):=by
     obtain⟨z,z1,z2⟩:=g3.get (i:=1) rfl
     rw [z2.raw_eq]at z1
     simpa using z1
    refine callsIn_any (n:=0) (callsIn_wide.2 ((del2 g k x y ys w g1 n0 n1 hlk).mono ?_))
    rintro e w' ⟨rfl,rfl⟩
    have hb1:Blk (w.drew.setCells g 0 [.int .i64 y]) g 3 (ys.setIfInBounds 0 (.int .i64 y)):=(Blk.drew g1).set 0 _
    have hb2:Blk ((w.drew.setCells g 0 [.int .i64 y]).setCells g 1 [.int .i64 0]) g 3 ((ys.setIfInBounds 0 (.int .i64 y)).setIfInBounds 1 (.int .i64 0)):=hb1.set 1 _
    have far:∀j,j≠g→((w.drew.setCells g 0 [.int .i64 y]).setCells g 1 [.int .i64 0]).heap[j]? =w.heap[j]? :=fun j hj=>(Below.heap_setCell _ _ _ j hj).trans (Below.heap_setCell _ _ _ j hj)
    have hden:Dens ρ [AV.raw (Value.int .i64 y)] (((ys.setIfInBounds 0 (Value.int .i64 y)).setIfInBounds 1 (.int .i64 0)).toList.take [AV.raw (Value.int .i64 y)].length):=by
     have e1:(((ys.setIfInBounds 0 (Value.int .i64 y)).setIfInBounds 1 (.int .i64 0)).toList.take [AV.raw (Value.int .i64 y)].length)=[.int .i64 y]:=by
      have hs:0<ys.size:=(Array.getElem?_eq_some_iff.1 n0).1
      refine List.ext_getElem? fun j=> ?_
      rw [List.getElem?_take]
      cases j with
      |zero=>simp [hs]
      |succ j=>simp
     rw [e1]
     exact .cons (.raw _) .nil
    obtain⟨p1,p2⟩:=sim_set hH hg r0 rfl (k:= .cells 3 [.raw (.int .i64 y)] false false false) ((w.drew.setCells g 0 [.int .i64 y]).setCells g 1 [.int .i64 0]) _ rfl rfl rfl (by show(World.setCell (World.setCell w.drew ⟨g,0,none⟩ _) ⟨g,1,none⟩ _).heap.size=_;simp [World.setCell]) hb2 far
     ⟨_,_,rfl,fun _=>rfl,hden,(fun hh=>by cases hh),fun _=>⟨g,k,r0,by simpa using g5⟩⟩
    exact⟨_,ρ,rfl, .slice r0 rfl (by omega),p1,p2⟩
end
end Go.Proofs.YtjcbbabaabcdgaaGreatDoor
