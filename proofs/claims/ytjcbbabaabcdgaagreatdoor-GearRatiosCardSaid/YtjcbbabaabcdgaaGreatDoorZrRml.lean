/- Package gear: Normal. -/
import Derived.Test.YtjcbbabaabcdgaaGreatDoorZrRnm
import Derived.Test.YtjcbbabaabcdgaaGreatDoorZrDig2
import Derived.Test.YtjcbbabaabcdgaaGreatDoorZrGAw1
import Derived.Test.YtjcbbabaabcdgaaGreatDoorZrVBas
namespace Go.Proofs.YtjcbbabaabcdgaaGreatDoor
open Go.RowKit Sv
set_option maxRecDepth 100000
set_option linter.unusedVariables false
set_option linter.unusedSimpArgs false
noncomputable section
noncomputable def BGn:Code:=(Tryz.f9.body).getD .skip
noncomputable def gnCs:VCaller:=wctrs [wDel,wSort,wIdx] (gctrs [cGj] (ctrs [cGt]))
def SNa (t:List (Int×Int)) (dn:List Int) (k:Nat):St:={n:=59,sl:=[(0,pl t),(5,ob5 64 []),(6,ob5 65 dn),(17,pl t),(18,iv t.length),(19,iv k)],en:=[(64,oe5 []),(65,oe5 dn)],next:=66}
def SNb (t:List (Int×Int)) (ds xs:List Int) (m k:Nat):St:={n:=59,sl:=[(0,pl t),(5,ob5 64 ds),(6, .osl 3 tIn 65 0 m .full),(29,pl t),(30,iv t.length),(31,iv k)],en:=[(64,oe5 ds),(65, .blk (.own 3 tIn xs))],next:=66}
abbrev gnA:List Nat:=[1,1,1,0,1,0,0]
abbrev gnB:List Nat:=[1,1,1,1,0,1,0,0]
theorem gn_err (t:List (Int×Int)) (h1:¬trnErr t=0):
  Tst.path (vrun0 Tryz.prog gnCs (fl BGn []) 4 59 [pl t]) [true] (toRet Tryz.prog Tryz.f9 false (.tuple [pl nilP,iv (trnErr t)])):=
 mp (an rt (an (bne_iff_ne.mpr h1) (an (rr nilP) (an (rr (trnErr t)) trivial))))
theorem gn_start (t:List (Int×Int)) (h1:trnErr t=0):
  Tst.path (vrun0 Tryz.prog gnCs (fl BGn []) 6 59 [pl t]) [false] (toSt Tryz.prog 59 .normal [] (SNa t [] 0)):=
 mp (an rt (an (bne_eq_false_iff_eq.mpr h1) (an (rr t) (an (rr nilI.length) (an (rr nilI.length) (an (rr t) (an (rr ((↑t.length:Int))) (an (rr ((0:Int))) (an (rr nilI) (an (rr nilI) trivial))))))))))
theorem gn_a (t:List (Int×Int)) (dn:List Int) (k:Nat) (h1:(↑k:Int)<(↑t.length:Int)) (h2:k<t.length) (h3:dn.length+(1:Nat)≤1000000) (h4: -9223372036854775808≤(↑k:Int)+1∧(↑k:Int)+1≤9223372036854775807) (h5:(dn.length+(1:Nat))=(dn++[(List.getD t k ((0:Int),(0:Int))).2]).length) (h6:(Cap.full)=(capOf (dn++[(List.getD t k ((0:Int),(0:Int))).2]).length)):
  Tst.path (vall Tryz.prog gnCs (fl BGn gnA) (SNa t dn k)) [true,false] (toSt Tryz.prog 59 .normal [(64,64,none),(65,68,none)] (SNa t (dn++[(g0 t k).2]) (k+1))):=
 mp (an (decide_eq_true h1) (an (show(decide ((0:Int)≤(↑k:Int)))=true from decide_eq_true (by omega)) (an (decide_eq_true h2) (an rt (an rf (an (show(blkIs 3 (.int .i64) (optOwn (nat_lit 3) (.int .i64) dn) dn.length (capOf dn.length))=true from(blkIs_optOwn _ _ _)) (an (show(bounded (dn.length+(1:Nat)) (8:Nat))=true from bounded_of h3 (by omega)) (an (fits_i64 h4) (an (rr t) (an (an (rr ((0:Nat))) (an (rr nilI.length) (rr (capOf nilI.length)))) (an (an (rr ((0:Nat))) (an h5 h6)) (an (rr t) (an (rr ((↑t.length:Int))) (an (show((↑k:Int)+1)=((↑(k+(1:Nat)):Int))from(by omega)) (an (rr nilI) (an (show(blkXs (.int .i64) (optOwn (nat_lit 3) (.int .i64) dn)++[(List.getD t k ((0:Int),(0:Int))).2])=(dn++[(List.getD t k ((0:Int),(0:Int))).2])from(by simp only [blkXs_optOwn]<;>rfl)) trivial))))))))))))))))
theorem gn_ae (t:List (Int×Int)) (dn:List Int) (k:Nat) (h1:¬(↑k:Int)<(↑t.length:Int)):
  Tst.path (vall Tryz.prog gnCs (fl BGn gnA) (SNa t dn k)) [false] (toSt Tryz.prog 59 (.exit 0) [(64,64,none),(65,65,none)] (SNa t dn k)):=
 mp (an (decide_eq_false h1) (an (rr t) (an (an (rr ((0:Nat))) (an (rr nilI.length) (rr (capOf nilI.length)))) (an (an (rr ((0:Nat))) (an (rr dn.length) (rr (capOf dn.length)))) (an (rr t) (an (rr ((↑t.length:Int))) (an (rr ((↑k:Int))) (an (rr nilI) (an (show(fitOpt Tryz.prog none (optOwn (nat_lit 3) (.int .i64) dn) (nat_lit 3) (.int .i64) dn)from(fitOpt_refl _ _ _ _)) trivial)))))))))
theorem gn_mid (t:List (Int×Int)) (x:Int) (l:List Int) (k:Nat) (h1:(capOf (x::l).length)=(Cap.full)):
  Tst.path (vrun Tryz.prog gnCs (List.drop 7 (fl BGn [])) 1 (SNa t (x::l) k)) [] (toSt Tryz.prog 59 .normal [(64,64,none),(65,65,none)] (SNb t [] (x::l) (l.length+1) 0)):=
 mp (an (rr t) (an (an (rr ((0:Nat))) (an (rr nilI.length) (rr (capOf nilI.length)))) (an (an (rr ((0:Nat))) (an (rr (x::l).length) h1)) (an (rr t) (an (rr ((↑t.length:Int))) (an (rr ((0:Int))) (an (rr nilI) (an (rr (x::l)) trivial))))))))
theorem gn_b1 (t:List (Int×Int)) (ds xs:List Int) (m k:Nat) (h1:(↑k:Int)<(↑t.length:Int)) (h2:k<t.length) (h3:(Nat.beq m (0:Nat))=false) (h4:(Nat.beq (0:Nat) (0:Nat)&&(ownHas (WCtr.e wIdx) tIn (some (ABlk.own 3 (.int .i64) xs)) (m-(1:Nat))&&Nat.ble (1:Nat) m))=true) (h5:(oneI [(List.getD t k ((0:Int),(0:Int))).1]&&Nat.ble xs.length (1000000:Nat))=true) (h6:idxO xs m [(List.getD t k ((0:Int),(0:Int))).1]≥0) (h7: -9223372036854775808≤idxO xs m [(List.getD t k ((0:Int),(0:Int))).1]+1∧idxO xs m [(List.getD t k ((0:Int),(0:Int))).1]+1≤9223372036854775807) (h8:(Nat.beq (0:Nat) (0:Nat)&&(ownHas (WCtr.e wDel) tIn (some (ABlk.own 3 (.int .i64) xs)) (m-(1:Nat))&&Nat.ble (1:Nat) m))=true) (h9:(okDel xs m [idxO xs m [(List.getD t k ((0:Int),(0:Int))).1],idxO xs m [(List.getD t k ((0:Int),(0:Int))).1]+1])=true) (h10: -9223372036854775808≤(↑k:Int)+1∧(↑k:Int)+1≤9223372036854775807):
  Tst.path (vall Tryz.prog gnCs (fl BGn gnB) (SNb t ds xs m k)) [true,false,true,false] (toSt Tryz.prog 59 .normal [(64,64,none),(65,65,none)] (SNb t ds (delO xs m [idxO xs m [(g0 t k).1],idxO xs m [(g0 t k).1]+1]) (m-1) (k+1))):=
 mp (an (decide_eq_true h1) (an (show(decide ((0:Int)≤(↑k:Int)))=true from decide_eq_true (by omega)) (an (decide_eq_true h2) (an h3 (an h4 (an h5 (an (decide_eq_true h6) (an (fits_i64 h7) (an h3 (an h8 (an h9 (an (fits_i64 h10) (an (rr t) (an (an (rr ((0:Nat))) (an (rr ds.length) (rr (capOf ds.length)))) (an (an (rr ((0:Nat))) (an (rr (m-(1:Nat))) (rr (Cap.full)))) (an (rr t) (an (rr ((↑t.length:Int))) (an (show((↑k:Int)+1)=((↑(k+(1:Nat)):Int))from(by omega)) (an (show(fitOpt Tryz.prog none (optOwn (nat_lit 3) (.int .i64) ds) (nat_lit 3) (.int .i64) ds)from(fitOpt_refl _ _ _ _)) (an (rr (delO xs m [idxO xs m [(List.getD t k ((0:Int),(0:Int))).1],idxO xs m [(List.getD t k ((0:Int),(0:Int))).1]+1])) trivial))))))))))))))))))))
theorem gn_b2 (t:List (Int×Int)) (ds xs:List Int) (m k:Nat) (h1:(↑k:Int)<(↑t.length:Int)) (h2:k<t.length) (h3:(Nat.beq m (0:Nat))=false) (h4:(Nat.beq (0:Nat) (0:Nat)&&(ownHas (WCtr.e wIdx) tIn (some (ABlk.own 3 (.int .i64) xs)) (m-(1:Nat))&&Nat.ble (1:Nat) m))=true) (h5:(oneI [(List.getD t k ((0:Int),(0:Int))).1]&&Nat.ble xs.length (1000000:Nat))=true) (h6:¬idxO xs m [(List.getD t k ((0:Int),(0:Int))).1]≥0) (h7:ds.length+(1:Nat)≤1000000) (h8: -9223372036854775808≤(↑k:Int)+1∧(↑k:Int)+1≤9223372036854775807) (h9:(ds.length+(1:Nat))=(ds++[(List.getD t k ((0:Int),(0:Int))).1]).length) (h10:(Cap.full)=(capOf (ds++[(List.getD t k ((0:Int),(0:Int))).1]).length)):
  Tst.path (vall Tryz.prog gnCs (fl BGn gnB) (SNb t ds xs m k)) [true,false,false,false] (toSt Tryz.prog 59 .normal [(64,68,none),(65,65,none)] (SNb t (ds++[(g0 t k).1]) xs m (k+1))):=
 mp (an (decide_eq_true h1) (an (show(decide ((0:Int)≤(↑k:Int)))=true from decide_eq_true (by omega)) (an (decide_eq_true h2) (an h3 (an h4 (an h5 (an (decide_eq_false h6) (an rt (an rf (an (show(blkIs 3 (.int .i64) (optOwn (nat_lit 3) (.int .i64) ds) ds.length (capOf ds.length))=true from(blkIs_optOwn _ _ _)) (an (show(bounded (ds.length+(1:Nat)) (8:Nat))=true from bounded_of h7 (by omega)) (an (fits_i64 h8) (an (rr t) (an (an (rr ((0:Nat))) (an h9 h10)) (an (an (rr ((0:Nat))) (an (rr m) (rr (Cap.full)))) (an (rr t) (an (rr ((↑t.length:Int))) (an (show((↑k:Int)+1)=((↑(k+(1:Nat)):Int))from(by omega)) (an (show(blkXs (.int .i64) (optOwn (nat_lit 3) (.int .i64) ds)++[(List.getD t k ((0:Int),(0:Int))).1])=(ds++[(List.getD t k ((0:Int),(0:Int))).1])from(by simp only [blkXs_optOwn]<;>rfl)) (an (rr xs) trivial))))))))))))))))))))
theorem gn_be (t:List (Int×Int)) (ds xs:List Int) (m k:Nat) (h1:¬(↑k:Int)<(↑t.length:Int)):
  Tst.path (vall Tryz.prog gnCs (fl BGn gnB) (SNb t ds xs m k)) [false] (toSt Tryz.prog 59 (.exit 2) [(64,64,none),(65,65,none)] (SNb t ds xs m k)):=
 mp (an (decide_eq_false h1) (an (rr t) (an (an (rr ((0:Nat))) (an (rr ds.length) (rr (capOf ds.length)))) (an (an (rr ((0:Nat))) (an (rr m) (rr (Cap.full)))) (an (rr t) (an (rr ((↑t.length:Int))) (an (rr ((↑k:Int))) (an (show(fitOpt Tryz.prog none (optOwn (nat_lit 3) (.int .i64) ds) (nat_lit 3) (.int .i64) ds)from(fitOpt_refl _ _ _ _)) (an (rr xs) trivial)))))))))
theorem gn_f0 (t:List (Int×Int)) (ds xs:List Int) (m k:Nat) (h1:ds.length=(0:Nat)) (h2:m=(0:Nat)) (h3:(Nat.beq ds.length (0:Nat)||ownHas 3 (.int .i64) (optOwn (nat_lit 3) (.int .i64) ds) (ds.length-(1:Nat)))=true) (h4:(Nat.beq m (0:Nat)||ownHas 3 (.int .i64) (some (ABlk.own 3 (.int .i64) xs)) (m-(1:Nat)))=true) (h5:(okZip (List.take ds.length (List.drop (0:Nat) ds)) (List.take m (List.drop (0:Nat) xs)))=true):
  Tst.path (vall Tryz.prog gnCs (List.drop 9 (fl BGn [])) (SNb t ds xs m k)) [true,true] (toRet Tryz.prog Tryz.f9 false (.tuple [pl (zipI (List.take ds.length (List.drop 0 ds)) (List.take m (List.drop 0 xs))),iv 0])):=
 mp (an (beq_of h1) (an rt (an (beq_of h2) (an rt (an (show(Nat.beq ds.length (0:Nat)||ownHas 3 (.int .i64) (optOwn (nat_lit 3) (.int .i64) ds) ((0:Nat)+ds.length-(1:Nat)))=true from(by simp only [Nat.zero_add]<;>exact(show(Nat.beq ds.length (0:Nat)||ownHas 3 (.int .i64) (optOwn (nat_lit 3) (.int .i64) ds) (ds.length-(1:Nat)))=true from h3))) (an (show(Nat.beq m (0:Nat)||ownHas 3 (.int .i64) (some (ABlk.own 3 (.int .i64) xs)) ((0:Nat)+m-(1:Nat)))=true from(by simp only [Nat.zero_add]<;>exact(show(Nat.beq m (0:Nat)||ownHas 3 (.int .i64) (some (ABlk.own 3 (.int .i64) xs)) (m-(1:Nat)))=true from h4))) (an (show(okZip (List.take ds.length (List.drop (0:Nat) (blkXs (.int .i64) (optOwn (nat_lit 3) (.int .i64) ds)))) (List.take m (List.drop (0:Nat) xs)))=true from(by simp only [blkXs_optOwn]<;>exact(show(okZip (List.take ds.length (List.drop (0:Nat) ds)) (List.take m (List.drop (0:Nat) xs)))=true from h5))) (an (show(zipI (List.take ds.length (List.drop (0:Nat) (blkXs (.int .i64) (optOwn (nat_lit 3) (.int .i64) ds)))) (List.take m (List.drop (0:Nat) xs)))=(zipI (List.take ds.length (List.drop (0:Nat) ds)) (List.take m (List.drop (0:Nat) xs)))from(by simp only [blkXs_optOwn]<;>rfl)) (an (rr ((0:Int))) trivial)))))))))
theorem gn_f1 (t:List (Int×Int)) (ds xs:List Int) (m k:Nat) (h1:(Nat.beq ds.length (0:Nat))=false) (h2:(Nat.beq (0:Nat) (0:Nat)&&(ownHas (WCtr.e wSort) tIn (optOwn (nat_lit 3) (.int .i64) ds) (ds.length-(1:Nat))&&Nat.ble (1:Nat) ds.length))=true) (h3:(true&&Nat.ble ds.length (1000000:Nat))=true) (h4:(Nat.beq m (0:Nat))=false) (h5:(Nat.beq (0:Nat) (0:Nat)&&(ownHas (WCtr.e wSort) tIn (some (ABlk.own 3 (.int .i64) xs)) (m-(1:Nat))&&Nat.ble (1:Nat) m))=true) (h6:(true&&Nat.ble xs.length (1000000:Nat))=true) (h7:(Nat.beq ds.length (0:Nat)||ownHas 3 (.int .i64) (some (ABlk.own 3 (.int .i64) (sortO ds ds.length))) (ds.length-(1:Nat)))=true) (h8:(Nat.beq m (0:Nat)||ownHas 3 (.int .i64) (some (ABlk.own 3 (.int .i64) (sortO xs m))) (m-(1:Nat)))=true) (h9:(okZip (List.take ds.length (List.drop (0:Nat) (sortO ds ds.length))) (List.take m (List.drop (0:Nat) (sortO xs m))))=true):
  Tst.path (vall Tryz.prog gnCs (List.drop 9 (fl BGn [])) (SNb t ds xs m k)) [false,false] (toRet Tryz.prog Tryz.f9 false (.tuple [pl (zipI (List.take ds.length (List.drop 0 (sortO ds ds.length))) (List.take m (List.drop 0 (sortO xs m)))),iv 0])):=
 mp (an h1 (an h2 (an (show(true&&Nat.ble (blkXs tIn (optOwn (nat_lit 3) (.int .i64) ds)).length (1000000:Nat))=true from(by simp only [blkXs_optOwn]<;>exact(show(true&&Nat.ble ds.length (1000000:Nat))=true from h3))) (an h4 (an h5 (an h6 (an (show(Nat.beq ds.length (0:Nat)||ownHas 3 (.int .i64) (some (ABlk.own 3 (.int .i64) (sortO (blkXs tIn (optOwn (nat_lit 3) (.int .i64) ds)) ds.length))) ((0:Nat)+ds.length-(1:Nat)))=true from(by simp only [blkXs_optOwn,Nat.zero_add]<;>exact(show(Nat.beq ds.length (0:Nat)||ownHas 3 (.int .i64) (some (ABlk.own 3 (.int .i64) (sortO ds ds.length))) (ds.length-(1:Nat)))=true from h7))) (an (show(Nat.beq m (0:Nat)||ownHas 3 (.int .i64) (some (ABlk.own 3 (.int .i64) (sortO xs m))) ((0:Nat)+m-(1:Nat)))=true from(by simp only [Nat.zero_add]<;>exact(show(Nat.beq m (0:Nat)||ownHas 3 (.int .i64) (some (ABlk.own 3 (.int .i64) (sortO xs m))) (m-(1:Nat)))=true from h8))) (an (show(okZip (List.take ds.length (List.drop (0:Nat) (sortO (blkXs tIn (optOwn (nat_lit 3) (.int .i64) ds)) ds.length))) (List.take m (List.drop (0:Nat) (sortO xs m))))=true from(by simp only [blkXs_optOwn]<;>exact(show(okZip (List.take ds.length (List.drop (0:Nat) (sortO ds ds.length))) (List.take m (List.drop (0:Nat) (sortO xs m))))=true from h9))) (an (show(zipI (List.take ds.length (List.drop (0:Nat) (sortO (blkXs tIn (optOwn (nat_lit 3) (.int .i64) ds)) ds.length))) (List.take m (List.drop (0:Nat) (sortO xs m))))=(zipI (List.take ds.length (List.drop (0:Nat) (sortO ds ds.length))) (List.take m (List.drop (0:Nat) (sortO xs m))))from(by simp only [blkXs_optOwn]<;>rfl)) (an (rr ((0:Int))) trivial)))))))))))
theorem gnCs_ok:CallOk Tryz.prog (gS gnCs):=wctrs_ok (fun c hc=>by
 simp only [List.mem_cons,List.not_mem_nil,or_false]at hc
 rcases hc with rfl |rfl |rfl
 ·exact wDel_ok
 ·exact wSort_ok
 ·exact wIdx_ok) (gctrs_ok (fun c hc=>by
 simp only [List.mem_cons,List.not_mem_nil,or_false]at hc
 obtain rfl:=hc
 exact cGj_ok) (ctrs_ok fun c hc=>by
 simp only [List.mem_cons,List.not_mem_nil,or_false]at hc
 obtain rfl:=hc
 exact cGt_ok))
theorem idx_in {x:Int}:∀(zs:List Int) (i:Nat),x∈zs→∃a,a<zs.length∧Lib.idxFrom zs x i=((i+a:Nat):Int)∧zs.erase x=zs.take a++zs.drop (a+1)
 |[],_,h=>by cases h
 |z::zs,i,h=>by
  by_cases hz:z=x
  ·subst hz
   exact⟨0,by simp,by unfold Lib.idxFrom;simp,by simp⟩
  ·have hm:x∈zs:=by
    rcases List.mem_cons.1 h with h|h
    ·exact absurd h.symm hz
    ·exact h
   obtain⟨a,a1,a2,a3⟩:=idx_in zs (i+1) hm
   refine⟨a+1,by simp;omega, ?_, ?_⟩
   ·unfold Lib.idxFrom
    rw [if_neg (by simpa using hz),a2];omega
   ·rw [List.erase_cons_tail (by simpa using hz),a3];simp
theorem idx_out {x:Int}:∀(zs:List Int) (i:Nat),x∉zs→Lib.idxFrom zs x i= -1
 |[],_,_=>rfl
 |z::zs,i,h=>by
  rw [List.mem_cons,not_or]at h
  unfold Lib.idxFrom
  rw [if_neg (by simpa using fun e=>h.1 e.symm),idx_out zs (i+1) h.2]
def nrmG (t:List (Int×Int)):List (Int×Int):=zipI (sortJ (cancel (t.map Prod.fst) (t.map Prod.snd)).1) (sortJ (cancel (t.map Prod.fst) (t.map Prod.snd)).2)
theorem delO_take {xs:List Int} {m a:Nat} (h1:m≤xs.length) (h2:a<m) (b:Int):(delO xs m [(a:Int),b]).length=xs.length∧(delO xs m [(a:Int),b]).take (m-1)=(xs.take m).take a++(xs.take m).drop (a+1):=by
 have e:delO xs m [(a:Int),b]=delL xs m a:=rfl
 rw [e]
 refine⟨delL_len h1 h2, ?_⟩
 unfold delL
 rw [List.take_append_of_le_length (by simp;omega),List.take_of_length_le (by simp;omega),List.take_take,show min a m=a by omega]
theorem gn_holds (t:List (Int×Int)) (h0:trnErr t=0):Holds Tryz.prog false 9 [pl t] (.tuple [pl (nrmG t),iv 0]):=by
 cases t with
 |nil=>exact holds_okRun (by kernel_rfl)
 |cons p r=>
 obtain⟨tl,ti⟩:=trn_in h0
 have hS:=gnCs_ok
 generalize ht:p::r=t at*
 have tn:t.map Prod.snd=p.2::r.map Prod.snd:=by rw [←ht];rfl
 have tpos:0<t.length:=by rw [←ht];simp
 refine holds_fl (c:=BGn) Tryz.func9 rfl rfl fun w F=> ?_
 refine GoalL.to known mixed hS 6 _ (gn_start t h0) (by kernel_rfl) ?_
 refine GoalL.loop (ι:={k:Nat//k≤t.length}) (id:=0) (b:=cat BGn gnA) (rest:=List.drop 7 (fl BGn [])) (by kernel_rfl) (fun k=>SNa t ((t.take k.1).map Prod.snd) k.1) (fun k=>t.length-k.1) ⟨0,Nat.zero_le _⟩ (fun _=>rfl) ?_
 rintro⟨k,hk⟩
 have hk:k≤t.length:=hk
 by_cases hlt:k<t.length
 ·refine GoalL.all (s:=SNa t ((t.take k).map Prod.snd) k) known mixed hS _ (gn_a t _ k (by omega) hlt (by simp;omega) (by omega) (len_sn _ _) (cap_sn _ _)) (by kernel_rfl) ?_
  refine⟨⟨k+1,hlt⟩,by show t.length-(k+1)<t.length-k;omega, ?_⟩
  have e:(t.take (k+1)).map Prod.snd=(t.take k).map Prod.snd++[(g0 t k).2]:=by rw [List.take_succ_eq_append_getElem hlt,g0_get hlt,List.map_append];rfl
  show _=(SNa t ((t.take (k+1)).map Prod.snd) (k+1)).T∧_=(SNa t ((t.take (k+1)).map Prod.snd) (k+1)).H
  rw [e]
  exact⟨rfl,rfl⟩
 ·refine GoalL.all (s:=SNa t ((t.take k).map Prod.snd) k) known mixed hS _ (gn_ae t _ k (by omega)) (by kernel_rfl) ?_
  refine onN_exit (inB_exit ?_)
  obtain rfl:k=t.length:=by omega
  rw [List.take_length,tn]
  refine GoalL.st (s:=SNa t (p.2::r.map Prod.snd) t.length) (s':=SNb t [] (p.2::r.map Prod.snd) ((r.map Prod.snd).length+1) 0) known mixed hS 1 _ (gn_mid t p.2 (r.map Prod.snd) t.length rfl) (by kernel_rfl) ?_
  rw [←tn]
  have lm:(r.map Prod.snd).length+1=t.length:=by rw [←ht];simp
  rw [lm]
  obtain⟨R,hR⟩:∃R,cancel (t.map Prod.fst) (t.map Prod.snd)=R:=⟨_,rfl⟩
  have hlR:=cancel_len (t.map Prod.fst) (t.map Prod.snd)
  rw [hR]at hlR
  have hres:nrmG t=zipI (sortJ R.1) (sortJ R.2):=by unfold nrmG;rw [hR]
  rw [hres]
  refine GoalL.loop (ι:={s:List Int×List Int×Nat×Nat//s.2.2.2≤t.length∧s.2.1.length=t.length∧s.2.2.1≤t.length∧t.length≤s.2.2.1+s.2.2.2∧s.1.length≤s.2.2.2∧s.1++(cancel ((t.drop s.2.2.2).map Prod.fst) (s.2.1.take s.2.2.1)).1=R.1∧(cancel ((t.drop s.2.2.2).map Prod.fst) (s.2.1.take s.2.2.1)).2=R.2}) (id:=2) (b:=cat BGn gnB) (rest:=List.drop 9 (fl BGn [])) (by kernel_rfl) (fun s=>SNb t s.1.1 s.1.2.1 s.1.2.2.1 s.1.2.2.2) (fun s=>t.length-s.1.2.2.2)
   ⟨([],t.map Prod.snd,t.length,0),Nat.zero_le _,by simp,Nat.le_refl _,by simp,Nat.le_refl _,by simp [List.take_of_length_le,hR],by simp [List.take_of_length_le,hR]⟩ (fun _=>rfl) ?_
  rintro⟨⟨ds,xs,m,k⟩,a1,a2,a3,a4,a5,a6,a7⟩
  have a1:k≤t.length:=a1
  have a2:xs.length=t.length:=a2
  have a3:m≤t.length:=a3
  have a4:t.length≤m+k:=a4
  have a5:ds.length≤k:=a5
  have a6:ds++(cancel ((t.drop k).map Prod.fst) (xs.take m)).1=R.1:=a6
  have a7:(cancel ((t.drop k).map Prod.fst) (xs.take m)).2=R.2:=a7
  by_cases hlt:k<t.length
  ·have hm:0<m:=by omega
   have q1:Nat.beq m 0=false:=beq0 (by omega)
   have q2:(Nat.beq 0 0&&(ownHas 3 tIn (some (.own 3 tIn xs)) (m-1)&&Nat.ble 1 m))=true:=by
    rw [own_has _ tIn xs (show m-1<xs.length by omega),Nat.ble_eq_true_of_le (show 1≤m by omega)];rfl
   have q3:∀x:Int,(oneI [x]&&Nat.ble xs.length 1000000)=true:=fun x=>by rw [Nat.ble_eq_true_of_le (by omega)];rfl
   have ed:(t.drop k).map Prod.fst=(g0 t k).1::(t.drop (k+1)).map Prod.fst:=by rw [List.drop_eq_getElem_cons hlt,g0_get hlt];rfl
   rw [ed]at a6 a7
   by_cases hin:(g0 t k).1∈xs.take m
   ·obtain⟨a,b1,b2,b3⟩:=idx_in (xs.take m) 0 hin
    have ba:a<m:=by rw [List.length_take]at b1;omega
    have hi:idxO xs m [(g0 t k).1]=(a:Int):=by show Lib.idxFrom (xs.take m) (g0 t k).1 0=_;rw [b2,Nat.zero_add]
    have key:=gn_b1 t ds xs m k (by omega) hlt q1 q2 (q3 _)
    rw [hi]at key
    have hok:okDel xs m [(a:Int),(a:Int)+1]=true:=by
     show(decide ((0:Int)≤a)&&(decide ((a:Int)+1=a+1)&&(decide ((a:Int)+1≤(m:Int))&&Nat.ble xs.length 1000000)))=true
     rw [decide_eq_true (by omega),decide_eq_true rfl,decide_eq_true (by omega),Nat.ble_eq_true_of_le (by omega)];rfl
    obtain⟨d1,d2⟩:=delO_take (show m≤xs.length by omega) ba ((a:Int)+1)
    unfold cancel at a6 a7
    rw [if_pos hin,b3,←d2]at a6 a7
    refine GoalL.all (s:=SNb t ds xs m k) known mixed hS _ (key (by omega) (by omega) q2 hok (by omega)) (by kernel_rfl) ?_
    exact⟨⟨(ds,delO xs m [(a:Int),(a:Int)+1],m-1,k+1),hlt,by show(delO _ _ _).length=_;rw [d1];exact a2,by show m-1≤_;omega,by show _≤m-1+(k+1);omega,by show ds.length≤k+1;omega,a6,a7⟩,by show t.length-(k+1)<t.length-k;omega,rfl,rfl⟩
   ·have hi:idxO xs m [(g0 t k).1]= -1:=idx_out _ 0 hin
    unfold cancel at a6 a7
    rw [if_neg hin]at a6 a7
    refine GoalL.all (s:=SNb t ds xs m k) known mixed hS _ (gn_b2 t ds xs m k (by omega) hlt q1 q2 (q3 _) (by rw [hi];decide) (by omega) (by omega) (len_sn _ _) (cap_sn _ _)) (by kernel_rfl) ?_
    exact⟨⟨(ds++[(g0 t k).1],xs,m,k+1),hlt,a2,a3,by show _≤m+(k+1);omega,by show(ds++[_]).length≤k+1;simp;omega,by show(ds++[_])++_=_;rw [List.append_assoc];exact a6,a7⟩,by show t.length-(k+1)<t.length-k;omega,rfl,rfl⟩
  ·refine GoalL.all (s:=SNb t ds xs m k) known mixed hS _ (gn_be t ds xs m k (by omega)) (by kernel_rfl) ?_
   refine onN_exit (inB_exit ?_)
   obtain rfl:k=t.length:=by omega
   rw [List.drop_length]at a6 a7
   have a6:ds++[]=R.1:=a6
   have a7:xs.take m=R.2:=a7
   rw [List.append_nil]at a6
   have hdm:ds.length=m:=by
    have h1:R.2.length=m:=by rw [←a7];simp;omega
    rw [←a6,h1]at hlR
    simp at hlR;omega
   rw [←a6,←a7]
   by_cases hz:m=0
   ·have hd:ds=[]:=List.length_eq_zero_iff.1 (by omega)
    have key:=gn_f0 t ds xs m t.length (by omega) hz (by rw [hd];rfl) (by rw [hz];rfl) (by rw [hd];rfl)
    have e:zipI (List.take ds.length (List.drop 0 ds)) (List.take m (List.drop 0 xs))=zipI (sortJ ds) (sortJ (xs.take m)):=by rw [hd,hz];simp [zipI,sortJ]
    rw [e]at key
    exact GoalL.allRet (s:=SNb t ds xs m t.length) known mixed hS _ key fun T H h=>h
   ·have z1:(List.take ds.length (List.drop 0 (sortO ds ds.length)))=sortJ ds:=by
     unfold sortO
     rw [List.drop_zero,List.take_length,List.take_append_of_le_length (by rw [sortJ_len];omega),List.take_of_length_le (by rw [sortJ_len];omega)]
    have z2:(List.take m (List.drop 0 (sortO xs m)))=sortJ (xs.take m):=by
     unfold sortO
     have lm':(xs.take m).length=m:=by rw [List.length_take];omega
     rw [List.drop_zero,List.take_append_of_le_length (by rw [sortJ_len,lm'];exact Nat.le_refl _),List.take_of_length_le (by rw [sortJ_len,lm'];exact Nat.le_refl _)]
    have lo1:(sortO ds ds.length).length=ds.length:=by unfold sortO;rw [List.length_append,sortJ_len,List.take_length,List.drop_length];rfl
    have lo2:(sortO xs m).length=xs.length:=by unfold sortO;rw [List.length_append,sortJ_len];simp;omega
    have o1:ownHas 3 tIn (optOwn 3 tIn ds) (ds.length-1)=true:=by rw [ownHas_optOwn];exact decide_eq_true (show ds.length-1<ds.length by omega)
    have key:=gn_f1 t ds xs m t.length (beq0 (by omega)) (by rw [Nat.ble_eq_true_of_le (show 1≤ds.length by omega)];show(true&&(ownHas 3 tIn (optOwn 3 tIn ds) (ds.length-1)&&true))=true;rw [o1];rfl) (by show(true&&Nat.ble ds.length 1000000)=true;rw [Nat.ble_eq_true_of_le (by omega)];rfl) (beq0 hz)
     (by rw [Nat.ble_eq_true_of_le (show 1≤m by omega)];show(true&&(ownHas 3 tIn (some (.own 3 tIn xs)) (m-1)&&true))=true;rw [own_has _ tIn xs (show m-1<xs.length by omega)];rfl) (by show(true&&Nat.ble xs.length 1000000)=true;rw [Nat.ble_eq_true_of_le (by omega)];rfl) (by rw [own_has _ (.int .i64) _ (show ds.length-1<(sortO ds ds.length).length by omega),Bool.or_true]) (by rw [own_has _ (.int .i64) _ (show m-1<(sortO xs m).length by omega),Bool.or_true])
     (by rw [z1,z2];show(decide ((sortJ ds).length≤(sortJ (xs.take m)).length)&&decide ((sortJ ds).length≤1000))=true;rw [sortJ_len,sortJ_len,decide_eq_true (by simp;omega),decide_eq_true (by omega)];rfl)
    rw [z1,z2]at key
    exact GoalL.allRet (s:=SNb t ds xs m t.length) known mixed hS _ key fun T H h=>h
theorem gn_bad (t:List (Int×Int)) (h0:trnErr t≠0):Holds Tryz.prog false 9 [pl t] (.tuple [pl [],iv (trnErr t)]):=by
 refine holds_fl (c:=BGn) Tryz.func9 rfl rfl fun w F=> ?_
 exact GoalL.ret known mixed gnCs_ok 4 _ (gn_err t h0) fun T H h=>h
def nrmL (t:List (Int×Int)):List (Int×Int):=if trnErr t=0 then nrmG t else []
noncomputable def cGn:Ctr:={f:=9,ps:=[.list false tP2],rs:=[.list false tP2, .int .i64],fresh:=false,pre:=fun d=>true,fn:=fun d=>(nrmL d.1,trnErr d.1,())}
theorem cGn_ok:cGn.Ok Tryz.prog:=fun⟨t,_⟩ _=>by
 show Holds Tryz.prog false 9 [pl t] (.tuple [pl (nrmL t),iv (trnErr t)])
 unfold nrmL
 by_cases h:trnErr t=0
 ·rw [if_pos h,h];exact gn_holds t h
 ·rw [if_neg h];exact gn_bad t h
end
end Go.Proofs.YtjcbbabaabcdgaaGreatDoor
/- The reference of chapter 5: Normal. -/
namespace Go.Proofs.YtjcbbabaabcdgaaGreatDoor
open Go.RowKit Sv
set_option maxRecDepth 100000
set_option linter.unusedVariables false
set_option linter.unusedSimpArgs false
noncomputable section
noncomputable def BRn:Code:=(Tryz.f14.body).getD .skip
noncomputable def rnCs:VCaller:=gctrs [cRp] (ctrs [cRi,cRw])
def SNr (t:List (Int×Int)) (a b:List Int) (k:Nat):St:={n:=57,sl:=[(0,pl t),(3,lv a),(4,lv b),(5,ob5 64 []),(6,iv k)],en:=[(64,oe5 [])],next:=65}
def SNs (a b left:List Int) (k:Nat):St:={n:=57,sl:=[(3,lv a),(4,lv b),(5,ob5 64 left),(7,iv k)],en:=[(64,oe5 left)],next:=65}
abbrev rnA:List Nat:=[1,1,0,1,0,0]
abbrev rnB:List Nat:=[1,1,1,0,1,0,0]
theorem rn_start (t:List (Int×Int)):
  Tst.path (vrun0 Tryz.prog rnCs (fl BRn []) 3 57 [pl t]) [] (toSt Tryz.prog 57 .normal [] (SNr t nilI nilI 0)):=
 mp (an (rr t) (an (rr nilI) (an (rr nilI) (an (rr nilI.length) (an (rr ((0:Int))) (an (rr nilI) trivial))))))
theorem rn_a (t:List (Int×Int)) (a b:List Int) (k:Nat) (h1:(↑k:Int)<(↑t.length:Int)) (h2:k<t.length) (h3:a.length≤(1000:Nat)) (h4:b.length≤(1000:Nat)) (h5: -9223372036854775808≤(↑k:Int)+1∧(↑k:Int)+1≤9223372036854775807):
  Tst.path (vall Tryz.prog rnCs (fl BRn rnA) (SNr t a b k)) [true] (toSt Tryz.prog 57 .normal [(64,64,none)] (SNr t (insL a (g0 t k).1) (insL b (g0 t k).2) (k+1))):=
 mp (an (decide_eq_true h1) (an (show(decide ((0:Int)≤(↑k:Int)))=true from decide_eq_true (by omega)) (an (decide_eq_true h2) (an (decide_eq_true h3) (an (show(decide ((0:Int)≤(↑k:Int)))=true from decide_eq_true (by omega)) (an (decide_eq_true h2) (an (decide_eq_true h4) (an (fits_i64 h5) (an (rr t) (an (rr (insL a (List.getD t k ((0:Int),(0:Int))).1)) (an (rr (insL b (List.getD t k ((0:Int),(0:Int))).2)) (an (an (rr ((0:Nat))) (an (rr nilI.length) (rr (capOf nilI.length)))) (an (show((↑k:Int)+1)=((↑(k+(1:Nat)):Int))from(by omega)) (an (rr nilI) trivial))))))))))))))
theorem rn_ae (t:List (Int×Int)) (a b:List Int) (k:Nat) (h1:¬(↑k:Int)<(↑t.length:Int)):
  Tst.path (vall Tryz.prog rnCs (fl BRn rnA) (SNr t a b k)) [false] (toSt Tryz.prog 57 (.exit 0) [(64,64,none)] (SNr t a b k)):=
 mp (an (decide_eq_false h1) (an (rr t) (an (rr a) (an (rr b) (an (an (rr ((0:Nat))) (an (rr nilI.length) (rr (capOf nilI.length)))) (an (rr ((↑k:Int))) (an (rr nilI) trivial)))))))
theorem rn_mid (t:List (Int×Int)) (a b:List Int) (k:Nat):
  Tst.path (vrun Tryz.prog rnCs (List.drop 4 (fl BRn [])) 1 (SNr t a b k)) [] (toSt Tryz.prog 57 .normal [(64,64,none)] (SNs a b [] 0)):=
 mp (an (rr a) (an (rr b) (an (an (rr ((0:Nat))) (an (rr nilI.length) (rr (capOf nilI.length)))) (an (rr ((0:Int))) (an (rr nilI) trivial)))))
theorem rn_b1 (a b left:List Int) (k:Nat) (h1:(↑k:Int)<(↑a.length:Int)) (h2:k<a.length) (h3:b.length≤(1000:Nat)) (h4:(woB b (List.getD a k (0:Int)))=true) (h5: -9223372036854775808≤(↑k:Int)+1∧(↑k:Int)+1≤9223372036854775807):
  Tst.path (vall Tryz.prog rnCs (fl BRn rnB) (SNs a b left k)) [true,true] (toSt Tryz.prog 57 .normal [(64,64,none)] (SNs a (woA b (a.getD k 0)) left (k+1))):=
 mp (an (decide_eq_true h1) (an (show(decide ((0:Int)≤(↑k:Int)))=true from decide_eq_true (by omega)) (an (decide_eq_true h2) (an (decide_eq_true h3) (an h4 (an (fits_i64 h5) (an (rr a) (an (rr (woA b (List.getD a k (0:Int)))) (an (an (rr ((0:Nat))) (an (rr left.length) (rr (capOf left.length)))) (an (show((↑k:Int)+1)=((↑(k+(1:Nat)):Int))from(by omega)) (an (show(fitOpt Tryz.prog none (optOwn (nat_lit 3) (.int .i64) left) (nat_lit 3) (.int .i64) left)from(fitOpt_refl _ _ _ _)) trivial)))))))))))
theorem rn_b2 (a b left:List Int) (k:Nat) (h1:(↑k:Int)<(↑a.length:Int)) (h2:k<a.length) (h3:b.length≤(1000:Nat)) (h4:(woB b (List.getD a k (0:Int)))=false) (h5:left.length+(1:Nat)≤1000000) (h6: -9223372036854775808≤(↑k:Int)+1∧(↑k:Int)+1≤9223372036854775807) (h7:(left.length+(1:Nat))=(left++[List.getD a k (0:Int)]).length) (h8:(Cap.full)=(capOf (left++[List.getD a k (0:Int)]).length)):
  Tst.path (vall Tryz.prog rnCs (fl BRn rnB) (SNs a b left k)) [true,false,false] (toSt Tryz.prog 57 .normal [(64,66,none)] (SNs a b (left++[a.getD k 0]) (k+1))):=
 mp (an (decide_eq_true h1) (an (show(decide ((0:Int)≤(↑k:Int)))=true from decide_eq_true (by omega)) (an (decide_eq_true h2) (an (decide_eq_true h3) (an h4 (an (show(decide ((0:Int)≤(↑k:Int)))=true from decide_eq_true (by omega)) (an (decide_eq_true h2) (an rt (an rf (an (show(blkIs 3 (.int .i64) (optOwn (nat_lit 3) (.int .i64) left) left.length (capOf left.length))=true from(blkIs_optOwn _ _ _)) (an (show(bounded (left.length+(1:Nat)) (8:Nat))=true from bounded_of h5 (by omega)) (an (fits_i64 h6) (an (rr a) (an (rr b) (an (an (rr ((0:Nat))) (an h7 h8)) (an (show((↑k:Int)+1)=((↑(k+(1:Nat)):Int))from(by omega)) (an (show(blkXs (.int .i64) (optOwn (nat_lit 3) (.int .i64) left)++[List.getD a k (0:Int)])=(left++[List.getD a k (0:Int)])from(by simp only [blkXs_optOwn]<;>rfl)) trivial)))))))))))))))))
theorem rn_be (a b left:List Int) (k:Nat) (h1:¬(↑k:Int)<(↑a.length:Int)):
  Tst.path (vall Tryz.prog rnCs (fl BRn rnB) (SNs a b left k)) [false] (toSt Tryz.prog 57 (.exit 2) [(64,64,none)] (SNs a b left k)):=
 mp (an (decide_eq_false h1) (an (rr a) (an (rr b) (an (an (rr ((0:Nat))) (an (rr left.length) (rr (capOf left.length)))) (an (rr ((↑k:Int))) (an (show(fitOpt Tryz.prog none (optOwn (nat_lit 3) (.int .i64) left) (nat_lit 3) (.int .i64) left)from(fitOpt_refl _ _ _ _)) trivial))))))
theorem rn_fin (a b left:List Int) (k:Nat) (h1:(Nat.beq left.length (0:Nat)||ownHas 3 (.int .i64) (optOwn (nat_lit 3) (.int .i64) left) (left.length-(1:Nat)))=true) (h2:(okZip (List.take left.length (List.drop (0:Nat) left)) b)=true):
  Tst.path (vall Tryz.prog rnCs (List.drop 6 (fl BRn [])) (SNs a b left k)) [] (toRet Tryz.prog Tryz.f14 false (pl (zipI (List.take left.length (List.drop 0 left)) b))):=
 mp (an (show(Nat.beq left.length (0:Nat)||ownHas 3 (.int .i64) (optOwn (nat_lit 3) (.int .i64) left) ((0:Nat)+left.length-(1:Nat)))=true from(by simp only [Nat.zero_add]<;>exact(show(Nat.beq left.length (0:Nat)||ownHas 3 (.int .i64) (optOwn (nat_lit 3) (.int .i64) left) (left.length-(1:Nat)))=true from h1))) (an (show(okZip (List.take left.length (List.drop (0:Nat) (blkXs (.int .i64) (optOwn (nat_lit 3) (.int .i64) left)))) b)=true from(by simp only [blkXs_optOwn]<;>exact(show(okZip (List.take left.length (List.drop (0:Nat) left)) b)=true from h2))) (show(zipI (List.take left.length (List.drop (0:Nat) (blkXs (.int .i64) (optOwn (nat_lit 3) (.int .i64) left)))) b)=(zipI (List.take left.length (List.drop (0:Nat) left)) b)from(by simp only [blkXs_optOwn]<;>rfl))))
theorem rnCs_ok:CallOk Tryz.prog (gS rnCs):=gctrs_ok (fun c hc=>by
 simp only [List.mem_cons,List.not_mem_nil,or_false]at hc
 obtain rfl:=hc
 exact cRp_ok) (ctrs_ok fun c hc=>by
 simp only [List.mem_cons,List.not_mem_nil,or_false]at hc
 rcases hc with rfl |rfl
 ·exact cRi_ok
 ·exact cRw_ok)
theorem insAll_snoc (l:List Int) (x:Int):insAll (l++[x])=insL (insAll l) x:=by unfold insAll;rw [List.foldl_append];rfl
theorem insAll_len (l:List Int):(insAll l).length=l.length:=by
 have key:∀(l s:List Int),(l.foldl insL s).length=s.length+l.length:=by
  have one:∀(s:List Int) (x:Int),(insL s x).length=s.length+1:=fun s x=>by
   induction s with
   |nil=>rfl
   |cons a r ih=>unfold insL;split<;>simp [ih]
  intro l
  induction l with
  |nil=>intro s;simp
  |cons a r ih=>intro s;rw [List.foldl_cons,ih,one];simp;omega
 unfold insAll
 rw [key];simp
def nrmR (t:List (Int×Int)):List (Int×Int):=zipI (cancel (insAll (t.map Prod.fst)) (insAll (t.map Prod.snd))).1 (cancel (insAll (t.map Prod.fst)) (insAll (t.map Prod.snd))).2
theorem rn_holds (t:List (Int×Int)) (hl:t.length≤100):Holds Tryz.prog false 14 [pl t] (pl (nrmR t)):=by
 have hS:=rnCs_ok
 refine holds_fl (c:=BRn) Tryz.func14 rfl rfl fun w F=> ?_
 refine GoalL.to known mixed hS 3 _ (rn_start t) (by kernel_rfl) ?_
 refine GoalL.loop (ι:={k:Nat//k≤t.length}) (id:=0) (b:=cat BRn rnA) (rest:=List.drop 4 (fl BRn [])) (by kernel_rfl) (fun k=>SNr t (insAll ((t.take k.1).map Prod.fst)) (insAll ((t.take k.1).map Prod.snd)) k.1) (fun k=>t.length-k.1) ⟨0,Nat.zero_le _⟩ (fun _=>rfl) ?_
 rintro⟨k,hk⟩
 have hk:k≤t.length:=hk
 by_cases hlt:k<t.length
 ·have e1:insAll ((t.take (k+1)).map Prod.fst)=insL (insAll ((t.take k).map Prod.fst)) (g0 t k).1:=by rw [←insAll_snoc,List.take_succ_eq_append_getElem hlt,g0_get hlt,List.map_append];rfl
  have e2:insAll ((t.take (k+1)).map Prod.snd)=insL (insAll ((t.take k).map Prod.snd)) (g0 t k).2:=by rw [←insAll_snoc,List.take_succ_eq_append_getElem hlt,g0_get hlt,List.map_append];rfl
  refine GoalL.all (s:=SNr t (insAll ((t.take k).map Prod.fst)) (insAll ((t.take k).map Prod.snd)) k) known mixed hS _ (rn_a t _ _ k (by omega) hlt (by rw [insAll_len];simp;omega) (by rw [insAll_len];simp;omega) (by omega)) (by kernel_rfl) ?_
  refine⟨⟨k+1,hlt⟩,by show t.length-(k+1)<t.length-k;omega, ?_⟩
  show _=(SNr t (insAll ((t.take (k+1)).map Prod.fst)) (insAll ((t.take (k+1)).map Prod.snd)) (k+1)).T∧_=(SNr t (insAll ((t.take (k+1)).map Prod.fst)) (insAll ((t.take (k+1)).map Prod.snd)) (k+1)).H
  rw [e1,e2]
  exact⟨rfl,rfl⟩
 ·refine GoalL.all (s:=SNr t (insAll ((t.take k).map Prod.fst)) (insAll ((t.take k).map Prod.snd)) k) known mixed hS _ (rn_ae t _ _ k (by omega)) (by kernel_rfl) ?_
  refine onN_exit (inB_exit ?_)
  obtain rfl:k=t.length:=by omega
  rw [List.take_length]
  have la:(insAll (t.map Prod.fst)).length≤100:=by rw [insAll_len];simp;omega
  have lb:(insAll (t.map Prod.snd)).length≤100:=by rw [insAll_len];simp;omega
  have hlR:=cancel_len (insAll (t.map Prod.fst)) (insAll (t.map Prod.snd))
  have lab:(insAll (t.map Prod.fst)).length=(insAll (t.map Prod.snd)).length:=by rw [insAll_len,insAll_len];simp
  have hres:nrmR t=zipI (cancel (insAll (t.map Prod.fst)) (insAll (t.map Prod.snd))).1 (cancel (insAll (t.map Prod.fst)) (insAll (t.map Prod.snd))).2:=rfl
  rw [hres]
  generalize insAll (t.map Prod.fst)=a at*
  generalize insAll (t.map Prod.snd)=b0 at*
  obtain⟨R,hR⟩:∃R,cancel a b0=R:=⟨_,rfl⟩
  rw [hR]at hlR ⊢
  refine GoalL.st (s:=SNr t a b0 t.length) (s':=SNs a b0 [] 0) known mixed hS 1 _ (rn_mid t a b0 t.length) (by kernel_rfl) ?_
  refine GoalL.loop (ι:={s:List Int×List Int×Nat//s.2.2≤a.length∧s.2.1.length≤100∧s.1.length≤s.2.2∧s.1++(cancel (a.drop s.2.2) s.2.1).1=R.1∧(cancel (a.drop s.2.2) s.2.1).2=R.2}) (id:=2) (b:=cat BRn rnB) (rest:=List.drop 6 (fl BRn [])) (by kernel_rfl) (fun s=>SNs a s.1.2.1 s.1.1 s.1.2.2) (fun s=>a.length-s.1.2.2)
   ⟨([],b0,0),Nat.zero_le _,lb,Nat.le_refl _,by simp [hR],by simp [hR]⟩ (fun _=>rfl) ?_
  rintro⟨⟨left,b,k⟩,a1,a2,a3,a4,a5⟩
  have a1:k≤a.length:=a1
  have a2:b.length≤100:=a2
  have a3:left.length≤k:=a3
  have a4:left++(cancel (a.drop k) b).1=R.1:=a4
  have a5:(cancel (a.drop k) b).2=R.2:=a5
  by_cases hlt:k<a.length
  ·rw [drop_c5 hlt]at a4 a5
   unfold cancel at a4 a5
   by_cases hin:a.getD k 0∈b
   ·rw [if_pos hin]at a4 a5
    have ew:woA b (a.getD k 0)=b.erase (a.getD k 0):=if_pos hin
    rw [←ew]at a4 a5
    refine GoalL.all (s:=SNs a b left k) known mixed hS _ (rn_b1 a b left k (by omega) hlt (show b.length≤1000 by omega) (decide_eq_true hin) (by omega)) (by kernel_rfl) ?_
    exact⟨⟨(left,woA b (a.getD k 0),k+1),hlt,by show(woA _ _).length≤100;rw [ew];exact Nat.le_trans (List.length_erase_le ..) a2,by show left.length≤k+1;omega,a4,a5⟩,by show a.length-(k+1)<a.length-k;omega,rfl,rfl⟩
   ·rw [if_neg hin]at a4 a5
    refine GoalL.all (s:=SNs a b left k) known mixed hS _ (rn_b2 a b left k (by omega) hlt (show b.length≤1000 by omega) (decide_eq_false hin) (by omega) (by omega) (len_sn _ _) (cap_sn _ _)) (by kernel_rfl) ?_
    exact⟨⟨(left++[a.getD k 0],b,k+1),hlt,a2,by show(left++[_]).length≤k+1;simp;omega,by show(left++[_])++_=_;rw [List.append_assoc];exact a4,a5⟩,by show a.length-(k+1)<a.length-k;omega,rfl,rfl⟩
  ·refine GoalL.all (s:=SNs a b left k) known mixed hS _ (rn_be a b left k (by omega)) (by kernel_rfl) ?_
   refine onN_exit (inB_exit ?_)
   obtain rfl:k=a.length:=by omega
   rw [List.drop_length]at a4 a5
   have a4:left++[]=R.1:=a4
   have a5:b=R.2:=a5
   rw [List.append_nil]at a4
   have key:=rn_fin a b left a.length
   rw [←lst_bk]at key
   rw [←a4,←a5]
   rw [←a4,←a5]at hlR
   refine GoalL.allRet (s:=SNs a b left a.length) known mixed hS _ (key ?_ ?_) fun T H h=>h
   ·rcases own_bk 3 (.int .i64) left with h|h
    ·rw [h];rfl
    ·rw [Nat.zero_add]at h;rw [h,Bool.or_true]
   ·show(decide (left.length≤b.length)&&decide (left.length≤1000))=true
    rw [decide_eq_true (by omega),decide_eq_true (by omega)];rfl
noncomputable def cRn:Ctr:={f:=14,ps:=[.list false tP2],rs:=[.list false tP2],fresh:=false,pre:=fun d=>decide (List.length (α:=Int×Int) d.1≤100),fn:=fun d=>(nrmR d.1,())}
theorem cRn_ok:cRn.Ok Tryz.prog:=fun⟨t,_⟩ h=>rn_holds t (of_decide_eq_true h)
end
end Go.Proofs.YtjcbbabaabcdgaaGreatDoor
/- The reference of chapter 1: slash, value, decimal. -/
namespace Go.Proofs.YtjcbbabaabcdgaaGreatDoor
open Go.RowKit Sv
set_option maxRecDepth 100000
set_option linter.unusedVariables false
set_option linter.unusedSimpArgs false
noncomputable section
noncomputable def BSls:Code:=(Tryz.f73.body).getD .skip
noncomputable def BVal:Code:=(Tryz.f125.body).getD .skip
def SSls (s:ByteArray) (k:Nat):St:={n:=17,sl:=[(0,sv s),(3,iv k)],en:=[],next:=64}
def SVal (s:ByteArray) (n:Int) (k:Nat):St:={n:=20,sl:=[(0,sv s),(3,iv n),(4,iv k)],en:=[],next:=64}
abbrev bsL (s:ByteArray):List UInt8:=s.data.toList
abbrev sb0 (s:ByteArray) (k:Nat):UInt8:=(bsL s).getD k 0
theorem sl_start (s:ByteArray):
  Tst.path (vrun0 Tryz.prog (ctrs []) (fl BSls []) 2 17 [sv s]) [] (toSt Tryz.prog 17 .normal [] (SSls s 0)):=
 mp (an (rr s) (an (rr ((0:Int))) trivial))
theorem sl_hit (s:ByteArray) (k:Nat) (h1:(↑k:Int)<(↑s.size:Int)) (h2:k<s.size) (h3:(↑(UInt8.toNat (List.getD (Array.toList (ByteArray.data s)) k (0:UInt8))):Int)=47):
  Tst.path (vall Tryz.prog (ctrs []) (fl BSls [1,0,1,0,0]) (SSls s k)) [true,true] (toRet Tryz.prog Tryz.f73 true (iv k)):=
 mp (an (decide_eq_true h1) (an (show(decide ((0:Int)≤(↑k:Int)))=true from decide_eq_true (by omega)) (an (decide_eq_true h2) (an (beq_iff_eq.mpr h3) (rr ((↑k:Int)))))))
theorem sl_go (s:ByteArray) (k:Nat) (h1:(↑k:Int)<(↑s.size:Int)) (h2:k<s.size) (h3:¬(↑(UInt8.toNat (List.getD (Array.toList (ByteArray.data s)) k (0:UInt8))):Int)=47) (h4: -9223372036854775808≤(↑k:Int)+1∧(↑k:Int)+1≤9223372036854775807):
  Tst.path (vall Tryz.prog (ctrs []) (fl BSls [1,0,1,0,0]) (SSls s k)) [true,false] (toSt Tryz.prog 17 .normal [] (SSls s (k+1))):=
 mp (an (decide_eq_true h1) (an (show(decide ((0:Int)≤(↑k:Int)))=true from decide_eq_true (by omega)) (an (decide_eq_true h2) (an (beq_eq_false_iff_ne.mpr h3) (an (fits_i64 h4) (an (rr s) (an (show((↑k:Int)+1)=((↑(k+(1:Nat)):Int))from(by omega)) trivial)))))))
theorem sl_end (s:ByteArray) (k:Nat) (h1:¬(↑k:Int)<(↑s.size:Int)):
  Tst.path (vall Tryz.prog (ctrs []) (fl BSls [1,0,1,0,0]) (SSls s k)) [false] (toSt Tryz.prog 17 (.exit 0) [] (SSls s k)):=
 mp (an (decide_eq_false h1) (an (rr s) (an (rr ((↑k:Int))) trivial)))
theorem sl_fin (s:ByteArray) (k:Nat):
  Tst.path (vall Tryz.prog (ctrs []) (List.drop 3 (fl BSls [])) (SSls s k)) [] (toRet Tryz.prog Tryz.f73 true (iv s.size)):=
 mp (rr ((↑s.size:Int)))
theorem vl_start (s:ByteArray):
  Tst.path (vrun0 Tryz.prog (ctrs []) (fl BVal []) 3 20 [sv s]) [] (toSt Tryz.prog 20 .normal [] (SVal s 0 0)):=
 mp (an (rr s) (an (rr ((0:Int))) (an (rr ((0:Int))) trivial)))
theorem vl_go (s:ByteArray) (n:Int) (k:Nat) (h1:(↑k:Int)<(↑s.size:Int)) (h2: -9223372036854775808≤10*n∧(10:Int)*n≤9223372036854775807) (h3:k<s.size) (h4: -9223372036854775808≤10*n+IntKind.wrap IntKind.i64 (↑(UInt8.toNat (List.getD (Array.toList (ByteArray.data s)) k (0:UInt8))):Int)∧(10:Int)*n+IntKind.wrap IntKind.i64 (↑(UInt8.toNat (List.getD (Array.toList (ByteArray.data s)) k (0:UInt8))):Int)≤9223372036854775807) (h5: -9223372036854775808≤10*n+IntKind.wrap IntKind.i64 (↑(UInt8.toNat (List.getD (Array.toList (ByteArray.data s)) k (0:UInt8))):Int)-48∧(10:Int)*n+IntKind.wrap IntKind.i64 (↑(UInt8.toNat (List.getD (Array.toList (ByteArray.data s)) k (0:UInt8))):Int)-48≤9223372036854775807) (h6: -9223372036854775808≤(↑k:Int)+1∧(↑k:Int)+1≤9223372036854775807):
  Tst.path (vall Tryz.prog (ctrs []) (fl BVal [1,1,0,1,0,0]) (SVal s n k)) [true] (toSt Tryz.prog 20 .normal [] (SVal s (10*n+IntKind.i64.wrap (sb0 s k).toNat-48) (k+1))):=
 mp (an (decide_eq_true h1) (an (fits_i64 h2) (an (show(decide ((0:Int)≤(↑k:Int)))=true from decide_eq_true (by omega)) (an (decide_eq_true h3) (an (fits_i64 h4) (an (fits_i64 h5) (an (fits_i64 h6) (an (rr s) (an (rr ((10:Int)*n+IntKind.wrap IntKind.i64 (↑(UInt8.toNat (List.getD (Array.toList (ByteArray.data s)) k (0:UInt8))):Int)-48)) (an (show((↑k:Int)+1)=((↑(k+(1:Nat)):Int))from(by omega)) trivial))))))))))
theorem vl_end (s:ByteArray) (n:Int) (k:Nat) (h1:¬(↑k:Int)<(↑s.size:Int)):
  Tst.path (vall Tryz.prog (ctrs []) (fl BVal [1,1,0,1,0,0]) (SVal s n k)) [false] (toSt Tryz.prog 20 (.exit 0) [] (SVal s n k)):=
 mp (an (decide_eq_false h1) (an (rr s) (an (rr n) (an (rr ((↑k:Int))) trivial))))
theorem vl_fin (s:ByteArray) (n:Int) (k:Nat):
  Tst.path (vall Tryz.prog (ctrs []) (List.drop 4 (fl BVal [])) (SVal s n k)) [] (toRet Tryz.prog Tryz.f125 true (iv n)):=
 mp (rr n)
def slAt:List UInt8→Nat
 |[]=>0
 |b::r=>if b.toNat=47 then 0 else slAt r+1
theorem size_bs (s:ByteArray):s.size=(bsL s).length:=by cases s;rfl
theorem getD_u {l:List UInt8} {k:Nat} (h:k<l.length):l.getD k 0=l[k]:=by simp [List.getD_eq_getElem?_getD,h]
theorem take_u {l:List UInt8} {k:Nat} (h:k<l.length):l.take (k+1)=l.take k++[l.getD k 0]:=by rw [getD_u h];simp
theorem sb0_get {s:ByteArray} {k:Nat} (h:k<(bsL s).length):sb0 s k=(bsL s)[k]:=getD_u h
theorem sl_holds (s:ByteArray) (hl:s.size≤1000000000):Holds Tryz.prog true 73 [sv s] (iv (slAt (bsL s))):=by
 have hS:=none_ok
 have hz:=size_bs s
 obtain⟨r,hr⟩:∃r,slAt (bsL s)=r:=⟨_,rfl⟩
 rw [hr]
 refine holds_fl (c:=BSls) Tryz.func73 rfl rfl fun w F=> ?_
 refine GoalL.to known mixed hS 2 _ (sl_start s) (by kernel_rfl) ?_
 refine GoalL.loop (ι:={k:Nat//k≤s.size∧slAt ((bsL s).drop k)+k=r}) (id:=0) (b:=cat BSls [1,0,1,0,0]) (rest:=List.drop 3 (fl BSls [])) (by kernel_rfl) (fun k=>SSls s k.1) (fun k=>s.size-k.1) ⟨0,Nat.zero_le _,hr⟩ (fun _=>rfl) ?_
 rintro⟨k,hk,hx⟩
 have hx:slAt ((bsL s).drop k)+k=r:=hx
 by_cases hlt:k<s.size
 ·have hlt2:k<(bsL s).length:=by omega
  rw [List.drop_eq_getElem_cons hlt2,slAt,←sb0_get hlt2]at hx
  by_cases c:(sb0 s k).toNat=47
  ·rw [if_pos c,Nat.zero_add]at hx
   exact GoalL.allRet (s:=SSls s k) known mixed hS _ (sl_hit s k (by omega) (by omega) (by show((sb0 s k).toNat:Int)=47;omega)) fun T H h=>hx ▸ h
  ·rw [if_neg c]at hx
   refine GoalL.all (s:=SSls s k) known mixed hS _ (sl_go s k (by omega) (by omega) (by show¬((sb0 s k).toNat:Int)=47;omega) (by omega)) (by kernel_rfl) ?_
   exact⟨⟨k+1,hlt,by omega⟩,by simp;omega,rfl,rfl⟩
 ·refine GoalL.all (s:=SSls s k) known mixed hS _ (sl_end s k (by omega)) (by kernel_rfl) ?_
  refine onN_exit (inB_exit ?_)
  obtain rfl:k=s.size:=by omega
  rw [List.drop_eq_nil_of_le (by omega),slAt,Nat.zero_add]at hx
  exact GoalL.allRet (s:=SSls s s.size) known mixed hS _ (sl_fin s _) fun T H h=>hx ▸ h
def valD:List UInt8→Int
 |l=>l.foldl (fun n b=>10*n+((b.toNat:Int)-48)) 0
def digB (l:List UInt8):Bool:=l.all fun b=>decide (48≤b.toNat)&&decide (b.toNat≤57)
theorem valD_next {s:ByteArray} {k:Nat} (h:k<(bsL s).length):valD ((bsL s).take (k+1))=10*valD ((bsL s).take k)+(((sb0 s k).toNat:Int)-48):=by
 rw [take_u h]
 unfold valD
 rw [List.foldl_append];rfl
theorem valD_in {s:ByteArray} (hd:digB (bsL s)=true):∀k,k≤(bsL s).length→0≤valD ((bsL s).take k)∧valD ((bsL s).take k)<10^k
 |0,_=>by rw [List.take_zero];decide
 |k+1,h=>by
  have ih:=valD_in hd k (by omega)
  have hb:=List.all_eq_true.1 hd (sb0 s k) (by rw [sb0_get (by omega)];exact List.getElem_mem _)
  rw [Bool.and_eq_true,decide_eq_true_eq,decide_eq_true_eq]at hb
  rw [valD_next (by omega),Int.pow_succ]
  omega
theorem pow_le18 {k:Nat} (h:k≤18):(10:Int)^k≤1000000000000000000:=by
 have:(10:Nat)^k≤10^18:=Nat.pow_le_pow_right (by decide) h
 have h2:((10^k:Nat):Int)≤((10^18:Nat):Int):=Int.ofNat_le.2 this
 simpa using h2
theorem vl_holds (s:ByteArray) (hl:s.size≤17) (hd:digB (bsL s)=true):Holds Tryz.prog true 125 [sv s] (iv (valD (bsL s))):=by
 have hS:=none_ok
 have hz:=size_bs s
 refine holds_fl (c:=BVal) Tryz.func125 rfl rfl fun w F=> ?_
 refine GoalL.to known mixed hS 3 _ (vl_start s) (by kernel_rfl) ?_
 refine GoalL.loop (ι:={k:Nat//k≤s.size}) (id:=0) (b:=cat BVal [1,1,0,1,0,0]) (rest:=List.drop 4 (fl BVal [])) (by kernel_rfl) (fun k=>SVal s (valD ((bsL s).take k.1)) k.1) (fun k=>s.size-k.1) ⟨0,Nat.zero_le _⟩ (fun _=>rfl) ?_
 rintro⟨k,hk⟩
 have hin:=valD_in hd k (by omega)
 have hp:=pow_le18 (k:=k) (by omega)
 by_cases hlt:k<s.size
 ·have hlt2:k<(bsL s).length:=by omega
  have hb:=List.all_eq_true.1 hd (sb0 s k) (by rw [sb0_get hlt2];exact List.getElem_mem _)
  rw [Bool.and_eq_true,decide_eq_true_eq,decide_eq_true_eq]at hb
  have hin2:=valD_in hd (k+1) (by omega)
  have hp2:=pow_le18 (k:=k+1) (by omega)
  have hn:=valD_next hlt2
  have hw:IntKind.i64.wrap ((sb0 s k).toNat:Int)=((sb0 s k).toNat:Int):=IntWalk.i64_in _ (by omega)
  have e:10*valD ((bsL s).take k)+IntKind.i64.wrap ((sb0 s k).toNat:Int)-48=valD ((bsL s).take (k+1)):=by rw [hw,hn];omega
  refine GoalL.all (s:=SVal s (valD ((bsL s).take k)) k) known mixed hS _ (vl_go s _ k (by omega) (by omega) (by omega) (by show-9223372036854775808≤10*valD ((bsL s).take k)+IntKind.i64.wrap ((sb0 s k).toNat:Int)∧10*valD ((bsL s).take k)+IntKind.i64.wrap ((sb0 s k).toNat:Int)≤9223372036854775807;rw [hw];omega) (by show-9223372036854775808≤10*valD ((bsL s).take k)+IntKind.i64.wrap ((sb0 s k).toNat:Int)-48∧10*valD ((bsL s).take k)+IntKind.i64.wrap ((sb0 s k).toNat:Int)-48≤9223372036854775807;rw [hw];omega) (by omega)) (by kernel_rfl) ?_
  rw [e]
  exact⟨⟨k+1,hlt⟩,by simp;omega,rfl,rfl⟩
 ·refine GoalL.all (s:=SVal s (valD ((bsL s).take k)) k) known mixed hS _ (vl_end s _ k (by omega)) (by kernel_rfl) ?_
  refine onN_exit (inB_exit ?_)
  obtain rfl:k=s.size:=by omega
  rw [List.take_of_length_le (by omega)]
  exact GoalL.allRet (s:=SVal s _ s.size) known mixed hS _ (vl_fin s _ _) fun T H h=>h
noncomputable def cSl:Ctr:={f:=73,ps:=[.str],rs:=[.int .i64],fresh:=true,pre:=fun d=>decide (ByteArray.size d.1≤1000000000),fn:=fun d=>(((slAt (bsL d.1):Nat):Int),())}
noncomputable def cVl:Ctr:={f:=125,ps:=[.str],rs:=[.int .i64],fresh:=true,pre:=fun d=>decide (ByteArray.size d.1≤17)&&digB (bsL d.1),fn:=fun d=>(valD (bsL d.1),())}
theorem cSl_ok:cSl.Ok Tryz.prog:=fun⟨s,_⟩ h=>sl_holds s (of_decide_eq_true h)
theorem cVl_ok:cVl.Ok Tryz.prog:=fun⟨s,_⟩ h=>by
 have h:(decide (s.size≤17)&&digB (bsL s))=true:=h
 rw [Bool.and_eq_true,decide_eq_true_eq]at h
 exact vl_holds s h.1 h.2
end
end Go.Proofs.YtjcbbabaabcdgaaGreatDoor
/- The reference of chapter 1: Sign, Num, Den, Abs, Large. -/
namespace Go.Proofs.YtjcbbabaabcdgaaGreatDoor
open Go.RowKit Sv
set_option maxRecDepth 100000
set_option linter.unusedVariables false
set_option linter.unusedSimpArgs false
noncomputable section
noncomputable def BSg:Code:=(Tryz.f25.body).getD .skip
noncomputable def BNu:Code:=(Tryz.f112.body).getD .skip
noncomputable def BDe:Code:=(Tryz.f113.body).getD .skip
noncomputable def BAb:Code:=(Tryz.f111.body).getD .skip
noncomputable def BLg:Code:=(Tryz.f51.body).getD .skip
abbrev b49:ByteArray:=ByteArray.mk #[49]
set_option pp.structureInstances false
theorem sg_0 (s:ByteArray) (h1:Array.toList (ByteArray.data s)=Array.toList (ByteArray.data (ByteArray.mk #[(48:UInt8)]))):
  Tst.path (vrun0 Tryz.prog (ctrs []) (fl BSg []) 9 13 [sv s]) [true] (toRet Tryz.prog Tryz.f25 true (iv 0)):=
 mp (an (decide_eq_true h1) (rr ((0:Int))))
theorem sg_m (s:ByteArray) (h1:¬Array.toList (ByteArray.data s)=Array.toList (ByteArray.data (ByteArray.mk #[(48:UInt8)]))) (h2:(↑s.size:Int)>0) (h3:Int.toNat (0:Int)<s.size) (h4:(↑(UInt8.toNat (List.getD (Array.toList (ByteArray.data s)) (Int.toNat (0:Int)) (0:UInt8))):Int)=45):
  Tst.path (vrun0 Tryz.prog (ctrs []) (fl BSg []) 9 13 [sv s]) [false,true,true,true,true,true] (toRet Tryz.prog Tryz.f25 true (iv (-1))):=
 mp (an (decide_eq_false h1) (an (bT (decide_eq_true h2)) (an (bT (decide_eq_true h2)) (an rt (an (decide_eq_true h3) (an (bT (decide_eq_true h2)) (an (decide_eq_true h2) (an (beq_iff_eq.mpr h4) (rr ((-1:Int)))))))))))
theorem sg_p (s:ByteArray) (h1:¬Array.toList (ByteArray.data s)=Array.toList (ByteArray.data (ByteArray.mk #[(48:UInt8)]))) (h2:(↑s.size:Int)>0) (h3:Int.toNat (0:Int)<s.size) (h4:¬(↑(UInt8.toNat (List.getD (Array.toList (ByteArray.data s)) (Int.toNat (0:Int)) (0:UInt8))):Int)=45):
  Tst.path (vrun0 Tryz.prog (ctrs []) (fl BSg []) 9 13 [sv s]) [false,true,true,true,true,false] (toRet Tryz.prog Tryz.f25 true (iv 1)):=
 mp (an (decide_eq_false h1) (an (bT (decide_eq_true h2)) (an (bT (decide_eq_true h2)) (an rt (an (decide_eq_true h3) (an (bT (decide_eq_true h2)) (an (decide_eq_true h2) (an (beq_eq_false_iff_ne.mpr h4) (rr ((1:Int)))))))))))
theorem sg_e (s:ByteArray) (h1:¬Array.toList (ByteArray.data s)=Array.toList (ByteArray.data (ByteArray.mk #[(48:UInt8)]))) (h2:¬(↑s.size:Int)>0):
  Tst.path (vrun0 Tryz.prog (ctrs []) (fl BSg []) 9 13 [sv s]) [false,false,false,false,false,false] (toRet Tryz.prog Tryz.f25 true (iv 1)):=
 mp (an (decide_eq_false h1) (an (bT (decide_eq_false h2)) (an (bT (decide_eq_false h2)) (an (bT (decide_eq_false h2)) (an (decide_eq_false h2) (an rf (rr ((1:Int)))))))))
def sgnT (s:ByteArray):Int:=if s=ByteArray.mk #[48]then 0 else if 0<s.size∧(sb0 s 0).toNat=45 then-1 else 1
theorem ba_eq {a b:ByteArray} (h:a.data.toList=b.data.toList):a=b:=by
 cases a;cases b;simp at h;rw [h]
theorem sg_holds (s:ByteArray):Holds Tryz.prog true 25 [sv s] (iv (sgnT s)):=by
 have hS:=none_ok
 refine holds_fl (c:=BSg) Tryz.func25 rfl rfl fun w F=> ?_
 unfold sgnT
 by_cases h0:s=ByteArray.mk #[48]
 ·rw [if_pos h0]
  exact GoalL.ret known mixed hS 9 _ (sg_0 s (congrArg bsL h0)) fun T H h=>h
 ·rw [if_neg h0]
  by_cases h1:0<s.size
  ·by_cases h2:(sb0 s 0).toNat=45
   ·rw [if_pos ⟨h1,h2⟩]
    exact GoalL.ret known mixed hS 9 _ (sg_m s (fun h=>h0 (ba_eq h)) (by omega) (by omega) (by show((sb0 s 0).toNat:Int)=45;omega)) fun T H h=>h
   ·rw [if_neg fun h=>h2 h.2]
    exact GoalL.ret known mixed hS 9 _ (sg_p s (fun h=>h0 (ba_eq h)) (by omega) (by omega) (by show¬((sb0 s 0).toNat:Int)=45;omega)) fun T H h=>h
  ·rw [if_neg fun h=>h1 h.1]
   exact GoalL.ret known mixed hS 9 _ (sg_e s (fun h=>h0 (ba_eq h)) (by omega)) fun T H h=>h
noncomputable def cSg:Ctr:={f:=25,ps:=[.str],rs:=[.int .i64],fresh:=true,pre:=fun d=>true,fn:=fun d=>(sgnT d.1,())}
noncomputable def slCs:VCaller:=ctrs [cSl]
noncomputable def abCs:VCaller:=ctrs [cSg]
def numT (s:ByteArray):ByteArray:=s.extract 0 (slAt (bsL s))
def denT (s:ByteArray):ByteArray:=if slAt (bsL s)=s.size then ByteArray.mk #[49]else s.extract (slAt (bsL s)+1) s.size
def absT (s:ByteArray):ByteArray:=if sgnT s<0 then s.extract 1 s.size else s
theorem nu_all (s:ByteArray) (h1:s.size≤(1000000000:Nat)) (h2:slAt (Array.toList (ByteArray.data s))≤s.size):
  Tst.path (vrun0 Tryz.prog slCs (fl BNu []) 9 7 [sv s]) [] (toRet Tryz.prog Tryz.f112 true (sv (s.extract 0 (slAt (bsL s))))):=
 mp (an (decide_eq_true h1) (an (show(decide ((0:Int)≤(↑(slAt (Array.toList (ByteArray.data s))):Int)))=true from decide_eq_true (by omega)) (an (show(decide ((0:Nat)≤slAt (Array.toList (ByteArray.data s))))=true from decide_eq_true (by omega)) (an (decide_eq_true h2) (rr (ByteArray.extract s (0:Nat) (slAt (Array.toList (ByteArray.data s)))))))))
theorem de_1 (s:ByteArray) (h1:s.size≤(1000000000:Nat)) (h2:(↑(slAt (Array.toList (ByteArray.data s))):Int)=(↑s.size:Int)):
  Tst.path (vrun0 Tryz.prog slCs (fl BDe []) 9 14 [sv s]) [true] (toRet Tryz.prog Tryz.f113 true (sv b49)):=
 mp (an (decide_eq_true h1) (an (beq_iff_eq.mpr h2) (rr (ByteArray.mk #[(49:UInt8)]))))
theorem de_d (s:ByteArray) (h1:s.size≤(1000000000:Nat)) (h2:¬(↑(slAt (Array.toList (ByteArray.data s))):Int)=(↑s.size:Int)) (h3: -9223372036854775808≤(↑(slAt (Array.toList (ByteArray.data s))):Int)+1∧(↑(slAt (Array.toList (ByteArray.data s))):Int)+1≤9223372036854775807) (h4:Int.toNat ((↑(slAt (Array.toList (ByteArray.data s))):Int)+1)≤s.size) (h5:(ByteArray.extract s (Int.toNat ((↑(slAt (Array.toList (ByteArray.data s))):Int)+1)) s.size)=(ByteArray.extract s (slAt (Array.toList (ByteArray.data s))+(1:Nat)) s.size)):
  Tst.path (vrun0 Tryz.prog slCs (fl BDe []) 9 14 [sv s]) [false] (toRet Tryz.prog Tryz.f113 true (sv (s.extract (slAt (bsL s)+1) s.size))):=
 mp (an (decide_eq_true h1) (an (beq_eq_false_iff_ne.mpr h2) (an (fits_i64 h3) (an (show(decide ((0:Int)≤(↑(slAt (Array.toList (ByteArray.data s))):Int)+1))=true from decide_eq_true (by omega)) (an (decide_eq_true h4) (an (show(decide (s.size≤s.size))=true from decide_eq_true (by omega)) h5))))))
theorem ab_m (s:ByteArray) (h1:sgnT s<0) (h2:Int.toNat (1:Int)≤s.size) (h3:(ByteArray.extract s (Int.toNat (1:Int)) s.size)=(ByteArray.extract s (1:Nat) s.size)):
  Tst.path (vrun0 Tryz.prog abCs (fl BAb []) 9 9 [sv s]) [true] (toRet Tryz.prog Tryz.f111 true (sv (s.extract 1 s.size))):=
 mp (an rt (an (decide_eq_true h1) (an rt (an (decide_eq_true h2) (an (show(decide (s.size≤s.size))=true from decide_eq_true (by omega)) h3)))))
theorem ab_p (s:ByteArray) (h1:¬sgnT s<0):
  Tst.path (vrun0 Tryz.prog abCs (fl BAb []) 9 9 [sv s]) [false] (toRet Tryz.prog Tryz.f111 true (sv s)):=
 mp (an rt (an (decide_eq_false h1) (rr s)))
theorem cSg_ok:cSg.Ok Tryz.prog:=fun⟨s,_⟩ _=>sg_holds s
theorem slCs_ok:CallOk Tryz.prog (gS slCs):=one_ok cSl_ok
theorem abCs_ok:CallOk Tryz.prog (gS abCs):=one_ok cSg_ok
theorem slA_le:∀l:List UInt8,slAt l≤l.length
 |[]=>Nat.le_refl _
 |b::r=>by
  have:=slA_le r
  unfold slAt
  split
  ·exact Nat.zero_le _
  ·simp;omega
theorem sl_le (s:ByteArray):slAt (bsL s)≤s.size:=by rw [size_bs];exact slA_le _
noncomputable def cNu:Ctr:={f:=112,ps:=[.str],rs:=[.str],fresh:=true,pre:=fun d=>decide (ByteArray.size d.1≤1000000000),fn:=fun d=>(numT d.1,())}
noncomputable def cDe:Ctr:={f:=113,ps:=[.str],rs:=[.str],fresh:=true,pre:=fun d=>decide (ByteArray.size d.1≤1000000000),fn:=fun d=>(denT d.1,())}
noncomputable def cAb:Ctr:={f:=111,ps:=[.str],rs:=[.str],fresh:=true,pre:=fun d=>true,fn:=fun d=>(absT d.1,())}
noncomputable def lgCs:VCaller:=ctrs [cNu,cDe,cAb]
theorem lg_1 (s:ByteArray) (h1:s.size≤(1000000000:Nat)) (h2:(↑(absT (numT s)).size:Int)>600):
  Tst.path (vrun0 Tryz.prog lgCs (fl BLg []) 9 14 [sv s]) [false,false,false,false,true,true] (toRet Tryz.prog Tryz.f51 true (iv 4)):=
 mp (an (decide_eq_true h1) (an rt (an (bF (decide_eq_true h2)) (an (bF (decide_eq_true h2)) (an (bF (decide_eq_true h2)) (an (bF (decide_eq_true h2)) (an (decide_eq_true h2) (an rt (rr ((4:Int)))))))))))
theorem lg_2 (s:ByteArray) (h1:s.size≤(1000000000:Nat)) (h2:¬(↑(absT (numT s)).size:Int)>600) (h3:(↑(denT s).size:Int)>600):
  Tst.path (vrun0 Tryz.prog lgCs (fl BLg []) 9 14 [sv s]) [true,true,true,true,false,true] (toRet Tryz.prog Tryz.f51 true (iv 4)):=
 mp (an (decide_eq_true h1) (an rt (an (bF (decide_eq_false h2)) (an (bF (decide_eq_false h2)) (an (decide_eq_true h1) (an (bF (decide_eq_false h2)) (an (bF (decide_eq_false h2)) (an (decide_eq_false h2) (an (decide_eq_true h3) (rr ((4:Int))))))))))))
theorem lg_0 (s:ByteArray) (h1:s.size≤(1000000000:Nat)) (h2:¬(↑(absT (numT s)).size:Int)>600) (h3:¬(↑(denT s).size:Int)>600):
  Tst.path (vrun0 Tryz.prog lgCs (fl BLg []) 9 14 [sv s]) [true,true,true,true,false,false] (toRet Tryz.prog Tryz.f51 true (iv 0)):=
 mp (an (decide_eq_true h1) (an rt (an (bF (decide_eq_false h2)) (an (bF (decide_eq_false h2)) (an (decide_eq_true h1) (an (bF (decide_eq_false h2)) (an (bF (decide_eq_false h2)) (an (decide_eq_false h2) (an (decide_eq_false h3) (rr ((0:Int))))))))))))
def largT (s:ByteArray):Int:=if 600<(absT (numT s)).size∨600<(denT s).size then 4 else 0
theorem cNu_ok:cNu.Ok Tryz.prog:=fun⟨s,_⟩ h=>by
 have hz:=of_decide_eq_true h
 refine holds_fl (c:=BNu) Tryz.func112 rfl rfl fun w F=> ?_
 exact GoalL.ret known mixed slCs_ok 9 _ (nu_all s hz (sl_le s)) fun T H h=>h
theorem cDe_ok:cDe.Ok Tryz.prog:=fun⟨s,_⟩ h=>by
 have hz:=of_decide_eq_true h
 have hl:slAt s.data.toList≤s.size:=sl_le s
 show Holds Tryz.prog true 113 [sv s] (sv (denT s))
 refine holds_fl (c:=BDe) Tryz.func113 rfl rfl fun w F=> ?_
 unfold denT
 by_cases h1:slAt s.data.toList=s.size
 ·rw [if_pos h1]
  exact GoalL.ret known mixed slCs_ok 9 _ (de_1 s hz (by omega)) fun T H h=>h
 ·rw [if_neg h1]
  exact GoalL.ret known mixed slCs_ok 9 _ (de_d s hz (by omega) (by have hz:s.size≤1000000000:=hz;omega) (by omega) (by rw [show((slAt s.data.toList:Int)+1).toNat=slAt s.data.toList+1 by omega])) fun T H h=>h
theorem sgn_neg' {s:ByteArray} (h:sgnT s<0):0<s.size:=by
 unfold sgnT at h
 split at h
 ·exact absurd h (by decide)
 ·split at h
  ·rename_i h1;exact h1.1
  ·exact absurd h (by decide)
theorem cAb_ok:cAb.Ok Tryz.prog:=fun⟨s,_⟩ _=>by
 show Holds Tryz.prog true 111 [sv s] (sv (absT s))
 refine holds_fl (c:=BAb) Tryz.func111 rfl rfl fun w F=> ?_
 unfold absT
 by_cases h1:sgnT s<0
 ·rw [if_pos h1]
  exact GoalL.ret known mixed abCs_ok 9 _ (ab_m s h1 (by have:=sgn_neg' h1;omega) rfl) fun T H h=>h
 ·rw [if_neg h1]
  exact GoalL.ret known mixed abCs_ok 9 _ (ab_p s h1) fun T H h=>h
theorem lgCs_ok:CallOk Tryz.prog (gS lgCs):=ctrs_ok fun c hc=>by
 simp only [List.mem_cons,List.not_mem_nil,or_false]at hc
 rcases hc with rfl |rfl |rfl
 ·exact cNu_ok
 ·exact cDe_ok
 ·exact cAb_ok
theorem lg_holds (s:ByteArray) (hz:s.size≤1000000000):Holds Tryz.prog true 51 [sv s] (iv (largT s)):=by
 have hS:=lgCs_ok
 refine holds_fl (c:=BLg) Tryz.func51 rfl rfl fun w F=> ?_
 unfold largT
 by_cases h1:600<(absT (numT s)).size
 ·rw [if_pos (.inl h1)]
  exact GoalL.ret known mixed hS 9 _ (lg_1 s hz (by omega)) fun T H h=>h
 ·by_cases h2:600<(denT s).size
  ·rw [if_pos (.inr h2)]
   exact GoalL.ret known mixed hS 9 _ (lg_2 s hz (by omega) (by omega)) fun T H h=>h
  ·rw [if_neg (fun h=>h.elim h1 h2)]
   exact GoalL.ret known mixed hS 9 _ (lg_0 s hz (by omega) (by omega)) fun T H h=>h
theorem extr_size (s:ByteArray) (i j:Nat):(s.extract i j).size≤s.size:=by rw [ByteArray.size_extract];omega
theorem larg_short {s:ByteArray} (h:s.size≤600):largT s=0:=by
 have h1:=extr_size s 0 (slAt (bsL s))
 have h2:(absT (numT s)).size≤(numT s).size:=by unfold absT;split;exact extr_size _ _ _;exact Nat.le_refl _
 have h3:(denT s).size≤600:=by
  unfold denT
  split
  ·decide
  ·have:=extr_size s (slAt (bsL s)+1) s.size;omega
 have h4:(numT s).size≤s.size:=h1
 unfold largT
 rw [if_neg (by omega)]
noncomputable def cLg:Ctr:={f:=51,ps:=[.str],rs:=[.int .i64],fresh:=true,pre:=fun d=>decide (ByteArray.size d.1≤1000000000),fn:=fun d=>(largT d.1,())}
theorem cLg_ok:cLg.Ok Tryz.prog:=fun⟨s,_⟩ h=>lg_holds s (of_decide_eq_true h)
end
end Go.Proofs.YtjcbbabaabcdgaaGreatDoor
/- The reference of chapter 1: gcd. -/
namespace Go.Proofs.YtjcbbabaabcdgaaGreatDoor
open Go.RowKit Sv
set_option maxRecDepth 100000
set_option linter.unusedVariables false
set_option linter.unusedSimpArgs false
noncomputable section
noncomputable def BRgc:Code:=(Tryz.f114.body).getD .skip
def SRgc (a b:Int):St:={n:=12,sl:=[(0,iv a),(1,iv b)],en:=[],next:=64}
theorem rgc_start (a b:Int):
  Tst.path (vrun0 Tryz.prog (ctrs []) (fl BRgc []) 1 12 [iv a,iv b]) [] (toSt Tryz.prog 12 .normal [] (SRgc a b)):=
 mp (an (rr a) (an (rr b) trivial))
theorem rgc_go (a b:Int) (h1:b>0) (h2:b≠0):
  Tst.path (vall Tryz.prog (ctrs []) (fl BRgc [1,0,0,0]) (SRgc a b)) [true] (toSt Tryz.prog 12 .normal [] (SRgc b (Int.tmod a b))):=
 mp (an (decide_eq_true h1) (an (decide_eq_true h2) (an (rr b) (an (rr (Int.tmod a b)) trivial))))
theorem rgc_end (a b:Int) (h1:¬b>0):
  Tst.path (vall Tryz.prog (ctrs []) (fl BRgc [1,0,0,0]) (SRgc a b)) [false] (toSt Tryz.prog 12 (.exit 0) [] (SRgc a b)):=
 mp (an (decide_eq_false h1) (an (rr a) (an (rr b) trivial)))
theorem rgc_fin (a b:Int):
  Tst.path (vall Tryz.prog (ctrs []) (List.drop 2 (fl BRgc [])) (SRgc a b)) [] (toRet Tryz.prog Tryz.f114 true (iv a)):=
 mp (rr a)
theorem rgcd_step {x y:Int} (hx:0≤x) (hy:0≤y):Int.gcd y (x%y)=Int.gcd x y:=by
 obtain⟨m,rfl⟩:=Int.eq_ofNat_of_zero_le hx
 obtain⟨n,rfl⟩:=Int.eq_ofNat_of_zero_le hy
 rw [←Int.natCast_emod]
 show Nat.gcd n (m%n)=Nat.gcd m n
 rw [Nat.gcd_comm n,←Nat.gcd_rec,Nat.gcd_comm]
theorem rgc_holds (a b:Int) (ha:0≤a) (hb:0≤b):Holds Tryz.prog true 114 [iv a,iv b] (iv (Int.gcd a b)):=by
 have hS:=none_ok
 obtain⟨g,hg⟩:∃g:Int,(Int.gcd a b:Int)=g:=⟨_,rfl⟩
 rw [hg]
 refine holds_fl (c:=BRgc) Tryz.func114 rfl rfl fun w F=> ?_
 refine GoalL.to known mixed hS 1 _ (rgc_start a b) (by kernel_rfl) ?_
 refine GoalL.loop (ι:={p:Int×Int//0≤p.1∧0≤p.2∧(Int.gcd p.1 p.2:Int)=g}) (id:=0) (b:=cat BRgc [1,0,0,0]) (rest:=List.drop 2 (fl BRgc [])) (by kernel_rfl) (fun p=>SRgc p.1.1 p.1.2) (fun p=>p.1.2.toNat) ⟨(a,b),ha,hb,hg⟩ (fun _=>rfl) ?_
 rintro⟨⟨x,y⟩,hx,hy,hxy⟩
 have hx:0≤x:=hx
 have hy:0≤y:=hy
 have hxy:(Int.gcd x y:Int)=g:=hxy
 by_cases h0:y>0
 ·have hm:=Int.emod_lt_of_pos x h0
  have hm2:=Int.emod_nonneg x (show y≠0 by omega)
  have e:Int.tmod x y=x%y:=Int.tmod_eq_emod_of_nonneg hx
  refine GoalL.all (s:=SRgc x y) known mixed hS _ (rgc_go x y h0 (by omega)) (by kernel_rfl) ?_
  refine⟨⟨(y,Int.tmod x y),hy,by show 0≤Int.tmod x y;omega, ?_⟩, ?_,rfl,rfl⟩
  ·show(Int.gcd y (Int.tmod x y):Int)=g
   rw [e,←hxy,rgcd_step hx hy]
  ·show(Int.tmod x y).toNat<y.toNat
   omega
 ·obtain rfl:y=0:=by omega
  refine GoalL.all (s:=SRgc x 0) known mixed hS _ (rgc_end x 0 h0) (by kernel_rfl) ?_
  refine onN_exit (inB_exit ?_)
  have e:x=g:=by rw [←hxy,Int.gcd_zero_right];omega
  exact GoalL.allRet (s:=SRgc x 0) known mixed hS _ (rgc_fin x 0) fun T H h=>e ▸ h
noncomputable def cRgc:Ctr:={f:=114,ps:=[.int .i64, .int .i64],rs:=[.int .i64],fresh:=true,pre:=fun d=>decide (0≤d.1)&&decide (0≤d.2.1),fn:=fun d=>((Int.gcd d.1 d.2.1:Int),())}
theorem cRgc_ok:cRgc.Ok Tryz.prog:=fun⟨a,b,_⟩ h=>by
 have h:(decide (0≤a)&&decide (0≤b))=true:=h
 rw [Bool.and_eq_true,decide_eq_true_eq,decide_eq_true_eq]at h
 exact rgc_holds a b h.1 h.2
end
end Go.Proofs.YtjcbbabaabcdgaaGreatDoor
/- The reference of chapter 1: decimal. -/
namespace Go.Proofs.YtjcbbabaabcdgaaGreatDoor
open Go.RowKit Sv
set_option maxRecDepth 100000
set_option linter.unusedVariables false
set_option linter.unusedSimpArgs false
noncomputable section
noncomputable def BDec:Code:=(Tryz.f115.body).getD .skip
def SDec (n m:Int) (s:ByteArray):St:={n:=25,sl:=[(0,iv n),(1,iv m),(5,sv s)],en:=[],next:=64}
abbrev bE:ByteArray:=⟨#[]⟩
abbrev bD:ByteArray:=⟨#[48,49,50,51,52,53,54,55,56,57]⟩
set_option pp.structureInstances false
theorem dc_start (n m:Int):
  Tst.path (vrun0 Tryz.prog (ctrs []) (fl BDec []) 2 25 [iv n,iv m]) [] (toSt Tryz.prog 25 .normal [] (SDec n m bE)):=
 mp (an (rr n) (an (rr m) (an (rr (ByteArray.mk #[])) trivial)))
theorem dc_a (n m:Int) (s:ByteArray) (h1:n>0) (h2: -9223372036854775808≤Int.tmod n (10:Int)+1∧Int.tmod n (10:Int)+1≤9223372036854775807) (h3:(0:Int)≤Int.tmod n (10:Int)+1) (h4:(0:Int)≤Int.tmod n (10:Int)) (h5:Int.toNat (Int.tmod n (10:Int)+1)≤(ByteArray.mk #[(48:UInt8),(49:UInt8),(50:UInt8),(51:UInt8),(52:UInt8),(53:UInt8),(54:UInt8),(55:UInt8),(56:UInt8),(57:UInt8)]).size) (h6:(ByteArray.extract (ByteArray.mk #[(48:UInt8),(49:UInt8),(50:UInt8),(51:UInt8),(52:UInt8),(53:UInt8),(54:UInt8),(55:UInt8),(56:UInt8),(57:UInt8)]) (Int.toNat (Int.tmod n (10:Int))) (Int.toNat (Int.tmod n (10:Int)+1))).size+s.size≤(9223372036854775807:Nat)) (h7: -9223372036854775808≤Int.tdiv n (10:Int)∧Int.tdiv n (10:Int)≤9223372036854775807):
  Tst.path (vall Tryz.prog (ctrs []) (fl BDec [1,1,0,0,0]) (SDec n m s)) [false,false,false,false,true,true] (toSt Tryz.prog 25 .normal [] (SDec (Int.tdiv n 10) m (ByteArray.extract bD (Int.tmod n 10).toNat (Int.tmod n 10+1).toNat++s))):=
 mp (an (bF (decide_eq_true h1)) (an (bF (decide_eq_true h1)) (an (bF (decide_eq_true h1)) (an (bF (decide_eq_true h1)) (an (decide_eq_true h1) (an rt (an rt (an rt (an (fits_i64 h2) (an (decide_eq_true h3) (an (decide_eq_true h4) (an (show(decide (Int.toNat (Int.tmod n (10:Int))≤Int.toNat (Int.tmod n (10:Int)+1)))=true from decide_eq_true (by omega)) (an (decide_eq_true h5) (an (decide_eq_true h6) (an rt (an (fits_i64 h7) (an (rr (Int.tdiv n (10:Int))) (an (rr m) (an (rr (ByteArray.extract (ByteArray.mk #[(48:UInt8),(49:UInt8),(50:UInt8),(51:UInt8),(52:UInt8),(53:UInt8),(54:UInt8),(55:UInt8),(56:UInt8),(57:UInt8)]) (Int.toNat (Int.tmod n (10:Int))) (Int.toNat (Int.tmod n (10:Int)+1))++s)) trivial)))))))))))))))))))
theorem dc_b (n m:Int) (s:ByteArray) (h1:¬n>0) (h2:(↑s.size:Int)<m) (h3: -9223372036854775808≤Int.tmod n (10:Int)+1∧Int.tmod n (10:Int)+1≤9223372036854775807) (h4:(0:Int)≤Int.tmod n (10:Int)+1) (h5:(0:Int)≤Int.tmod n (10:Int)) (h6:Int.toNat (Int.tmod n (10:Int)+1)≤(ByteArray.mk #[(48:UInt8),(49:UInt8),(50:UInt8),(51:UInt8),(52:UInt8),(53:UInt8),(54:UInt8),(55:UInt8),(56:UInt8),(57:UInt8)]).size) (h7:(ByteArray.extract (ByteArray.mk #[(48:UInt8),(49:UInt8),(50:UInt8),(51:UInt8),(52:UInt8),(53:UInt8),(54:UInt8),(55:UInt8),(56:UInt8),(57:UInt8)]) (Int.toNat (Int.tmod n (10:Int))) (Int.toNat (Int.tmod n (10:Int)+1))).size+s.size≤(9223372036854775807:Nat)) (h8: -9223372036854775808≤Int.tdiv n (10:Int)∧Int.tdiv n (10:Int)≤9223372036854775807):
  Tst.path (vall Tryz.prog (ctrs []) (fl BDec [1,1,0,0,0]) (SDec n m s)) [true,true,true,true,false,true] (toSt Tryz.prog 25 .normal [] (SDec (Int.tdiv n 10) m (ByteArray.extract bD (Int.tmod n 10).toNat (Int.tmod n 10+1).toNat++s))):=
 mp (an (bF (decide_eq_false h1)) (an (bF (decide_eq_false h1)) (an (bF (decide_eq_false h1)) (an (bF (decide_eq_false h1)) (an (decide_eq_false h1) (an (decide_eq_true h2) (an rt (an rt (an (fits_i64 h3) (an (decide_eq_true h4) (an (decide_eq_true h5) (an (show(decide (Int.toNat (Int.tmod n (10:Int))≤Int.toNat (Int.tmod n (10:Int)+1)))=true from decide_eq_true (by omega)) (an (decide_eq_true h6) (an (decide_eq_true h7) (an rt (an (fits_i64 h8) (an (rr (Int.tdiv n (10:Int))) (an (rr m) (an (rr (ByteArray.extract (ByteArray.mk #[(48:UInt8),(49:UInt8),(50:UInt8),(51:UInt8),(52:UInt8),(53:UInt8),(54:UInt8),(55:UInt8),(56:UInt8),(57:UInt8)]) (Int.toNat (Int.tmod n (10:Int))) (Int.toNat (Int.tmod n (10:Int)+1))++s)) trivial)))))))))))))))))))
theorem dc_end (n m:Int) (s:ByteArray) (h1:¬n>0) (h2:¬(↑s.size:Int)<m):
  Tst.path (vall Tryz.prog (ctrs []) (fl BDec [1,1,0,0,0]) (SDec n m s)) [true,true,true,true,false,false] (toSt Tryz.prog 25 (.exit 0) [] (SDec n m s)):=
 mp (an (bF (decide_eq_false h1)) (an (bF (decide_eq_false h1)) (an (bF (decide_eq_false h1)) (an (bF (decide_eq_false h1)) (an (decide_eq_false h1) (an (decide_eq_false h2) (an (rr n) (an (rr m) (an (rr s) trivial)))))))))
theorem dc_fin (n m:Int) (s:ByteArray):
  Tst.path (vall Tryz.prog (ctrs []) (List.drop 3 (fl BDec [])) (SDec n m s)) [] (toRet Tryz.prog Tryz.f115 true (sv s)):=
 mp (rr s)
def digU (n:Int):UInt8:=UInt8.ofNat (48+(n%10).toNat)
def decF:Nat→Int→Int→List UInt8→List UInt8
 |0,_,_,s=>s
 |f+1,n,m,s=>if n>0∨(s.length:Int)<m then decF f (n/10) m (digU n::s)else s
theorem bs_app (a b:ByteArray):(a++b).data.toList=a.data.toList++b.data.toList:=by
 rw [ByteArray.data_append,Array.toList_append]
theorem dg_bytes {n:Int} (h:0≤n) (s:ByteArray):(ByteArray.extract bD (Int.tmod n 10).toNat (Int.tmod n 10+1).toNat++s).data.toList=digU n::s.data.toList:=by
 rw [bs_app,Int.tmod_eq_emod_of_nonneg h]
 have h1:=Int.emod_lt_of_pos n (show(0:Int)<10 by decide)
 have h2:=Int.emod_nonneg n (show(10:Int)≠0 by decide)
 unfold digU
 generalize n%10=r at*
 have:r=0∨r=1∨r=2∨r=3∨r=4∨r=5∨r=6∨r=7∨r=8∨r=9:=by omega
 rcases this with rfl |rfl |rfl |rfl |rfl |rfl |rfl |rfl |rfl |rfl<;>rfl
theorem dg_size {n:Int} (h:0≤n):(ByteArray.extract bD (Int.tmod n 10).toNat (Int.tmod n 10+1).toNat).size≤1:=by
 rw [Int.tmod_eq_emod_of_nonneg h]
 have h1:=Int.emod_lt_of_pos n (show(0:Int)<10 by decide)
 have h2:=Int.emod_nonneg n (show(10:Int)≠0 by decide)
 generalize n%10=r at*
 have:r=0∨r=1∨r=2∨r=3∨r=4∨r=5∨r=6∨r=7∨r=8∨r=9:=by omega
 rcases this with rfl |rfl |rfl |rfl |rfl |rfl |rfl |rfl |rfl |rfl<;>decide
theorem size_b (s:ByteArray):s.size=s.data.toList.length:=by cases s;rfl
theorem ba_ext {a b:ByteArray} (h:a.data.toList=b.data.toList):a=b:=by
 cases a;cases b;simp at h;rw [h]
structure DcOk (r:List UInt8) (m:Int) (f:Nat) (n:Int) (s:ByteArray):Prop where
 n0:0≤n
 nb:n≤9223372036854775807
 n1:n<10^f
 ms:m≤s.size+f
 sz:s.size+f≤40
 eq:decF f n m s.data.toList=r
theorem dc_holds (n m:Int) (hn:0≤n) (hn2:n≤9223372036854775807) (hm:m≤20):Holds Tryz.prog true 115 [iv n,iv m] (sv ⟨(decF 20 n m []).toArray⟩):=by
 have hS:=none_ok
 obtain⟨r,hr⟩:∃r,decF 20 n m []=r:=⟨_,rfl⟩
 rw [hr]
 refine holds_fl (c:=BDec) Tryz.func115 rfl rfl fun w F=> ?_
 refine GoalL.to known mixed hS 2 _ (dc_start n m) (by kernel_rfl) ?_
 refine GoalL.loop (ι:={p:Nat×Int×ByteArray//DcOk r m p.1 p.2.1 p.2.2}) (id:=0) (b:=cat BDec [1,1,0,0,0]) (rest:=List.drop 3 (fl BDec [])) (by kernel_rfl) (fun p=>SDec p.1.2.1 m p.1.2.2) (fun p=>p.1.1) ⟨(20,n,bE),⟨hn,hn2,by show n<10^20;omega,by show m≤0+20;omega,by show 0+20≤40;omega,hr⟩⟩ (fun _=>rfl) ?_
 rintro⟨⟨f,n,s⟩,hp⟩
 have hp:DcOk r m f n s:=hp
 have hz:=size_b s
 have q1:=Int.emod_lt_of_pos n (show(0:Int)<10 by decide)
 have q2:=Int.emod_nonneg n (show(10:Int)≠0 by decide)
 have q3:Int.tmod n 10=n%10:=Int.tmod_eq_emod_of_nonneg hp.n0
 have q4:Int.tdiv n 10=n/10:=Int.tdiv_eq_ediv_of_nonneg hp.n0
 have q5:=dg_size hp.n0
 have hn0:=hp.n0
 have hnb:=hp.nb
 have hms:=hp.ms
 have hsz:=hp.sz
 have nx:(n>0∨(s.size:Int)<m)→∃j:{p:Nat×Int×ByteArray//DcOk r m p.1 p.2.1 p.2.2},j.1.1<f∧(SDec (Int.tdiv n 10) m (ByteArray.extract bD (Int.tmod n 10).toNat (Int.tmod n 10+1).toNat++s)).T=(SDec j.1.2.1 m j.1.2.2).T∧(SDec (Int.tdiv n 10) m (ByteArray.extract bD (Int.tmod n 10).toNat (Int.tmod n 10+1).toNat++s)).H=(SDec j.1.2.1 m j.1.2.2).H:=fun hc=>by
  cases f with
  |zero=>
   have:=hp.n1
   simp at this
   exfalso;omega
  |succ f=>
   have hb:=dg_bytes hp.n0 s
   have hzz:(ByteArray.extract bD (Int.tmod n 10).toNat (Int.tmod n 10+1).toNat++s).size=s.size+1:=by rw [size_b,hb,hz];rfl
   refine⟨⟨(f,Int.tdiv n 10,_),⟨by show 0≤Int.tdiv n 10;rw [q4];omega,by show Int.tdiv n 10≤_;rw [q4];omega, ?_,by show m≤((_:Nat):Int)+((f:Nat):Int);rw [hzz];omega,by show _+f≤40;rw [hzz];omega, ?_⟩⟩,Nat.lt_succ_self _,rfl,rfl⟩
   ·show Int.tdiv n 10<10^f
    have:=hp.n1
    rw [Int.pow_succ]at this
    rw [q4];omega
   ·show decF f (Int.tdiv n 10) m (ByteArray.extract bD (Int.tmod n 10).toNat (Int.tmod n 10+1).toNat++s).data.toList=r
    have he:=hp.eq
    unfold decF at he
    rw [hb,q4]
    rw [if_pos (by rw [hz]at hc;exact hc)]at he
    exact he
 by_cases h1:n>0
 ·refine GoalL.all (s:=SDec n m s) known mixed hS _ (dc_a n m s h1 (by omega) (by omega) (by omega) (by show _≤(10:Nat);omega) (by show(ByteArray.extract bD (Int.tmod n 10).toNat (Int.tmod n 10+1).toNat).size+s.size≤_;omega) (by omega)) (by kernel_rfl) (nx (.inl h1))
 ·by_cases h2:(s.size:Int)<m
  ·refine GoalL.all (s:=SDec n m s) known mixed hS _ (dc_b n m s h1 h2 (by omega) (by omega) (by omega) (by show _≤(10:Nat);omega) (by show(ByteArray.extract bD (Int.tmod n 10).toNat (Int.tmod n 10+1).toNat).size+s.size≤_;omega) (by omega)) (by kernel_rfl) (nx (.inr h2))
  ·refine GoalL.all (s:=SDec n m s) known mixed hS _ (dc_end n m s h1 h2) (by kernel_rfl) ?_
   refine onN_exit (inB_exit ?_)
   have e:(⟨r.toArray⟩:ByteArray)=s:=ba_ext (by
    have he:=hp.eq
    cases f with
    |zero=>exact he.symm
    |succ f=>
     unfold decF at he
     rw [if_neg (by rw [hz]at h2;omega)]at he
     exact he.symm)
   rw [e]
   exact GoalL.allRet (s:=SDec n m s) known mixed hS _ (dc_fin n m s) fun T H h=>h
noncomputable def cDcm:Ctr:={f:=115,ps:=[.int .i64, .int .i64],rs:=[.str],fresh:=true,pre:=fun d=>decide (0≤d.1)&&(decide (d.1≤9223372036854775807)&&decide (d.2.1≤20)),fn:=fun d=>(⟨(decF 20 d.1 d.2.1 []).toArray⟩,())}
theorem cDcm_ok:cDcm.Ok Tryz.prog:=fun⟨n,m,_⟩ h=>by
 have h:(decide (0≤n)&&(decide (n≤9223372036854775807)&&decide (m≤20)))=true:=h
 simp only [Bool.and_eq_true,decide_eq_true_eq]at h
 exact dc_holds n m h.1 h.2.1 h.2.2
end
end Go.Proofs.YtjcbbabaabcdgaaGreatDoor
/- The reference of chapter 1: quick, Of, Mul. -/
namespace Go.Proofs.YtjcbbabaabcdgaaGreatDoor
open Go.RowKit Sv
set_option maxRecDepth 100000
set_option linter.unusedVariables false
set_option linter.unusedSimpArgs false
noncomputable section
noncomputable def BQk:Code:=(Tryz.f65.body).getD .skip
noncomputable def BOf1:Code:=(Tryz.f52.body).getD .skip
noncomputable def rqCs:VCaller:=ctrs [cRgc,cSl,cVl,cDcm]
def qkN (s:ByteArray):Int:=valD (bsL (s.extract 0 (slAt (bsL s))))
def qkD (s:ByteArray):Int:=if slAt (bsL s)<s.size then valD (bsL (s.extract (slAt (bsL s)+1) s.size))else 1
def okQk (s:ByteArray):Bool:=decide (s.size≤20)&&(decide (0<s.size)&&(decide ((sb0 s 0).toNat≠45)&&(decide (slAt (bsL s)≤9)&&(decide (s.size-slAt (bsL s)≤10)&&(digB (bsL (s.extract 0 (slAt (bsL s))))&&digB (bsL (s.extract (slAt (bsL s)+1) s.size)))))))
theorem qk_two (s:ByteArray) (h1:¬(↑s.size:Int)>20) (h2:(↑s.size:Int)>0) (h3:Int.toNat (0:Int)<s.size) (h4:¬(↑(UInt8.toNat (List.getD (Array.toList (ByteArray.data s)) (Int.toNat (0:Int)) (0:UInt8))):Int)=45) (h5:s.size≤(1000000000:Nat)) (h6:¬(↑(slAt (Array.toList (ByteArray.data s))):Int)>9) (h7: -9223372036854775808≤(↑s.size:Int)-(↑(slAt (Array.toList (ByteArray.data s))):Int)∧(↑s.size:Int)-(↑(slAt (Array.toList (ByteArray.data s))):Int)≤9223372036854775807) (h8:¬(↑s.size:Int)-(↑(slAt (Array.toList (ByteArray.data s))):Int)>10) (h9:slAt (Array.toList (ByteArray.data s))≤s.size) (h10:(decide ((ByteArray.extract s (0:Nat) (slAt (Array.toList (ByteArray.data s)))).size≤(17:Nat))&&digB (Array.toList (ByteArray.data (ByteArray.extract s (0:Nat) (slAt (Array.toList (ByteArray.data s)))))))=true) (h11:(↑(slAt (Array.toList (ByteArray.data s))):Int)<(↑s.size:Int)) (h12: -9223372036854775808≤(↑(slAt (Array.toList (ByteArray.data s))):Int)+1∧(↑(slAt (Array.toList (ByteArray.data s))):Int)+1≤9223372036854775807) (h13:Int.toNat ((↑(slAt (Array.toList (ByteArray.data s))):Int)+1)≤s.size) (h14:(decide ((ByteArray.extract s (Int.toNat ((↑(slAt (Array.toList (ByteArray.data s))):Int)+1)) s.size).size≤(17:Nat))&&digB (Array.toList (ByteArray.data (ByteArray.extract s (Int.toNat ((↑(slAt (Array.toList (ByteArray.data s))):Int)+1)) s.size))))=true):
  Tst.path (vrun0 Tryz.prog rqCs (fl BQk []) 30 (Tryz.f65.ntmps) [sv s]) [false,true,true,true,true,false,true,true,true,true,true,false,false,true,false] (toRet Tryz.prog Tryz.f65 true (.tuple [iv (valD (bsL (s.extract 0 (slAt (bsL s))))),iv (valD (bsL (s.extract (Int.toNat ((slAt (bsL s):Int)+1)) s.size))),bv true])):=
 mp (an (decide_eq_false h1) (an (bT (decide_eq_true h2)) (an (bT (decide_eq_true h2)) (an rt (an (decide_eq_true h3) (an (bT (decide_eq_true h2)) (an (decide_eq_true h2) (an (beq_eq_false_iff_ne.mpr h4) (an (decide_eq_true h5) (an (bF (decide_eq_false h6)) (an (bF (decide_eq_false h6)) (an (bF (decide_eq_false h6)) (an (bF (decide_eq_false h6)) (an (fits_i64 h7) (an (bF (decide_eq_false h6)) (an (decide_eq_false h6) (an (decide_eq_false h8) (an (show(decide ((0:Int)≤(↑(slAt (Array.toList (ByteArray.data s))):Int)))=true from decide_eq_true (by omega)) (an (show(decide ((0:Nat)≤slAt (Array.toList (ByteArray.data s))))=true from decide_eq_true (by omega)) (an (decide_eq_true h9) (an h10 (an (decide_eq_true h11) (an (fits_i64 h12) (an (show(decide ((0:Int)≤(↑(slAt (Array.toList (ByteArray.data s))):Int)+1))=true from decide_eq_true (by omega)) (an (decide_eq_true h13) (an (show(decide (s.size≤s.size))=true from decide_eq_true (by omega)) (an h14 (an (beq_eq_false_iff_ne.mpr h4) (an (rr (valD (Array.toList (ByteArray.data (ByteArray.extract s (0:Nat) (slAt (Array.toList (ByteArray.data s)))))))) (an (rr (valD (Array.toList (ByteArray.data (ByteArray.extract s (Int.toNat ((↑(slAt (Array.toList (ByteArray.data s))):Int)+1)) s.size))))) (an rt trivial)))))))))))))))))))))))))))))))
theorem qk_one (s:ByteArray) (h1:¬(↑s.size:Int)>20) (h2:(↑s.size:Int)>0) (h3:Int.toNat (0:Int)<s.size) (h4:¬(↑(UInt8.toNat (List.getD (Array.toList (ByteArray.data s)) (Int.toNat (0:Int)) (0:UInt8))):Int)=45) (h5:s.size≤(1000000000:Nat)) (h6:¬(↑(slAt (Array.toList (ByteArray.data s))):Int)>9) (h7: -9223372036854775808≤(↑s.size:Int)-(↑(slAt (Array.toList (ByteArray.data s))):Int)∧(↑s.size:Int)-(↑(slAt (Array.toList (ByteArray.data s))):Int)≤9223372036854775807) (h8:¬(↑s.size:Int)-(↑(slAt (Array.toList (ByteArray.data s))):Int)>10) (h9:slAt (Array.toList (ByteArray.data s))≤s.size) (h10:(decide ((ByteArray.extract s (0:Nat) (slAt (Array.toList (ByteArray.data s)))).size≤(17:Nat))&&digB (Array.toList (ByteArray.data (ByteArray.extract s (0:Nat) (slAt (Array.toList (ByteArray.data s)))))))=true) (h11:¬(↑(slAt (Array.toList (ByteArray.data s))):Int)<(↑s.size:Int)):
  Tst.path (vrun0 Tryz.prog rqCs (fl BQk []) 30 (Tryz.f65.ntmps) [sv s]) [false,true,true,true,true,false,true,true,true,true,true,false,false,false,false] (toRet Tryz.prog Tryz.f65 true (.tuple [iv (valD (bsL (s.extract 0 (slAt (bsL s))))),iv 1,bv true])):=
 mp (an (decide_eq_false h1) (an (bT (decide_eq_true h2)) (an (bT (decide_eq_true h2)) (an rt (an (decide_eq_true h3) (an (bT (decide_eq_true h2)) (an (decide_eq_true h2) (an (beq_eq_false_iff_ne.mpr h4) (an (decide_eq_true h5) (an (bF (decide_eq_false h6)) (an (bF (decide_eq_false h6)) (an (bF (decide_eq_false h6)) (an (bF (decide_eq_false h6)) (an (fits_i64 h7) (an (bF (decide_eq_false h6)) (an (decide_eq_false h6) (an (decide_eq_false h8) (an (show(decide ((0:Int)≤(↑(slAt (Array.toList (ByteArray.data s))):Int)))=true from decide_eq_true (by omega)) (an (show(decide ((0:Nat)≤slAt (Array.toList (ByteArray.data s))))=true from decide_eq_true (by omega)) (an (decide_eq_true h9) (an h10 (an (decide_eq_false h11) (an (beq_eq_false_iff_ne.mpr h4) (an (rr (valD (Array.toList (ByteArray.data (ByteArray.extract s (0:Nat) (slAt (Array.toList (ByteArray.data s)))))))) (an (rr ((1:Int))) (an rt trivial))))))))))))))))))))))))))
theorem rqCs_ok:CallOk Tryz.prog (gS rqCs):=ctrs_ok fun c hc=>by
 simp only [List.mem_cons,List.not_mem_nil,or_false]at hc
 rcases hc with rfl |rfl |rfl |rfl
 ·exact cRgc_ok
 ·exact cSl_ok
 ·exact cVl_ok
 ·exact cDcm_ok
theorem ext_size (s:ByteArray) (i j:Nat) (h:j≤s.size):(s.extract i j).size=j-i:=by
 rw [ByteArray.size_extract];omega
theorem slAt_le:∀l:List UInt8,slAt l≤l.length
 |[]=>Nat.le_refl _
 |b::r=>by
  unfold slAt
  have:=slAt_le r
  split
  ·exact Nat.zero_le _
  ·simp;omega
theorem okQk_iff {s:ByteArray}:okQk s=true↔s.size≤20∧0<s.size∧(sb0 s 0).toNat≠45∧slAt (bsL s)≤9∧s.size-slAt (bsL s)≤10∧digB (bsL (s.extract 0 (slAt (bsL s))))=true∧digB (bsL (s.extract (slAt (bsL s)+1) s.size))=true:=by
 unfold okQk
 simp only [Bool.and_eq_true,decide_eq_true_eq]
theorem qk_holds (s:ByteArray) (h:okQk s=true):Holds Tryz.prog true 65 [sv s] (.tuple [iv (qkN s),iv (qkD s),bv true]):=by
 obtain⟨g1,g2,g3,g4,g5,g6,g7⟩:=okQk_iff.1 h
 have hle:slAt (bsL s)≤s.size:=by rw [size_bs];exact slAt_le _
 refine holds_fl (c:=BQk) Tryz.func65 rfl rfl fun w F=> ?_
 have e1:=ext_size s 0 (slAt (bsL s)) hle
 have e2:=ext_size s (slAt (bsL s)+1) s.size (Nat.le_refl _)
 have k10:(decide ((s.extract 0 (slAt (bsL s))).size≤17)&&digB (bsL (s.extract 0 (slAt (bsL s)))))=true:=by rw [g6,decide_eq_true (by omega)];rfl
 have h4:¬((sb0 s 0).toNat:Int)=45:=by omega
 have ha:slAt (Array.toList (ByteArray.data s))=slAt (bsL s):=rfl
 by_cases hlt:slAt (bsL s)<s.size
 ·have ek:Int.toNat ((slAt (bsL s):Int)+1)=slAt (bsL s)+1:=by omega
  have key:=qk_two s (by omega) (by omega) (by show(0:Nat)<_;omega) h4 (by omega) (by omega) (by omega) (by omega) hle k10 (by omega) (by omega) (by omega) (by rw [ek,show digB (Array.toList (ByteArray.data (s.extract (slAt (bsL s)+1) s.size)))=true from g7,decide_eq_true (by omega)];rfl)
  rw [ek]at key
  have e:qkD s=valD (bsL (s.extract (slAt (bsL s)+1) s.size)):=by unfold qkD;rw [if_pos hlt]
  rw [e]
  exact GoalL.ret known mixed rqCs_ok 30 _ key fun T H h=>h
 ·have e:qkD s=1:=by unfold qkD;rw [if_neg hlt]
  rw [e]
  exact GoalL.ret known mixed rqCs_ok 30 _ (qk_one s (by omega) (by omega) (by show(0:Nat)<_;omega) h4 (by omega) (by omega) (by omega) (by omega) hle k10 (by omega)) fun T H h=>h
noncomputable def cQk:Ctr:={f:=65,ps:=[.str],rs:=[.int .i64, .int .i64, .bool],fresh:=true,pre:=fun d=>okQk d.1,fn:=fun d=>(qkN d.1,qkD d.1,true,())}
theorem cQk_ok:cQk.Ok Tryz.prog:=fun⟨s,_⟩ h=>qk_holds s h
end
end Go.Proofs.YtjcbbabaabcdgaaGreatDoor
/- The reference of chapter 1: Of, Mul of small numbers that are not negative. -/
namespace Go.Proofs.YtjcbbabaabcdgaaGreatDoor
open Go.RowKit Sv
set_option maxRecDepth 100000
set_option linter.unusedVariables false
set_option linter.unusedSimpArgs false
noncomputable section
noncomputable def rofCs:VCaller:=ctrs [cRgc,cDcm]
def tqS (p q:Int):ByteArray:=⟨(decF 20 p 1 []++(if q>1 then 47::decF 20 q 1 []else [])).toArray⟩
set_option pp.structureInstances false
theorem of_two (n d:Int) (h1:¬n< -4000000000000000000) (h2:¬n>4000000000000000000) (h3:¬d< -4000000000000000000) (h4:¬d>4000000000000000000) (h5:¬d<0) (h6: -9223372036854775808≤0-n∧(0:Int)-n≤9223372036854775807) (h7:(decide ((0:Ty.den (.int .i64))≤if(0:Int)-n>n then(0:Int)-n else n)&&decide ((0:Ty.den (.int .i64))≤d))=true) (h8:(↑(Int.gcd (if(0:Int)-n>n then(0:Int)-n else n) d):Int)≠0) (h9: -9223372036854775808≤Int.tdiv n (↑(Int.gcd (if(0:Int)-n>n then(0:Int)-n else n) d):Int)∧Int.tdiv n (↑(Int.gcd (if(0:Int)-n>n then(0:Int)-n else n) d):Int)≤9223372036854775807) (h10: -9223372036854775808≤Int.tdiv d (↑(Int.gcd (if(0:Int)-n>n then(0:Int)-n else n) d):Int)∧Int.tdiv d (↑(Int.gcd (if(0:Int)-n>n then(0:Int)-n else n) d):Int)≤9223372036854775807) (h11:¬Int.tdiv n (↑(Int.gcd (if(0:Int)-n>n then(0:Int)-n else n) d):Int)<0) (h12: -9223372036854775808≤0-Int.tdiv n (↑(Int.gcd (if(0:Int)-n>n then(0:Int)-n else n) d):Int)∧(0:Int)-Int.tdiv n (↑(Int.gcd (if(0:Int)-n>n then(0:Int)-n else n) d):Int)≤9223372036854775807) (h13:(decide ((0:Ty.den (.int .i64))≤if(0:Int)-Int.tdiv n (↑(Int.gcd (if(0:Int)-n>n then(0:Int)-n else n) d):Int)>Int.tdiv n (↑(Int.gcd (if(0:Int)-n>n then(0:Int)-n else n) d):Int)then(0:Int)-Int.tdiv n (↑(Int.gcd (if(0:Int)-n>n then(0:Int)-n else n) d):Int)else Int.tdiv n (↑(Int.gcd (if(0:Int)-n>n then(0:Int)-n else n) d):Int))&&(decide ((if(0:Int)-Int.tdiv n (↑(Int.gcd (if(0:Int)-n>n then(0:Int)-n else n) d):Int)>Int.tdiv n (↑(Int.gcd (if(0:Int)-n>n then(0:Int)-n else n) d):Int)then(0:Int)-Int.tdiv n (↑(Int.gcd (if(0:Int)-n>n then(0:Int)-n else n) d):Int)else Int.tdiv n (↑(Int.gcd (if(0:Int)-n>n then(0:Int)-n else n) d):Int))≤(9223372036854775807:Ty.den (.int .i64)))&&decide ((1:Int)≤(20:Ty.den (.int .i64)))))=true) (h14:(ByteArray.mk #[]).size+(ByteArray.mk (List.toArray (decF (20:Nat) (if(0:Int)-Int.tdiv n (↑(Int.gcd (if(0:Int)-n>n then(0:Int)-n else n) d):Int)>Int.tdiv n (↑(Int.gcd (if(0:Int)-n>n then(0:Int)-n else n) d):Int)then(0:Int)-Int.tdiv n (↑(Int.gcd (if(0:Int)-n>n then(0:Int)-n else n) d):Int)else Int.tdiv n (↑(Int.gcd (if(0:Int)-n>n then(0:Int)-n else n) d):Int)) (1:Int) []))).size≤(9223372036854775807:Nat)) (h15:Int.tdiv d (↑(Int.gcd (if(0:Int)-n>n then(0:Int)-n else n) d):Int)>1) (h16:(ByteArray.mk #[]++ByteArray.mk (List.toArray (decF (20:Nat) (if(0:Int)-Int.tdiv n (↑(Int.gcd (if(0:Int)-n>n then(0:Int)-n else n) d):Int)>Int.tdiv n (↑(Int.gcd (if(0:Int)-n>n then(0:Int)-n else n) d):Int)then(0:Int)-Int.tdiv n (↑(Int.gcd (if(0:Int)-n>n then(0:Int)-n else n) d):Int)else Int.tdiv n (↑(Int.gcd (if(0:Int)-n>n then(0:Int)-n else n) d):Int)) (1:Int) []))).size+(ByteArray.mk #[(47:UInt8)]).size≤(9223372036854775807:Nat)) (h17:(decide ((0:Ty.den (.int .i64))≤Int.tdiv d (↑(Int.gcd (if(0:Int)-n>n then(0:Int)-n else n) d):Int))&&(decide (Int.tdiv d (↑(Int.gcd (if(0:Int)-n>n then(0:Int)-n else n) d):Int)≤(9223372036854775807:Ty.den (.int .i64)))&&decide ((1:Int)≤(20:Ty.den (.int .i64)))))=true) (h18:(ByteArray.mk #[]++ByteArray.mk (List.toArray (decF (20:Nat) (if(0:Int)-Int.tdiv n (↑(Int.gcd (if(0:Int)-n>n then(0:Int)-n else n) d):Int)>Int.tdiv n (↑(Int.gcd (if(0:Int)-n>n then(0:Int)-n else n) d):Int)then(0:Int)-Int.tdiv n (↑(Int.gcd (if(0:Int)-n>n then(0:Int)-n else n) d):Int)else Int.tdiv n (↑(Int.gcd (if(0:Int)-n>n then(0:Int)-n else n) d):Int)) (1:Int) []))++ByteArray.mk #[(47:UInt8)]).size+(ByteArray.mk (List.toArray (decF (20:Nat) (Int.tdiv d (↑(Int.gcd (if(0:Int)-n>n then(0:Int)-n else n) d):Int)) (1:Int) []))).size≤(9223372036854775807:Nat)) (h19:(ByteArray.mk #[]++ByteArray.mk (List.toArray (decF (20:Nat) (if(0:Int)-Int.tdiv n (↑(Int.gcd (if(0:Int)-n>n then(0:Int)-n else n) d):Int)>Int.tdiv n (↑(Int.gcd (if(0:Int)-n>n then(0:Int)-n else n) d):Int)then(0:Int)-Int.tdiv n (↑(Int.gcd (if(0:Int)-n>n then(0:Int)-n else n) d):Int)else Int.tdiv n (↑(Int.gcd (if(0:Int)-n>n then(0:Int)-n else n) d):Int)) (1:Int) []))++ByteArray.mk #[(47:UInt8)]++ByteArray.mk (List.toArray (decF (20:Nat) (Int.tdiv d (↑(Int.gcd (if(0:Int)-n>n then(0:Int)-n else n) d):Int)) (1:Int) [])))=(tqS (n/(↑(Int.gcd n d):Int)) (d/(↑(Int.gcd n d):Int)))):
  Tst.path (vrun0 Tryz.prog rofCs (fl BOf1 []) 30 (Tryz.f52.ntmps) [iv n,iv d]) [true,true,false,true,true,false,true,true,false,false,false,false,true] (toRet Tryz.prog Tryz.f52 true (sv (tqS (n/Int.gcd n d) (d/Int.gcd n d)))):=
 mp (an (bF (decide_eq_false h1)) (an (bF (decide_eq_false h1)) (an (decide_eq_false h1) (an (bF (decide_eq_false h2)) (an (bF (decide_eq_false h2)) (an (decide_eq_false h2) (an (bF (decide_eq_false h3)) (an (bF (decide_eq_false h3)) (an (decide_eq_false h3) (an (decide_eq_false h4) (an (decide_eq_false h5) (an (fits_i64 h6) (an h7 (an (decide_eq_true h8) (an (fits_i64 h9) (an (decide_eq_true h8) (an (fits_i64 h10) (an (decide_eq_false h11) (an (fits_i64 h12) (an h13 (an (decide_eq_true h14) (an (decide_eq_true h15) (an (decide_eq_true h16) (an h17 (an (decide_eq_true h18) h19)))))))))))))))))))))))))
theorem of_one (n d:Int) (h1:¬n< -4000000000000000000) (h2:¬n>4000000000000000000) (h3:¬d< -4000000000000000000) (h4:¬d>4000000000000000000) (h5:¬d<0) (h6: -9223372036854775808≤0-n∧(0:Int)-n≤9223372036854775807) (h7:(decide ((0:Ty.den (.int .i64))≤if(0:Int)-n>n then(0:Int)-n else n)&&decide ((0:Ty.den (.int .i64))≤d))=true) (h8:(↑(Int.gcd (if(0:Int)-n>n then(0:Int)-n else n) d):Int)≠0) (h9: -9223372036854775808≤Int.tdiv n (↑(Int.gcd (if(0:Int)-n>n then(0:Int)-n else n) d):Int)∧Int.tdiv n (↑(Int.gcd (if(0:Int)-n>n then(0:Int)-n else n) d):Int)≤9223372036854775807) (h10: -9223372036854775808≤Int.tdiv d (↑(Int.gcd (if(0:Int)-n>n then(0:Int)-n else n) d):Int)∧Int.tdiv d (↑(Int.gcd (if(0:Int)-n>n then(0:Int)-n else n) d):Int)≤9223372036854775807) (h11:¬Int.tdiv n (↑(Int.gcd (if(0:Int)-n>n then(0:Int)-n else n) d):Int)<0) (h12: -9223372036854775808≤0-Int.tdiv n (↑(Int.gcd (if(0:Int)-n>n then(0:Int)-n else n) d):Int)∧(0:Int)-Int.tdiv n (↑(Int.gcd (if(0:Int)-n>n then(0:Int)-n else n) d):Int)≤9223372036854775807) (h13:(decide ((0:Ty.den (.int .i64))≤if(0:Int)-Int.tdiv n (↑(Int.gcd (if(0:Int)-n>n then(0:Int)-n else n) d):Int)>Int.tdiv n (↑(Int.gcd (if(0:Int)-n>n then(0:Int)-n else n) d):Int)then(0:Int)-Int.tdiv n (↑(Int.gcd (if(0:Int)-n>n then(0:Int)-n else n) d):Int)else Int.tdiv n (↑(Int.gcd (if(0:Int)-n>n then(0:Int)-n else n) d):Int))&&(decide ((if(0:Int)-Int.tdiv n (↑(Int.gcd (if(0:Int)-n>n then(0:Int)-n else n) d):Int)>Int.tdiv n (↑(Int.gcd (if(0:Int)-n>n then(0:Int)-n else n) d):Int)then(0:Int)-Int.tdiv n (↑(Int.gcd (if(0:Int)-n>n then(0:Int)-n else n) d):Int)else Int.tdiv n (↑(Int.gcd (if(0:Int)-n>n then(0:Int)-n else n) d):Int))≤(9223372036854775807:Ty.den (.int .i64)))&&decide ((1:Int)≤(20:Ty.den (.int .i64)))))=true) (h14:(ByteArray.mk #[]).size+(ByteArray.mk (List.toArray (decF (20:Nat) (if(0:Int)-Int.tdiv n (↑(Int.gcd (if(0:Int)-n>n then(0:Int)-n else n) d):Int)>Int.tdiv n (↑(Int.gcd (if(0:Int)-n>n then(0:Int)-n else n) d):Int)then(0:Int)-Int.tdiv n (↑(Int.gcd (if(0:Int)-n>n then(0:Int)-n else n) d):Int)else Int.tdiv n (↑(Int.gcd (if(0:Int)-n>n then(0:Int)-n else n) d):Int)) (1:Int) []))).size≤(9223372036854775807:Nat)) (h15:¬Int.tdiv d (↑(Int.gcd (if(0:Int)-n>n then(0:Int)-n else n) d):Int)>1) (h16:(ByteArray.mk #[]++ByteArray.mk (List.toArray (decF (20:Nat) (if(0:Int)-Int.tdiv n (↑(Int.gcd (if(0:Int)-n>n then(0:Int)-n else n) d):Int)>Int.tdiv n (↑(Int.gcd (if(0:Int)-n>n then(0:Int)-n else n) d):Int)then(0:Int)-Int.tdiv n (↑(Int.gcd (if(0:Int)-n>n then(0:Int)-n else n) d):Int)else Int.tdiv n (↑(Int.gcd (if(0:Int)-n>n then(0:Int)-n else n) d):Int)) (1:Int) [])))=(tqS (n/(↑(Int.gcd n d):Int)) (d/(↑(Int.gcd n d):Int)))):
  Tst.path (vrun0 Tryz.prog rofCs (fl BOf1 []) 30 (Tryz.f52.ntmps) [iv n,iv d]) [true,true,false,true,true,false,true,true,false,false,false,false,false] (toRet Tryz.prog Tryz.f52 true (sv (tqS (n/Int.gcd n d) (d/Int.gcd n d)))):=
 mp (an (bF (decide_eq_false h1)) (an (bF (decide_eq_false h1)) (an (decide_eq_false h1) (an (bF (decide_eq_false h2)) (an (bF (decide_eq_false h2)) (an (decide_eq_false h2) (an (bF (decide_eq_false h3)) (an (bF (decide_eq_false h3)) (an (decide_eq_false h3) (an (decide_eq_false h4) (an (decide_eq_false h5) (an (fits_i64 h6) (an h7 (an (decide_eq_true h8) (an (fits_i64 h9) (an (decide_eq_true h8) (an (fits_i64 h10) (an (decide_eq_false h11) (an (fits_i64 h12) (an h13 (an (decide_eq_true h14) (an (decide_eq_false h15) h16))))))))))))))))))))))
theorem rofCs_ok:CallOk Tryz.prog (gS rofCs):=ctrs_ok fun c hc=>by
 simp only [List.mem_cons,List.not_mem_nil,or_false]at hc
 rcases hc with rfl |rfl
 ·exact cRgc_ok
 ·exact cDcm_ok
theorem decF_len:∀(f:Nat) (n m:Int) (s:List UInt8),(decF f n m s).length≤s.length+f
 |0,_,_,s=>Nat.le_refl _
 |f+1,n,m,s=>by
  unfold decF
  split
  ·have:=decF_len f (n/10) m (digU n::s)
   simp at this
   omega
  ·omega
theorem mk_size (l:List UInt8):(ByteArray.mk l.toArray).size=l.length:=rfl
theorem rof_holds (n d:Int) (hn:0≤n) (hn2:n≤4000000000000000000) (hd:0<d) (hd2:d≤4000000000000000000):Holds Tryz.prog true 52 [iv n,iv d] (sv (tqS (n/Int.gcd n d) (d/Int.gcd n d))):=by
 refine holds_fl (c:=BOf1) Tryz.func52 rfl rfl fun w F=> ?_
 have k1:=of_one n d
 have k2:=of_two n d
 have hm:(if(0:Int)-n>n then(0:Int)-n else n)=n:=if_neg (by omega)
 have hg:0<Int.gcd n d:=Int.gcd_pos_of_ne_zero_right _ (by omega)
 simp only [hm]at k1 k2
 have e1:Int.tdiv n (Int.gcd n d:Int)=n/(Int.gcd n d:Int):=Int.tdiv_eq_ediv_of_nonneg hn
 have e2:Int.tdiv d (Int.gcd n d:Int)=d/(Int.gcd n d:Int):=Int.tdiv_eq_ediv_of_nonneg (by omega)
 simp only [e1,e2]at k1 k2
 generalize hgg:(Int.gcd n d:Int)=g at*
 have hg1:1≤g:=by omega
 have b1:0≤n/g:=Int.ediv_nonneg hn (by omega)
 have b2:n/g≤n:=Int.ediv_le_self _ hn
 have b3:0≤d/g:=Int.ediv_nonneg (by omega) (by omega)
 have b4:d/g≤d:=Int.ediv_le_self _ (by omega)
 have hm2:(if(0:Int)-n/g>n/g then(0:Int)-n/g else n/g)=n/g:=if_neg (by omega)
 simp only [hm2]at k1 k2
 have l1:=decF_len 20 (n/g) 1 []
 have l2:=decF_len 20 (d/g) 1 []
 have z1:=mk_size (decF 20 (n/g) 1 [])
 have z2:=mk_size (decF 20 (d/g) 1 [])
 simp only [List.length_nil,Nat.zero_add]at l1 l2
 by_cases h1:d/g>1
 ·have y1:(ByteArray.mk #[]++ByteArray.mk (decF 20 (n/g) 1 []).toArray).size=(decF 20 (n/g) 1 []).length:=by rw [size_b,bs_app];rfl
  have y2:(ByteArray.mk #[]++ByteArray.mk (decF 20 (n/g) 1 []).toArray++ByteArray.mk #[47]).size=(decF 20 (n/g) 1 []).length+1:=by rw [size_b,bs_app,List.length_append,←size_b,y1];rfl
  refine GoalL.ret known mixed rofCs_ok 30 _ (k2 (by omega) (by omega) (by omega) (by omega) (by omega) (by omega) ?_ (by omega) (by omega) (by omega) (by omega) (by omega) ?_ ?_ h1 ?_ ?_ ?_ ?_) fun T H h=>h
  ·rw [Bool.and_eq_true];exact⟨decide_eq_true hn,decide_eq_true (show(0:Int)≤d by omega)⟩
  ·rw [Bool.and_eq_true,Bool.and_eq_true];exact⟨decide_eq_true b1,decide_eq_true (by omega),by decide⟩
  ·rw [z1];show 0+_≤_;omega
  ·rw [y1];show _+1≤_;omega
  ·rw [Bool.and_eq_true,Bool.and_eq_true];exact⟨decide_eq_true b3,decide_eq_true (by omega),by decide⟩
  ·rw [y2,z2];omega
  ·apply ba_ext
   rw [bs_app,bs_app,bs_app]
   unfold tqS
   rw [if_pos h1]
   show(([]++decF 20 (n/g) 1 [])++[47])++decF 20 (d/g) 1 []=decF 20 (n/g) 1 []++47::decF 20 (d/g) 1 []
   simp
 ·refine GoalL.ret known mixed rofCs_ok 30 _ (k1 (by omega) (by omega) (by omega) (by omega) (by omega) (by omega) ?_ (by omega) (by omega) (by omega) (by omega) (by omega) ?_ ?_ h1 ?_) fun T H h=>h
  ·rw [Bool.and_eq_true];exact⟨decide_eq_true hn,decide_eq_true (show(0:Int)≤d by omega)⟩
  ·rw [Bool.and_eq_true,Bool.and_eq_true];exact⟨decide_eq_true b1,decide_eq_true (by omega),by decide⟩
  ·rw [z1];show 0+_≤_;omega
  ·apply ba_ext
   rw [bs_app]
   unfold tqS
   rw [if_neg h1,List.append_nil]
   rfl
noncomputable def cRof:Ctr:={f:=52,ps:=[.int .i64, .int .i64],rs:=[.str],fresh:=true,pre:=fun d=>(decide (0≤d.1)&&decide (d.1≤4000000000000000000))&&(decide (0<d.2.1)&&decide (d.2.1≤4000000000000000000)),fn:=fun d=>(tqS (d.1/Int.gcd d.1 d.2.1) (d.2.1/Int.gcd d.1 d.2.1),())}
theorem cRof_ok:cRof.Ok Tryz.prog:=fun⟨n,d,_⟩ h=>by
 have h:((decide (0≤n)&&decide (n≤4000000000000000000))&&(decide (0<d)&&decide (d≤4000000000000000000)))=true:=h
 simp only [Bool.and_eq_true,decide_eq_true_eq]at h
 exact rof_holds n d h.1.1 h.1.2 h.2.1 h.2.2
end
end Go.Proofs.YtjcbbabaabcdgaaGreatDoor
/- The reference of chapter 1: Mul of small numbers that are not negative. -/
namespace Go.Proofs.YtjcbbabaabcdgaaGreatDoor
open Go.RowKit Sv
set_option maxRecDepth 100000
set_option linter.unusedVariables false
set_option linter.unusedSimpArgs false
noncomputable section
noncomputable def BRml:Code:=(Tryz.f21.body).getD .skip
noncomputable def rmlCs:VCaller:=ctrs [cQk,cRof]
theorem ml_all (a b:ByteArray) (h1:(okQk a)=true) (h2:(okQk b)=true) (h3: -9223372036854775808≤qkN a*qkN b∧qkN a*qkN b≤9223372036854775807) (h4: -9223372036854775808≤qkD a*qkD b∧qkD a*qkD b≤9223372036854775807) (h5:(decide ((0:Ty.den (.int .i64))≤qkN a*qkN b)&&decide (qkN a*qkN b≤(4000000000000000000:Ty.den (.int .i64)))&&(decide ((0:Ty.den (.int .i64))<qkD a*qkD b)&&decide (qkD a*qkD b≤(4000000000000000000:Ty.den (.int .i64)))))=true):
  Tst.path (vrun0 Tryz.prog rmlCs (fl BRml []) 30 (Tryz.f21.ntmps) [sv a,sv b]) [true,true,true] (toRet Tryz.prog Tryz.f21 true (sv (tqS (qkN a*qkN b/Int.gcd (qkN a*qkN b) (qkD a*qkD b)) (qkD a*qkD b/Int.gcd (qkN a*qkN b) (qkD a*qkD b))))):=
 mp (an h1 (an h2 (an rt (an rt (an rt (an (fits_i64 h3) (an (fits_i64 h4) (an h5 (rr (tqS (qkN a*qkN b/(↑(Int.gcd (qkN a*qkN b) (qkD a*qkD b)):Int)) (qkD a*qkD b/(↑(Int.gcd (qkN a*qkN b) (qkD a*qkD b)):Int))))))))))))
def okMl (a b:ByteArray):Bool:=(okQk a&&okQk b)&&((decide (0≤qkN a*qkN b)&&decide (qkN a*qkN b≤4000000000000000000))&&(decide (0<qkD a*qkD b)&&decide (qkD a*qkD b≤4000000000000000000)))
def mlS (a b:ByteArray):ByteArray:=tqS (qkN a*qkN b/Int.gcd (qkN a*qkN b) (qkD a*qkD b)) (qkD a*qkD b/Int.gcd (qkN a*qkN b) (qkD a*qkD b))
theorem rmlCs_ok:CallOk Tryz.prog (gS rmlCs):=ctrs_ok fun c hc=>by
 simp only [List.mem_cons,List.not_mem_nil,or_false]at hc
 rcases hc with rfl |rfl
 ·exact cQk_ok
 ·exact cRof_ok
theorem ml_holds (a b:ByteArray) (h:okMl a b=true):Holds Tryz.prog true 21 [sv a,sv b] (sv (mlS a b)):=by
 refine holds_fl (c:=BRml) Tryz.func21 rfl rfl fun w F=> ?_
 unfold okMl at h
 simp only [Bool.and_eq_true,decide_eq_true_eq]at h
 obtain⟨⟨g1,g2⟩,⟨g3,g4⟩,g5,g6⟩:=h
 exact GoalL.ret known mixed rmlCs_ok 30 _ (ml_all a b g1 g2 (by omega) (by omega) (by
  simp only [Bool.and_eq_true]
  exact⟨⟨decide_eq_true g3,decide_eq_true g4⟩,decide_eq_true g5,decide_eq_true g6⟩)) fun T H h=>h
noncomputable def cMl:Ctr:={f:=21,ps:=[.str, .str],rs:=[.str],fresh:=true,pre:=fun d=>okMl d.1 d.2.1,fn:=fun d=>(mlS d.1 d.2.1,())}
theorem cMl_ok:cMl.Ok Tryz.prog:=fun⟨a,b,_⟩ h=>ml_holds a b h
end
end Go.Proofs.YtjcbbabaabcdgaaGreatDoor
