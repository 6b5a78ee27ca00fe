/- Package gear: ratio. -/
import Derived.Test.YtccmlbinkgbpgaaGreatDoorZtGAw1
import Derived.Test.YtccmlbinkgbpgaaGreatDoorZtDig
import Derived.Lib.ItoaNum
import Derived.Lib.Atoi
import Derived.Lib.IndexMore
import Derived.Lib.Strings
import Derived.Test.YtccmlbinkgbpgaaGreatDoorZtVBas
import Derived.Deep.RegionLaw
import Derived.Lib.SliceRun
import Derived.Shelf.RegionOpenPlain
import Derived.Test.YtccmlbinkgbpgaaGreatDoorProg
import Derived.WalkKit
import Derived.WalkLawsBesides
import Derived.WalkSpells
import Derived.Lib.Hide
import Derived.IntWalk
import Derived.Maps.OwnSet
import Derived.Maps.Views
import Derived.Maps.OwnOps
import Derived.Test.YtccmlbinkgbpgaaGreatDoorZtSvGive
namespace Go.Proofs.YtccmlbinkgbpgaaGreatDoor
open Go.RowKit Sv
set_option maxRecDepth 100000
set_option linter.unusedVariables false
set_option linter.unusedSimpArgs false
noncomputable section
noncomputable def BGr:Code:=(Tryz.f22.body).getD .skip
noncomputable def grCs:VCaller:=ctrs [cF,cOf,cMake,cQMul]
abbrev r2:Sv.Ren:=[(64,64,none),(65,65,none)]
abbrev bQ (q:NQ):Ent:= .blk (.cells 76 [iv q.1.1, .lst true (.int .u64) q.1.2,iv q.2.1, .lst true (.int .u64) q.2.2] true false false)
def SGr (t:List (Int×Int)) (q:NQ) (k:Nat):St:={n:=24,sl:=[(0,pl t),(2, .ptr 64 0),(3, .ptr 65 0),(7,pl t),(8,iv t.length),(9,iv k)],en:=[(64,bQ0),(65,bQ q)],next:=66}
theorem gr_start (t:List (Int×Int)):
  Tst.path (vrun0 Tryz.prog grCs (fl BGr []) 3 24 [pl t]) [] (toSt Tryz.prog 24 .normal r2 (SGr t (qOf (iOf 1)) 0)):=
 mp (an rt (an (rr t) (an (rr ((0:Nat))) (an (rr ((0:Nat))) (an (rr t) (an (rr ((↑t.length:Int))) (an (rr ((0:Int))) (an (an (rr ((0:Int))) (an (rr (Value.slice none (0:Nat) (0:Nat))) (an (rr ((0:Int))) (an (rr (Value.slice none (0:Nat) (0:Nat))) trivial)))) (an (an (rr (qOf (iOf (1:Int))).1.1) (an (rr (qOf (iOf (1:Int))).1.2) (an (rr (qOf (iOf (1:Int))).2.1) (an (rr (qOf (iOf (1:Int))).2.2) trivial)))) trivial)))))))))
theorem gr_go (t:List (Int×Int)) (q:NQ) (k:Nat) (h1:(↑k:Int)<(↑t.length:Int)) (h2:k<t.length) (h3:(okQuo ((iOf (List.getD t k ((0:Int),(0:Int))).1).1,(iOf (List.getD t k ((0:Int),(0:Int))).1).2) ((iOf (List.getD t k ((0:Int),(0:Int))).2).1,(iOf (List.getD t k ((0:Int),(0:Int))).2).2))=true) (h4:(okQ (20000:Nat) ((q.1.1,q.1.2),q.2.1,q.2.2)&&okQ (20000:Nat) (((qMake ((iOf (List.getD t k ((0:Int),(0:Int))).1).1,(iOf (List.getD t k ((0:Int),(0:Int))).1).2) ((iOf (List.getD t k ((0:Int),(0:Int))).2).1,(iOf (List.getD t k ((0:Int),(0:Int))).2).2)).1.1,(qMake ((iOf (List.getD t k ((0:Int),(0:Int))).1).1,(iOf (List.getD t k ((0:Int),(0:Int))).1).2) ((iOf (List.getD t k ((0:Int),(0:Int))).2).1,(iOf (List.getD t k ((0:Int),(0:Int))).2).2)).1.2),(qMake ((iOf (List.getD t k ((0:Int),(0:Int))).1).1,(iOf (List.getD t k ((0:Int),(0:Int))).1).2) ((iOf (List.getD t k ((0:Int),(0:Int))).2).1,(iOf (List.getD t k ((0:Int),(0:Int))).2).2)).2.1,(qMake ((iOf (List.getD t k ((0:Int),(0:Int))).1).1,(iOf (List.getD t k ((0:Int),(0:Int))).1).2) ((iOf (List.getD t k ((0:Int),(0:Int))).2).1,(iOf (List.getD t k ((0:Int),(0:Int))).2).2)).2.2))=true) (h5: -9223372036854775808≤(↑k:Int)+1∧(↑k:Int)+1≤9223372036854775807):
  Tst.path (vall Tryz.prog grCs (fl BGr [1,1,0,1,0,0]) (SGr t q k)) [true] (toSt Tryz.prog 24 .normal r2 (SGr t (qMul q (qMake (iOf (g0 t k).1) (iOf (g0 t k).2))) (k+1))):=
 mp (an (decide_eq_true h1) (an (show(decide ((0:Int)≤(↑k:Int)))=true from decide_eq_true (by omega)) (an (decide_eq_true h2) (an (sr (AV.agg [iv q.1.1,AV.lst true (.int .u64) q.1.2,iv q.2.1,AV.lst true (.int .u64) q.2.2])) (an (sr (iv (List.getD t k ((0:Int),(0:Int))).1)) (an rt (an (sr (AV.agg [iv q.1.1,AV.lst true (.int .u64) q.1.2,iv q.2.1,AV.lst true (.int .u64) q.2.2])) (an (sr (iv (List.getD t k ((0:Int),(0:Int))).2)) (an (sr (iv (List.getD t k ((0:Int),(0:Int))).2)) (an rt (an (sr (AV.agg [iv q.1.1,AV.lst true (.int .u64) q.1.2,iv q.2.1,AV.lst true (.int .u64) q.2.2])) (an h3 (an (sr (AV.agg [iv q.1.1,AV.lst true (.int .u64) q.1.2,iv q.2.1,AV.lst true (.int .u64) q.2.2])) (an h4 (an (fits_i64 h5) (an (rr t) (an (rr ((0:Nat))) (an (rr ((0:Nat))) (an (rr t) (an (rr ((↑t.length:Int))) (an (show((↑k:Int)+1)=((↑(k+(1:Nat)):Int))from(by omega)) (an (an (rr ((0:Int))) (an (rr (Value.slice none (0:Nat) (0:Nat))) (an (rr ((0:Int))) (an (rr (Value.slice none (0:Nat) (0:Nat))) trivial)))) (an (an (rr (qMul ((q.1.1,q.1.2),q.2.1,q.2.2) (((qMake ((iOf (List.getD t k ((0:Int),(0:Int))).1).1,(iOf (List.getD t k ((0:Int),(0:Int))).1).2) ((iOf (List.getD t k ((0:Int),(0:Int))).2).1,(iOf (List.getD t k ((0:Int),(0:Int))).2).2)).1.1,(qMake ((iOf (List.getD t k ((0:Int),(0:Int))).1).1,(iOf (List.getD t k ((0:Int),(0:Int))).1).2) ((iOf (List.getD t k ((0:Int),(0:Int))).2).1,(iOf (List.getD t k ((0:Int),(0:Int))).2).2)).1.2),(qMake ((iOf (List.getD t k ((0:Int),(0:Int))).1).1,(iOf (List.getD t k ((0:Int),(0:Int))).1).2) ((iOf (List.getD t k ((0:Int),(0:Int))).2).1,(iOf (List.getD t k ((0:Int),(0:Int))).2).2)).2.1,(qMake ((iOf (List.getD t k ((0:Int),(0:Int))).1).1,(iOf (List.getD t k ((0:Int),(0:Int))).1).2) ((iOf (List.getD t k ((0:Int),(0:Int))).2).1,(iOf (List.getD t k ((0:Int),(0:Int))).2).2)).2.2)).1.1) (an (rr (qMul ((q.1.1,q.1.2),q.2.1,q.2.2) (((qMake ((iOf (List.getD t k ((0:Int),(0:Int))).1).1,(iOf (List.getD t k ((0:Int),(0:Int))).1).2) ((iOf (List.getD t k ((0:Int),(0:Int))).2).1,(iOf (List.getD t k ((0:Int),(0:Int))).2).2)).1.1,(qMake ((iOf (List.getD t k ((0:Int),(0:Int))).1).1,(iOf (List.getD t k ((0:Int),(0:Int))).1).2) ((iOf (List.getD t k ((0:Int),(0:Int))).2).1,(iOf (List.getD t k ((0:Int),(0:Int))).2).2)).1.2),(qMake ((iOf (List.getD t k ((0:Int),(0:Int))).1).1,(iOf (List.getD t k ((0:Int),(0:Int))).1).2) ((iOf (List.getD t k ((0:Int),(0:Int))).2).1,(iOf (List.getD t k ((0:Int),(0:Int))).2).2)).2.1,(qMake ((iOf (List.getD t k ((0:Int),(0:Int))).1).1,(iOf (List.getD t k ((0:Int),(0:Int))).1).2) ((iOf (List.getD t k ((0:Int),(0:Int))).2).1,(iOf (List.getD t k ((0:Int),(0:Int))).2).2)).2.2)).1.2) (an (rr (qMul ((q.1.1,q.1.2),q.2.1,q.2.2) (((qMake ((iOf (List.getD t k ((0:Int),(0:Int))).1).1,(iOf (List.getD t k ((0:Int),(0:Int))).1).2) ((iOf (List.getD t k ((0:Int),(0:Int))).2).1,(iOf (List.getD t k ((0:Int),(0:Int))).2).2)).1.1,(qMake ((iOf (List.getD t k ((0:Int),(0:Int))).1).1,(iOf (List.getD t k ((0:Int),(0:Int))).1).2) ((iOf (List.getD t k ((0:Int),(0:Int))).2).1,(iOf (List.getD t k ((0:Int),(0:Int))).2).2)).1.2),(qMake ((iOf (List.getD t k ((0:Int),(0:Int))).1).1,(iOf (List.getD t k ((0:Int),(0:Int))).1).2) ((iOf (List.getD t k ((0:Int),(0:Int))).2).1,(iOf (List.getD t k ((0:Int),(0:Int))).2).2)).2.1,(qMake ((iOf (List.getD t k ((0:Int),(0:Int))).1).1,(iOf (List.getD t k ((0:Int),(0:Int))).1).2) ((iOf (List.getD t k ((0:Int),(0:Int))).2).1,(iOf (List.getD t k ((0:Int),(0:Int))).2).2)).2.2)).2.1) (an (rr (qMul ((q.1.1,q.1.2),q.2.1,q.2.2) (((qMake ((iOf (List.getD t k ((0:Int),(0:Int))).1).1,(iOf (List.getD t k ((0:Int),(0:Int))).1).2) ((iOf (List.getD t k ((0:Int),(0:Int))).2).1,(iOf (List.getD t k ((0:Int),(0:Int))).2).2)).1.1,(qMake ((iOf (List.getD t k ((0:Int),(0:Int))).1).1,(iOf (List.getD t k ((0:Int),(0:Int))).1).2) ((iOf (List.getD t k ((0:Int),(0:Int))).2).1,(iOf (List.getD t k ((0:Int),(0:Int))).2).2)).1.2),(qMake ((iOf (List.getD t k ((0:Int),(0:Int))).1).1,(iOf (List.getD t k ((0:Int),(0:Int))).1).2) ((iOf (List.getD t k ((0:Int),(0:Int))).2).1,(iOf (List.getD t k ((0:Int),(0:Int))).2).2)).2.1,(qMake ((iOf (List.getD t k ((0:Int),(0:Int))).1).1,(iOf (List.getD t k ((0:Int),(0:Int))).1).2) ((iOf (List.getD t k ((0:Int),(0:Int))).2).1,(iOf (List.getD t k ((0:Int),(0:Int))).2).2)).2.2)).2.2) trivial)))) trivial)))))))))))))))))))))))
theorem gr_end (t:List (Int×Int)) (q:NQ) (k:Nat) (h1:¬(↑k:Int)<(↑t.length:Int)):
  Tst.path (vall Tryz.prog grCs (fl BGr [1,1,0,1,0,0]) (SGr t q k)) [false] (toSt Tryz.prog 24 (.exit 0) r2 (SGr t q k)):=
 mp (an (decide_eq_false h1) (an (rr t) (an (rr ((0:Nat))) (an (rr ((0:Nat))) (an (rr t) (an (rr ((↑t.length:Int))) (an (rr ((↑k:Int))) (an (an (rr ((0:Int))) (an (rr (Value.slice none (0:Nat) (0:Nat))) (an (rr ((0:Int))) (an (rr (Value.slice none (0:Nat) (0:Nat))) trivial)))) (an (an (rr q.1.1) (an (rr q.1.2) (an (rr q.2.1) (an (rr q.2.2) trivial)))) trivial)))))))))
theorem gr_fin (t:List (Int×Int)) (q:NQ) (k:Nat):
  Tst.path (vall Tryz.prog grCs (List.drop 4 (fl BGr [])) (SGr t q k)) [] (toRet Tryz.prog Tryz.f22 false (qv q)):=
 mp (an (rr q.1.1) (an (rr q.1.2) (an (rr q.2.1) (an (rr q.2.2) trivial))))
theorem grCs_ok:CallOk Tryz.prog (gS grCs):=ctrs_ok fun c hc=>by
 simp only [List.mem_cons,List.not_mem_nil,or_false]at hc
 rcases hc with rfl |rfl |rfl |rfl
 ·exact cF_ok
 ·exact cOf_ok
 ·exact cMake_ok
 ·exact cQMul_ok
def ratQ (t:List (Int×Int)):Nat→NQ
 |0=>qOf (iOf 1)
 |k+1=>qMul (ratQ t k) (qMake (iOf (g0 t k).1) (iOf (g0 t k).2))
def ratR (t:List (Int×Int)):Nat→Rat
 |0=>1
 |k+1=>ratR t k*Rat.divInt (g0 t k).1 (g0 t k).2
theorem ok_iOf {n:Nat} {x:Int} (h: -9223372036854775808≤x∧x≤9223372036854775807):okN n (iOf x)=true:=by
 rw [okN_sm (a:=iOf x) rfl]
 unfold i64B
 rw [Bool.and_eq_true]
 exact⟨decide_eq_true h.1,decide_eq_true h.2⟩
theorem val_iOf (x:Int):valI (iOf x)=x:=if_pos rfl
theorem pair_qr {a b:Int} (ha:1≤a∧a≤400) (hb:1≤b∧b≤400):QR 1 (qMake (iOf a) (iOf b)) (Rat.divInt a b):=by
 have:=(qMake_law (n:=1) (a:=iOf a) (b:=iOf b) (ok_iOf (by omega)) (ok_iOf (by omega)) (by decide) (by rw [val_iOf];omega)).qr (by rw [val_iOf];omega)
 rwa [val_iOf,val_iOf]at this
theorem ratQ_qr {t:List (Int×Int)} (h:∀k,k<t.length→(1≤(g0 t k).1∧(g0 t k).1≤400)∧1≤(g0 t k).2∧(g0 t k).2≤400):∀k,k≤t.length→QR (k+1) (ratQ t k) (ratR t k)
 |0,_=>by
  have:=qOf_qr (n:=1) (a:=iOf 1) (ok_iOf (by decide))
  rw [val_iOf]at this
  exact this
 |k+1,hk=>by
  have ih:=ratQ_qr h k (by omega)
  have hp:=h k (by omega)
  exact qMul_qr ih (pair_qr hp.1 hp.2) (by omega) (by decide)
theorem gr_holds (t:List (Int×Int)) (hl:t.length≤4) (h:∀k,k<t.length→(1≤(g0 t k).1∧(g0 t k).1≤400)∧1≤(g0 t k).2∧(g0 t k).2≤400):
  Holds Tryz.prog false 22 [pl t] (qv (ratQ t t.length)):=by
 have hS:=grCs_ok
 refine holds_fl (c:=BGr) Tryz.func22 rfl rfl fun w F=> ?_
 refine GoalL.to known mixed hS 3 _ (gr_start t) (by kernel_rfl) ?_
 refine GoalL.loop (ι:={k:Nat//k≤t.length}) (id:=0) (b:=cat BGr [1,1,0,1,0,0]) (rest:=List.drop 4 (fl BGr [])) (by kernel_rfl) (fun k=>SGr t (ratQ t k.1) k.1) (fun k=>t.length-k.1) ⟨0,Nat.zero_le _⟩ (fun _=>rfl) ?_
 rintro⟨k,hk⟩
 by_cases hlt:k<t.length
 ·have hp:=h k hlt
  have q1:=(ratQ_qr h k hk).mono (show k+1≤20000 by omega)
  have q2:=(pair_qr hp.1 hp.2).mono (show 1≤20000 by decide)
  refine GoalL.all (s:=SGr t (ratQ t k) k) known mixed hS _ (gr_go t (ratQ t k) k (by omega) hlt (okQuo_iff.2 ⟨ok_iOf (by show-9223372036854775808≤(g0 t k).1∧(g0 t k).1≤9223372036854775807;omega),ok_iOf (by show-9223372036854775808≤(g0 t k).2∧(g0 t k).2≤9223372036854775807;omega),by show valI (iOf (g0 t k).2)≠0;rw [val_iOf];omega⟩) (by rw [Bool.and_eq_true];exact⟨q1.ok,q2.ok⟩) (by omega)) (by kernel_rfl) ?_
  exact⟨⟨k+1,hlt⟩,by simp;omega,rfl,rfl⟩
 ·refine GoalL.all (s:=SGr t (ratQ t k) k) known mixed hS _ (gr_end t _ k (by omega)) (by kernel_rfl) ?_
  refine onN_exit (inB_exit ?_)
  obtain rfl:k=t.length:=by omega
  exact GoalL.allRet (s:=SGr t _ t.length) known mixed hS _ (gr_fin t _ _) fun T H h=>h
end
end Go.Proofs.YtccmlbinkgbpgaaGreatDoor
/- Package num: notations of small numbers. -/
namespace Go.Proofs.YtccmlbinkgbpgaaGreatDoor
open Go.RowKit Sv
set_option maxRecDepth 100000
set_option linter.unusedVariables false
set_option linter.unusedSimpArgs false
noncomputable section
noncomputable def BSt:Code:=(Tryz.f58.body).getD .skip
noncomputable def BTx:Code:=(Tryz.f23.body).getD .skip
noncomputable def stsCs:VCaller:=ctrs [cItoa]
theorem sts_all (a:NI) (h1:a.2.isEmpty=true) (h2:(i64B a.1)=true):
  Tst.path (vrun0 Tryz.prog stsCs (fl BSt []) 4 69 [nv a]) [true] (toRet Tryz.prog Tryz.f58 true (sv (itoaS a.1))):=
 mp (an (bT h1) (an h2 (rr (itoaS a.1))))
theorem stsCs_ok:CallOk Tryz.prog (gS stsCs):=ctrs_ok fun c hc=>by
 simp only [List.mem_cons,List.not_mem_nil,or_false]at hc
 rcases hc with rfl
 exact cItoa_ok
theorem sts_holds (a:NI) (h:List.isEmpty a.2=true) (h2:i64B a.1=true):Holds Tryz.prog true 58 [nv a] (sv (itoaS a.1)):=by
 refine holds_fl (c:=BSt) Tryz.func58 rfl rfl fun w F=> ?_
 exact GoalL.ret known mixed stsCs_ok 4 _ (sts_all a h h2) fun T H h=>h
noncomputable def cSts:Ctr:={f:=58,ps:=[tI],rs:=[.str],fresh:=true,pre:=fun d=>List.isEmpty (α:=Int) d.1.2&&i64B d.1.1,fn:=fun d=>(itoaS d.1.1,())}
theorem cSts_ok:cSts.Ok Tryz.prog:=fun⟨a,_⟩ h=>by
 have h:(List.isEmpty a.2&&i64B a.1)=true:=h
 rw [Bool.and_eq_true]at h
 exact sts_holds a h.1 h.2
noncomputable def txCs:VCaller:=ctrs [cSts,cIsW]
set_option pp.structureInstances false
theorem tx_int (q:NQ) (h1:(isW ((q.1.1,q.1.2),q.2.1,q.2.2))=true) (h2:(q.1.2.isEmpty&&i64B q.1.1)=true):
  Tst.path (vrun0 Tryz.prog txCs (fl BTx []) 9 16 [qv q]) [true] (toRet Tryz.prog Tryz.f23 true (sv (itoaS q.1.1))):=
 mp (an rt (an h1 (an h2 (rr (itoaS q.1.1)))))
theorem tx_f (q:NQ) (h1:(isW ((q.1.1,q.1.2),q.2.1,q.2.2))=false) (h2:(q.1.2.isEmpty&&i64B q.1.1)=true) (h3:(itoaS q.1.1).size+(ByteArray.mk #[(47:UInt8)]).size≤(9223372036854775807:Nat)) (h4:(q.2.2.isEmpty&&i64B q.2.1)=true) (h5:(itoaS q.1.1++ByteArray.mk #[(47:UInt8)]).size+(itoaS q.2.1).size≤(9223372036854775807:Nat)):
  Tst.path (vrun0 Tryz.prog txCs (fl BTx []) 9 16 [qv q]) [false] (toRet Tryz.prog Tryz.f23 true (sv (itoaS q.1.1++ByteArray.mk #[47]++itoaS q.2.1))):=
 mp (an rt (an h1 (an (sr (AV.agg [iv q.1.1,AV.lst true (.int .u64) q.1.2])) (an h2 (an (decide_eq_true h3) (an (sr (AV.agg [iv q.2.1,AV.lst true (.int .u64) q.2.2])) (an (sr (AV.agg [iv q.2.1,AV.lst true (.int .u64) q.2.2])) (an h4 (an (decide_eq_true h5) (rr (itoaS q.1.1++ByteArray.mk #[(47:UInt8)]++itoaS q.2.1)))))))))))
def okTx (q:NQ):Bool:=((List.isEmpty q.1.2&&i64B q.1.1)&&(List.isEmpty q.2.2&&i64B q.2.1))&&(decide ((itoaS q.1.1).size≤100)&&decide ((itoaS q.2.1).size≤100))
def txS (q:NQ):ByteArray:=if isW q=true then itoaS q.1.1 else itoaS q.1.1++ByteArray.mk #[47]++itoaS q.2.1
theorem txCs_ok:CallOk Tryz.prog (gS txCs):=ctrs_ok fun c hc=>by
 simp only [List.mem_cons,List.not_mem_nil,or_false]at hc
 rcases hc with rfl |rfl
 ·exact cSts_ok
 ·exact cIsW_ok
theorem tx_holds (q:NQ) (h:okTx q=true):Holds Tryz.prog true 23 [qv q] (sv (txS q)):=by
 unfold okTx at h
 rw [Bool.and_eq_true]at h
 obtain⟨h1,h2⟩:=h
 rw [Bool.and_eq_true]at h1 h2
 obtain⟨g1,g2⟩:=h1
 have g3:=of_decide_eq_true h2.1
 have g4:=of_decide_eq_true h2.2
 refine holds_fl (c:=BTx) Tryz.func23 rfl rfl fun w F=> ?_
 cases hw:isW q with
 |true=>
  have e:txS q=itoaS q.1.1:=by unfold txS;rw [if_pos hw]
  rw [e]
  exact GoalL.ret known mixed txCs_ok 9 _ (tx_int q hw g1) fun T H h=>h
 |false=>
  have e:txS q=itoaS q.1.1++ByteArray.mk #[47]++itoaS q.2.1:=by unfold txS;rw [if_neg (by rw [hw];decide)]
  rw [e]
  have z1:(ByteArray.mk #[47]).size=1:=rfl
  exact GoalL.ret known mixed txCs_ok 9 _ (tx_f q hw g1 (by rw [z1];omega) g2 (by rw [ByteArray.size_append,z1];omega)) fun T H h=>h
noncomputable def cTx:Ctr:={f:=23,ps:=[tQ],rs:=[.str],fresh:=true,pre:=fun d=>okTx d.1,fn:=fun d=>(txS d.1,())}
theorem cTx_ok:cTx.Ok Tryz.prog:=fun⟨q,_⟩ h=>tx_holds q h
end
end Go.Proofs.YtccmlbinkgbpgaaGreatDoor
/- Plain facts on decimal numerals (no program). -/
namespace Go.Proofs.YtccmlbinkgbpgaaGreatDoor.Dec
open Go.Lib
theorem digit_byte (d:Nat) (h:d<10):(UInt8.ofNat (48+d)).toNat=48+d:=by
 rw [UInt8.toNat_ofNat'];omega
theorem digits_all (u:Nat):∀b∈decDigits u,48≤b.toNat∧b.toNat≤57:=by
 induction u using Nat.strongRecOn with
 |_ u ih=>
  intro b hb
  rw [decDigits]at hb
  split at hb
  ·simp only [List.mem_singleton]at hb
   subst hb
   rw [digit_byte _ (by omega)];omega
  ·rcases List.mem_append.1 hb with h|h
   ·exact ih (u/10) (by omega) b h
   ·simp only [List.mem_singleton]at h
    subst h
    rw [digit_byte _ (by omega)];omega
theorem digits_pos (u:Nat):0<(decDigits u).length:=by
 rw [decDigits];split<;>simp
theorem digits_len (k:Nat):∀u,u<10^(k+1)→(decDigits u).length≤k+1:=by
 induction k with
 |zero=>intro u hu;rw [decDigits,dif_pos (by simpa using hu)];simp
 |succ k ih=>
  intro u hu
  rw [decDigits]
  split
  ·simp
  ·have:=ih (u/10) (by rw [Nat.div_lt_iff_lt_mul (by omega)];rw [Nat.pow_succ]at hu;exact hu)
   simp;omega
theorem decFrom_append (l:List UInt8):∀(acc m:Nat) (d:Nat),d<10→decFrom acc l=some m→decFrom acc (l++[UInt8.ofNat (48+d)])=some (m*10+d):=by
 induction l with
 |nil=>
  intro acc m d hd h
  simp only [decFrom,Option.some.injEq]at h
  subst h
  simp only [List.nil_append,decFrom,digitVal,digit_byte d hd]
  rw [if_pos (by omega)]
  show some (acc*10+(48+d-48))=_
  congr 1;omega
 |cons b r ih=>
  intro acc m d hd h
  rw [List.cons_append]
  unfold decFrom at h ⊢
  cases hv:digitVal b with
  |none=>rw [hv]at h;cases h
  |some v=>rw [hv]at h;exact ih _ _ _ hd h
theorem decFrom_digits (u:Nat):decFrom 0 (decDigits u)=some u:=by
 induction u using Nat.strongRecOn with
 |_ u ih=>
  rw [decDigits]
  split
  ·have:=decFrom_append [] 0 0 u (by omega) rfl
   simpa using this
  ·have:=decFrom_append (decDigits (u/10)) 0 (u/10) (u%10) (by omega) (ih (u/10) (by omega))
   rw [this];congr 1;omega
theorem no_prefix (l:List UInt8) (h:∀b∈l,48≤b.toNat∧b.toNat≤57):hasPrefix l [45]=false:=by
 cases l with
 |nil=>rfl
 |cons b r=>
  have:=h b (by simp)
  have hb:(45==b)=false:=by
   rw [beq_eq_false_iff_ne];intro e;subst e;simp at this
  simp [hasPrefix,List.isPrefixOf,hb]
theorem itoa_nat (u:Nat):itoa (u:Int)=decDigits u:=by unfold itoa;rw [if_neg (by omega)];simp
end Go.Proofs.YtccmlbinkgbpgaaGreatDoor.Dec
/- The ratio's lowest terms are the reference's; its text. -/
namespace Go.Proofs.YtccmlbinkgbpgaaGreatDoor
open Go.RowKit Sv
set_option linter.unusedVariables false
theorem red_div {n d:Int} (hd:1≤d):Rat.divInt (redN n d) (redD n d)=Rat.divInt n d:=by
 have hg:0<Int.gcd n d:=Int.gcd_pos_of_ne_zero_right _ (by omega)
 have e1:=Int.ediv_mul_cancel (show(Int.gcd n d:Int)∣n from Int.gcd_dvd_left ..)
 have e2:=Int.ediv_mul_cancel (show(Int.gcd n d:Int)∣d from Int.gcd_dvd_right ..)
 unfold redN redD
 have e:Rat.divInt n d=Rat.divInt (n/(Int.gcd n d:Int)*(Int.gcd n d:Int)) (d/(Int.gcd n d:Int)*(Int.gcd n d:Int)):=by rw [e1,e2]
 rw [e]
 exact(Rat.divInt_mul_right (show(Int.gcd n d:Int)≠0 by omega)).symm
theorem red_cop {n d:Int} (hd:1≤d):Int.gcd (redN n d) (redD n d)=1:=Int.gcd_ediv_gcd_ediv_gcd (by have:=Int.gcd_pos_of_ne_zero_right n (show d≠0 by omega);omega)
theorem cop_num {p q:Int} (hq:1≤q) (h:Int.gcd p q=1):(Rat.divInt p q).num=p∧((Rat.divInt p q).den:Int)=q:=by
 have hd:0<(Rat.divInt p q).den:=(Rat.divInt p q).den_pos
 have e:(Rat.divInt p q).num*q=p*((Rat.divInt p q).den:Int):=(Rat.divInt_eq_divInt_iff (by omega) (by omega)).1 (Rat.num_divInt_den _)
 have g:Int.gcd (Rat.divInt p q).num ((Rat.divInt p q).den:Int)=1:=(Rat.divInt p q).reduced
 exact low_unique (by omega) (by omega) g h e
theorem sm_val {n:Nat} {a:NI} {z:Int} (h:okN n a=true) (hv:valI a=z) (h1: -9223372036854775808<z) (h2:z<9223372036854775808):a=(z,[]):=by
 rw [ok_mk h (by omega),hv,mkI_small (by omega)]
theorem dd_small {u:Nat} (h:u<10):Lib.decDigits u=[UInt8.ofNat (48+u)]:=by rw [Lib.decDigits,dif_pos h]
theorem dd_big {u:Nat} (h:¬u<10):Lib.decDigits u=Lib.decDigits (u/10)++[UInt8.ofNat (48+u%10)]:=by rw [Lib.decDigits,dif_neg h]
theorem decF_all:∀(f:Nat) (n:Int) (s:List UInt8),0≤n→n<10^f→1≤s.length→decF f n 1 s=(if n=0 then []else Lib.decDigits n.toNat)++s
 |0,n,s,h0,h1,hs=>by
  have:n=0:=by simp at h1;omega
  subst this
  rfl
 |f+1,n,s,h0,h1,hs=>by
  have q1:=Int.emod_lt_of_pos n (show(0:Int)<10 by decide)
  have q2:=Int.emod_nonneg n (show(10:Int)≠0 by decide)
  have q3:=Int.mul_ediv_add_emod n 10
  rw [Int.pow_succ]at h1
  unfold decF
  split
  ·rename_i hc
   have hn:0<n:=by omega
   rw [decF_all f (n/10) (digU n::s) (by omega) (by omega) (by simp),if_neg (show¬n=0 by omega)]
   unfold digU
   by_cases h10:n<10
   ·rw [if_pos (by omega),dd_small (u:=n.toNat) (by omega),show n%10=n by omega]
    simp
   ·rw [if_neg (by omega),dd_big (u:=n.toNat) (by omega),show(n/10).toNat=n.toNat/10 by omega,show(n%10).toNat=n.toNat%10 by omega]
    simp
  ·rename_i hc
   have:n=0:=by omega
   subst this
   rfl
theorem decF_itoa {n:Int} (h0:0≤n) (h1:n<100000000000000000000):decF 20 n 1 []=Lib.itoa n:=by
 have q1:=Int.emod_lt_of_pos n (show(0:Int)<10 by decide)
 have q2:=Int.emod_nonneg n (show(10:Int)≠0 by decide)
 have q3:=Int.mul_ediv_add_emod n 10
 show decF (19+1) n 1 []=_
 unfold decF
 rw [if_pos (.inr (by simp)),decF_all 19 (n/10) [digU n] (by omega) (by omega) (by simp)]
 unfold Lib.itoa digU
 rw [if_neg (show¬n<0 by omega)]
 by_cases h10:n<10
 ·rw [if_pos (by omega),dd_small (u:=n.toNat) (by omega),show n%10=n by omega]
  simp
 ·rw [if_neg (by omega),dd_big (u:=n.toNat) (by omega),show(n/10).toNat=n.toNat/10 by omega,show(n%10).toNat=n.toNat%10 by omega]
end Go.Proofs.YtccmlbinkgbpgaaGreatDoor
/- Functions of Go's library that are handed a row of integers of the run's own: what their contracts say of the memory, for the symbolic runner. -/
namespace Go.Proofs.YtccmlbinkgbpgaaGreatDoor
open Go.RowKit Sv
set_option linter.unusedSectionVars false
set_option linter.unusedVariables false
noncomputable section
abbrev tIn:Ty:= .int .i64
abbrev icv (l:List Int):List Value:=l.map (Value.int .i64)
inductive WK|unit|row|int
structure WCtr where
 f:FuncId
 e:TypeId
 k:WK
 nl:Bool
 pre:List Int→Nat→List Int→Bool
 out:List Int→Nat→List Int→List Int
 ln:List Int→Nat→List Int→Nat
 val:List Int→Nat→List Int→Int
def wVal (k:WK) (g n kc:Nat) (v:Int):Value:=match k with | .unit=> .tuple #[]| .row=> .slice (some ⟨g,0,none⟩) n kc| .int=> .int .i64 v
def wRes (k:WK) (e:TypeId) (i n:Nat) (cap:Cap) (v:Int):AV:=match k with | .unit=> .tuple []| .row=> .osl e tIn i 0 n cap| .int=> .raw (.int .i64 v)
def WCtr.Ok (P:Program) (c:WCtr):Prop:=(c.nl=true→∀(p:Option Addr) (cap:Nat) (w:World),Calls P c.f #[.slice p 0 cap] w fun e w'=>e= .returned (.tuple #[])∧w'=w)∧∀(xs:List Int) (len:Nat) (us:List Int),c.pre xs len us=true→1≤len→len≤xs.length→(c.out xs len us).length=xs.length∧c.ln xs len us≤len∧
 ∀(w:World) (g kc:Nat) (cur:Array Value),w.heap[g]? =some (.cells cur c.e (0,0))→cur.toList.take xs.length=icv xs→len≤kc→
  Calls P c.f (Value.slice (some ⟨g,0,none⟩) len kc::icv us).toArray w fun e w'=>e= .returned (wVal c.k g (c.ln xs len us) kc (c.val xs len us))∧w.grownBy w' (some g)∧
   ∃cur',w'.heap[g]? =some (.cells cur' c.e (0,0))∧cur'.size=cur.size∧cur'.toList.take xs.length=icv (c.out xs len us)
def Sv.intsOf:List AV→Option (List Int)
 |[]=>some []
 | .raw (.int .i64 x)::r=>(match Sv.intsOf r with |some l=>some (x::l)|none=>none)
 |_=>none
def Sv.nilB (us:List Int):Bool:=match us with |[]=>true|_=>false
def wctrV (c:WCtr) (args:List AV) (H:AHeap):Tst VR:=match args with
 | .osl e t i k len cap::vs=>(match Nat.beq e c.e&&decide (t=tIn)with
   |true=>(match intsOf vs with
    |some us=> .ask (Nat.beq len 0) fun z=>match z with
     |true=> .must (c.nl&&Sv.nilB us) (.ret (.ok (.tuple []) H))
     |false=> .must (Nat.beq k 0&&(ownHas c.e tIn (H.get i) (len-1)&&Nat.ble 1 len)) (.must (c.pre (blkXs tIn (H.get i)) len us)
      (.ret (.ok (wRes c.k c.e i (c.ln (blkXs tIn (H.get i)) len us) cap (c.val (blkXs tIn (H.get i)) len us)) (H.set i (.own c.e tIn (c.out (blkXs tIn (H.get i)) len us))))))
    |none=> .ret .no)
   |false=> .ret .no)
 |_=> .ret .no
def wctrs (l:List WCtr) (SV:VCaller):VCaller:=fun f args H=>match l with
 |[]=>SV f args H
 |c::l=>match Nat.beq f c.f with |true=>wctrV c args H|false=>wctrs l SV f args H
--{
theorem flat_ic {ρ:Env}:∀{xs:List Int} {ys:List Value},Dens ρ (tIn.flat xs) ys→ys=icv xs
 |[],ys,h=>by cases h;rfl
 |x::r,ys,h=>by
  have h:Dens ρ (AV.raw (.int .i64 x)::tIn.flat r) ys:=h
  cases h with
  |cons h1 h2=>rw [h1.raw_eq,flat_ic h2];rfl
theorem ic_flat {ρ:Env}:∀(xs:List Int),Dens ρ (tIn.flat xs) (icv xs)
 |[]=> .nil
 |x::r=> .cons (.raw _) (ic_flat r)
theorem flatI_len (xs:List Int):(tIn.flat xs).length=xs.length:=by rw [Ty.flat_len];exact Nat.mul_one _
theorem Sv.intsOf_den {ρ:Env}:∀{vs:List AV} {us:List Int} {xs:List Value},intsOf vs=some us→Dens ρ vs xs→xs=icv us
 |[],us,xs,h,hd=>by cases h;cases hd;rfl
 |v::r,us,xs,h,hd=>by
  unfold intsOf at h
  split at h
  ·contradiction
  ·rename_i x l heq
   cases heq
   split at h
   ·rename_i l2 h2
    cases h
    cases hd with
    |cons h1 h3=>rw [h1.raw_eq,Sv.intsOf_den h2 h3];rfl
   ·cases h
  ·cases h
theorem wctrV_inv {c:WCtr} {args:List AV} {H:AHeap} {v:AV} {H':AHeap} (h:(wctrV c args H).gr=some (.ok v H')):(c.nl=true∧v= .tuple []∧H'=H∧∃i k cap,args=[.osl c.e tIn i k 0 cap])∨∃i len cap vs us xs,args= .osl c.e tIn i 0 len cap::vs∧intsOf vs=some us∧H.get i=some (.own c.e tIn xs)∧1≤len∧len≤xs.length∧c.pre xs len us=true∧
  v=wRes c.k c.e i (c.ln xs len us) cap (c.val xs len us)∧H'=H.set i (.own c.e tIn (c.out xs len us)):=by
 unfold wctrV at h
 split at h
 ·rename_i e t i k len cap vs
  split at h
  ·rename_i he
   rw [Bool.and_eq_true]at he
   obtain rfl:=Nat.eq_of_beq_eq_true he.1
   obtain rfl:=of_decide_eq_true he.2
   split at h
   ·rename_i us ha
    cases hz:Nat.beq len 0 with
    |true=>
     obtain rfl:=Nat.eq_of_beq_eq_true hz
     rw [show Nat.beq 0 0=true from rfl]at h
     cases hn:(c.nl&&Sv.nilB us)with
     |false=>simp [Tst.gr,hn]at h
     |true=>
      simp only [Tst.gr,hn,cond_true,Option.some.injEq,VR.ok.injEq]at h
      rw [Bool.and_eq_true]at hn
      have hu:us=[]:=by
       cases us with
       |nil=>rfl
       |cons x r=>exact absurd hn.2 (by simp [Sv.nilB])
      subst hu
      have hv:vs=[]:=by
       cases vs with
       |nil=>rfl
       |cons v r=>
        unfold Sv.intsOf at ha
        split at ha
        ·contradiction
        ·split at ha<;>cases ha
        ·cases ha
      subst hv
      exact .inl ⟨hn.1,h.1.symm,h.2.symm,i,k,cap,rfl⟩
    |false=>
    rw [hz]at h
    refine .inr ?_
    cases hm:(Nat.beq k 0&&(ownHas c.e tIn (H.get i) (len-1)&&Nat.ble 1 len))with
    |false=>simp [Tst.gr,hm]at h
    |true=>
     simp only [Tst.gr,hm,cond_true]at h
     rw [Bool.and_eq_true,Bool.and_eq_true]at hm
     obtain⟨b1,b2⟩:=ownHas_some hm.2.1
     have b3:=Nat.le_of_ble_eq_true hm.2.2
     obtain rfl:=Nat.eq_of_beq_eq_true hm.1
     cases hp:c.pre (blkXs tIn (H.get i)) len us with
     |false=>simp [hp]at h
     |true=>
      simp only [hp,cond_true,Option.some.injEq,VR.ok.injEq]at h
      obtain⟨rfl,rfl⟩:=h
      exact⟨i,len,cap,vs,us,blkXs tIn (H.get i),rfl,ha,b1,b3,by omega,hp,rfl,rfl⟩
   ·cases h
  ·cases h
 ·cases h
theorem wctrV_ok {P:Program} {B:Nat} {ρ:Env} {H:AHeap} {w:World} {c:WCtr} (hc:c.Ok P) {args:List AV} {v:AV} {H':AHeap} (h:(wctrV c args H).gr=some (.ok v H')) {ys:List Value} (m:Nat) (hH:HDen P B ρ H w) (hd:Dens ρ args ys):CallsIn (FF none) m P c.f ys.toArray w (CallPost P B ρ H w v H'):=by
 rcases wctrV_inv h with⟨hn,rfl,rfl,i,k,cap,rfl⟩|⟨i,len,cap,vs,us,xs,rfl,ha,hi,hlen,hk,hp,rfl,rfl⟩
 ·have key:∀p kc,CallsIn (FF none) m P c.f [Value.slice p 0 kc].toArray w (CallPost P B ρ H' w (.tuple []) H'):=fun p kc=>by
   refine callsIn_wide.2 ((hc.1 hn p kc w).mono ?_)
   rintro e w' ⟨rfl,rfl⟩
   exact⟨_,ρ,rfl, .tuple .nil,hH,Stp.refl _ _ _⟩
  cases hd with
  |cons hd0 hds=>
   cases hds
   rcases hd0.osl_inv with⟨_,a,rfl⟩|⟨b,c0,kc,hr,hcap,hlk,rfl⟩
   ·exact key _ _
   ·exact key _ _
 obtain⟨ho,hln,hcall⟩:=hc.2 xs len us hp hlen hk
 cases hd with
 |cons hd0 hds=>
  rename_i x0 xr
  rw [Sv.intsOf_den ha hds]
  rcases hd0.osl_inv with⟨h0,_⟩|⟨b,c0,kc,hr,hcap,hlk,rfl⟩
  ·omega
  obtain⟨zs,q1,q2,q3,q4,q5,q6⟩:=own_at hH hi hr
  rw [flatI_len]at q2 q4
  have q2:=flat_ic q2
  have e0:(0:Nat)*tIn.size=0:=Nat.zero_mul _
  rw [e0]
  refine callsIn_wide.2 ((hcall w b kc zs q1 q2 hlk).mono ?_)
  rintro e w' ⟨rfl,hg,cur',p1,p2,p3⟩
  have hkeep:∀q,q<w.heap.size→q≠b→w'.heap[q]? =w.heap[q]? :=fun q hq hqb=>hg.block q hq (fun e=>hqb (by cases e;rfl))
  have hget:∀j q,(H.set i (.own c.e tIn (c.out xs len us))).get j=some q→∃q',H.get j=some q'∧q'.isRo=q.isRo:=fun j q hj=>by
   rw [AHeap.get_set]at hj
   by_cases hij:i=j
   ·subst hij
    rw [if_pos rfl]at hj
    cases hj
    exact⟨_,hi,rfl⟩
   ·rw [if_neg hij]at hj
    exact⟨q,hj,rfl⟩
  have hnf:∀bb AA,ρ.fz bb=some AA→bb≠b∧bb<w.heap.size:=fun bb AA hz=>by
   obtain⟨⟨ee,fr,k1⟩,k2⟩:=hH.fz bb AA hz
   refine⟨fun hbb=> ?_,(Array.getElem?_eq_some_iff.1 k1).1⟩
   subst hbb
   have:=k2 i _ c0 hi hr
   cases this
  have hres:Den ρ (wRes c.k c.e i (c.ln xs len us) cap (c.val xs len us)) (wVal c.k b (c.ln xs len us) kc (c.val xs len us)):=by
   cases hsl:c.k with
   |row=>
    have:=Den.osl (e:=c.e) (t:=tIn) (i:=i) (k:=0) (len:=c.ln xs len us) (cap:=cap) hr hcap (Nat.le_trans hln hlk)
    rw [e0]at this
    exact this
   |unit=>exact .tuple .nil
   |int=>exact .raw _
  obtain⟨bo,co,oo,o1,o2,o3,o4⟩:=hH.blk i _ hi
  rw [hr]at o1;cases o1
  refine⟨_,ρ,rfl,hres,⟨fun j q hj=> ?_,fun j j' q q' bb cj cj' hj hj' hrj hrj'=> ?_,fun j q hj=> ?_,Nat.le_trans hH.base hg.size,fun bb AA hz=> ?_⟩,
   ⟨Le.refl _,fun _ _=>rfl,Nat.le_refl _,hg.size,hg.os,hg.tape,hg.output,fun q hq hno=> ?_,fun q hq ⟨j,q2,cj,hj,hro,hrj⟩=> ?_,fun q hq ⟨j,q2,cj,hj,hrj⟩=> ?_,fun _ _ h=> .inl h⟩⟩
  ·rw [AHeap.get_set]at hj
   by_cases hij:i=j
   ·subst hij
    rw [if_pos rfl]at hj
    cases hj
    refine⟨b,c0,_,hr,p1,⟨⟨cur',(0,0),rfl,fun _=>rfl, ?_,fun hx=>(by cases hx),fun _=>⟨b,c0,hr,by rw [p2,q3]⟩⟩,q5,q6⟩,fun _=>o4 rfl⟩
    rw [flatI_len,ho,p3]
    exact ic_flat _
   ·rw [if_neg hij]at hj
    obtain⟨bj,cj,oj,k1,k2,k3,k4⟩:=hH.blk j q hj
    have hne:bj≠b:=fun hbb=>hij (hH.inj i j _ _ b c0 cj hi hj hr (by rw [←hbb];exact k1))
    exact⟨bj,cj,oj,k1,(hkeep bj (Array.getElem?_eq_some_iff.1 k2).1 hne).trans k2,k3,k4⟩
  ·obtain⟨q1,g1,_⟩:=hget j q hj
   obtain⟨q2,g2,_⟩:=hget j' q' hj'
   exact hH.inj j j' _ _ bb cj cj' g1 g2 hrj hrj'
  ·obtain⟨q1,g1,_⟩:=hget j q hj
   exact hH.lt j _ g1
  ·obtain⟨hnb,hlt⟩:=hnf bb AA hz
   obtain⟨⟨ee,fr,k1⟩,k2⟩:=hH.fz bb AA hz
   refine⟨⟨ee,fr,(hkeep bb hlt hnb).trans k1⟩,fun j q cj hj hrj=> ?_⟩
   obtain⟨q',g1,g2⟩:=hget j q hj
   rw [←g2]
   exact k2 j q' cj g1 hrj
  ·exact hkeep q hq fun hqb=>hno ⟨i,_,c0,hi,rfl,by rw [hqb];exact hr⟩
  ·obtain⟨q',g1,g2⟩:=hget j q2 hj
   exact⟨j,q',cj,g1,g2.trans hro,hrj⟩
  ·obtain⟨q',g1,_⟩:=hget j q2 hj
   exact⟨j,q',cj,g1,hrj⟩
theorem wctrs_some {SV:VCaller} {f:FuncId} {args:List AV} {H:AHeap} {v:AV} {H':AHeap}:∀{l:List WCtr},(wctrs l SV f args H).gr=some (.ok v H')→(∃c∈l,c.f=f∧(wctrV c args H).gr=some (.ok v H'))∨(SV f args H).gr=some (.ok v H')
 |[],h=> .inr h
 |c::l,h=>by
  unfold wctrs at h
  cases hb:Nat.beq f c.f with
  |true=>simp only [hb]at h;exact .inl ⟨c,List.mem_cons_self,(Nat.eq_of_beq_eq_true hb).symm,h⟩
  |false=>
   simp only [hb]at h
   rcases wctrs_some h with⟨c',h1,h2⟩|h1
   ·exact .inl ⟨c',List.mem_cons_of_mem _ h1,h2⟩
   ·exact .inr h1
theorem wctrs_ok {P:Program} {l:List WCtr} {SV:VCaller} (hl:∀c∈l,c.Ok P) (hS:CallOk P (gS SV)):CallOk P (gS (wctrs l SV)) where
 mono f args H v H' h:=by
  rcases wctrs_some (gS_some h)with⟨c,_,_,h3⟩|h3
  ·rcases wctrV_inv h3 with⟨_,_,rfl,_⟩|⟨_,_,_,_,_,_,_,_,_,_,_,_,_,rfl⟩
   ·exact Nat.le_refl _
   ·exact Nat.le_refl _
  ·exact hS.mono f args H v H' (by unfold gS;rw [h3];rfl)
 sim f args H v H' h B ρ xs w m hH hG hd hf:=by
  rcases wctrs_some (gS_some h)with⟨c,h1,rfl,h3⟩|h3
  ·exact wctrV_ok (hl c h1) h3 m hH hd
  ·exact hS.sim f args H v H' (by unfold gS;rw [h3];rfl) B ρ xs w m hH hG hd hf
--}
end
end Go.Proofs.YtccmlbinkgbpgaaGreatDoor
/- The normal form of a train, in plain words: what is common to drivers and drivens is struck out; both ways of the program and the reference come to the same. -/
namespace Go.Proofs.YtccmlbinkgbpgaaGreatDoor
def cancel:List Int→List Int→List Int×List Int
 |[],ns=>([],ns)
 |d::r,ns=>if d∈ns then cancel r (ns.erase d)else(d::(cancel r ns).1,(cancel r ns).2)
theorem cancel_len:∀ds ns:List Int,(cancel ds ns).1.length+ns.length=(cancel ds ns).2.length+ds.length
 |[],ns=>by simp [cancel]
 |d::r,ns=>by
  unfold cancel
  split
  ·rename_i h
   have:=cancel_len r (ns.erase d)
   have:=List.length_erase_of_mem h
   have:=List.length_pos_of_mem h
   simp;omega
  ·have:=cancel_len r ns
   simp;omega
theorem cancel_sub:∀(ds ns:List Int),(cancel ds ns).1.Sublist ds∧(cancel ds ns).2.Sublist ns
 |[],ns=>by simp [cancel]
 |d::r,ns=>by
  unfold cancel
  split
  ·obtain⟨h1,h2⟩:=cancel_sub r (ns.erase d)
   exact⟨h1.cons _,h2.trans List.erase_sublist⟩
  ·obtain⟨h1,h2⟩:=cancel_sub r ns
   exact⟨h1.cons_cons _,h2⟩
def sortJ (l:List Int):List Int:=l.mergeSort fun x y=>decide (x≤y)
theorem sortJ_len (l:List Int):(sortJ l).length=l.length:=List.length_mergeSort _
end Go.Proofs.YtccmlbinkgbpgaaGreatDoor
/- Go's library: slices.Index, Delete of one element, Sort of a row of integers of the run's own. -/
namespace Go.Proofs.YtccmlbinkgbpgaaGreatDoor
open Go.RowKit Sv
set_option linter.unusedVariables false
def delL (l:List Int) (len a:Nat):List Int:=(l.take a++(l.take len).drop (a+1))++0::l.drop len
def putL (cur:Array Value):Nat→List Value→Array Value
 |_,[]=>cur
 |o,v::r=>putL (cur.setIfInBounds o v) (o+1) r
theorem blk_putL {g:Nat} {t:TypeId}:∀(vs:List Value) (o:Nat) {w:World} {cur:Array Value},Blk w g t cur→Blk (w.setCells g o vs) g t (putL cur o vs)
 |[],_,_,_,h=>h
 |v::r,o,_,_,h=>blk_putL r (o+1) (h.set o v)
theorem putL_size:∀(vs:List Value) (o:Nat) (cur:Array Value),(putL cur o vs).size=cur.size
 |[],_,_=>rfl
 |v::r,o,cur=>by unfold putL;rw [putL_size r];simp
theorem putL_get:∀(vs:List Value) (o:Nat) (cur:Array Value) (j:Nat),(putL cur o vs)[j]? =if o≤j∧j<o+vs.length∧j<cur.size then vs[j-o]? else cur[j]?
 |[],o,cur,j=>by unfold putL;rw [if_neg (by simp;omega)]
 |v::r,o,cur,j=>by
  unfold putL
  rw [putL_get r,Array.size_setIfInBounds]
  by_cases h1:o+1≤j∧j<o+1+r.length∧j<cur.size
  ·rw [if_pos h1,if_pos (by simp;omega),show j-o=(j-(o+1))+1 by omega];simp
  ·rw [if_neg h1,Array.getElem?_setIfInBounds]
   by_cases h2:o=j
   ·subst h2
    by_cases h3:o<cur.size
    ·rw [if_pos rfl,if_pos h3,if_pos (by simp;omega)];simp
    ·rw [if_pos rfl,if_neg h3,if_neg (by simp;omega)]
     simp;omega
   ·rw [if_neg h2,if_neg (by simp;omega)]
theorem grown_set (w:World) (g o:Nat) (v:Value):w.grownBy (w.setCell ⟨g,o,none⟩ v) (some g):=⟨rfl,rfl,rfl,Nat.le_of_eq (by simp [World.setCell]),fun j hj hn=>Below.heap_setCell w _ v j (fun e=>hn (by rw [e]))⟩
theorem grown_tr {a b c:World} {g:Nat} (h:a.grownBy b (some g)) (k:b.grownBy c (some g)):a.grownBy c (some g):=⟨k.os.trans h.os,k.tape.trans h.tape,k.output.trans h.output,Nat.le_trans h.size k.size,fun j hj hn=>(k.block j (Nat.lt_of_lt_of_le hj h.size) hn).trans (h.block j hj hn)⟩
theorem set_far {g:Nat}:∀(vs:List Value) (o:Nat) (w:World),w.grownBy (w.setCells g o vs) (some g)
 |[],_,w=>⟨rfl,rfl,rfl,Nat.le_refl _,fun _ _ _=>rfl⟩
 |v::r,o,w=>grown_tr (grown_set w g o v) (set_far r (o+1) _)
theorem delL_get {l:List Int} {len a:Nat} (h:len≤l.length) (ha:a<len) (j:Nat):(delL l len a)[j]? =if j<a then l[j]? else if j+1<len then l[j+1]? else if j+1=len then some 0 else l[j]? :=by
 have l1:(l.take a).length=a:=by simp;omega
 have l2:((l.take len).drop (a+1)).length=len-(a+1):=by simp;omega
 have l3:(l.take a++(l.take len).drop (a+1)).length=len-1:=by simp;omega
 unfold delL
 by_cases h1:j<a
 ·rw [if_pos h1,List.getElem?_append_left (by omega),List.getElem?_append_left (by omega),List.getElem?_take,if_pos h1]
 ·rw [if_neg h1]
  by_cases h2:j+1<len
  ·rw [if_pos h2,List.getElem?_append_left (by omega),List.getElem?_append_right (by omega),l1,List.getElem?_drop,List.getElem?_take,if_pos (by omega)]
   congr 1;omega
  ·rw [if_neg h2,List.getElem?_append_right (by omega),l3]
   by_cases h3:j+1=len
   ·rw [if_pos h3,show j-(len-1)=0 by omega];rfl
   ·rw [if_neg h3,show j-(len-1)=(j-len)+1 by omega,List.getElem?_cons_succ,List.getElem?_drop]
    congr 1;omega
theorem delL_len {l:List Int} {len a:Nat} (h:len≤l.length) (ha:a<len):(delL l len a).length=l.length:=by
 unfold delL;simp;omega
set_option maxRecDepth 100000 in
set_option maxHeartbeats 4000000 in
theorem delN (g k len a:Nat) (l:List Int) (cur:Array Value) (w:World) (hb:w.heap[g]? =some (.cells cur 3 (0,0))) (hc:cur.toList.take l.length=icv l) (hlen:len≤l.length) (ha:a<len) (hk:len≤k) (hbig:len≤1000000):
  Calls Tryz.prog 25 #[.slice (some ⟨g,0,none⟩) len k, .int .i64 a, .int .i64 (a+1)] w fun e w'=>e= .returned (.slice (some ⟨g,0,none⟩) (len-1) k)∧w'=(w.drew.setCells g a (icv ((l.take len).drop (a+1)))).setCells g (len-1) [.int .i64 0]:=by
 obtain⟨n,rfl⟩:∃n,len=n+1:=⟨len-1,by omega⟩
 obtain⟨i0,hi0,iz0,iz1,iz2⟩:=info_parts Tryz.info3
 have hcell:∀j,j<l.length→w.cell? ⟨g,j,none⟩=some (.int .i64 (l.getD j 0)):=fun j hj=>by
  rw [cell_of_row _ _ j cur _ _ hb]
  have h1:(cur.toList.take l.length)[j]? =some (Value.int .i64 (l.getD j 0)):=by rw [hc];simp [icv,hj]
  rw [List.getElem?_take,if_pos hj]at h1
  simpa using h1
 have hfro:∀j,w.frozen? ⟨g,j,none⟩=false:=fun j=>by simp [World.frozen?,hb]
 have e1:¬(a:Int)=a+1:=by omega
 refine calls_of_wp Tryz.func25 rfl ?_
 simp only [Tryz.ntmps25,List.size_toArray,List.length_cons,List.length_nil,Nat.reduceAdd,Nat.reduceSub,Array.replicate_succ,Array.replicate_zero,List.push_toArray,List.append_toArray,List.nil_append,List.cons_append]
 go_wp2_with fail
 have lys:(icv ((l.take (n+1)).drop (a+1))).length=n-a:=by simp [icv];omega
 have s1:=Lib.hid (show∀t u,(icv ((l.take (n+1)).drop (a+1)))[t]? =some u→w.drew.cell? ((⟨g,a+1,none⟩:Addr).add t)=some u from fun t u hu=>by
  have ht:t<n-a:=by rw [←lys];exact(List.getElem?_eq_some_iff.1 hu).1
  have h1:=hcell (a+1+t) (by omega)
  have h2:u= .int .i64 (l.getD (a+1+t) 0):=by
   simp only [icv,List.getElem?_map,List.getElem?_drop,List.getElem?_take]at hu
   rw [if_pos (by omega)]at hu
   rw [List.getElem?_eq_getElem (by omega)]at hu
   simp at hu
   rw [←hu]
   simp [List.getD_eq_getElem?_getD,show a+1+t<l.length by omega]
  rw [h2]
  have e:(⟨g,a+1,none⟩:Addr).add t=⟨g,a+1+t,none⟩:=by simp [Addr.add]
  rw [e]
  exact h1)
 have s0:=Lib.hid (show k=a+1→∀t u,(icv ((l.take (n+1)).drop (a+1)))[t]? =some u→w.drew.cell? ((⟨g,0,none⟩:Addr).add t)=some u from fun hk t u hu=>by
  have ht:t<n-a:=by rw [←lys];exact(List.getElem?_eq_some_iff.1 hu).1
  omega)
 have s2:=Lib.hid (show∀t,t<(icv ((l.take (n+1)).drop (a+1))).length→(w.drew.cell? ⟨g,0+a*1+t,none⟩).isSome=true∧w.drew.frozen? ⟨g,0+a*1+t,none⟩=false from fun t ht=>by
  rw [lys]at ht
  refine⟨?_,hfro _⟩
  have:=hcell (0+a*1+t) (by omega)
  show(w.cell? _).isSome=true
  rw [this];rfl)
 have s3:=Lib.hid (show∀u∈icv ((l.take (n+1)).drop (a+1)),u.oneCell'=true from fun u hu=>by
  obtain⟨x,_,rfl⟩:=List.mem_map.1 hu
  rfl)
 obtain⟨W1,hW1⟩:∃W1,W1=w.drew.setCells g (0+a*1) (icv ((l.take (n+1)).drop (a+1))):=⟨_,rfl⟩
 have hW:=Lib.hid hW1
 have hfit:a+(n-a)≤k:=by omega
 have mx:Tryz.prog.follows .mixedOrders=true:=mixed
 have hak:a≤k:=by omega
 have ha1k:a+1≤k:=by omega
 have ha1l:a+1≤n+1:=by omega
 have hi1:(0:Int)≤(a:Int)+1:=by omega
 have hi2:(a:Int)+1≤((n+1:Nat):Int):=by omega
 have hi3:(a:Int)≤(a:Int)+1:=by omega
 have han:a≤n:=by omega
 have hnk:n+1≤k:=hk
 have hnk':n≤k:=by omega
 have hnk2:¬k=n:=by omega
 have hsum:a+(n-a)=n:=by omega
 have hi4:(n:Int)≤(n:Int)+1:=by omega
 have hi5:(a:Int)+1≤(n:Int)+1:=by omega
 have b1:Blk W1 g 3 (putL cur (0+a*1) (icv ((l.take (n+1)).drop (a+1)))):=by rw [hW1];exact blk_putL _ _ (Blk.drew hb)
 have hcs:n<cur.size:=by
  have h1:=congrArg List.length hc
  simp [icv]at h1;omega
 have hc1:∀j,j<1→(W1.cell? ⟨g,n+j,none⟩).isSome=true:=fun j hj=>by
  obtain rfl:j=0:=by omega
  have hs:=putL_size (icv ((l.take (n+1)).drop (a+1))) (0+a*1) cur
  rw [Nat.add_zero,b1.cell n,Array.getElem?_eq_getElem (by omega)];rfl
 have hf1:∀j,j<1→W1.frozen? ⟨g,n+j,none⟩=false:=fun j hj=>b1.frozen _
 have hz1:∀w,(zeroValue 3).run Tryz.prog w= .ok (.int .i64 0) w:=fun w=>run_zeroB (by simp [zeroB,hi0,iz0]) w
 have hcl:∀ty,(Builtin.clear_ #[47] ty #[.slice (some ⟨g,n,none⟩) 1 (k-n)]).run Tryz.prog W1= .ok (.tuple #[]) (W1.setCells g n [.int .i64 0]):=fun ty=>
  Lib.run_clear_slice W1 _ _ ty _ Tryz.underlying47 hz1 rfl rfl g n 1 (k-n) (by decide) hc1 hf1
 clear hW1
 by_cases hka:k=a+1
 ·obtain rfl:n=a:=by omega
  have hys:icv ((l.take (n+1)).drop (n+1))=[]:=by simp [icv]
  have s4:=Lib.hid (s0.out hka)
  have s5:=Lib.hid s2.out
  have s6:=Lib.hid s3.out
  rw [hys]at hW s4 s5 s6
  subst hka
  have hcl2:∀ty,(Builtin.clear_ #[47] ty #[.slice (some ⟨g,n,none⟩) 1 1]).run Tryz.prog W1= .ok (.tuple #[]) (W1.setCells g n [.int .i64 0]):=fun ty=>by
   have:=hcl ty
   rwa [Nat.add_sub_cancel_left]at this
  go_region_law_o (refine step_append_room rfl (.tmp 22) (.tmp 25) 47 rfl 3 i0 1 Tryz.underlying47 hi0 iz1 g 0 n (n+1) (by simp [Act.eval,Act.put]) ⟨g,0,none⟩ 0 0 [] (by simp [Act.eval,Act.put]) rfl s4.out s6.out (by omega) s5.out ?_;rw [←hW.out])
  go_wp2
  go_ret
  exact⟨rfl,by rw [hW.out];simp⟩
 ·go_region_law_o (refine step_append_room rfl (.tmp 22) (.tmp 25) 47 rfl 3 i0 1 Tryz.underlying47 hi0 iz1 g 0 a k (by simp [Act.eval,Act.put]) ⟨g,a+1,none⟩ (n-a) (k-(a+1)) (icv ((l.take (n+1)).drop (a+1))) (by simp [Act.eval,Act.put]) (by rw [lys,Nat.mul_one]) s1.out s3.out (by omega) s2.out ?_;rw [←hW.out])
  go_wp2
  go_ret
  exact⟨rfl,by rw [hW.out];simp⟩
noncomputable section
def okDel (l:List Int) (len:Nat) (us:List Int):Bool:=match us with
 |[a,b]=>decide (0≤a)&&(decide (b=a+1)&&(decide (b≤(len:Int))&&Nat.ble l.length 1000000))
 |_=>false
def delO (l:List Int) (len:Nat) (us:List Int):List Int:=delL l len (us.headD 0).toNat
def sortO (l:List Int) (len:Nat):List Int:=sortJ (l.take len)++l.drop len
def idxO (l:List Int) (len:Nat) (us:List Int):Int:=Lib.idxOf (l.take len) (us.headD 0)
def oneI (us:List Int):Bool:=match us with |[_]=>true|_=>false
def wDel:WCtr:={f:=25,e:=3,k:= .row,nl:=false,pre:=okDel,out:=delO,ln:=fun _ len _=>len-1,val:=fun _ _ _=>0}
def wSort:WCtr:={f:=26,e:=3,k:= .unit,nl:=true,pre:=fun l len us=>Sv.nilB us&&Nat.ble l.length 1000000,out:=fun l len _=>sortO l len,ln:=fun _ len _=>len,val:=fun _ _ _=>0}
def wIdx:WCtr:={f:=24,e:=3,k:= .int,nl:=false,pre:=fun l len us=>oneI us&&Nat.ble l.length 1000000,out:=fun l _ _=>l,ln:=fun _ len _=>len,val:=idxO}
theorem cur_get {cur:Array Value} {l:List Int} (hc:cur.toList.take l.length=icv l):l.length≤cur.size∧∀j,j<l.length→cur[j]? =some (.int .i64 (l.getD j 0)):=by
 have h1:=congrArg List.length hc
 simp [icv]at h1
 refine⟨by omega,fun j hj=> ?_⟩
 have h2:(cur.toList.take l.length)[j]? =some (Value.int .i64 (l.getD j 0)):=by rw [hc];simp [icv,hj]
 rw [List.getElem?_take,if_pos hj]at h2
 simpa using h2
theorem get_cur {cur:Array Value} {l:List Int} (h:l.length≤cur.size) (hc:∀j,j<l.length→cur[j]? =(l[j]?).map (Value.int .i64)):cur.toList.take l.length=icv l:=by
 refine List.ext_getElem? fun j=> ?_
 rw [List.getElem?_take]
 by_cases hj:j<l.length
 ·rw [if_pos hj,Array.getElem?_toList,hc j hj];simp [icv]
 ·rw [if_neg hj,List.getElem?_eq_none (by simp [icv];omega)]
theorem wDel_ok:wDel.Ok Tryz.prog:=by
 refine⟨fun h=>(by cases h),fun l len us hp h1 hl=> ?_⟩
 have hp:okDel l len us=true:=hp
 unfold okDel at hp
 split at hp
 ·rename_i a b
  simp only [Bool.and_eq_true,decide_eq_true_eq]at hp
  obtain⟨p1,rfl,p3,p4⟩:=hp
  have p4:=Nat.le_of_ble_eq_true p4
  obtain⟨n,rfl⟩:=Int.eq_ofNat_of_zero_le p1
  have hn:n<len:=by omega
  have ho:delO l len [(n:Int),(n:Int)+1]=delL l len n:=rfl
  refine⟨by show(delO l len _).length=_;rw [ho];exact delL_len hl hn,by show len-1≤len;omega,fun w g kc cur hg hc hk=> ?_⟩
  refine(delN g kc len n l cur w hg hc hl hn hk (by omega)).mono fun e w' ⟨q1,q2⟩=>⟨q1, ?_, ?_⟩
  ·subst q2
   have hq:=set_far (g:=g) (icv ((l.take len).drop (n+1))) n w.drew
   exact grown_tr (a:=w) (b:=w.drew.setCells g n (icv ((l.take len).drop (n+1)))) ⟨hq.os,hq.tape,hq.output,hq.size,hq.block⟩ (set_far _ _ _)
  ·subst q2
   obtain⟨c1,c2⟩:=cur_get hc
   refine⟨_,blk_putL _ _ (blk_putL _ _ (Blk.drew hg)),by rw [putL_size,putL_size], ?_⟩
   show _=icv (delO l len _)
   rw [ho,←delL_len hl hn]
   refine get_cur (by rw [putL_size,putL_size,delL_len hl hn];exact c1) fun j hj=> ?_
   rw [delL_len hl hn]at hj
   rw [putL_get,putL_get,putL_size,delL_get hl hn]
   have lm:(icv ((l.take len).drop (n+1))).length=len-(n+1):=by simp [icv];omega
   have at':∀i,i<l.length→(l[i]?).map (Value.int .i64)=some (.int .i64 (l.getD i 0)):=fun i hi=>by simp [hi]
   by_cases h2:j<n
   ·rw [if_neg (by simp;omega),if_neg (by omega),if_pos h2,c2 j hj,at' j hj]
   ·rw [if_neg h2]
    by_cases h3:j+1<len
    ·rw [if_neg (by simp;omega),if_pos (by rw [lm];omega),if_pos h3,at' _ (by omega)]
     simp only [icv,List.getElem?_map,List.getElem?_drop,List.getElem?_take]
     rw [if_pos (by omega),show n+1+(j-n)=j+1 by omega,at' _ (by omega)]
    ·rw [if_neg h3]
     by_cases h4:j+1=len
     ·rw [if_pos (by simp;omega),if_pos h4,show j-(len-1)=0 by omega];rfl
     ·rw [if_neg (by simp;omega),if_neg (by rw [lm];omega),if_neg h4,c2 j hj,at' j hj]
 ·cases hp
theorem putCells_get {cur:Array Value} {ys:List Int} (j:Nat):(Sort.putCells (Value.int .i64) 0 ys.toArray cur)[j]? =if j<ys.length∧j<cur.size then some (.int .i64 (ys.getD j 0))else cur[j]? :=by
 unfold Sort.putCells
 by_cases h1:j<cur.size
 ·by_cases h2:j<ys.length
  ·rw [if_pos ⟨h2,h1⟩];simp [h1,h2]
  ·rw [if_neg (by omega)];simp [h1,h2]
 ·rw [if_neg (by omega)];simp [h1]
theorem wSort_ok:wSort.Ok Tryz.prog:=by
 refine⟨fun _ p cap w=>Tryz.slices_Sort_int_none p cap w,fun l len us hp h1 hl=> ?_⟩
 have hp:(Sv.nilB us&&Nat.ble l.length 1000000)=true:=hp
 rw [Bool.and_eq_true]at hp
 obtain rfl:us=[]:=by
  cases us with
  |nil=>rfl
  |cons x r=>exact absurd hp.1 (by simp [Sv.nilB])
 have hb:=Nat.le_of_ble_eq_true hp.2
 have lt:(l.take len).length=len:=by simp;omega
 have lo:(sortO l len).length=l.length:=by unfold sortO;rw [List.length_append,sortJ_len,lt];simp;omega
 refine⟨lo,Nat.le_refl _,fun w g kc cur hg hc hk=> ?_⟩
 obtain⟨c1,c2⟩:=cur_get hc
 have hc2:cur.toList.take (l.take len).length=icv (l.take len):=get_cur (by omega) fun j hj=>by
  rw [lt]at hj
  rw [c2 j (by omega)];simp [hj,show j<l.length by omega]
 have hgl:g<w.heap.size:=(Array.getElem?_eq_some_iff.1 hg).1
 have key:=Tryz.slices_Sort_int g 0 kc (l.take len) w (own_holds hg hc2) hgl (by omega)
 rw [lt]at key
 refine key.mono fun e w' ⟨q1,q,os,q2⟩=>⟨q1, ?_, ?_⟩
 ·subst q2;exact grown_grow putRow_grown os
 ·subst q2
  have hl2:(sortJ (l.take len)).length=(l.take len).length:=sortJ_len _
  obtain⟨p1,p2,p3⟩:=putRow_at hg hc2 hl2 q
  refine⟨_,(Sort.heap_grow_old _ os (by simpa using hgl)).trans p1,p2, ?_⟩
  show _=icv (sortO l len)
  rw [←lo]
  refine get_cur (by rw [p2,lo];exact c1) fun j hj=> ?_
  rw [lo]at hj
  rw [putCells_get,hl2,lt]
  unfold sortO
  by_cases h2:j<len
  ·rw [if_pos ⟨h2,by omega⟩,List.getElem?_append_left (by omega)]
   simp [hl2,lt,h2]
  ·rw [if_neg (by omega),List.getElem?_append_right (by omega),hl2,lt,c2 j hj,List.getElem?_drop,show len+(j-len)=j by omega]
   simp [hj]
theorem wIdx_ok:wIdx.Ok Tryz.prog:=by
 refine⟨fun h=>(by cases h),fun l len us hp h1 hl=> ?_⟩
 have hp:(oneI us&&Nat.ble l.length 1000000)=true:=hp
 rw [Bool.and_eq_true]at hp
 obtain⟨x,rfl⟩:∃x,us=[x]:=by
  have:=hp.1
  unfold oneI at this
  split at this
  ·exact⟨_,rfl⟩
  ·cases this
 have hb:=Nat.le_of_ble_eq_true hp.2
 refine⟨rfl,Nat.le_refl _,fun w g kc cur hg hc hk=> ?_⟩
 obtain⟨c1,c2⟩:=cur_get hc
 refine(Tryz.slices_Index_int g 0 len kc l x w hl (by omega) fun j hj=> ?_).mono fun e w' ⟨q1,q2⟩=>⟨q1, ?_, ?_⟩
 ·rw [Nat.zero_add,cell_of_row w g j cur _ _ hg,c2 j hj]
 ·subst q2;exact⟨rfl,rfl,rfl,Nat.le_refl _,fun _ _ _=>rfl⟩
 ·subst q2;exact⟨cur,hg,rfl,hc⟩
end
end Go.Proofs.YtccmlbinkgbpgaaGreatDoor
/- The reference of chapter 5: insert, without, paired. -/
namespace Go.Proofs.YtccmlbinkgbpgaaGreatDoor
open Go.RowKit Sv
set_option maxRecDepth 100000
set_option linter.unusedVariables false
set_option linter.unusedSimpArgs false
noncomputable section
abbrev ob5 (j:Nat) (l:List Int):AV:= .osl 3 (.int .i64) j 0 l.length (capOf l.length)
abbrev oe5 (l:List Int):Ent:= .opt 3 (.int .i64) l
abbrev obP (j:Nat) (l:List (Int×Int)):AV:= .osl 28 tP2 j 0 l.length (capOf l.length)
abbrev nilP:List (Int×Int):=[]
abbrev oeP (l:List (Int×Int)):Ent:= .opt 28 tP2 l
abbrev rpL:List Nat:=[1,1,0,1,0,0]
noncomputable def BGj:Code:=(Tryz.f27.body).getD .skip
def SGj (a b:List Int) (out:List (Int×Int)) (k:Nat):St:={n:=26,sl:=[(0,lv a),(1,lv b),(5,obP 64 out),(8,iv a.length),(9,iv k)],en:=[(64,oeP out)],next:=65}
theorem gj_start (a b:List Int):
  Tst.path (vrun0 Tryz.prog (ctrs []) (fl BGj []) 3 26 [lv a,lv b]) [] (toSt Tryz.prog 26 .normal [] (SGj a b [] 0)):=
 mp (an (rr a) (an (rr b) (an (rr nilP.length) (an (rr ((↑a.length:Int))) (an (rr ((0:Int))) (an (rr nilP) trivial))))))
theorem gj_go (a b:List Int) (out:List (Int×Int)) (k:Nat) (h1:(↑k:Int)<(↑a.length:Int)) (h2:k<a.length) (h3:k<b.length) (h4:out.length+(1:Nat)≤1000000) (h5: -9223372036854775808≤(↑k:Int)+1∧(↑k:Int)+1≤9223372036854775807) (h6:(out.length+(1:Nat))=(out++[(List.getD a k (0:Int),List.getD b k (0:Int))]).length) (h7:(Cap.full)=(capOf (out++[(List.getD a k (0:Int),List.getD b k (0:Int))]).length)):
  Tst.path (vall Tryz.prog (ctrs []) (fl BGj rpL) (SGj a b out k)) [true,false] (toSt Tryz.prog 26 .normal [(64,66,none)] (SGj a b (out++[(a.getD k 0,b.getD k 0)]) (k+1))):=
 mp (an (decide_eq_true h1) (an (show(decide ((0:Int)≤(↑k:Int)))=true from decide_eq_true (by omega)) (an (decide_eq_true h2) (an (sr (iv (List.getD a k (0:Int)))) (an (show(decide ((0:Int)≤(↑k:Int)))=true from decide_eq_true (by omega)) (an (decide_eq_true h3) (an (sr (iv (List.getD b k (0:Int)))) (an (sr (iv (List.getD b k (0:Int)))) (an (sr (iv (List.getD a k (0:Int)))) (an rt (an rf (an (show(blkIs 28 tP2 (optOwn (nat_lit 28) tP2 out) out.length (capOf out.length))=true from(blkIs_optOwn _ _ _)) (an (show(bounded (out.length+(1:Nat)) (16:Nat))=true from bounded_of h4 (by omega)) (an (sr (iv (List.getD b k (0:Int)))) (an (sr (iv (List.getD a k (0:Int)))) (an (fits_i64 h5) (an (rr a) (an (rr b) (an (an (rr ((0:Nat))) (an h6 h7)) (an (rr ((↑a.length:Int))) (an (show((↑k:Int)+1)=((↑(k+(1:Nat)):Int))from(by omega)) (an (show(blkXs tP2 (optOwn (nat_lit 28) tP2 out)++[(List.getD a k (0:Int),List.getD b k (0:Int))])=(out++[(List.getD a k (0:Int),List.getD b k (0:Int))])from(by simp only [blkXs_optOwn]<;>rfl)) trivial))))))))))))))))))))))
theorem gj_end (a b:List Int) (out:List (Int×Int)) (k:Nat) (h1:¬(↑k:Int)<(↑a.length:Int)):
  Tst.path (vall Tryz.prog (ctrs []) (fl BGj rpL) (SGj a b out k)) [false] (toSt Tryz.prog 26 (.exit 0) [(64,64,none)] (SGj a b out k)):=
 mp (an (decide_eq_false h1) (an (rr a) (an (rr b) (an (an (rr ((0:Nat))) (an (rr out.length) (rr (capOf out.length)))) (an (rr ((↑a.length:Int))) (an (rr ((↑k:Int))) (an (show(fitOpt Tryz.prog none (optOwn (nat_lit 28) tP2 out) (nat_lit 28) tP2 out)from(fitOpt_refl _ _ _ _)) trivial)))))))
theorem gj_fin (a b:List Int) (out:List (Int×Int)) (k:Nat) (h1:(out)=(List.take out.length (List.drop (0:Nat) out))) (h2:out.length=(0:Nat)∨ownHas 28 tP2 (optOwn (nat_lit 28) tP2 out) ((0:Nat)+out.length-(1:Nat))=true) (h3:false=true→out.length≠(0:Nat)):
  Tst.path (vall Tryz.prog (ctrs []) (List.drop 4 (fl BGj [])) (SGj a b out k)) [] (toRet Tryz.prog Tryz.f27 true (pl out)):=
 mp (an (rr out.length) (an (show out=(List.take out.length (List.drop (0:Nat) (blkXs tP2 (optOwn (nat_lit 28) tP2 out))))from(by simp only [blkXs_optOwn]<;>exact h1)) (an h2 h3)))
theorem cap_sn {α:Type} (l:List α) (x:α):Cap.full=capOf (l++[x]).length:=by simp [capOf]
theorem len_sn {α:Type} (l:List α) (x:α):l.length+1=(l++[x]).length:=by simp
theorem lst_bk {α:Type} (l:List α):l=List.take l.length (List.drop 0 l):=by simp
theorem own_bk (e:TypeId) (t:Ty) (l:List t.den):l.length=0∨ownHas e t (optOwn e t l) (0+l.length-1)=true:=by
 by_cases h:l.length=0
 ·exact .inl h
 ·exact .inr (by rw [ownHas_optOwn];exact decide_eq_true (show 0+l.length-1<l.length by omega))
theorem own_has (e:TypeId) (t:Ty) (l:List t.den) {n:Nat} (h:n<l.length):ownHas e t (some (.own e t l)) n=true:=by
 unfold ownHas
 simp only [Nat.beq_refl,decide_true,Bool.true_and]
 exact Nat.ble_eq_true_of_le h
theorem beq0 {n:Nat} (h:n≠0):Nat.beq n 0=false:=by
 cases hb:Nat.beq n 0 with
 |false=>rfl
 |true=>exact absurd (Nat.eq_of_beq_eq_true hb) h
def zipI (a b:List Int):List (Int×Int):=List.zip a b
def okZip (a b:List Int):Bool:=decide (a.length≤b.length)&&decide (a.length≤1000)
theorem zip_next {a b:List Int} {k:Nat} (h:k<a.length) (h2:a.length≤b.length):(zipI a b).take (k+1)=(zipI a b).take k++[(a.getD k 0,b.getD k 0)]:=by
 unfold zipI
 have hk:k<(List.zip a b).length:=by simp;omega
 rw [List.take_succ_eq_append_getElem hk]
 simp [List.getD_eq_getElem?_getD,h,show k<b.length by omega]
theorem zip_len {a b:List Int} (h2:a.length≤b.length):(zipI a b).length=a.length:=by unfold zipI;simp;omega
theorem gj_holds (a b:List Int) (h1:a.length≤b.length) (h2:a.length≤1000):Holds Tryz.prog true 27 [lv a,lv b] (pl (zipI a b)):=by
 have hS:=none_ok
 have hz:=zip_len h1
 refine holds_fl (c:=BGj) Tryz.func27 rfl rfl fun w F=> ?_
 refine GoalL.to known mixed hS 3 _ (gj_start a b) (by kernel_rfl) ?_
 refine GoalL.loop (ι:={k:Nat//k≤a.length}) (id:=0) (b:=cat BGj rpL) (rest:=List.drop 4 (fl BGj [])) (by kernel_rfl) (fun k=>SGj a b ((zipI a b).take k.1) k.1) (fun k=>a.length-k.1) ⟨0,Nat.zero_le _⟩ (fun _=>rfl) ?_
 rintro⟨k,hk⟩
 have hk:k≤a.length:=hk
 by_cases hlt:k<a.length
 ·refine GoalL.all (s:=SGj a b ((zipI a b).take k) k) known mixed hS _ (gj_go a b _ k (by omega) hlt (by omega) (by simp;omega) (by omega) (len_sn _ _) (cap_sn _ _)) (by kernel_rfl) ?_
  rw [←zip_next hlt h1]
  exact⟨⟨k+1,hlt⟩,by simp;omega,rfl,rfl⟩
 ·refine GoalL.all (s:=SGj a b ((zipI a b).take k) k) known mixed hS _ (gj_end a b _ k (by omega)) (by kernel_rfl) ?_
  refine onN_exit (inB_exit ?_)
  obtain rfl:k=a.length:=by omega
  rw [List.take_of_length_le (by omega)]
  exact GoalL.allRet (s:=SGj a b (zipI a b) a.length) known mixed hS _ (gj_fin a b _ _ (lst_bk _) (own_bk _ tP2 _) (fun h=>by cases h)) fun T H h=>h
noncomputable def cGj:Ctr:={f:=27,ps:=[.list false (.int .i64), .list false (.int .i64)],rs:=[.list false tP2],fresh:=true,pre:=fun d=>okZip d.1 d.2.1,fn:=fun d=>(zipI d.1 d.2.1,())}
theorem cGj_ok:cGj.Ok Tryz.prog:=fun⟨a,b,_⟩ h=>by
 have h:(decide (a.length≤b.length)&&decide (a.length≤1000))=true:=h
 simp only [Bool.and_eq_true,decide_eq_true_eq]at h
 exact gj_holds a b h.1 h.2
end
end Go.Proofs.YtccmlbinkgbpgaaGreatDoor
/- The train: errors; the stock's wheels. -/
namespace Go.Proofs.YtccmlbinkgbpgaaGreatDoor
open Go.RowKit Sv
set_option maxRecDepth 100000
set_option linter.unusedVariables false
set_option linter.unusedSimpArgs false
noncomputable section
def Srt (s:List (Int×Int)) (k:Nat):St:={n:=36,sl:=[(0,pl s),(3,iv k)],en:=[],next:=64}
theorem rt_e5 (s:List (Int×Int)) (h1:(↑s.length:Int)>4):
  Tst.path (vrun0 Tryz.prog (ctrs []) (fl BRt []) 3 36 [pl s]) [true] (toRet Tryz.prog Tryz.f12 true (iv 5)):=
 mp (an (decide_eq_true h1) (rr ((5:Int))))
theorem rt_start (s:List (Int×Int)) (h1:¬(↑s.length:Int)>4):
  Tst.path (vrun0 Tryz.prog (ctrs []) (fl BRt []) 4 36 [pl s]) [false] (toSt Tryz.prog 36 .normal [] (Srt s 0)):=
 mp (an (decide_eq_false h1) (an (rr s) (an (rr ((0:Int))) trivial)))
theorem rt_h1 (s:List (Int×Int)) (k:Nat) (h1:(↑k:Int)<(↑s.length:Int)) (h2:k<s.length) (h3:(List.getD s k ((0:Int),(0:Int))).1<1):
  Tst.path (vall Tryz.prog (ctrs []) (fl BRt [1,1,0,1,0,0]) (Srt s k)) [true,false,false,false,true,false,false,false,true,false,false,false,true,true] (toRet Tryz.prog Tryz.f12 true (iv 3)):=
 mp (an (decide_eq_true h1) (an (show(decide ((0:Int)≤(↑k:Int)))=true from decide_eq_true (by omega)) (an (decide_eq_true h2) (an (bF (decide_eq_true h3)) (an (bF (decide_eq_true h3)) (an (bF (decide_eq_true h3)) (an (decide_eq_true h3) (an rf (an rf (an rf (an rt (an rf (an rf (an rf (an rt (an rt (rr ((3:Int)))))))))))))))))))
theorem rt_h2 (s:List (Int×Int)) (k:Nat) (h1:(↑k:Int)<(↑s.length:Int)) (h2:k<s.length) (h3:¬(List.getD s k ((0:Int),(0:Int))).1<1) (h4:(List.getD s k ((0:Int),(0:Int))).1>400):
  Tst.path (vall Tryz.prog (ctrs []) (fl BRt [1,1,0,1,0,0]) (Srt s k)) [true,true,true,true,false,false,false,false,true,false,false,false,true,true] (toRet Tryz.prog Tryz.f12 true (iv 3)):=
 mp (an (decide_eq_true h1) (an (show(decide ((0:Int)≤(↑k:Int)))=true from decide_eq_true (by omega)) (an (decide_eq_true h2) (an (bF (decide_eq_false h3)) (an (bF (decide_eq_false h3)) (an (bF (decide_eq_false h3)) (an (decide_eq_false h3) (an (bF (decide_eq_true h4)) (an (bF (decide_eq_true h4)) (an (bF (decide_eq_true h4)) (an (decide_eq_true h4) (an rf (an rf (an rf (an rt (an rt (rr ((3:Int)))))))))))))))))))
theorem rt_h3 (s:List (Int×Int)) (k:Nat) (h1:(↑k:Int)<(↑s.length:Int)) (h2:k<s.length) (h3:¬(List.getD s k ((0:Int),(0:Int))).1<1) (h4:¬(List.getD s k ((0:Int),(0:Int))).1>400) (h5:(List.getD s k ((0:Int),(0:Int))).2<1):
  Tst.path (vall Tryz.prog (ctrs []) (fl BRt [1,1,0,1,0,0]) (Srt s k)) [true,true,true,true,false,true,true,true,false,false,false,false,true,true] (toRet Tryz.prog Tryz.f12 true (iv 3)):=
 mp (an (decide_eq_true h1) (an (show(decide ((0:Int)≤(↑k:Int)))=true from decide_eq_true (by omega)) (an (decide_eq_true h2) (an (bF (decide_eq_false h3)) (an (bF (decide_eq_false h3)) (an (bF (decide_eq_false h3)) (an (decide_eq_false h3) (an (bF (decide_eq_false h4)) (an (bF (decide_eq_false h4)) (an (bF (decide_eq_false h4)) (an (decide_eq_false h4) (an (bF (decide_eq_true h5)) (an (bF (decide_eq_true h5)) (an (bF (decide_eq_true h5)) (an (decide_eq_true h5) (an rt (rr ((3:Int)))))))))))))))))))
theorem rt_h4 (s:List (Int×Int)) (k:Nat) (h1:(↑k:Int)<(↑s.length:Int)) (h2:k<s.length) (h3:¬(List.getD s k ((0:Int),(0:Int))).1<1) (h4:¬(List.getD s k ((0:Int),(0:Int))).1>400) (h5:¬(List.getD s k ((0:Int),(0:Int))).2<1) (h6:(List.getD s k ((0:Int),(0:Int))).2>400):
  Tst.path (vall Tryz.prog (ctrs []) (fl BRt [1,1,0,1,0,0]) (Srt s k)) [true,true,true,true,false,true,true,true,false,true,true,true,false,true] (toRet Tryz.prog Tryz.f12 true (iv 3)):=
 mp (an (decide_eq_true h1) (an (show(decide ((0:Int)≤(↑k:Int)))=true from decide_eq_true (by omega)) (an (decide_eq_true h2) (an (bF (decide_eq_false h3)) (an (bF (decide_eq_false h3)) (an (bF (decide_eq_false h3)) (an (decide_eq_false h3) (an (bF (decide_eq_false h4)) (an (bF (decide_eq_false h4)) (an (bF (decide_eq_false h4)) (an (decide_eq_false h4) (an (bF (decide_eq_false h5)) (an (bF (decide_eq_false h5)) (an (bF (decide_eq_false h5)) (an (decide_eq_false h5) (an (decide_eq_true h6) (rr ((3:Int)))))))))))))))))))
theorem rt_n (s:List (Int×Int)) (k:Nat) (h1:(↑k:Int)<(↑s.length:Int)) (h2:k<s.length) (h3:¬(List.getD s k ((0:Int),(0:Int))).1<1) (h4:¬(List.getD s k ((0:Int),(0:Int))).1>400) (h5:¬(List.getD s k ((0:Int),(0:Int))).2<1) (h6:¬(List.getD s k ((0:Int),(0:Int))).2>400) (h7: -9223372036854775808≤(↑k:Int)+1∧(↑k:Int)+1≤9223372036854775807):
  Tst.path (vall Tryz.prog (ctrs []) (fl BRt [1,1,0,1,0,0]) (Srt s k)) [true,true,true,true,false,true,true,true,false,true,true,true,false,false] (toSt Tryz.prog 36 .normal [] (Srt s (k+1))):=
 mp (an (decide_eq_true h1) (an (show(decide ((0:Int)≤(↑k:Int)))=true from decide_eq_true (by omega)) (an (decide_eq_true h2) (an (bF (decide_eq_false h3)) (an (bF (decide_eq_false h3)) (an (bF (decide_eq_false h3)) (an (decide_eq_false h3) (an (bF (decide_eq_false h4)) (an (bF (decide_eq_false h4)) (an (bF (decide_eq_false h4)) (an (decide_eq_false h4) (an (bF (decide_eq_false h5)) (an (bF (decide_eq_false h5)) (an (bF (decide_eq_false h5)) (an (decide_eq_false h5) (an (decide_eq_false h6) (an (fits_i64 h7) (an (rr s) (an (show((↑k:Int)+1)=((↑(k+(1:Nat)):Int))from(by omega)) trivial)))))))))))))))))))
theorem rt_end (s:List (Int×Int)) (k:Nat) (h1:¬(↑k:Int)<(↑s.length:Int)):
  Tst.path (vall Tryz.prog (ctrs []) (fl BRt [1,1,0,1,0,0]) (Srt s k)) [false] (toSt Tryz.prog 36 (.exit 0) [] (Srt s k)):=
 mp (an (decide_eq_false h1) (an (rr s) (an (rr ((↑k:Int))) trivial)))
theorem rt_fin (s:List (Int×Int)) (k:Nat):
  Tst.path (vall Tryz.prog (ctrs []) (List.drop 5 (fl BRt [])) (Srt s k)) [] (toRet Tryz.prog Tryz.f12 true (iv 0)):=
 mp (rr ((0:Int)))
theorem rt_holds (s:List (Int×Int)):Holds Tryz.prog true 12 [pl s] (iv (trnErr s)):=by
 have hS:=none_ok
 refine holds_fl (c:=BRt) Tryz.func12 rfl rfl fun w F=> ?_
 by_cases h5:4<s.length
 ·have e:trnErr s=5:=by unfold trnErr;rw [if_pos h5]
  rw [e]
  exact GoalL.ret known mixed hS 3 _ (rt_e5 s (by omega)) fun T H h=>h
 ·obtain⟨r,hr⟩:∃r,trnFrom s s.length 0=r:=⟨_,rfl⟩
  have e:trnErr s=r:=by unfold trnErr;rw [if_neg h5,hr]
  rw [e]
  refine GoalL.to known mixed hS 4 _ (rt_start s (by omega)) (by kernel_rfl) ?_
  refine GoalL.loop (ι:={k:Nat//k≤s.length∧trnFrom s (s.length-k) k=r}) (id:=0) (b:=cat BRt [1,1,0,1,0,0]) (rest:=List.drop 5 (fl BRt [])) (by kernel_rfl) (fun k=>Srt s k.1) (fun k=>s.length-k.1) ⟨0,Nat.zero_le _,hr⟩ (fun _=>rfl) ?_
  rintro⟨k,hk,hx⟩
  have hx:trnFrom s (s.length-k) k=r:=hx
  by_cases hlt:k<s.length
  ·obtain⟨m,hm⟩:∃m,s.length-k=m+1:=⟨s.length-k-1,by omega⟩
   have hm2:s.length-(k+1)=m:=by omega
   rw [hm,trnFrom]at hx
   have hit:pOut (g0 s k)=true→r=3:=fun hz=>by rw [←hx,if_pos hz]
   have key:pOut (g0 s k)=true→∀T H,retQ Tryz.prog true Tryz.f12 (iv 3) .ret T H→retQ Tryz.prog true Tryz.f12 (iv r) .ret T H:=fun hz T H h=>by rw [hit hz];exact h
   by_cases c1:(g0 s k).1<1
   ·exact GoalL.allRet (s:=Srt s k) known mixed hS _ (rt_h1 s k (by omega) (by omega) c1) fun T H h=>key (by unfold pOut;rw [decide_eq_true c1];rfl) T H h
   ·by_cases c2:(g0 s k).1>400
    ·exact GoalL.allRet (s:=Srt s k) known mixed hS _ (rt_h2 s k (by omega) (by omega) c1 c2) fun T H h=>key (by unfold pOut;rw [decide_eq_false c1,decide_eq_true c2];rfl) T H h
    ·by_cases c3:(g0 s k).2<1
     ·exact GoalL.allRet (s:=Srt s k) known mixed hS _ (rt_h3 s k (by omega) (by omega) c1 c2 c3) fun T H h=>key (by unfold pOut;rw [decide_eq_false c1,decide_eq_false c2,decide_eq_true c3];rfl) T H h
     ·by_cases c4:(g0 s k).2>400
      ·exact GoalL.allRet (s:=Srt s k) known mixed hS _ (rt_h4 s k (by omega) (by omega) c1 c2 c3 c4) fun T H h=>key (by unfold pOut;rw [decide_eq_false c1,decide_eq_false c2,decide_eq_false c3,decide_eq_true c4];rfl) T H h
      ·have hw:¬pOut (g0 s k)=true:=by unfold pOut;rw [decide_eq_false c1,decide_eq_false c2,decide_eq_false c3,decide_eq_false c4];decide
       refine GoalL.all (s:=Srt s k) known mixed hS _ (rt_n s k (by omega) (by omega) c1 c2 c3 c4 (by omega)) (by kernel_rfl) ?_
       exact⟨⟨k+1,hlt,by rw [hm2,←hx,if_neg hw]⟩,by simp;omega,rfl,rfl⟩
  ·refine GoalL.all (s:=Srt s k) known mixed hS _ (rt_end s k (by omega)) (by kernel_rfl) ?_
   refine onN_exit (inB_exit ?_)
   obtain rfl:k=s.length:=by omega
   rw [Nat.sub_self,trnFrom]at hx
   refine GoalL.allRet (s:=Srt s s.length) known mixed hS _ (rt_fin s _) fun T H h=> ?_
   have h2:retQ Tryz.prog true Tryz.f12 (iv r) .ret T H:=by rw [←hx];exact h
   exact h2
noncomputable def cRt:Ctr:={f:=12,ps:=[.list false tP2],rs:=[.int .i64],fresh:=true,pre:=fun d=>true,fn:=fun d=>(trnErr d.1,())}
theorem cRt_ok:cRt.Ok Tryz.prog:=fun⟨s,_⟩ _=>rt_holds s
def Sgt (s:List (Int×Int)) (k:Nat):St:={n:=33,sl:=[(0,pl s),(8,pl s),(9,iv s.length),(10,iv k)],en:=[],next:=64}
theorem gt_e5 (s:List (Int×Int)) (h1:(↑s.length:Int)>4):
  Tst.path (vrun0 Tryz.prog (ctrs []) (fl BGt []) 3 33 [pl s]) [true] (toRet Tryz.prog Tryz.f21 true (iv 5)):=
 mp (an (decide_eq_true h1) (rr ((5:Int))))
theorem gt_start (s:List (Int×Int)) (h1:¬(↑s.length:Int)>4):
  Tst.path (vrun0 Tryz.prog (ctrs []) (fl BGt []) 4 33 [pl s]) [false] (toSt Tryz.prog 33 .normal [] (Sgt s 0)):=
 mp (an (decide_eq_false h1) (an (rr s) (an (rr s) (an (rr ((↑s.length:Int))) (an (rr ((0:Int))) trivial)))))
theorem gt_h1 (s:List (Int×Int)) (k:Nat) (h1:(↑k:Int)<(↑s.length:Int)) (h2:k<s.length) (h3:(List.getD s k ((0:Int),(0:Int))).1<1):
  Tst.path (vall Tryz.prog (ctrs []) (fl BGt [1,1,0,1,0,0]) (Sgt s k)) [true,false,false,false,true,false,false,false,true,false,false,false,true,true] (toRet Tryz.prog Tryz.f21 true (iv 3)):=
 mp (an (decide_eq_true h1) (an (show(decide ((0:Int)≤(↑k:Int)))=true from decide_eq_true (by omega)) (an (decide_eq_true h2) (an (bF (decide_eq_true h3)) (an (bF (decide_eq_true h3)) (an (bF (decide_eq_true h3)) (an (decide_eq_true h3) (an rf (an rf (an rf (an rt (an rf (an rf (an rf (an rt (an rt (rr ((3:Int)))))))))))))))))))
theorem gt_h2 (s:List (Int×Int)) (k:Nat) (h1:(↑k:Int)<(↑s.length:Int)) (h2:k<s.length) (h3:¬(List.getD s k ((0:Int),(0:Int))).1<1) (h4:(List.getD s k ((0:Int),(0:Int))).1>400):
  Tst.path (vall Tryz.prog (ctrs []) (fl BGt [1,1,0,1,0,0]) (Sgt s k)) [true,true,true,true,false,false,false,false,true,false,false,false,true,true] (toRet Tryz.prog Tryz.f21 true (iv 3)):=
 mp (an (decide_eq_true h1) (an (show(decide ((0:Int)≤(↑k:Int)))=true from decide_eq_true (by omega)) (an (decide_eq_true h2) (an (bF (decide_eq_false h3)) (an (bF (decide_eq_false h3)) (an (bF (decide_eq_false h3)) (an (decide_eq_false h3) (an (bF (decide_eq_true h4)) (an (bF (decide_eq_true h4)) (an (bF (decide_eq_true h4)) (an (decide_eq_true h4) (an rf (an rf (an rf (an rt (an rt (rr ((3:Int)))))))))))))))))))
theorem gt_h3 (s:List (Int×Int)) (k:Nat) (h1:(↑k:Int)<(↑s.length:Int)) (h2:k<s.length) (h3:¬(List.getD s k ((0:Int),(0:Int))).1<1) (h4:¬(List.getD s k ((0:Int),(0:Int))).1>400) (h5:(List.getD s k ((0:Int),(0:Int))).2<1):
  Tst.path (vall Tryz.prog (ctrs []) (fl BGt [1,1,0,1,0,0]) (Sgt s k)) [true,true,true,true,false,true,true,true,false,false,false,false,true,true] (toRet Tryz.prog Tryz.f21 true (iv 3)):=
 mp (an (decide_eq_true h1) (an (show(decide ((0:Int)≤(↑k:Int)))=true from decide_eq_true (by omega)) (an (decide_eq_true h2) (an (bF (decide_eq_false h3)) (an (bF (decide_eq_false h3)) (an (bF (decide_eq_false h3)) (an (decide_eq_false h3) (an (bF (decide_eq_false h4)) (an (bF (decide_eq_false h4)) (an (bF (decide_eq_false h4)) (an (decide_eq_false h4) (an (bF (decide_eq_true h5)) (an (bF (decide_eq_true h5)) (an (bF (decide_eq_true h5)) (an (decide_eq_true h5) (an rt (rr ((3:Int)))))))))))))))))))
theorem gt_h4 (s:List (Int×Int)) (k:Nat) (h1:(↑k:Int)<(↑s.length:Int)) (h2:k<s.length) (h3:¬(List.getD s k ((0:Int),(0:Int))).1<1) (h4:¬(List.getD s k ((0:Int),(0:Int))).1>400) (h5:¬(List.getD s k ((0:Int),(0:Int))).2<1) (h6:(List.getD s k ((0:Int),(0:Int))).2>400):
  Tst.path (vall Tryz.prog (ctrs []) (fl BGt [1,1,0,1,0,0]) (Sgt s k)) [true,true,true,true,false,true,true,true,false,true,true,true,false,true] (toRet Tryz.prog Tryz.f21 true (iv 3)):=
 mp (an (decide_eq_true h1) (an (show(decide ((0:Int)≤(↑k:Int)))=true from decide_eq_true (by omega)) (an (decide_eq_true h2) (an (bF (decide_eq_false h3)) (an (bF (decide_eq_false h3)) (an (bF (decide_eq_false h3)) (an (decide_eq_false h3) (an (bF (decide_eq_false h4)) (an (bF (decide_eq_false h4)) (an (bF (decide_eq_false h4)) (an (decide_eq_false h4) (an (bF (decide_eq_false h5)) (an (bF (decide_eq_false h5)) (an (bF (decide_eq_false h5)) (an (decide_eq_false h5) (an (decide_eq_true h6) (rr ((3:Int)))))))))))))))))))
theorem gt_n (s:List (Int×Int)) (k:Nat) (h1:(↑k:Int)<(↑s.length:Int)) (h2:k<s.length) (h3:¬(List.getD s k ((0:Int),(0:Int))).1<1) (h4:¬(List.getD s k ((0:Int),(0:Int))).1>400) (h5:¬(List.getD s k ((0:Int),(0:Int))).2<1) (h6:¬(List.getD s k ((0:Int),(0:Int))).2>400) (h7: -9223372036854775808≤(↑k:Int)+1∧(↑k:Int)+1≤9223372036854775807):
  Tst.path (vall Tryz.prog (ctrs []) (fl BGt [1,1,0,1,0,0]) (Sgt s k)) [true,true,true,true,false,true,true,true,false,true,true,true,false,false] (toSt Tryz.prog 33 .normal [] (Sgt s (k+1))):=
 mp (an (decide_eq_true h1) (an (show(decide ((0:Int)≤(↑k:Int)))=true from decide_eq_true (by omega)) (an (decide_eq_true h2) (an (bF (decide_eq_false h3)) (an (bF (decide_eq_false h3)) (an (bF (decide_eq_false h3)) (an (decide_eq_false h3) (an (bF (decide_eq_false h4)) (an (bF (decide_eq_false h4)) (an (bF (decide_eq_false h4)) (an (decide_eq_false h4) (an (bF (decide_eq_false h5)) (an (bF (decide_eq_false h5)) (an (bF (decide_eq_false h5)) (an (decide_eq_false h5) (an (decide_eq_false h6) (an (fits_i64 h7) (an (rr s) (an (rr s) (an (rr ((↑s.length:Int))) (an (show((↑k:Int)+1)=((↑(k+(1:Nat)):Int))from(by omega)) trivial)))))))))))))))))))))
theorem gt_end (s:List (Int×Int)) (k:Nat) (h1:¬(↑k:Int)<(↑s.length:Int)):
  Tst.path (vall Tryz.prog (ctrs []) (fl BGt [1,1,0,1,0,0]) (Sgt s k)) [false] (toSt Tryz.prog 33 (.exit 0) [] (Sgt s k)):=
 mp (an (decide_eq_false h1) (an (rr s) (an (rr s) (an (rr ((↑s.length:Int))) (an (rr ((↑k:Int))) trivial)))))
theorem gt_fin (s:List (Int×Int)) (k:Nat):
  Tst.path (vall Tryz.prog (ctrs []) (List.drop 5 (fl BGt [])) (Sgt s k)) [] (toRet Tryz.prog Tryz.f21 true (iv 0)):=
 mp (rr ((0:Int)))
theorem gt_holds (s:List (Int×Int)):Holds Tryz.prog true 21 [pl s] (iv (trnErr s)):=by
 have hS:=none_ok
 refine holds_fl (c:=BGt) Tryz.func21 rfl rfl fun w F=> ?_
 by_cases h5:4<s.length
 ·have e:trnErr s=5:=by unfold trnErr;rw [if_pos h5]
  rw [e]
  exact GoalL.ret known mixed hS 3 _ (gt_e5 s (by omega)) fun T H h=>h
 ·obtain⟨r,hr⟩:∃r,trnFrom s s.length 0=r:=⟨_,rfl⟩
  have e:trnErr s=r:=by unfold trnErr;rw [if_neg h5,hr]
  rw [e]
  refine GoalL.to known mixed hS 4 _ (gt_start s (by omega)) (by kernel_rfl) ?_
  refine GoalL.loop (ι:={k:Nat//k≤s.length∧trnFrom s (s.length-k) k=r}) (id:=0) (b:=cat BGt [1,1,0,1,0,0]) (rest:=List.drop 5 (fl BGt [])) (by kernel_rfl) (fun k=>Sgt s k.1) (fun k=>s.length-k.1) ⟨0,Nat.zero_le _,hr⟩ (fun _=>rfl) ?_
  rintro⟨k,hk,hx⟩
  have hx:trnFrom s (s.length-k) k=r:=hx
  by_cases hlt:k<s.length
  ·obtain⟨m,hm⟩:∃m,s.length-k=m+1:=⟨s.length-k-1,by omega⟩
   have hm2:s.length-(k+1)=m:=by omega
   rw [hm,trnFrom]at hx
   have hit:pOut (g0 s k)=true→r=3:=fun hz=>by rw [←hx,if_pos hz]
   have key:pOut (g0 s k)=true→∀T H,retQ Tryz.prog true Tryz.f21 (iv 3) .ret T H→retQ Tryz.prog true Tryz.f21 (iv r) .ret T H:=fun hz T H h=>by rw [hit hz];exact h
   by_cases c1:(g0 s k).1<1
   ·exact GoalL.allRet (s:=Sgt s k) known mixed hS _ (gt_h1 s k (by omega) (by omega) c1) fun T H h=>key (by unfold pOut;rw [decide_eq_true c1];rfl) T H h
   ·by_cases c2:(g0 s k).1>400
    ·exact GoalL.allRet (s:=Sgt s k) known mixed hS _ (gt_h2 s k (by omega) (by omega) c1 c2) fun T H h=>key (by unfold pOut;rw [decide_eq_false c1,decide_eq_true c2];rfl) T H h
    ·by_cases c3:(g0 s k).2<1
     ·exact GoalL.allRet (s:=Sgt s k) known mixed hS _ (gt_h3 s k (by omega) (by omega) c1 c2 c3) fun T H h=>key (by unfold pOut;rw [decide_eq_false c1,decide_eq_false c2,decide_eq_true c3];rfl) T H h
     ·by_cases c4:(g0 s k).2>400
      ·exact GoalL.allRet (s:=Sgt s k) known mixed hS _ (gt_h4 s k (by omega) (by omega) c1 c2 c3 c4) fun T H h=>key (by unfold pOut;rw [decide_eq_false c1,decide_eq_false c2,decide_eq_false c3,decide_eq_true c4];rfl) T H h
      ·have hw:¬pOut (g0 s k)=true:=by unfold pOut;rw [decide_eq_false c1,decide_eq_false c2,decide_eq_false c3,decide_eq_false c4];decide
       refine GoalL.all (s:=Sgt s k) known mixed hS _ (gt_n s k (by omega) (by omega) c1 c2 c3 c4 (by omega)) (by kernel_rfl) ?_
       exact⟨⟨k+1,hlt,by rw [hm2,←hx,if_neg hw]⟩,by simp;omega,rfl,rfl⟩
  ·refine GoalL.all (s:=Sgt s k) known mixed hS _ (gt_end s k (by omega)) (by kernel_rfl) ?_
   refine onN_exit (inB_exit ?_)
   obtain rfl:k=s.length:=by omega
   rw [Nat.sub_self,trnFrom]at hx
   refine GoalL.allRet (s:=Sgt s s.length) known mixed hS _ (gt_fin s _) fun T H h=> ?_
   have h2:retQ Tryz.prog true Tryz.f21 (iv r) .ret T H:=by rw [←hx];exact h
   exact h2
noncomputable def cGt:Ctr:={f:=21,ps:=[.list false tP2],rs:=[.int .i64],fresh:=true,pre:=fun d=>true,fn:=fun d=>(trnErr d.1,())}
theorem cGt_ok:cGt.Ok Tryz.prog:=fun⟨s,_⟩ _=>gt_holds s
end
end Go.Proofs.YtccmlbinkgbpgaaGreatDoor
/- A map of integers to integers as a function; package gear: take, counted. -/
namespace Go.Proofs.YtccmlbinkgbpgaaGreatDoor
open Go.RowKit
def J64 (x:Int):Prop:= -9223372036854775808≤x∧x≤9223372036854775807
theorem J64.wf {x:Int} (h:J64 x):(Lit.int .i64 x).wf=true:=by
 unfold J64 at h
 simp [Lit.wf,IntKind.min,IntKind.max,IntKind.signed,IntKind.bits]
 omega
def IntMap (w:World) (b n:Nat) (f:Int→Int):Prop:=
 ∃D:DataW Unit,w.ownsMap Tryz.prog 3 (plainElem Tryz.prog 3) b n D∧Maps.IsMap D∧∀x:Int,D.atKey (.int .i64 x) (.lit (.int .i64 0))= .lit (.int .i64 (f x))
theorem IntMap.lt {w:World} {b n:Nat} {f:Int→Int} (h:IntMap w b n f):b<w.heap.size:=by
 obtain⟨D,h1,_⟩:=h
 exact h1.lt
theorem IntMap.look {w:World} {b n:Nat} {f:Int→Int} (h:IntMap w b n f) (k:Int) (hk:J64 k):
  (Instr.lookup 106 (.map (some b)) (.int .i64 k) false).run Tryz.prog w= .ok (.int .i64 (f k)) w:=by
 obtain⟨D,h1,_,h3⟩:=h
 obtain⟨c,hrun,hat,_⟩:=h1.lookup_int (Maps.int_keyed Tryz.underlying3) Tryz.underlying106 Tryz.underlying3 (Tryz.zeroValue3 w) (Maps.keyOf_int_mk Tryz.underlying3 hk.wf)
 rw [h3 k]at hat
 simp only [DataW.lit.injEq,Lit.int.injEq,true_and]at hat
 rw [hrun,hat]
def upd1 (f:Int→Int) (k v:Int):Int→Int:=fun y=>if y=k then v else f y
end Go.Proofs.YtccmlbinkgbpgaaGreatDoor
/- The reference of chapter 5: count, has, Builds; the law's first. -/
namespace Go.Proofs.YtccmlbinkgbpgaaGreatDoor
open Go.RowKit Sv
set_option maxRecDepth 100000
set_option linter.unusedVariables false
set_option linter.unusedSimpArgs false
noncomputable section
--{
--}
--{
--}
--{
theorem g0_get {l:List (Int×Int)} {k:Nat} (h:k<l.length):g0 l k=l[k]:=by simp [List.getD_eq_getElem?_getD,h]
--}
--{
--}
--{
--}
--{
--}
--{
--}
--{
--}
end
end Go.Proofs.YtccmlbinkgbpgaaGreatDoor
/- Package gear: counted: the stock as a map. -/
namespace Go.Proofs.YtccmlbinkgbpgaaGreatDoor
open Go.RowKit Sv
set_option linter.unusedVariables false
set_option linter.unusedSimpArgs false
noncomputable section
structure PRow (w:World) (A:Option Addr) (l:List (Int×Int)):Prop where
 at_:∀k,k<l.length→∃b off,A=some ⟨b,off,none⟩∧b<w.heap.size∧w.cell? ⟨b,off+k*2,none⟩=some (.int .i64 (g0 l k).1)∧w.cell? ⟨b,off+k*2+1,none⟩=some (.int .i64 (g0 l k).2)
theorem PRow.below {w w':World} {A:Option Addr} {l:List (Int×Int)} {n:Nat} (h:PRow w A l) (hb:Below n w w') (hn:w.heap.size≤n):PRow w' A l:=
 ⟨fun k hk=>by
   obtain⟨b,off,h1,h2,h3,h4⟩:=h.at_ k hk
   have:=hb.size
   exact⟨b,off,h1,by omega,(hb.cell (p:=⟨b,off+k*2,none⟩) (by show b<_;omega)).trans h3,(hb.cell (p:=⟨b,off+k*2+1,none⟩) (by show b<_;omega)).trans h4⟩⟩
theorem flat_len:∀l:List (Int×Int),(tP2.flat l).length=2*l.length
 |[]=>rfl
 |p::r=>by
  have e:tP2.flat (p::r)= .raw (.int .i64 p.1):: .raw (.int .i64 p.2)::tP2.flat r:=rfl
  rw [e];simp [flat_len r];omega
end
end Go.Proofs.YtccmlbinkgbpgaaGreatDoor
/- Package gear: CheckTrain. -/
namespace Go.Proofs.YtccmlbinkgbpgaaGreatDoor
open Go.RowKit Sv
set_option linter.unusedVariables false
set_option linter.unusedSimpArgs false
noncomputable section
theorem stkFrom_in {s:List (Int×Int)}:∀{n k:Nat},stkFrom s n k=0→∀j,k≤j→j<k+n→stkAt s j=0
 |0,k,h,j,h1,h2=>absurd h2 (by omega)
 |n+1,k,h,j,h1,h2=>by
  unfold stkFrom at h
  split at h
  ·contradiction
  ·rename_i h3
   by_cases e:j=k
   ·subst e;simpa using h3
   ·exact stkFrom_in h j (by omega) (by omega)
theorem stk_in {s:List (Int×Int)} (h:stkErr s=0):1≤s.length∧s.length≤32∧∀k,k<s.length→(6≤(g0 s k).1∧(g0 s k).1≤400)∧(1≤(g0 s k).2∧(g0 s k).2≤999999999)∧(0<k→(g0 s (k-1)).1<(g0 s k).1):=by
 unfold stkErr at h
 split at h
 ·cases h
 ·split at h
  ·cases h
  ·refine⟨by omega,by omega,fun k hk=> ?_⟩
   have:=stkFrom_in h k (by omega) (by omega)
   unfold stkAt wOut at this
   split at this
   ·cases this
   ·rename_i h3
    split at this
    ·cases this
    ·rename_i h4
     simp only [Bool.or_eq_true,decide_eq_true_eq,not_or,Int.not_lt,gt_iff_lt]at h3
     exact⟨⟨h3.1,h3.2.1⟩,⟨h3.2.2.1,h3.2.2.2⟩,fun h5=>by
      have h6:¬(g0 s k).1≤(g0 s (k-1)).1:=fun h7=>h4 ⟨h5,h7⟩
      omega⟩
theorem trnFrom_in {s:List (Int×Int)}:∀{n k:Nat},trnFrom s n k=0→∀j,k≤j→j<k+n→pOut (g0 s j)=false
 |0,k,h,j,h1,h2=>absurd h2 (by omega)
 |n+1,k,h,j,h1,h2=>by
  unfold trnFrom at h
  split at h
  ·cases h
  ·rename_i h3
   by_cases e:j=k
   ·subst e;simpa using h3
   ·exact trnFrom_in h j (by omega) (by omega)
theorem trn_in {s:List (Int×Int)} (h:trnErr s=0):s.length≤4∧∀k,k<s.length→(1≤(g0 s k).1∧(g0 s k).1≤400)∧(1≤(g0 s k).2∧(g0 s k).2≤400):=by
 unfold trnErr at h
 split at h
 ·cases h
 ·refine⟨by omega,fun k hk=> ?_⟩
  have:=trnFrom_in h k (by omega) (by omega)
  unfold pOut at this
  simp only [Bool.or_eq_false_iff,decide_eq_false_iff_not,Int.not_lt,gt_iff_lt]at this
  exact⟨⟨this.1,this.2.1⟩,⟨this.2.2.1,this.2.2.2⟩⟩
theorem upd_in {f:Int→Int} (h:∀x,0≤f x∧f x≤1000000000) (k:Int) (hk:f k≠0):∀x,0≤upd1 f k (f k-1) x∧upd1 f k (f k-1) x≤1000000000:=fun x=>by
 have h1:=h x
 have h2:=h k
 unfold upd1
 split<;>omega
end
end Go.Proofs.YtccmlbinkgbpgaaGreatDoor
/- Package gear: Normal. -/
namespace Go.Proofs.YtccmlbinkgbpgaaGreatDoor
open Go.RowKit Sv
set_option maxRecDepth 100000
set_option linter.unusedVariables false
set_option linter.unusedSimpArgs false
noncomputable section
noncomputable def BGn:Code:=(Tryz.f8.body).getD .skip
noncomputable def gnCs:VCaller:=wctrs [wDel,wSort,wIdx] (gctrs [cGj] (ctrs [cGt]))
def SNa (t:List (Int×Int)) (dn:List Int) (k:Nat):St:={n:=59,sl:=[(0,pl t),(5,ob5 64 []),(6,ob5 65 dn),(17,pl t),(18,iv t.length),(19,iv k)],en:=[(64,oe5 []),(65,oe5 dn)],next:=66}
def SNb (t:List (Int×Int)) (ds xs:List Int) (m k:Nat):St:={n:=59,sl:=[(0,pl t),(5,ob5 64 ds),(6, .osl 3 tIn 65 0 m .full),(29,pl t),(30,iv t.length),(31,iv k)],en:=[(64,oe5 ds),(65, .blk (.own 3 tIn xs))],next:=66}
abbrev gnA:List Nat:=[1,1,1,0,1,0,0]
abbrev gnB:List Nat:=[1,1,1,1,0,1,0,0]
theorem gn_start (t:List (Int×Int)) (h1:trnErr t=0):
  Tst.path (vrun0 Tryz.prog gnCs (fl BGn []) 6 59 [pl t]) [false] (toSt Tryz.prog 59 .normal [] (SNa t [] 0)):=
 mp (an rt (an (bne_eq_false_iff_eq.mpr h1) (an (rr t) (an (rr nilI.length) (an (rr nilI.length) (an (rr t) (an (rr ((↑t.length:Int))) (an (rr ((0:Int))) (an (rr nilI) (an (rr nilI) trivial))))))))))
theorem gn_a (t:List (Int×Int)) (dn:List Int) (k:Nat) (h1:(↑k:Int)<(↑t.length:Int)) (h2:k<t.length) (h3:dn.length+(1:Nat)≤1000000) (h4: -9223372036854775808≤(↑k:Int)+1∧(↑k:Int)+1≤9223372036854775807) (h5:(dn.length+(1:Nat))=(dn++[(List.getD t k ((0:Int),(0:Int))).2]).length) (h6:(Cap.full)=(capOf (dn++[(List.getD t k ((0:Int),(0:Int))).2]).length)):
  Tst.path (vall Tryz.prog gnCs (fl BGn gnA) (SNa t dn k)) [true,false] (toSt Tryz.prog 59 .normal [(64,64,none),(65,68,none)] (SNa t (dn++[(g0 t k).2]) (k+1))):=
 mp (an (decide_eq_true h1) (an (show(decide ((0:Int)≤(↑k:Int)))=true from decide_eq_true (by omega)) (an (decide_eq_true h2) (an rt (an rf (an (show(blkIs 3 (.int .i64) (optOwn (nat_lit 3) (.int .i64) dn) dn.length (capOf dn.length))=true from(blkIs_optOwn _ _ _)) (an (show(bounded (dn.length+(1:Nat)) (8:Nat))=true from bounded_of h3 (by omega)) (an (fits_i64 h4) (an (rr t) (an (an (rr ((0:Nat))) (an (rr nilI.length) (rr (capOf nilI.length)))) (an (an (rr ((0:Nat))) (an h5 h6)) (an (rr t) (an (rr ((↑t.length:Int))) (an (show((↑k:Int)+1)=((↑(k+(1:Nat)):Int))from(by omega)) (an (rr nilI) (an (show(blkXs (.int .i64) (optOwn (nat_lit 3) (.int .i64) dn)++[(List.getD t k ((0:Int),(0:Int))).2])=(dn++[(List.getD t k ((0:Int),(0:Int))).2])from(by simp only [blkXs_optOwn]<;>rfl)) trivial))))))))))))))))
theorem gn_ae (t:List (Int×Int)) (dn:List Int) (k:Nat) (h1:¬(↑k:Int)<(↑t.length:Int)):
  Tst.path (vall Tryz.prog gnCs (fl BGn gnA) (SNa t dn k)) [false] (toSt Tryz.prog 59 (.exit 0) [(64,64,none),(65,65,none)] (SNa t dn k)):=
 mp (an (decide_eq_false h1) (an (rr t) (an (an (rr ((0:Nat))) (an (rr nilI.length) (rr (capOf nilI.length)))) (an (an (rr ((0:Nat))) (an (rr dn.length) (rr (capOf dn.length)))) (an (rr t) (an (rr ((↑t.length:Int))) (an (rr ((↑k:Int))) (an (rr nilI) (an (show(fitOpt Tryz.prog none (optOwn (nat_lit 3) (.int .i64) dn) (nat_lit 3) (.int .i64) dn)from(fitOpt_refl _ _ _ _)) trivial)))))))))
theorem gn_mid (t:List (Int×Int)) (x:Int) (l:List Int) (k:Nat) (h1:(capOf (x::l).length)=(Cap.full)):
  Tst.path (vrun Tryz.prog gnCs (List.drop 7 (fl BGn [])) 1 (SNa t (x::l) k)) [] (toSt Tryz.prog 59 .normal [(64,64,none),(65,65,none)] (SNb t [] (x::l) (l.length+1) 0)):=
 mp (an (rr t) (an (an (rr ((0:Nat))) (an (rr nilI.length) (rr (capOf nilI.length)))) (an (an (rr ((0:Nat))) (an (rr (x::l).length) h1)) (an (rr t) (an (rr ((↑t.length:Int))) (an (rr ((0:Int))) (an (rr nilI) (an (rr (x::l)) trivial))))))))
theorem gn_b1 (t:List (Int×Int)) (ds xs:List Int) (m k:Nat) (h1:(↑k:Int)<(↑t.length:Int)) (h2:k<t.length) (h3:(Nat.beq m (0:Nat))=false) (h4:(Nat.beq (0:Nat) (0:Nat)&&(ownHas (WCtr.e wIdx) tIn (some (ABlk.own 3 (.int .i64) xs)) (m-(1:Nat))&&Nat.ble (1:Nat) m))=true) (h5:(oneI [(List.getD t k ((0:Int),(0:Int))).1]&&Nat.ble xs.length (1000000:Nat))=true) (h6:idxO xs m [(List.getD t k ((0:Int),(0:Int))).1]≥0) (h7: -9223372036854775808≤idxO xs m [(List.getD t k ((0:Int),(0:Int))).1]+1∧idxO xs m [(List.getD t k ((0:Int),(0:Int))).1]+1≤9223372036854775807) (h8:(Nat.beq (0:Nat) (0:Nat)&&(ownHas (WCtr.e wDel) tIn (some (ABlk.own 3 (.int .i64) xs)) (m-(1:Nat))&&Nat.ble (1:Nat) m))=true) (h9:(okDel xs m [idxO xs m [(List.getD t k ((0:Int),(0:Int))).1],idxO xs m [(List.getD t k ((0:Int),(0:Int))).1]+1])=true) (h10: -9223372036854775808≤(↑k:Int)+1∧(↑k:Int)+1≤9223372036854775807):
  Tst.path (vall Tryz.prog gnCs (fl BGn gnB) (SNb t ds xs m k)) [true,false,true,false] (toSt Tryz.prog 59 .normal [(64,64,none),(65,65,none)] (SNb t ds (delO xs m [idxO xs m [(g0 t k).1],idxO xs m [(g0 t k).1]+1]) (m-1) (k+1))):=
 mp (an (decide_eq_true h1) (an (show(decide ((0:Int)≤(↑k:Int)))=true from decide_eq_true (by omega)) (an (decide_eq_true h2) (an h3 (an h4 (an h5 (an (decide_eq_true h6) (an (fits_i64 h7) (an h3 (an h8 (an h9 (an (fits_i64 h10) (an (rr t) (an (an (rr ((0:Nat))) (an (rr ds.length) (rr (capOf ds.length)))) (an (an (rr ((0:Nat))) (an (rr (m-(1:Nat))) (rr (Cap.full)))) (an (rr t) (an (rr ((↑t.length:Int))) (an (show((↑k:Int)+1)=((↑(k+(1:Nat)):Int))from(by omega)) (an (show(fitOpt Tryz.prog none (optOwn (nat_lit 3) (.int .i64) ds) (nat_lit 3) (.int .i64) ds)from(fitOpt_refl _ _ _ _)) (an (rr (delO xs m [idxO xs m [(List.getD t k ((0:Int),(0:Int))).1],idxO xs m [(List.getD t k ((0:Int),(0:Int))).1]+1])) trivial))))))))))))))))))))
theorem gn_b2 (t:List (Int×Int)) (ds xs:List Int) (m k:Nat) (h1:(↑k:Int)<(↑t.length:Int)) (h2:k<t.length) (h3:(Nat.beq m (0:Nat))=false) (h4:(Nat.beq (0:Nat) (0:Nat)&&(ownHas (WCtr.e wIdx) tIn (some (ABlk.own 3 (.int .i64) xs)) (m-(1:Nat))&&Nat.ble (1:Nat) m))=true) (h5:(oneI [(List.getD t k ((0:Int),(0:Int))).1]&&Nat.ble xs.length (1000000:Nat))=true) (h6:¬idxO xs m [(List.getD t k ((0:Int),(0:Int))).1]≥0) (h7:ds.length+(1:Nat)≤1000000) (h8: -9223372036854775808≤(↑k:Int)+1∧(↑k:Int)+1≤9223372036854775807) (h9:(ds.length+(1:Nat))=(ds++[(List.getD t k ((0:Int),(0:Int))).1]).length) (h10:(Cap.full)=(capOf (ds++[(List.getD t k ((0:Int),(0:Int))).1]).length)):
  Tst.path (vall Tryz.prog gnCs (fl BGn gnB) (SNb t ds xs m k)) [true,false,false,false] (toSt Tryz.prog 59 .normal [(64,68,none),(65,65,none)] (SNb t (ds++[(g0 t k).1]) xs m (k+1))):=
 mp (an (decide_eq_true h1) (an (show(decide ((0:Int)≤(↑k:Int)))=true from decide_eq_true (by omega)) (an (decide_eq_true h2) (an h3 (an h4 (an h5 (an (decide_eq_false h6) (an rt (an rf (an (show(blkIs 3 (.int .i64) (optOwn (nat_lit 3) (.int .i64) ds) ds.length (capOf ds.length))=true from(blkIs_optOwn _ _ _)) (an (show(bounded (ds.length+(1:Nat)) (8:Nat))=true from bounded_of h7 (by omega)) (an (fits_i64 h8) (an (rr t) (an (an (rr ((0:Nat))) (an h9 h10)) (an (an (rr ((0:Nat))) (an (rr m) (rr (Cap.full)))) (an (rr t) (an (rr ((↑t.length:Int))) (an (show((↑k:Int)+1)=((↑(k+(1:Nat)):Int))from(by omega)) (an (show(blkXs (.int .i64) (optOwn (nat_lit 3) (.int .i64) ds)++[(List.getD t k ((0:Int),(0:Int))).1])=(ds++[(List.getD t k ((0:Int),(0:Int))).1])from(by simp only [blkXs_optOwn]<;>rfl)) (an (rr xs) trivial))))))))))))))))))))
theorem gn_be (t:List (Int×Int)) (ds xs:List Int) (m k:Nat) (h1:¬(↑k:Int)<(↑t.length:Int)):
  Tst.path (vall Tryz.prog gnCs (fl BGn gnB) (SNb t ds xs m k)) [false] (toSt Tryz.prog 59 (.exit 2) [(64,64,none),(65,65,none)] (SNb t ds xs m k)):=
 mp (an (decide_eq_false h1) (an (rr t) (an (an (rr ((0:Nat))) (an (rr ds.length) (rr (capOf ds.length)))) (an (an (rr ((0:Nat))) (an (rr m) (rr (Cap.full)))) (an (rr t) (an (rr ((↑t.length:Int))) (an (rr ((↑k:Int))) (an (show(fitOpt Tryz.prog none (optOwn (nat_lit 3) (.int .i64) ds) (nat_lit 3) (.int .i64) ds)from(fitOpt_refl _ _ _ _)) (an (rr xs) trivial)))))))))
theorem gn_f0 (t:List (Int×Int)) (ds xs:List Int) (m k:Nat) (h1:ds.length=(0:Nat)) (h2:m=(0:Nat)) (h3:(Nat.beq ds.length (0:Nat)||ownHas 3 (.int .i64) (optOwn (nat_lit 3) (.int .i64) ds) (ds.length-(1:Nat)))=true) (h4:(Nat.beq m (0:Nat)||ownHas 3 (.int .i64) (some (ABlk.own 3 (.int .i64) xs)) (m-(1:Nat)))=true) (h5:(okZip (List.take ds.length (List.drop (0:Nat) ds)) (List.take m (List.drop (0:Nat) xs)))=true):
  Tst.path (vall Tryz.prog gnCs (List.drop 9 (fl BGn [])) (SNb t ds xs m k)) [true,true] (toRet Tryz.prog Tryz.f8 false (.tuple [pl (zipI (List.take ds.length (List.drop 0 ds)) (List.take m (List.drop 0 xs))),iv 0])):=
 mp (an (beq_of h1) (an rt (an (beq_of h2) (an rt (an (show(Nat.beq ds.length (0:Nat)||ownHas 3 (.int .i64) (optOwn (nat_lit 3) (.int .i64) ds) ((0:Nat)+ds.length-(1:Nat)))=true from(by simp only [Nat.zero_add]<;>exact(show(Nat.beq ds.length (0:Nat)||ownHas 3 (.int .i64) (optOwn (nat_lit 3) (.int .i64) ds) (ds.length-(1:Nat)))=true from h3))) (an (show(Nat.beq m (0:Nat)||ownHas 3 (.int .i64) (some (ABlk.own 3 (.int .i64) xs)) ((0:Nat)+m-(1:Nat)))=true from(by simp only [Nat.zero_add]<;>exact(show(Nat.beq m (0:Nat)||ownHas 3 (.int .i64) (some (ABlk.own 3 (.int .i64) xs)) (m-(1:Nat)))=true from h4))) (an (show(okZip (List.take ds.length (List.drop (0:Nat) (blkXs (.int .i64) (optOwn (nat_lit 3) (.int .i64) ds)))) (List.take m (List.drop (0:Nat) xs)))=true from(by simp only [blkXs_optOwn]<;>exact(show(okZip (List.take ds.length (List.drop (0:Nat) ds)) (List.take m (List.drop (0:Nat) xs)))=true from h5))) (an (show(zipI (List.take ds.length (List.drop (0:Nat) (blkXs (.int .i64) (optOwn (nat_lit 3) (.int .i64) ds)))) (List.take m (List.drop (0:Nat) xs)))=(zipI (List.take ds.length (List.drop (0:Nat) ds)) (List.take m (List.drop (0:Nat) xs)))from(by simp only [blkXs_optOwn]<;>rfl)) (an (rr ((0:Int))) trivial)))))))))
theorem gn_f1 (t:List (Int×Int)) (ds xs:List Int) (m k:Nat) (h1:(Nat.beq ds.length (0:Nat))=false) (h2:(Nat.beq (0:Nat) (0:Nat)&&(ownHas (WCtr.e wSort) tIn (optOwn (nat_lit 3) (.int .i64) ds) (ds.length-(1:Nat))&&Nat.ble (1:Nat) ds.length))=true) (h3:(true&&Nat.ble ds.length (1000000:Nat))=true) (h4:(Nat.beq m (0:Nat))=false) (h5:(Nat.beq (0:Nat) (0:Nat)&&(ownHas (WCtr.e wSort) tIn (some (ABlk.own 3 (.int .i64) xs)) (m-(1:Nat))&&Nat.ble (1:Nat) m))=true) (h6:(true&&Nat.ble xs.length (1000000:Nat))=true) (h7:(Nat.beq ds.length (0:Nat)||ownHas 3 (.int .i64) (some (ABlk.own 3 (.int .i64) (sortO ds ds.length))) (ds.length-(1:Nat)))=true) (h8:(Nat.beq m (0:Nat)||ownHas 3 (.int .i64) (some (ABlk.own 3 (.int .i64) (sortO xs m))) (m-(1:Nat)))=true) (h9:(okZip (List.take ds.length (List.drop (0:Nat) (sortO ds ds.length))) (List.take m (List.drop (0:Nat) (sortO xs m))))=true):
  Tst.path (vall Tryz.prog gnCs (List.drop 9 (fl BGn [])) (SNb t ds xs m k)) [false,false] (toRet Tryz.prog Tryz.f8 false (.tuple [pl (zipI (List.take ds.length (List.drop 0 (sortO ds ds.length))) (List.take m (List.drop 0 (sortO xs m)))),iv 0])):=
 mp (an h1 (an h2 (an (show(true&&Nat.ble (blkXs tIn (optOwn (nat_lit 3) (.int .i64) ds)).length (1000000:Nat))=true from(by simp only [blkXs_optOwn]<;>exact(show(true&&Nat.ble ds.length (1000000:Nat))=true from h3))) (an h4 (an h5 (an h6 (an (show(Nat.beq ds.length (0:Nat)||ownHas 3 (.int .i64) (some (ABlk.own 3 (.int .i64) (sortO (blkXs tIn (optOwn (nat_lit 3) (.int .i64) ds)) ds.length))) ((0:Nat)+ds.length-(1:Nat)))=true from(by simp only [blkXs_optOwn,Nat.zero_add]<;>exact(show(Nat.beq ds.length (0:Nat)||ownHas 3 (.int .i64) (some (ABlk.own 3 (.int .i64) (sortO ds ds.length))) (ds.length-(1:Nat)))=true from h7))) (an (show(Nat.beq m (0:Nat)||ownHas 3 (.int .i64) (some (ABlk.own 3 (.int .i64) (sortO xs m))) ((0:Nat)+m-(1:Nat)))=true from(by simp only [Nat.zero_add]<;>exact(show(Nat.beq m (0:Nat)||ownHas 3 (.int .i64) (some (ABlk.own 3 (.int .i64) (sortO xs m))) (m-(1:Nat)))=true from h8))) (an (show(okZip (List.take ds.length (List.drop (0:Nat) (sortO (blkXs tIn (optOwn (nat_lit 3) (.int .i64) ds)) ds.length))) (List.take m (List.drop (0:Nat) (sortO xs m))))=true from(by simp only [blkXs_optOwn]<;>exact(show(okZip (List.take ds.length (List.drop (0:Nat) (sortO ds ds.length))) (List.take m (List.drop (0:Nat) (sortO xs m))))=true from h9))) (an (show(zipI (List.take ds.length (List.drop (0:Nat) (sortO (blkXs tIn (optOwn (nat_lit 3) (.int .i64) ds)) ds.length))) (List.take m (List.drop (0:Nat) (sortO xs m))))=(zipI (List.take ds.length (List.drop (0:Nat) (sortO ds ds.length))) (List.take m (List.drop (0:Nat) (sortO xs m))))from(by simp only [blkXs_optOwn]<;>rfl)) (an (rr ((0:Int))) trivial)))))))))))
theorem gnCs_ok:CallOk Tryz.prog (gS gnCs):=wctrs_ok (fun c hc=>by
 simp only [List.mem_cons,List.not_mem_nil,or_false]at hc
 rcases hc with rfl |rfl |rfl
 ·exact wDel_ok
 ·exact wSort_ok
 ·exact wIdx_ok) (gctrs_ok (fun c hc=>by
 simp only [List.mem_cons,List.not_mem_nil,or_false]at hc
 obtain rfl:=hc
 exact cGj_ok) (ctrs_ok fun c hc=>by
 simp only [List.mem_cons,List.not_mem_nil,or_false]at hc
 obtain rfl:=hc
 exact cGt_ok))
theorem idx_in {x:Int}:∀(zs:List Int) (i:Nat),x∈zs→∃a,a<zs.length∧Lib.idxFrom zs x i=((i+a:Nat):Int)∧zs.erase x=zs.take a++zs.drop (a+1)
 |[],_,h=>by cases h
 |z::zs,i,h=>by
  by_cases hz:z=x
  ·subst hz
   exact⟨0,by simp,by unfold Lib.idxFrom;simp,by simp⟩
  ·have hm:x∈zs:=by
    rcases List.mem_cons.1 h with h|h
    ·exact absurd h.symm hz
    ·exact h
   obtain⟨a,a1,a2,a3⟩:=idx_in zs (i+1) hm
   refine⟨a+1,by simp;omega, ?_, ?_⟩
   ·unfold Lib.idxFrom
    rw [if_neg (by simpa using hz),a2];omega
   ·rw [List.erase_cons_tail (by simpa using hz),a3];simp
theorem idx_out {x:Int}:∀(zs:List Int) (i:Nat),x∉zs→Lib.idxFrom zs x i= -1
 |[],_,_=>rfl
 |z::zs,i,h=>by
  rw [List.mem_cons,not_or]at h
  unfold Lib.idxFrom
  rw [if_neg (by simpa using fun e=>h.1 e.symm),idx_out zs (i+1) h.2]
def nrmG (t:List (Int×Int)):List (Int×Int):=zipI (sortJ (cancel (t.map Prod.fst) (t.map Prod.snd)).1) (sortJ (cancel (t.map Prod.fst) (t.map Prod.snd)).2)
theorem delO_take {xs:List Int} {m a:Nat} (h1:m≤xs.length) (h2:a<m) (b:Int):(delO xs m [(a:Int),b]).length=xs.length∧(delO xs m [(a:Int),b]).take (m-1)=(xs.take m).take a++(xs.take m).drop (a+1):=by
 have e:delO xs m [(a:Int),b]=delL xs m a:=rfl
 rw [e]
 refine⟨delL_len h1 h2, ?_⟩
 unfold delL
 rw [List.take_append_of_le_length (by simp;omega),List.take_of_length_le (by simp;omega),List.take_take,show min a m=a by omega]
end
end Go.Proofs.YtccmlbinkgbpgaaGreatDoor
