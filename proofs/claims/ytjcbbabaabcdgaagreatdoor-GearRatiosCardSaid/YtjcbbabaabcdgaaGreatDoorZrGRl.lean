/- The law GearRatios. -/
import Derived.Test.YtjcbbabaabcdgaaGreatDoorZrRml
import Derived.Test.YtjcbbabaabcdgaaGreatDoorZrGDel
import Derived.Test.YtjcbbabaabcdgaaGreatDoorZrGAw2
namespace Go.Proofs.YtjcbbabaabcdgaaGreatDoor
open Go.RowKit Sv
set_option maxRecDepth 100000
set_option linter.unusedVariables false
set_option linter.unusedSimpArgs false
noncomputable section
noncomputable def BGrr:Code:=(Tryz.f8.body).getD .skip
noncomputable def BSm:Code:=(Tryz.f42.body).getD .skip
noncomputable def BLr:Code:=(Tryz.f3.body).getD .skip
noncomputable def BLn:Code:=(Tryz.f11.body).getD .skip
noncomputable def BLt:Code:=(Tryz.f12.body).getD .skip
set_option pp.structureInstances false
def okTr (t:List (Int×Int)):Bool:=decide (trnErr t=0)
noncomputable def ratF (t:List (Int×Int)):(Int×List Int)×(Int×List Int):=ratQ t t.length
def ratS (t:List (Int×Int)):ByteArray:=tqS (ratT t t.length).1 (ratT t t.length).2
noncomputable def cGrf:Ctr:={f:=45,ps:=[.list false tP2],rs:=[tQ],fresh:=false,pre:=fun d=>okTr d.1,fn:=fun d=>(ratF d.1,())}
noncomputable def cRrt:Ctr:={f:=13,ps:=[.list false tP2],rs:=[.str],fresh:=true,pre:=fun d=>okTr d.1,fn:=fun d=>(ratS d.1,())}
noncomputable def grrCs:VCaller:=ctrs [cGt,cGrf,cTx]
abbrev bNil:ByteArray:=ByteArray.mk #[]
theorem grr_bad (t:List (Int×Int)) (h1:¬trnErr t=0):
  Tst.path (vrun0 Tryz.prog grrCs (fl BGrr []) 9 13 [pl t]) [true] (toRet Tryz.prog Tryz.f8 true (.tuple [sv bNil,iv (trnErr t)])):=
 mp (an rt (an (bne_iff_ne.mpr h1) (an (rr (ByteArray.mk #[])) (an (rr (trnErr t)) trivial))))
theorem grr_ok (t:List (Int×Int)) (h1:trnErr t=0) (h2:(okTr t)=true) (h3:(okTx (((ratF t).1.1,(ratF t).1.2),(ratF t).2.1,(ratF t).2.2))=true):
  Tst.path (vrun0 Tryz.prog grrCs (fl BGrr []) 9 13 [pl t]) [false] (toRet Tryz.prog Tryz.f8 true (.tuple [sv (txS (ratF t)),iv 0])):=
 mp (an rt (an (bne_eq_false_iff_eq.mpr h1) (an h2 (an h3 (an (rr (txS (((ratF t).1.1,(ratF t).1.2),(ratF t).2.1,(ratF t).2.2))) (an (rr ((0:Int))) trivial))))))
def SSm (a b:List (Int×Int)) (k:Nat):St:={n:=26,sl:=[(0,pl a),(1,pl b),(5,iv k)],en:=[],next:=64}
abbrev smL:List Nat:=[1,1,0,1,0,0]
theorem sm_len (a b:List (Int×Int)) (h1:¬(↑a.length:Int)=(↑b.length:Int)):
  Tst.path (vrun0 Tryz.prog (ctrs []) (fl BSm []) 3 26 [pl a,pl b]) [true] (toRet Tryz.prog Tryz.f42 true (bv false)):=
 mp (an (bne_iff_ne.mpr h1) rf)
theorem sm_start (a b:List (Int×Int)) (h1:(↑a.length:Int)=(↑b.length:Int)):
  Tst.path (vrun0 Tryz.prog (ctrs []) (fl BSm []) 4 26 [pl a,pl b]) [false] (toSt Tryz.prog 26 .normal [] (SSm a b 0)):=
 mp (an (bne_eq_false_iff_eq.mpr h1) (an (rr a) (an (rr b) (an (rr ((0:Int))) trivial))))
theorem sm_go (a b:List (Int×Int)) (k:Nat) (h1:(↑k:Int)<(↑a.length:Int)) (h2:k<a.length) (h3:k<b.length) (h4:((List.getD a k ((0:Int),(0:Int))).1==(List.getD b k ((0:Int),(0:Int))).1&&(List.getD a k ((0:Int),(0:Int))).2==(List.getD b k ((0:Int),(0:Int))).2)=true) (h5: -9223372036854775808≤(↑k:Int)+1∧(↑k:Int)+1≤9223372036854775807):
  Tst.path (vall Tryz.prog (ctrs []) (fl BSm smL) (SSm a b k)) [true,false] (toSt Tryz.prog 26 .normal [] (SSm a b (k+1))):=
 mp (an (decide_eq_true h1) (an (show(decide ((0:Int)≤(↑k:Int)))=true from decide_eq_true (by omega)) (an (decide_eq_true h2) (an (sr (AV.agg [iv (List.getD a k ((0:Int),(0:Int))).1,iv (List.getD a k ((0:Int),(0:Int))).2])) (an (show(decide ((0:Int)≤(↑k:Int)))=true from decide_eq_true (by omega)) (an (decide_eq_true h3) (an (sr (AV.agg [iv (List.getD b k ((0:Int),(0:Int))).1,iv (List.getD b k ((0:Int),(0:Int))).2])) (an (bF h4) (an (fits_i64 h5) (an (rr a) (an (rr b) (an (show((↑k:Int)+1)=((↑(k+(1:Nat)):Int))from(by omega)) trivial))))))))))))
theorem sm_ne (a b:List (Int×Int)) (k:Nat) (h1:(↑k:Int)<(↑a.length:Int)) (h2:k<a.length) (h3:k<b.length) (h4:((List.getD a k ((0:Int),(0:Int))).1==(List.getD b k ((0:Int),(0:Int))).1&&(List.getD a k ((0:Int),(0:Int))).2==(List.getD b k ((0:Int),(0:Int))).2)=false):
  Tst.path (vall Tryz.prog (ctrs []) (fl BSm smL) (SSm a b k)) [true,true] (toRet Tryz.prog Tryz.f42 true (bv false)):=
 mp (an (decide_eq_true h1) (an (show(decide ((0:Int)≤(↑k:Int)))=true from decide_eq_true (by omega)) (an (decide_eq_true h2) (an (sr (AV.agg [iv (List.getD a k ((0:Int),(0:Int))).1,iv (List.getD a k ((0:Int),(0:Int))).2])) (an (show(decide ((0:Int)≤(↑k:Int)))=true from decide_eq_true (by omega)) (an (decide_eq_true h3) (an (sr (AV.agg [iv (List.getD b k ((0:Int),(0:Int))).1,iv (List.getD b k ((0:Int),(0:Int))).2])) (an (bF h4) rf))))))))
theorem sm_end (a b:List (Int×Int)) (k:Nat) (h1:¬(↑k:Int)<(↑a.length:Int)):
  Tst.path (vall Tryz.prog (ctrs []) (fl BSm smL) (SSm a b k)) [false] (toSt Tryz.prog 26 (.exit 0) [] (SSm a b k)):=
 mp (an (decide_eq_false h1) (an (rr a) (an (rr b) (an (rr ((↑k:Int))) trivial))))
theorem sm_fin (a b:List (Int×Int)) (k:Nat):
  Tst.path (vall Tryz.prog (ctrs []) (List.drop 5 (fl BSm [])) (SSm a b k)) [] (toRet Tryz.prog Tryz.f42 true (bv true)):=
 mp rt
def sameT (a b:List (Int×Int)):Bool:=decide (a=b)
noncomputable def cSm:Ctr:={f:=42,ps:=[.list false tP2, .list false tP2],rs:=[.bool],fresh:=true,pre:=fun d=>decide (List.length (α:=Int×Int) d.1≤1000000),fn:=fun d=>(sameT d.1 d.2.1,())}
noncomputable def lnCs:VCaller:=ctrs [cLg]
noncomputable def ltCs:VCaller:=ctrs [cSm]
def numE (bad:Int) (want:ByteArray):Int:=if bad=0 then largT want else bad
def numB (h:ByteArray) (e bad:Int) (want:ByteArray):Bool:=if numE bad want=0 then(e==0)&&decide (h=want)else decide (h.size=0)&&(e==numE bad want)
def trB (h:List (Int×Int)) (e bad:Int) (w:List (Int×Int)):Bool:=if bad=0 then(e==0)&&sameT h w else decide (h.length=0)&&(e==bad)
def grS (t:List (Int×Int)):ByteArray:=if trnErr t=0 then ratS t else ByteArray.mk #[]
theorem ln_b1 (have' want:ByteArray) (e bad:Int) (h1:¬bad=0) (h2:Array.toList (ByteArray.data have')=Array.toList (ByteArray.data (ByteArray.mk #[]))):
  Tst.path (vrun0 Tryz.prog lnCs (fl BLn []) 9 29 [sv have',iv e,iv bad,sv want]) [false,true,true,true,true,true] (toRet Tryz.prog Tryz.f11 true (bv (e==bad))):=
 mp (an (beq_eq_false_iff_ne.mpr h1) (an (bne_iff_ne.mpr h1) (an (bT (decide_eq_true h2)) (an (bT (decide_eq_true h2)) (an (bT (decide_eq_true h2)) (an (decide_eq_true h2) (rr (e==bad))))))))
theorem ln_b0 (have' want:ByteArray) (e bad:Int) (h1:¬bad=0) (h2:¬Array.toList (ByteArray.data have')=Array.toList (ByteArray.data (ByteArray.mk #[]))):
  Tst.path (vrun0 Tryz.prog lnCs (fl BLn []) 9 29 [sv have',iv e,iv bad,sv want]) [false,true,false,false,false,false] (toRet Tryz.prog Tryz.f11 true (bv false)):=
 mp (an (beq_eq_false_iff_ne.mpr h1) (an (bne_iff_ne.mpr h1) (an (bT (decide_eq_false h2)) (an (bT (decide_eq_false h2)) (an (bT (decide_eq_false h2)) (an (decide_eq_false h2) rf))))))
theorem ln_l1 (have' want:ByteArray) (e bad:Int) (h1:bad=0) (h2:want.size≤(1000000000:Nat)) (h3:¬largT want=0) (h4:Array.toList (ByteArray.data have')=Array.toList (ByteArray.data (ByteArray.mk #[]))):
  Tst.path (vrun0 Tryz.prog lnCs (fl BLn []) 9 29 [sv have',iv e,iv bad,sv want]) [true,true,true,true,true,true] (toRet Tryz.prog Tryz.f11 true (bv (e==largT want))):=
 mp (an (beq_iff_eq.mpr h1) (an (decide_eq_true h2) (an (bne_iff_ne.mpr h3) (an (bT (decide_eq_true h4)) (an (bT (decide_eq_true h4)) (an (bT (decide_eq_true h4)) (an (decide_eq_true h4) (rr (e==largT want)))))))))
theorem ln_l0 (have' want:ByteArray) (e bad:Int) (h1:bad=0) (h2:want.size≤(1000000000:Nat)) (h3:¬largT want=0) (h4:¬Array.toList (ByteArray.data have')=Array.toList (ByteArray.data (ByteArray.mk #[]))):
  Tst.path (vrun0 Tryz.prog lnCs (fl BLn []) 9 29 [sv have',iv e,iv bad,sv want]) [true,true,false,false,false,false] (toRet Tryz.prog Tryz.f11 true (bv false)):=
 mp (an (beq_iff_eq.mpr h1) (an (decide_eq_true h2) (an (bne_iff_ne.mpr h3) (an (bT (decide_eq_false h4)) (an (bT (decide_eq_false h4)) (an (bT (decide_eq_false h4)) (an (decide_eq_false h4) rf)))))))
theorem ln_o1 (have' want:ByteArray) (e bad:Int) (h1:bad=0) (h2:want.size≤(1000000000:Nat)) (h3:largT want=0) (h4:e=0):
  Tst.path (vrun0 Tryz.prog lnCs (fl BLn []) 9 29 [sv have',iv e,iv bad,sv want]) [true,false,true,true,true,true] (toRet Tryz.prog Tryz.f11 true (bv (decide (have'.data.toList=want.data.toList)))):=
 mp (an (beq_iff_eq.mpr h1) (an (decide_eq_true h2) (an (bne_eq_false_iff_eq.mpr h3) (an (bT (beq_iff_eq.mpr h4)) (an (bT (beq_iff_eq.mpr h4)) (an (bT (beq_iff_eq.mpr h4)) (an (beq_iff_eq.mpr h4) (rr (decide (Array.toList (ByteArray.data have')=Array.toList (ByteArray.data want)))))))))))
theorem ln_o0 (have' want:ByteArray) (e bad:Int) (h1:bad=0) (h2:want.size≤(1000000000:Nat)) (h3:largT want=0) (h4:¬e=0):
  Tst.path (vrun0 Tryz.prog lnCs (fl BLn []) 9 29 [sv have',iv e,iv bad,sv want]) [true,false,false,false,false,false] (toRet Tryz.prog Tryz.f11 true (bv false)):=
 mp (an (beq_iff_eq.mpr h1) (an (decide_eq_true h2) (an (bne_eq_false_iff_eq.mpr h3) (an (bT (beq_eq_false_iff_ne.mpr h4)) (an (bT (beq_eq_false_iff_ne.mpr h4)) (an (bT (beq_eq_false_iff_ne.mpr h4)) (an (beq_eq_false_iff_ne.mpr h4) rf)))))))
theorem lt_b1 (h w:List (Int×Int)) (e bad:Int) (h1:¬bad=0) (h2:(↑h.length:Int)=0):
  Tst.path (vrun0 Tryz.prog ltCs (fl BLt []) 9 26 [pl h,iv e,iv bad,pl w]) [true,true,true,true,true] (toRet Tryz.prog Tryz.f12 true (bv (e==bad))):=
 mp (an (bne_iff_ne.mpr h1) (an (bT (beq_iff_eq.mpr h2)) (an (bT (beq_iff_eq.mpr h2)) (an (bT (beq_iff_eq.mpr h2)) (an (beq_iff_eq.mpr h2) (rr (e==bad)))))))
theorem lt_b0 (h w:List (Int×Int)) (e bad:Int) (h1:¬bad=0) (h2:¬(↑h.length:Int)=0):
  Tst.path (vrun0 Tryz.prog ltCs (fl BLt []) 9 26 [pl h,iv e,iv bad,pl w]) [true,false,false,false,false] (toRet Tryz.prog Tryz.f12 true (bv false)):=
 mp (an (bne_iff_ne.mpr h1) (an (bT (beq_eq_false_iff_ne.mpr h2)) (an (bT (beq_eq_false_iff_ne.mpr h2)) (an (bT (beq_eq_false_iff_ne.mpr h2)) (an (beq_eq_false_iff_ne.mpr h2) rf)))))
theorem lt_o1 (h w:List (Int×Int)) (e bad:Int) (h1:bad=0) (h2:e=0) (h3:h.length≤(1000000:Nat)):
  Tst.path (vrun0 Tryz.prog ltCs (fl BLt []) 9 26 [pl h,iv e,iv bad,pl w]) [false,true,true,true,true] (toRet Tryz.prog Tryz.f12 true (bv (sameT h w))):=
 mp (an (bne_eq_false_iff_eq.mpr h1) (an (bT (beq_iff_eq.mpr h2)) (an (bT (beq_iff_eq.mpr h2)) (an (bT (beq_iff_eq.mpr h2)) (an (decide_eq_true h3) (an (beq_iff_eq.mpr h2) (rr (sameT h w))))))))
theorem lt_o0 (h w:List (Int×Int)) (e bad:Int) (h1:bad=0) (h2:¬e=0):
  Tst.path (vrun0 Tryz.prog ltCs (fl BLt []) 9 26 [pl h,iv e,iv bad,pl w]) [false,false,false,false,false] (toRet Tryz.prog Tryz.f12 true (bv false)):=
 mp (an (bne_eq_false_iff_eq.mpr h1) (an (bT (beq_eq_false_iff_ne.mpr h2)) (an (bT (beq_eq_false_iff_ne.mpr h2)) (an (bT (beq_eq_false_iff_ne.mpr h2)) (an (beq_eq_false_iff_ne.mpr h2) rf)))))
noncomputable def cGR:Ctr:={f:=8,ps:=[.list false tP2],rs:=[.str, .int .i64],fresh:=true,pre:=fun d=>true,fn:=fun d=>(grS d.1,trnErr d.1,())}
noncomputable def cLn:Ctr:={f:=11,ps:=[.str, .int .i64, .int .i64, .str],rs:=[.bool],fresh:=true,pre:=fun d=>decide (ByteArray.size d.2.2.2.1≤1000000000),fn:=fun d=>(numB d.1 d.2.1 d.2.2.1 d.2.2.2.1,())}
noncomputable def cLt:Ctr:={f:=12,ps:=[.list false tP2, .int .i64, .int .i64, .list false tP2],rs:=[.bool],fresh:=true,pre:=fun d=>decide (List.length (α:=Int×Int) d.1≤1000000),fn:=fun d=>(trB d.1 d.2.1 d.2.2.1 d.2.2.2.1,())}
noncomputable def cAw2:Ctr:={f:=7,ps:=[],rs:=[.bool],fresh:=true,pre:=fun d=>true,fn:=fun d=>(true,())}
noncomputable def lrCs:VCaller:=ctrs [cAw2,cGR,cGn,cRt,cRrt,cRn,cLn,cLt]
theorem lr_far (t:List (Int×Int)) (h1:(↑t.length:Int)>10):
  Tst.path (vrun0 Tryz.prog lrCs (fl BLr []) 20 52 [pl t]) [true,true,true,false,true] (toRet Tryz.prog Tryz.f3 true (bv true)):=
 mp (an rt (an rt (an rt (an rt (an rf (an (decide_eq_true h1) (an rt rt)))))))
theorem lr_bad (t:List (Int×Int)) (h1:¬(↑t.length:Int)>10) (h2:¬trnErr t=0) (h3:(ByteArray.mk #[]).size≤(1000000000:Nat)) (h4:(numB (grS t) (trnErr t) (trnErr t) (ByteArray.mk #[]))=true) (h5:(nrmL t).length≤(1000000:Nat)):
  Tst.path (vrun0 Tryz.prog lrCs (fl BLr []) 20 52 [pl t]) [true,true,true,false,false,true,true,true,true,true,true] (toRet Tryz.prog Tryz.f3 true (bv (trB (nrmL t) (trnErr t) (trnErr t) nilP))):=
 mp (an rt (an rt (an rt (an rt (an rf (an (decide_eq_false h1) (an rt (an rt (an rt (an (bne_iff_ne.mpr h2) (an (decide_eq_true h3) (an (bT h4) (an (bT h4) (an (bT h4) (an (bT h4) (an (decide_eq_true h5) (an h4 (rr (trB (nrmL t) (trnErr t) (trnErr t) [])))))))))))))))))))
theorem lr_ok (t:List (Int×Int)) (h1:¬(↑t.length:Int)>10) (h2:trnErr t=0) (h3:(okTr t)=true) (h4:(ratS t).size≤(1000000000:Nat)) (h5:(numB (grS t) (trnErr t) (0:Int) (ratS t))=true) (h6:t.length≤(100:Nat)) (h7:(nrmL t).length≤(1000000:Nat)):
  Tst.path (vrun0 Tryz.prog lrCs (fl BLr []) 20 52 [pl t]) [true,true,true,false,false,false,true,true,true,true,true,true] (toRet Tryz.prog Tryz.f3 true (bv (trB (nrmL t) (trnErr t) 0 (nrmR t)))):=
 mp (an rt (an rt (an rt (an rt (an rf (an (decide_eq_false h1) (an rt (an rt (an rt (an (bne_eq_false_iff_eq.mpr h2) (an h3 (an (decide_eq_true h4) (an (bT h5) (an (bT h5) (an (bT h5) (an (bT h5) (an (decide_eq_true h6) (an (bT h5) (an (decide_eq_true h7) (an h5 (rr (trB (nrmL t) (trnErr t) (0:Int) (nrmR t)))))))))))))))))))))))
theorem cGrf_ok:cGrf.Ok Tryz.prog:=fun⟨t,_⟩ h=>by
 obtain⟨h1,h2⟩:=trn_in (of_decide_eq_true h)
 exact gr_holds t h1 h2
theorem cRrt_ok:cRrt.Ok Tryz.prog:=fun⟨t,_⟩ h=>by
 obtain⟨h1,h2⟩:=trn_in (of_decide_eq_true h)
 exact rrt_holds t h1 h2
theorem grrCs_ok:CallOk Tryz.prog (gS grrCs):=ctrs_ok fun c hc=>by
 simp only [List.mem_cons,List.not_mem_nil,or_false]at hc
 rcases hc with rfl |rfl |rfl
 ·exact cGt_ok
 ·exact cGrf_ok
 ·exact cTx_ok
theorem cGR_ok:cGR.Ok Tryz.prog:=fun⟨t,_⟩ _=>by
 show Holds Tryz.prog true 8 [pl t] (.tuple [sv (grS t),iv (trnErr t)])
 refine holds_fl (c:=BGrr) Tryz.func8 rfl rfl fun w F=> ?_
 unfold grS
 by_cases h0:trnErr t=0
 ·obtain⟨h1,h2⟩:=trn_in h0
  obtain⟨q1,q2⟩:=ratQ_txt h1 h2
  have key:=grr_ok t h0 (decide_eq_true h0) q1
  have e:txS (ratF t)=ratS t:=q2
  rw [e]at key
  rw [if_pos h0,h0]
  exact GoalL.ret known mixed grrCs_ok 9 _ key fun T H h=>h
 ·rw [if_neg h0]
  exact GoalL.ret known mixed grrCs_ok 9 _ (grr_bad t h0) fun T H h=>h
theorem sm_holds (a b:List (Int×Int)) (hl:a.length≤1000000):Holds Tryz.prog true 42 [pl a,pl b] (bv (sameT a b)):=by
 have hS:=none_ok
 refine holds_fl (c:=BSm) Tryz.func42 rfl rfl fun w F=> ?_
 by_cases hab:a.length=b.length
 ·refine GoalL.to known mixed hS 4 _ (sm_start a b (by omega)) (by kernel_rfl) ?_
  refine GoalL.loop (ι:={k:Nat//k≤a.length∧∀j,j<k→g0 a j=g0 b j}) (id:=0) (b:=cat BSm smL) (rest:=List.drop 5 (fl BSm [])) (by kernel_rfl) (fun k=>SSm a b k.1) (fun k=>a.length-k.1) ⟨0,Nat.zero_le _,fun j hj=>absurd hj (Nat.not_lt_zero _)⟩ (fun _=>rfl) ?_
  rintro⟨k,hk,hx⟩
  have hk:k≤a.length:=hk
  have hx:∀j,j<k→g0 a j=g0 b j:=hx
  by_cases hlt:k<a.length
  ·cases hc:((g0 a k).1==(g0 b k).1&&(g0 a k).2==(g0 b k).2)with
   |true=>
    refine GoalL.all (s:=SSm a b k) known mixed hS _ (sm_go a b k (by omega) hlt (by omega) hc (by omega)) (by kernel_rfl) ?_
    refine⟨⟨k+1,hlt,fun j hj=> ?_⟩,by show a.length-(k+1)<a.length-k;omega,rfl,rfl⟩
    by_cases hjk:j=k
    ·rw [Bool.and_eq_true,beq_iff_eq,beq_iff_eq]at hc
     rw [hjk]
     exact Prod.ext hc.1 hc.2
    ·exact hx j (by omega)
   |false=>
    have e:sameT a b=false:=decide_eq_false fun h=>by
     rw [h]at hc
     simp at hc
    rw [e]
    exact GoalL.allRet (s:=SSm a b k) known mixed hS _ (sm_ne a b k (by omega) hlt (by omega) hc) fun T H h=>h
  ·refine GoalL.all (s:=SSm a b k) known mixed hS _ (sm_end a b k (by omega)) (by kernel_rfl) ?_
   refine onN_exit (inB_exit ?_)
   obtain rfl:k=a.length:=by omega
   have e:sameT a b=true:=decide_eq_true (by
    refine List.ext_getElem hab fun j h1 h2=> ?_
    have:=hx j h1
    rwa [g0_get h1,g0_get h2]at this)
   rw [e]
   exact GoalL.allRet (s:=SSm a b a.length) known mixed hS _ (sm_fin a b _) fun T H h=>h
 ·have e:sameT a b=false:=decide_eq_false fun h=>hab (by rw [h])
  rw [e]
  exact GoalL.ret known mixed hS 3 _ (sm_len a b (by omega)) fun T H h=>h
theorem cSm_ok:cSm.Ok Tryz.prog:=fun⟨a,b,_⟩ h=>sm_holds a b (of_decide_eq_true h)
theorem ba_iff {a b:ByteArray}:a.data.toList=b.data.toList↔a=b:=⟨ba_eq,fun h=>by rw [h]⟩
theorem size0 {s:ByteArray}:s.data.toList=(ByteArray.mk #[]).data.toList↔s.size=0:=by
 rw [size_bs s]
 show bsL s=[]↔_
 rw [List.length_eq_zero_iff]
theorem cLn_ok:cLn.Ok Tryz.prog:=fun⟨h,e,bad,want,_⟩ hp=>by
 have hz:want.size≤1000000000:=of_decide_eq_true hp
 have hS:CallOk Tryz.prog (gS lnCs):=one_ok cLg_ok
 show Holds Tryz.prog true 11 [sv h,iv e,iv bad,sv want] (bv (numB h e bad want))
 refine holds_fl (c:=BLn) Tryz.func11 rfl rfl fun w F=> ?_
 unfold numB numE
 by_cases hb:bad=0
 ·rw [if_pos hb]
  by_cases hl:largT want=0
  ·rw [if_pos hl]
   by_cases he:e=0
   ·have e1:((e==0)&&decide (h=want))=decide (h.data.toList=want.data.toList):=by rw [he];show(true&&_)=_;rw [Bool.true_and];exact decide_eq_decide.2 ba_iff.symm
    rw [e1]
    exact GoalL.ret known mixed hS 9 _ (ln_o1 h want e bad hb hz hl he) fun T H h=>h
   ·have e1:((e==0)&&decide (h=want))=false:=by rw [beq_eq_false_iff_ne.2 he];rfl
    rw [e1]
    exact GoalL.ret known mixed hS 9 _ (ln_o0 h want e bad hb hz hl he) fun T H h=>h
  ·rw [if_neg hl]
   by_cases h0:h.size=0
   ·rw [decide_eq_true h0,Bool.true_and]
    exact GoalL.ret known mixed hS 9 _ (ln_l1 h want e bad hb hz hl (size0.2 h0)) fun T H h=>h
   ·rw [decide_eq_false h0,Bool.false_and]
    exact GoalL.ret known mixed hS 9 _ (ln_l0 h want e bad hb hz hl fun g=>h0 (size0.1 g)) fun T H h=>h
 ·rw [if_neg hb,if_neg hb]
  by_cases h0:h.size=0
  ·rw [decide_eq_true h0,Bool.true_and]
   exact GoalL.ret known mixed hS 9 _ (ln_b1 h want e bad hb (size0.2 h0)) fun T H h=>h
  ·rw [decide_eq_false h0,Bool.false_and]
   exact GoalL.ret known mixed hS 9 _ (ln_b0 h want e bad hb fun g=>h0 (size0.1 g)) fun T H h=>h
theorem cLt_ok:cLt.Ok Tryz.prog:=fun⟨h,e,bad,w,_⟩ hp=>by
 have hz:h.length≤1000000:=of_decide_eq_true hp
 have hS:CallOk Tryz.prog (gS ltCs):=one_ok cSm_ok
 show Holds Tryz.prog true 12 [pl h,iv e,iv bad,pl w] (bv (trB h e bad w))
 refine holds_fl (c:=BLt) Tryz.func12 rfl rfl fun w0 F=> ?_
 unfold trB
 by_cases hb:bad=0
 ·rw [if_pos hb]
  by_cases he:e=0
  ·have e1:((e==0)&&sameT h w)=sameT h w:=by rw [he];rfl
   rw [e1]
   exact GoalL.ret known mixed hS 9 _ (lt_o1 h w e bad hb he hz) fun T H h=>h
  ·have e1:((e==0)&&sameT h w)=false:=by rw [beq_eq_false_iff_ne.2 he];rfl
   rw [e1]
   exact GoalL.ret known mixed hS 9 _ (lt_o0 h w e bad hb he) fun T H h=>h
 ·rw [if_neg hb]
  by_cases h0:h.length=0
  ·rw [decide_eq_true h0,Bool.true_and]
   exact GoalL.ret known mixed hS 9 _ (lt_b1 h w e bad hb (by omega)) fun T H h=>h
  ·rw [decide_eq_false h0,Bool.false_and]
   exact GoalL.ret known mixed hS 9 _ (lt_b0 h w e bad hb (by omega)) fun T H h=>h
theorem lrCs_ok:CallOk Tryz.prog (gS lrCs):=ctrs_ok fun c hc=>by
 simp only [List.mem_cons,List.not_mem_nil,or_false]at hc
 rcases hc with rfl |rfl |rfl |rfl |rfl |rfl |rfl |rfl
 ·exact fun _ _=>awake_holds
 ·exact cGR_ok
 ·exact cGn_ok
 ·exact cRt_ok
 ·exact cRrt_ok
 ·exact cRn_ok
 ·exact cLn_ok
 ·exact cLt_ok
theorem nrm_same (t:List (Int×Int)):nrmG t=nrmR t:=by
 unfold nrmG nrmR
 rw [(cancel_sort _ _).1,(cancel_sort _ _).2]
theorem ratS_short {t:List (Int×Int)}:(ratS t).size≤41:=by
 unfold ratS tqS
 rw [mk_size]
 have l1:=decF_len 20 (ratT t t.length).1 1 []
 have l2:=decF_len 20 (ratT t t.length).2 1 []
 simp only [List.length_nil,Nat.zero_add]at l1 l2
 rw [List.length_append]
 split
 ·rw [List.length_cons];omega
 ·rw [List.length_nil];omega
theorem lr_holds (t:List (Int×Int)):Holds Tryz.prog true 3 [pl t] (bv true):=by
 have hS:=lrCs_ok
 refine holds_fl (c:=BLr) Tryz.func3 rfl rfl fun w F=> ?_
 by_cases h1:(t.length:Int)>10
 ·exact GoalL.ret known mixed hS 20 _ (lr_far t h1) fun T H h=>h
 ·by_cases h0:trnErr t=0
  ·have hl:=(trn_in h0).1
   have hz:(nrmL t).length≤1000000:=by
    unfold nrmL nrmG zipI
    rw [if_pos h0,List.length_zip,sortJ_len]
    have:=(cancel_sub (t.map Prod.fst) (t.map Prod.snd)).1.length_le
    rw [List.length_map]at this
    omega
   have hn:numB (grS t) (trnErr t) 0 (ratS t)=true:=by
    have e1:numE 0 (ratS t)=0:=by unfold numE;rw [if_pos rfl];exact larg_short (by have:=ratS_short (t:=t);omega)
    have e2:grS t=ratS t:=if_pos h0
    unfold numB
    rw [if_pos e1,e2,h0,decide_eq_true rfl];rfl
   have key:=lr_ok t h1 h0 (decide_eq_true h0) (by have:=ratS_short (t:=t);omega) hn (by omega) hz
   have e:trB (nrmL t) (trnErr t) 0 (nrmR t)=true:=by
    have e3:nrmL t=nrmR t:=by unfold nrmL;rw [if_pos h0,nrm_same]
    unfold trB sameT
    rw [if_pos rfl,h0,e3,decide_eq_true rfl];rfl
   rw [e]at key
   exact GoalL.ret known mixed hS 20 _ key fun T H h=>h
  ·have e2:grS t=ByteArray.mk #[]:=if_neg h0
   have e3:nrmL t=[]:=if_neg h0
   have hn:numB (grS t) (trnErr t) (trnErr t) (ByteArray.mk #[])=true:=by
    have e1:numE (trnErr t) (ByteArray.mk #[])=trnErr t:=if_neg h0
    unfold numB
    rw [e1,if_neg h0,e2,beq_self_eq_true,Bool.and_true]
    exact decide_eq_true rfl
   have key:=lr_bad t h1 h0 (by decide) hn (by rw [e3];exact Nat.zero_le _)
   have e:trB (nrmL t) (trnErr t) (trnErr t) nilP=true:=by
    unfold trB
    rw [if_neg h0,e3,beq_self_eq_true,Bool.and_true]
    exact decide_eq_true rfl
   rw [e]at key
   exact GoalL.ret known mixed hS 20 _ key fun T H h=>h
end
end Go.Proofs.YtjcbbabaabcdgaaGreatDoor
