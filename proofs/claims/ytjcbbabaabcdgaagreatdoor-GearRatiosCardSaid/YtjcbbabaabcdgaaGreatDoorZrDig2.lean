/- The train: errors; the stock's wheels. -/
import Derived.Test.YtjcbbabaabcdgaaGreatDoorZrRnm
import Derived.Test.YtjcbbabaabcdgaaGreatDoorProg
import Derived.Test.YtjcbbabaabcdgaaGreatDoorZrReads
import Derived.WalkKit
import Derived.WalkLawsBesides
import Derived.WalkSpells
import Derived.Lib.Hide
import Derived.IntWalk
import Derived.Maps.OwnSet
import Derived.Maps.Views
import Derived.Maps.OwnOps
import Derived.Test.YtjcbbabaabcdgaaGreatDoorZrVBas
namespace Go.Proofs.YtjcbbabaabcdgaaGreatDoor
open Go.RowKit Sv
set_option maxRecDepth 100000
set_option linter.unusedVariables false
set_option linter.unusedSimpArgs false
noncomputable section
def Srt (s:List (Int×Int)) (k:Nat):St:={n:=36,sl:=[(0,pl s),(3,iv k)],en:=[],next:=64}
theorem rt_e5 (s:List (Int×Int)) (h1:(↑s.length:Int)>4):
  Tst.path (vrun0 Tryz.prog (ctrs []) (fl BRt []) 3 36 [pl s]) [true] (toRet Tryz.prog Tryz.f10 true (iv 5)):=
 mp (an (decide_eq_true h1) (rr ((5:Int))))
theorem rt_start (s:List (Int×Int)) (h1:¬(↑s.length:Int)>4):
  Tst.path (vrun0 Tryz.prog (ctrs []) (fl BRt []) 4 36 [pl s]) [false] (toSt Tryz.prog 36 .normal [] (Srt s 0)):=
 mp (an (decide_eq_false h1) (an (rr s) (an (rr ((0:Int))) trivial)))
theorem rt_h1 (s:List (Int×Int)) (k:Nat) (h1:(↑k:Int)<(↑s.length:Int)) (h2:k<s.length) (h3:(List.getD s k ((0:Int),(0:Int))).1<1):
  Tst.path (vall Tryz.prog (ctrs []) (fl BRt [1,1,0,1,0,0]) (Srt s k)) [true,false,false,false,true,false,false,false,true,false,false,false,true,true] (toRet Tryz.prog Tryz.f10 true (iv 3)):=
 mp (an (decide_eq_true h1) (an (show(decide ((0:Int)≤(↑k:Int)))=true from decide_eq_true (by omega)) (an (decide_eq_true h2) (an (bF (decide_eq_true h3)) (an (bF (decide_eq_true h3)) (an (bF (decide_eq_true h3)) (an (decide_eq_true h3) (an rf (an rf (an rf (an rt (an rf (an rf (an rf (an rt (an rt (rr ((3:Int)))))))))))))))))))
theorem rt_h2 (s:List (Int×Int)) (k:Nat) (h1:(↑k:Int)<(↑s.length:Int)) (h2:k<s.length) (h3:¬(List.getD s k ((0:Int),(0:Int))).1<1) (h4:(List.getD s k ((0:Int),(0:Int))).1>400):
  Tst.path (vall Tryz.prog (ctrs []) (fl BRt [1,1,0,1,0,0]) (Srt s k)) [true,true,true,true,false,false,false,false,true,false,false,false,true,true] (toRet Tryz.prog Tryz.f10 true (iv 3)):=
 mp (an (decide_eq_true h1) (an (show(decide ((0:Int)≤(↑k:Int)))=true from decide_eq_true (by omega)) (an (decide_eq_true h2) (an (bF (decide_eq_false h3)) (an (bF (decide_eq_false h3)) (an (bF (decide_eq_false h3)) (an (decide_eq_false h3) (an (bF (decide_eq_true h4)) (an (bF (decide_eq_true h4)) (an (bF (decide_eq_true h4)) (an (decide_eq_true h4) (an rf (an rf (an rf (an rt (an rt (rr ((3:Int)))))))))))))))))))
theorem rt_h3 (s:List (Int×Int)) (k:Nat) (h1:(↑k:Int)<(↑s.length:Int)) (h2:k<s.length) (h3:¬(List.getD s k ((0:Int),(0:Int))).1<1) (h4:¬(List.getD s k ((0:Int),(0:Int))).1>400) (h5:(List.getD s k ((0:Int),(0:Int))).2<1):
  Tst.path (vall Tryz.prog (ctrs []) (fl BRt [1,1,0,1,0,0]) (Srt s k)) [true,true,true,true,false,true,true,true,false,false,false,false,true,true] (toRet Tryz.prog Tryz.f10 true (iv 3)):=
 mp (an (decide_eq_true h1) (an (show(decide ((0:Int)≤(↑k:Int)))=true from decide_eq_true (by omega)) (an (decide_eq_true h2) (an (bF (decide_eq_false h3)) (an (bF (decide_eq_false h3)) (an (bF (decide_eq_false h3)) (an (decide_eq_false h3) (an (bF (decide_eq_false h4)) (an (bF (decide_eq_false h4)) (an (bF (decide_eq_false h4)) (an (decide_eq_false h4) (an (bF (decide_eq_true h5)) (an (bF (decide_eq_true h5)) (an (bF (decide_eq_true h5)) (an (decide_eq_true h5) (an rt (rr ((3:Int)))))))))))))))))))
theorem rt_h4 (s:List (Int×Int)) (k:Nat) (h1:(↑k:Int)<(↑s.length:Int)) (h2:k<s.length) (h3:¬(List.getD s k ((0:Int),(0:Int))).1<1) (h4:¬(List.getD s k ((0:Int),(0:Int))).1>400) (h5:¬(List.getD s k ((0:Int),(0:Int))).2<1) (h6:(List.getD s k ((0:Int),(0:Int))).2>400):
  Tst.path (vall Tryz.prog (ctrs []) (fl BRt [1,1,0,1,0,0]) (Srt s k)) [true,true,true,true,false,true,true,true,false,true,true,true,false,true] (toRet Tryz.prog Tryz.f10 true (iv 3)):=
 mp (an (decide_eq_true h1) (an (show(decide ((0:Int)≤(↑k:Int)))=true from decide_eq_true (by omega)) (an (decide_eq_true h2) (an (bF (decide_eq_false h3)) (an (bF (decide_eq_false h3)) (an (bF (decide_eq_false h3)) (an (decide_eq_false h3) (an (bF (decide_eq_false h4)) (an (bF (decide_eq_false h4)) (an (bF (decide_eq_false h4)) (an (decide_eq_false h4) (an (bF (decide_eq_false h5)) (an (bF (decide_eq_false h5)) (an (bF (decide_eq_false h5)) (an (decide_eq_false h5) (an (decide_eq_true h6) (rr ((3:Int)))))))))))))))))))
theorem rt_n (s:List (Int×Int)) (k:Nat) (h1:(↑k:Int)<(↑s.length:Int)) (h2:k<s.length) (h3:¬(List.getD s k ((0:Int),(0:Int))).1<1) (h4:¬(List.getD s k ((0:Int),(0:Int))).1>400) (h5:¬(List.getD s k ((0:Int),(0:Int))).2<1) (h6:¬(List.getD s k ((0:Int),(0:Int))).2>400) (h7: -9223372036854775808≤(↑k:Int)+1∧(↑k:Int)+1≤9223372036854775807):
  Tst.path (vall Tryz.prog (ctrs []) (fl BRt [1,1,0,1,0,0]) (Srt s k)) [true,true,true,true,false,true,true,true,false,true,true,true,false,false] (toSt Tryz.prog 36 .normal [] (Srt s (k+1))):=
 mp (an (decide_eq_true h1) (an (show(decide ((0:Int)≤(↑k:Int)))=true from decide_eq_true (by omega)) (an (decide_eq_true h2) (an (bF (decide_eq_false h3)) (an (bF (decide_eq_false h3)) (an (bF (decide_eq_false h3)) (an (decide_eq_false h3) (an (bF (decide_eq_false h4)) (an (bF (decide_eq_false h4)) (an (bF (decide_eq_false h4)) (an (decide_eq_false h4) (an (bF (decide_eq_false h5)) (an (bF (decide_eq_false h5)) (an (bF (decide_eq_false h5)) (an (decide_eq_false h5) (an (decide_eq_false h6) (an (fits_i64 h7) (an (rr s) (an (show((↑k:Int)+1)=((↑(k+(1:Nat)):Int))from(by omega)) trivial)))))))))))))))))))
theorem rt_end (s:List (Int×Int)) (k:Nat) (h1:¬(↑k:Int)<(↑s.length:Int)):
  Tst.path (vall Tryz.prog (ctrs []) (fl BRt [1,1,0,1,0,0]) (Srt s k)) [false] (toSt Tryz.prog 36 (.exit 0) [] (Srt s k)):=
 mp (an (decide_eq_false h1) (an (rr s) (an (rr ((↑k:Int))) trivial)))
theorem rt_fin (s:List (Int×Int)) (k:Nat):
  Tst.path (vall Tryz.prog (ctrs []) (List.drop 5 (fl BRt [])) (Srt s k)) [] (toRet Tryz.prog Tryz.f10 true (iv 0)):=
 mp (rr ((0:Int)))
theorem rt_holds (s:List (Int×Int)):Holds Tryz.prog true 10 [pl s] (iv (trnErr s)):=by
 have hS:=none_ok
 refine holds_fl (c:=BRt) Tryz.func10 rfl rfl fun w F=> ?_
 by_cases h5:4<s.length
 ·have e:trnErr s=5:=by unfold trnErr;rw [if_pos h5]
  rw [e]
  exact GoalL.ret known mixed hS 3 _ (rt_e5 s (by omega)) fun T H h=>h
 ·obtain⟨r,hr⟩:∃r,trnFrom s s.length 0=r:=⟨_,rfl⟩
  have e:trnErr s=r:=by unfold trnErr;rw [if_neg h5,hr]
  rw [e]
  refine GoalL.to known mixed hS 4 _ (rt_start s (by omega)) (by kernel_rfl) ?_
  refine GoalL.loop (ι:={k:Nat//k≤s.length∧trnFrom s (s.length-k) k=r}) (id:=0) (b:=cat BRt [1,1,0,1,0,0]) (rest:=List.drop 5 (fl BRt [])) (by kernel_rfl) (fun k=>Srt s k.1) (fun k=>s.length-k.1) ⟨0,Nat.zero_le _,hr⟩ (fun _=>rfl) ?_
  rintro⟨k,hk,hx⟩
  have hx:trnFrom s (s.length-k) k=r:=hx
  by_cases hlt:k<s.length
  ·obtain⟨m,hm⟩:∃m,s.length-k=m+1:=⟨s.length-k-1,by omega⟩
   have hm2:s.length-(k+1)=m:=by omega
   rw [hm,trnFrom]at hx
   have hit:pOut (g0 s k)=true→r=3:=fun hz=>by rw [←hx,if_pos hz]
   have key:pOut (g0 s k)=true→∀T H,retQ Tryz.prog true Tryz.f10 (iv 3) .ret T H→retQ Tryz.prog true Tryz.f10 (iv r) .ret T H:=fun hz T H h=>by rw [hit hz];exact h
   by_cases c1:(g0 s k).1<1
   ·exact GoalL.allRet (s:=Srt s k) known mixed hS _ (rt_h1 s k (by omega) (by omega) c1) fun T H h=>key (by unfold pOut;rw [decide_eq_true c1];rfl) T H h
   ·by_cases c2:(g0 s k).1>400
    ·exact GoalL.allRet (s:=Srt s k) known mixed hS _ (rt_h2 s k (by omega) (by omega) c1 c2) fun T H h=>key (by unfold pOut;rw [decide_eq_false c1,decide_eq_true c2];rfl) T H h
    ·by_cases c3:(g0 s k).2<1
     ·exact GoalL.allRet (s:=Srt s k) known mixed hS _ (rt_h3 s k (by omega) (by omega) c1 c2 c3) fun T H h=>key (by unfold pOut;rw [decide_eq_false c1,decide_eq_false c2,decide_eq_true c3];rfl) T H h
     ·by_cases c4:(g0 s k).2>400
      ·exact GoalL.allRet (s:=Srt s k) known mixed hS _ (rt_h4 s k (by omega) (by omega) c1 c2 c3 c4) fun T H h=>key (by unfold pOut;rw [decide_eq_false c1,decide_eq_false c2,decide_eq_false c3,decide_eq_true c4];rfl) T H h
      ·have hw:¬pOut (g0 s k)=true:=by unfold pOut;rw [decide_eq_false c1,decide_eq_false c2,decide_eq_false c3,decide_eq_false c4];decide
       refine GoalL.all (s:=Srt s k) known mixed hS _ (rt_n s k (by omega) (by omega) c1 c2 c3 c4 (by omega)) (by kernel_rfl) ?_
       exact⟨⟨k+1,hlt,by rw [hm2,←hx,if_neg hw]⟩,by simp;omega,rfl,rfl⟩
  ·refine GoalL.all (s:=Srt s k) known mixed hS _ (rt_end s k (by omega)) (by kernel_rfl) ?_
   refine onN_exit (inB_exit ?_)
   obtain rfl:k=s.length:=by omega
   rw [Nat.sub_self,trnFrom]at hx
   refine GoalL.allRet (s:=Srt s s.length) known mixed hS _ (rt_fin s _) fun T H h=> ?_
   have h2:retQ Tryz.prog true Tryz.f10 (iv r) .ret T H:=by rw [←hx];exact h
   exact h2
noncomputable def cRt:Ctr:={f:=10,ps:=[.list false tP2],rs:=[.int .i64],fresh:=true,pre:=fun d=>true,fn:=fun d=>(trnErr d.1,())}
theorem cRt_ok:cRt.Ok Tryz.prog:=fun⟨s,_⟩ _=>rt_holds s
def Sgt (s:List (Int×Int)) (k:Nat):St:={n:=33,sl:=[(0,pl s),(8,pl s),(9,iv s.length),(10,iv k)],en:=[],next:=64}
theorem gt_e5 (s:List (Int×Int)) (h1:(↑s.length:Int)>4):
  Tst.path (vrun0 Tryz.prog (ctrs []) (fl BGt []) 3 33 [pl s]) [true] (toRet Tryz.prog Tryz.f44 true (iv 5)):=
 mp (an (decide_eq_true h1) (rr ((5:Int))))
theorem gt_start (s:List (Int×Int)) (h1:¬(↑s.length:Int)>4):
  Tst.path (vrun0 Tryz.prog (ctrs []) (fl BGt []) 4 33 [pl s]) [false] (toSt Tryz.prog 33 .normal [] (Sgt s 0)):=
 mp (an (decide_eq_false h1) (an (rr s) (an (rr s) (an (rr ((↑s.length:Int))) (an (rr ((0:Int))) trivial)))))
theorem gt_h1 (s:List (Int×Int)) (k:Nat) (h1:(↑k:Int)<(↑s.length:Int)) (h2:k<s.length) (h3:(List.getD s k ((0:Int),(0:Int))).1<1):
  Tst.path (vall Tryz.prog (ctrs []) (fl BGt [1,1,0,1,0,0]) (Sgt s k)) [true,false,false,false,true,false,false,false,true,false,false,false,true,true] (toRet Tryz.prog Tryz.f44 true (iv 3)):=
 mp (an (decide_eq_true h1) (an (show(decide ((0:Int)≤(↑k:Int)))=true from decide_eq_true (by omega)) (an (decide_eq_true h2) (an (bF (decide_eq_true h3)) (an (bF (decide_eq_true h3)) (an (bF (decide_eq_true h3)) (an (decide_eq_true h3) (an rf (an rf (an rf (an rt (an rf (an rf (an rf (an rt (an rt (rr ((3:Int)))))))))))))))))))
theorem gt_h2 (s:List (Int×Int)) (k:Nat) (h1:(↑k:Int)<(↑s.length:Int)) (h2:k<s.length) (h3:¬(List.getD s k ((0:Int),(0:Int))).1<1) (h4:(List.getD s k ((0:Int),(0:Int))).1>400):
  Tst.path (vall Tryz.prog (ctrs []) (fl BGt [1,1,0,1,0,0]) (Sgt s k)) [true,true,true,true,false,false,false,false,true,false,false,false,true,true] (toRet Tryz.prog Tryz.f44 true (iv 3)):=
 mp (an (decide_eq_true h1) (an (show(decide ((0:Int)≤(↑k:Int)))=true from decide_eq_true (by omega)) (an (decide_eq_true h2) (an (bF (decide_eq_false h3)) (an (bF (decide_eq_false h3)) (an (bF (decide_eq_false h3)) (an (decide_eq_false h3) (an (bF (decide_eq_true h4)) (an (bF (decide_eq_true h4)) (an (bF (decide_eq_true h4)) (an (decide_eq_true h4) (an rf (an rf (an rf (an rt (an rt (rr ((3:Int)))))))))))))))))))
theorem gt_h3 (s:List (Int×Int)) (k:Nat) (h1:(↑k:Int)<(↑s.length:Int)) (h2:k<s.length) (h3:¬(List.getD s k ((0:Int),(0:Int))).1<1) (h4:¬(List.getD s k ((0:Int),(0:Int))).1>400) (h5:(List.getD s k ((0:Int),(0:Int))).2<1):
  Tst.path (vall Tryz.prog (ctrs []) (fl BGt [1,1,0,1,0,0]) (Sgt s k)) [true,true,true,true,false,true,true,true,false,false,false,false,true,true] (toRet Tryz.prog Tryz.f44 true (iv 3)):=
 mp (an (decide_eq_true h1) (an (show(decide ((0:Int)≤(↑k:Int)))=true from decide_eq_true (by omega)) (an (decide_eq_true h2) (an (bF (decide_eq_false h3)) (an (bF (decide_eq_false h3)) (an (bF (decide_eq_false h3)) (an (decide_eq_false h3) (an (bF (decide_eq_false h4)) (an (bF (decide_eq_false h4)) (an (bF (decide_eq_false h4)) (an (decide_eq_false h4) (an (bF (decide_eq_true h5)) (an (bF (decide_eq_true h5)) (an (bF (decide_eq_true h5)) (an (decide_eq_true h5) (an rt (rr ((3:Int)))))))))))))))))))
theorem gt_h4 (s:List (Int×Int)) (k:Nat) (h1:(↑k:Int)<(↑s.length:Int)) (h2:k<s.length) (h3:¬(List.getD s k ((0:Int),(0:Int))).1<1) (h4:¬(List.getD s k ((0:Int),(0:Int))).1>400) (h5:¬(List.getD s k ((0:Int),(0:Int))).2<1) (h6:(List.getD s k ((0:Int),(0:Int))).2>400):
  Tst.path (vall Tryz.prog (ctrs []) (fl BGt [1,1,0,1,0,0]) (Sgt s k)) [true,true,true,true,false,true,true,true,false,true,true,true,false,true] (toRet Tryz.prog Tryz.f44 true (iv 3)):=
 mp (an (decide_eq_true h1) (an (show(decide ((0:Int)≤(↑k:Int)))=true from decide_eq_true (by omega)) (an (decide_eq_true h2) (an (bF (decide_eq_false h3)) (an (bF (decide_eq_false h3)) (an (bF (decide_eq_false h3)) (an (decide_eq_false h3) (an (bF (decide_eq_false h4)) (an (bF (decide_eq_false h4)) (an (bF (decide_eq_false h4)) (an (decide_eq_false h4) (an (bF (decide_eq_false h5)) (an (bF (decide_eq_false h5)) (an (bF (decide_eq_false h5)) (an (decide_eq_false h5) (an (decide_eq_true h6) (rr ((3:Int)))))))))))))))))))
theorem gt_n (s:List (Int×Int)) (k:Nat) (h1:(↑k:Int)<(↑s.length:Int)) (h2:k<s.length) (h3:¬(List.getD s k ((0:Int),(0:Int))).1<1) (h4:¬(List.getD s k ((0:Int),(0:Int))).1>400) (h5:¬(List.getD s k ((0:Int),(0:Int))).2<1) (h6:¬(List.getD s k ((0:Int),(0:Int))).2>400) (h7: -9223372036854775808≤(↑k:Int)+1∧(↑k:Int)+1≤9223372036854775807):
  Tst.path (vall Tryz.prog (ctrs []) (fl BGt [1,1,0,1,0,0]) (Sgt s k)) [true,true,true,true,false,true,true,true,false,true,true,true,false,false] (toSt Tryz.prog 33 .normal [] (Sgt s (k+1))):=
 mp (an (decide_eq_true h1) (an (show(decide ((0:Int)≤(↑k:Int)))=true from decide_eq_true (by omega)) (an (decide_eq_true h2) (an (bF (decide_eq_false h3)) (an (bF (decide_eq_false h3)) (an (bF (decide_eq_false h3)) (an (decide_eq_false h3) (an (bF (decide_eq_false h4)) (an (bF (decide_eq_false h4)) (an (bF (decide_eq_false h4)) (an (decide_eq_false h4) (an (bF (decide_eq_false h5)) (an (bF (decide_eq_false h5)) (an (bF (decide_eq_false h5)) (an (decide_eq_false h5) (an (decide_eq_false h6) (an (fits_i64 h7) (an (rr s) (an (rr s) (an (rr ((↑s.length:Int))) (an (show((↑k:Int)+1)=((↑(k+(1:Nat)):Int))from(by omega)) trivial)))))))))))))))))))))
theorem gt_end (s:List (Int×Int)) (k:Nat) (h1:¬(↑k:Int)<(↑s.length:Int)):
  Tst.path (vall Tryz.prog (ctrs []) (fl BGt [1,1,0,1,0,0]) (Sgt s k)) [false] (toSt Tryz.prog 33 (.exit 0) [] (Sgt s k)):=
 mp (an (decide_eq_false h1) (an (rr s) (an (rr s) (an (rr ((↑s.length:Int))) (an (rr ((↑k:Int))) trivial)))))
theorem gt_fin (s:List (Int×Int)) (k:Nat):
  Tst.path (vall Tryz.prog (ctrs []) (List.drop 5 (fl BGt [])) (Sgt s k)) [] (toRet Tryz.prog Tryz.f44 true (iv 0)):=
 mp (rr ((0:Int)))
theorem gt_holds (s:List (Int×Int)):Holds Tryz.prog true 44 [pl s] (iv (trnErr s)):=by
 have hS:=none_ok
 refine holds_fl (c:=BGt) Tryz.func44 rfl rfl fun w F=> ?_
 by_cases h5:4<s.length
 ·have e:trnErr s=5:=by unfold trnErr;rw [if_pos h5]
  rw [e]
  exact GoalL.ret known mixed hS 3 _ (gt_e5 s (by omega)) fun T H h=>h
 ·obtain⟨r,hr⟩:∃r,trnFrom s s.length 0=r:=⟨_,rfl⟩
  have e:trnErr s=r:=by unfold trnErr;rw [if_neg h5,hr]
  rw [e]
  refine GoalL.to known mixed hS 4 _ (gt_start s (by omega)) (by kernel_rfl) ?_
  refine GoalL.loop (ι:={k:Nat//k≤s.length∧trnFrom s (s.length-k) k=r}) (id:=0) (b:=cat BGt [1,1,0,1,0,0]) (rest:=List.drop 5 (fl BGt [])) (by kernel_rfl) (fun k=>Sgt s k.1) (fun k=>s.length-k.1) ⟨0,Nat.zero_le _,hr⟩ (fun _=>rfl) ?_
  rintro⟨k,hk,hx⟩
  have hx:trnFrom s (s.length-k) k=r:=hx
  by_cases hlt:k<s.length
  ·obtain⟨m,hm⟩:∃m,s.length-k=m+1:=⟨s.length-k-1,by omega⟩
   have hm2:s.length-(k+1)=m:=by omega
   rw [hm,trnFrom]at hx
   have hit:pOut (g0 s k)=true→r=3:=fun hz=>by rw [←hx,if_pos hz]
   have key:pOut (g0 s k)=true→∀T H,retQ Tryz.prog true Tryz.f44 (iv 3) .ret T H→retQ Tryz.prog true Tryz.f44 (iv r) .ret T H:=fun hz T H h=>by rw [hit hz];exact h
   by_cases c1:(g0 s k).1<1
   ·exact GoalL.allRet (s:=Sgt s k) known mixed hS _ (gt_h1 s k (by omega) (by omega) c1) fun T H h=>key (by unfold pOut;rw [decide_eq_true c1];rfl) T H h
   ·by_cases c2:(g0 s k).1>400
    ·exact GoalL.allRet (s:=Sgt s k) known mixed hS _ (gt_h2 s k (by omega) (by omega) c1 c2) fun T H h=>key (by unfold pOut;rw [decide_eq_false c1,decide_eq_true c2];rfl) T H h
    ·by_cases c3:(g0 s k).2<1
     ·exact GoalL.allRet (s:=Sgt s k) known mixed hS _ (gt_h3 s k (by omega) (by omega) c1 c2 c3) fun T H h=>key (by unfold pOut;rw [decide_eq_false c1,decide_eq_false c2,decide_eq_true c3];rfl) T H h
     ·by_cases c4:(g0 s k).2>400
      ·exact GoalL.allRet (s:=Sgt s k) known mixed hS _ (gt_h4 s k (by omega) (by omega) c1 c2 c3 c4) fun T H h=>key (by unfold pOut;rw [decide_eq_false c1,decide_eq_false c2,decide_eq_false c3,decide_eq_true c4];rfl) T H h
      ·have hw:¬pOut (g0 s k)=true:=by unfold pOut;rw [decide_eq_false c1,decide_eq_false c2,decide_eq_false c3,decide_eq_false c4];decide
       refine GoalL.all (s:=Sgt s k) known mixed hS _ (gt_n s k (by omega) (by omega) c1 c2 c3 c4 (by omega)) (by kernel_rfl) ?_
       exact⟨⟨k+1,hlt,by rw [hm2,←hx,if_neg hw]⟩,by simp;omega,rfl,rfl⟩
  ·refine GoalL.all (s:=Sgt s k) known mixed hS _ (gt_end s k (by omega)) (by kernel_rfl) ?_
   refine onN_exit (inB_exit ?_)
   obtain rfl:k=s.length:=by omega
   rw [Nat.sub_self,trnFrom]at hx
   refine GoalL.allRet (s:=Sgt s s.length) known mixed hS _ (gt_fin s _) fun T H h=> ?_
   have h2:retQ Tryz.prog true Tryz.f44 (iv r) .ret T H:=by rw [←hx];exact h
   exact h2
noncomputable def cGt:Ctr:={f:=44,ps:=[.list false tP2],rs:=[.int .i64],fresh:=true,pre:=fun d=>true,fn:=fun d=>(trnErr d.1,())}
theorem cGt_ok:cGt.Ok Tryz.prog:=fun⟨s,_⟩ _=>gt_holds s
end
end Go.Proofs.YtjcbbabaabcdgaaGreatDoor
/- A map of integers to integers as a function; package gear: take, counted. -/
namespace Go.Proofs.YtjcbbabaabcdgaaGreatDoor
open Go.RowKit
def J64 (x:Int):Prop:= -9223372036854775808≤x∧x≤9223372036854775807
theorem J64.wf {x:Int} (h:J64 x):(Lit.int .i64 x).wf=true:=by
 unfold J64 at h
 simp [Lit.wf,IntKind.min,IntKind.max,IntKind.signed,IntKind.bits]
 omega
def IntMap (w:World) (b n:Nat) (f:Int→Int):Prop:=
 ∃D:DataW Unit,w.ownsMap Tryz.prog 3 (plainElem Tryz.prog 3) b n D∧Maps.IsMap D∧∀x:Int,D.atKey (.int .i64 x) (.lit (.int .i64 0))= .lit (.int .i64 (f x))
theorem IntMap.kept {w w':World} {b n:Nat} {f:Int→Int} {row:Option Nat} (h:IntMap w b n f) (hg:w.grownBy w' row) (hne:some b≠row):IntMap w' b n f:=by
 obtain⟨D,h1,h2,h3⟩:=h
 exact⟨D,h1.kept hg hne,h2,h3⟩
theorem IntMap.lt {w:World} {b n:Nat} {f:Int→Int} (h:IntMap w b n f):b<w.heap.size:=by
 obtain⟨D,h1,_⟩:=h
 exact h1.lt
theorem IntMap.look {w:World} {b n:Nat} {f:Int→Int} (h:IntMap w b n f) (k:Int) (hk:J64 k):
  (Instr.lookup 120 (.map (some b)) (.int .i64 k) false).run Tryz.prog w= .ok (.int .i64 (f k)) w:=by
 obtain⟨D,h1,_,h3⟩:=h
 obtain⟨c,hrun,hat,_⟩:=h1.lookup_int (Maps.int_keyed Tryz.underlying3) Tryz.underlying120 Tryz.underlying3 (Tryz.zeroValue3 w) (Maps.keyOf_int_mk Tryz.underlying3 hk.wf)
 rw [h3 k]at hat
 simp only [DataW.lit.injEq,Lit.int.injEq,true_and]at hat
 rw [hrun,hat]
def upd1 (f:Int→Int) (k v:Int):Int→Int:=fun y=>if y=k then v else f y
end Go.Proofs.YtjcbbabaabcdgaaGreatDoor
/- The reference of chapter 5: count, has, Builds; the law's first. -/
namespace Go.Proofs.YtjcbbabaabcdgaaGreatDoor
open Go.RowKit Sv
set_option maxRecDepth 100000
set_option linter.unusedVariables false
set_option linter.unusedSimpArgs false
noncomputable section
theorem g0_get {l:List (Int×Int)} {k:Nat} (h:k<l.length):g0 l k=l[k]:=by simp [List.getD_eq_getElem?_getD,h]
end
end Go.Proofs.YtjcbbabaabcdgaaGreatDoor
/- Package gear: counted: the stock as a map. -/
namespace Go.Proofs.YtjcbbabaabcdgaaGreatDoor
open Go.RowKit Sv
set_option linter.unusedVariables false
set_option linter.unusedSimpArgs false
noncomputable section
structure PRow (w:World) (A:Option Addr) (l:List (Int×Int)):Prop where
 at_:∀k,k<l.length→∃b off,A=some ⟨b,off,none⟩∧b<w.heap.size∧w.cell? ⟨b,off+k*2,none⟩=some (.int .i64 (g0 l k).1)∧w.cell? ⟨b,off+k*2+1,none⟩=some (.int .i64 (g0 l k).2)
theorem PRow.below {w w':World} {A:Option Addr} {l:List (Int×Int)} {n:Nat} (h:PRow w A l) (hb:Below n w w') (hn:w.heap.size≤n):PRow w' A l:=
 ⟨fun k hk=>by
   obtain⟨b,off,h1,h2,h3,h4⟩:=h.at_ k hk
   have:=hb.size
   exact⟨b,off,h1,by omega,(hb.cell (p:=⟨b,off+k*2,none⟩) (by show b<_;omega)).trans h3,(hb.cell (p:=⟨b,off+k*2+1,none⟩) (by show b<_;omega)).trans h4⟩⟩
theorem flat_len:∀l:List (Int×Int),(tP2.flat l).length=2*l.length
 |[]=>rfl
 |p::r=>by
  have e:tP2.flat (p::r)= .raw (.int .i64 p.1):: .raw (.int .i64 p.2)::tP2.flat r:=rfl
  rw [e];simp [flat_len r];omega
end
end Go.Proofs.YtjcbbabaabcdgaaGreatDoor
/- Package gear: CheckTrain. -/
namespace Go.Proofs.YtjcbbabaabcdgaaGreatDoor
open Go.RowKit Sv
set_option linter.unusedVariables false
set_option linter.unusedSimpArgs false
noncomputable section
theorem stkFrom_in {s:List (Int×Int)}:∀{n k:Nat},stkFrom s n k=0→∀j,k≤j→j<k+n→stkAt s j=0
 |0,k,h,j,h1,h2=>absurd h2 (by omega)
 |n+1,k,h,j,h1,h2=>by
  unfold stkFrom at h
  split at h
  ·contradiction
  ·rename_i h3
   by_cases e:j=k
   ·subst e;simpa using h3
   ·exact stkFrom_in h j (by omega) (by omega)
theorem stk_in {s:List (Int×Int)} (h:stkErr s=0):1≤s.length∧s.length≤32∧∀k,k<s.length→(6≤(g0 s k).1∧(g0 s k).1≤400)∧(1≤(g0 s k).2∧(g0 s k).2≤999999999)∧(0<k→(g0 s (k-1)).1<(g0 s k).1):=by
 unfold stkErr at h
 split at h
 ·cases h
 ·split at h
  ·cases h
  ·refine⟨by omega,by omega,fun k hk=> ?_⟩
   have:=stkFrom_in h k (by omega) (by omega)
   unfold stkAt wOut at this
   split at this
   ·cases this
   ·rename_i h3
    split at this
    ·cases this
    ·rename_i h4
     simp only [Bool.or_eq_true,decide_eq_true_eq,not_or,Int.not_lt,gt_iff_lt]at h3
     exact⟨⟨h3.1,h3.2.1⟩,⟨h3.2.2.1,h3.2.2.2⟩,fun h5=>by
      have h6:¬(g0 s k).1≤(g0 s (k-1)).1:=fun h7=>h4 ⟨h5,h7⟩
      omega⟩
theorem trnFrom_in {s:List (Int×Int)}:∀{n k:Nat},trnFrom s n k=0→∀j,k≤j→j<k+n→pOut (g0 s j)=false
 |0,k,h,j,h1,h2=>absurd h2 (by omega)
 |n+1,k,h,j,h1,h2=>by
  unfold trnFrom at h
  split at h
  ·cases h
  ·rename_i h3
   by_cases e:j=k
   ·subst e;simpa using h3
   ·exact trnFrom_in h j (by omega) (by omega)
theorem trn_in {s:List (Int×Int)} (h:trnErr s=0):s.length≤4∧∀k,k<s.length→(1≤(g0 s k).1∧(g0 s k).1≤400)∧(1≤(g0 s k).2∧(g0 s k).2≤400):=by
 unfold trnErr at h
 split at h
 ·cases h
 ·refine⟨by omega,fun k hk=> ?_⟩
  have:=trnFrom_in h k (by omega) (by omega)
  unfold pOut at this
  simp only [Bool.or_eq_false_iff,decide_eq_false_iff_not,Int.not_lt,gt_iff_lt]at this
  exact⟨⟨this.1,this.2.1⟩,⟨this.2.2.1,this.2.2.2⟩⟩
theorem upd_in {f:Int→Int} (h:∀x,0≤f x∧f x≤1000000000) (k:Int) (hk:f k≠0):∀x,0≤upd1 f k (f k-1) x∧upd1 f k (f k-1) x≤1000000000:=fun x=>by
 have h1:=h x
 have h2:=h k
 unfold upd1
 split<;>omega
end
end Go.Proofs.YtjcbbabaabcdgaaGreatDoor
/- Package gear: trains in the runner of closed calls: its head by its law, the rest by the runner. -/
namespace Go.Proofs.YtjcbbabaabcdgaaGreatDoor
open Go.RowKit Sv
set_option linter.unusedSectionVars false
section
variable {P:Program} {B:Nat} {ρ ρ0:Env} {H H0:AHeap} {w w0 W:World}
theorem grown_sim (hH:HDen P B ρ H w) (hg:w.grownBy W none):HDen P B ρ H W∧Stp ρ H w ρ H W:=by
 have old:∀b o,w.heap[b]? =some o→W.heap[b]? =some o:=fun b o h=>(hg.block b (Array.getElem?_eq_some_iff.1 h).1 (by simp)).trans h
 refine⟨⟨fun i k hi=> ?_,hH.inj,hH.lt,Nat.le_trans hH.base hg.size,fun b A hb=> ?_⟩,⟨Le.refl _,fun _ _=>rfl,Nat.le_refl _,hg.size,hg.os,hg.tape,hg.output,fun b hb _=>hg.block b hb (by simp),fun _ _ h=>h,fun _ _ h=>h,fun _ _ h=> .inl h⟩⟩
 ·obtain⟨b,c,o,e1,e2,e3,e4⟩:=hH.blk i k hi
  exact⟨b,c,o,e1,old b o e2,e3,e4⟩
 ·obtain⟨⟨e,fr,h1⟩,h2⟩:=hH.fz b A hb
  exact⟨⟨e,fr,old b _ h1⟩,h2⟩
theorem adopt (hH:HDen P B ρ H W) (hs:Stp ρ0 H0 w0 ρ H W) (hB:B≤w0.heap.size) {b c:Nat} {k:ABlk} {o:Obj} (hb0:w0.heap.size≤b) (hni:¬Img ρ H b) (hfz:∀A,ρ.fz b=some A→False) (hn:ρ H.next=none) (hn0:H0.next≤H.next) (hb:W.heap[b]? =some o) (hk:BDen P (ρ.put H.next b c) H.next k o):
  HDen P B (ρ.put H.next b c) (H.new k) W∧Stp ρ0 H0 w0 (ρ.put H.next b c) (H.new k) W:=by
 have hle:Le ρ (ρ.put H.next b c):=Env.put_le hn
 have hput:∀i,i≠H.next→ρ.put H.next b c i=ρ i:=fun i hi=>by simp [Env.put,hi]
 have hne:∀i k,H.get i=some k→i≠H.next:=fun i k hi=>Nat.ne_of_lt (hH.lt i k hi)
 refine⟨⟨fun i k' hi=> ?_,fun i j ki kj b' ci cj hi hj ri rj=> ?_,fun i k' hi=> ?_,hH.base,fun b' A hb'=>⟨(hH.fz b' A hb').1,fun i k' c' hi hr=> ?_⟩⟩,
  ⟨hs.le.trans hle,fun i hi=> ?_,Nat.le_succ_of_le hs.next,hs.size,hs.os,hs.tape,hs.output,hs.frame,fun b' hl ho=> ?_,fun b' hl ho=> ?_,hs.fzn⟩⟩
 ·rw [AHeap.get_new]at hi
  split at hi
  ·rename_i e;subst e;cases hi
   exact⟨b,c,o,Env.put_same ..,hb,hk,fun _=>Nat.le_trans hB hb0⟩
  ·obtain⟨b',c',o',e1,e2,e3,e4⟩:=hH.blk i k' hi
   exact⟨b',c',o',hle _ _ e1,e2,e3.mono hle,e4⟩
 ·rw [AHeap.get_new]at hi hj
  split at hi<;>split at hj
  ·rename_i e1 e2;rw [←e1,←e2]
  ·rename_i e1 e2
   subst e1
   rw [Env.put_same]at ri
   rw [hput j (fun x=>e2 x.symm)]at rj
   cases ri
   exact(hni ⟨j,kj,cj,hj,rj⟩).elim
  ·rename_i e1 e2
   subst e2
   rw [Env.put_same]at rj
   rw [hput i (fun x=>e1 x.symm)]at ri
   cases rj
   exact(hni ⟨i,ki,ci,hi,ri⟩).elim
  ·rename_i e1 e2
   rw [hput i (fun x=>e1 x.symm)]at ri
   rw [hput j (fun x=>e2 x.symm)]at rj
   exact hH.inj i j ki kj b' ci cj hi hj ri rj
 ·rw [AHeap.get_new]at hi
  rw [AHeap.next_new]
  split at hi
  ·rename_i e;omega
  ·have:=hH.lt i k' hi;omega
 ·rw [AHeap.get_new]at hi
  split at hi
  ·rename_i e;subst e
   rw [Env.put_same]at hr
   cases hr
   exact(hfz A hb').elim
  ·rename_i e
   rw [hput i (fun x=>e x.symm)]at hr
   exact(hH.fz b' A hb').2 i k' c' hi hr
 ·rw [AHeap.next_new]at hi
  rw [hput i (by omega)]
  exact hs.ext i (by omega)
 ·obtain⟨i,k',c',h1,h2,h3⟩:=ho
  rw [AHeap.get_new]at h1
  split at h1
  ·rename_i e;subst e
   rw [Env.put_same]at h3
   cases h3;omega
  ·rename_i e
   rw [hput i (fun x=>e x.symm)]at h3
   exact hs.own b' hl ⟨i,k',c',h1,h2,h3⟩
 ·obtain⟨i,k',c',h1,h3⟩:=ho
  rw [AHeap.get_new]at h1
  split at h1
  ·rename_i e;subst e
   rw [Env.put_same]at h3
   cases h3;omega
  ·rename_i e
   rw [hput i (fun x=>e x.symm)]at h3
   exact hs.img b' hl ⟨i,k',c',h1,h3⟩
end
noncomputable section
def keyI (e:MapEntry):Option Int:=match e.key with | .int .i64 n=>some n|_=>none
def keysI:List MapEntry→Option (List Int)
 |[]=>some []
 |e::l=>match keyI e,keysI l with |some n,some r=>some (n::r)|_,_=>none
def nodN:List Nat→Bool
 |[]=>true
 |a::l=>cond (memN a l) false (nodN l)
def bornOk (clock:Nat):List MapEntry→Bool
 |[]=>true
 |e::l=>cond (Nat.ble (e.born+1) clock) (bornOk clock l) false
def insI (x:Int):List Int→List Int
 |[]=>[x]
 |y::l=>cond (decide (x≤y)) (x::y::l) (y::insI x l)
def sortI:List Int→List Int
 |[]=>[]
 |x::l=>insI x (sortI l)
def trT (args:List AV) (i:Nat):Tr AV:=[5,10,11,12,13,14,15,16,17,18,19,20,21].foldl (fun T t=>T.set t (some .bot)) (((initT args .nil 0).set 3 (some (.ptr i 0))).set 4 (some (.ptr (Nat.succ (Nat.succ i)) 0)))
def trH (yi:Nat) (ks:List Int) (H:AHeap):AHeap:=
 ((H.new (.cells 35 [.yield yi] true false false)).new (.cells 3 (ks.map fun n=> .raw (.int .i64 n)) false false false)).new (.cells 80 [.slice (Nat.succ H.next) 0 ks.length .any] true false false)
def trLeave (P:Program) (fn:Func) (r:R):VR:= @R.rec (fun _=>VR) .no (fun T H m=>aleave P fn T H m) (fun _ _ _ _=> .no) (fun _ _ _ _=> .no) (fun T H m=>aleave P fn T H m) r
def spRun (ih:RunnerN) (args:List AV) (yi:Nat) (ks:List Int) (H:AHeap):VR:=
 trLeave Tryz.prog Tryz.f149 (ih (cat BTr [1,1,1,1]) 48 none (trT args H.next) (trH yi ks H) [])
def spMap (ih:RunnerN) (args:List AV) (yi:Nat) (H:AHeap) (b:Option ABlk):VR:=match b with
 |some (.map es clock)=>match keysI es.toList with
  |some ks=>cond (Nat.ble 1 ks.length&&(Nat.ble ks.length 100000&&(bornOk clock es.toList&&nodN (es.toList.map (·.born))))) (spRun ih args yi (sortI ks) H) .no
  |none=> .no
 |_=> .no
def spT (ih:RunnerN) (args:List AV) (H:AHeap):VR:=match args with
 |[.yield yi, .ptr jl 0, .ptr jp 0]=>match H.get jl with
  |some (.cells _ [.map lm] _ _ _)=>spMap ih [.yield yi, .ptr jl 0, .ptr jp 0] yi H (H.get lm)
  |_=> .no
 |_=> .no
def clT (ih:RunnerN):Caller:=fun f args H=> @Bool.rec (fun _=>VR) (acallN Tryz.prog ih f args H) (spT ih args H) (Nat.beq f 149)
theorem keysI_ok:∀{l:List MapEntry} {ks:List Int},keysI l=some ks→l.map (·.key)=ic ks
 |[],ks,h=>by cases h;rfl
 |e::l,ks,h=>by
  unfold keysI at h
  cases h1:keyI e with
  |none=>rw [h1]at h;cases h
  |some n=>
   cases h2:keysI l with
   |none=>rw [h1,h2]at h;cases h
   |some r=>
    rw [h1,h2]at h
    cases h
    have he:e.key= .int .i64 n:=by
     unfold keyI at h1
     split at h1
     ·rename_i x hx;cases h1;exact hx
     ·cases h1
    show e.key::l.map (·.key)=_
    rw [he,keysI_ok h2];rfl
theorem memN_of {a:Nat}:∀{l:List Nat},memN a l=false→a∉l
 |[],_=>by simp
 |b::l,h=>by
  have h:(@Bool.rec (fun _=>Bool) (memN a l) true (Nat.beq b a))=false:=h
  cases hb:Nat.beq b a with
  |true=>rw [hb]at h;cases h
  |false=>
   rw [hb]at h
   rw [List.mem_cons]
   rintro(rfl |hm)
   ·rw [Nat.beq_refl]at hb;cases hb
   ·exact memN_of h hm
theorem nodN_ok:∀{l:List Nat},nodN l=true→l.Nodup
 |[],_=>List.nodup_nil
 |a::l,h=>by
  unfold nodN at h
  cases hm:memN a l with
  |true=>rw [hm]at h;cases h
  |false=>rw [hm]at h;exact List.nodup_cons.2 ⟨memN_of hm,nodN_ok h⟩
theorem bornOk_ok {clock:Nat}:∀{l:List MapEntry},bornOk clock l=true→∀x∈l,x.born<clock
 |[],_,x,hx=>by cases hx
 |e::l,h,x,hx=>by
  unfold bornOk at h
  cases hb:Nat.ble (e.born+1) clock with
  |false=>rw [hb]at h;cases h
  |true=>
   rw [hb]at h
   rcases List.mem_cons.1 hx with rfl |hx
   ·exact Nat.le_of_ble_eq_true hb
   ·exact bornOk_ok h x hx
theorem insI_perm (x:Int):∀l:List Int,(insI x l).Perm (x::l)
 |[]=>List.Perm.refl _
 |y::l=>by
  unfold insI
  cases hd:decide (x≤y)with
  |true=>exact List.Perm.refl _
  |false=>exact((insI_perm x l).cons y).trans (List.Perm.swap _ _ _)
theorem sortI_perm:∀l:List Int,(sortI l).Perm l
 |[]=>List.Perm.refl _
 |x::l=>(insI_perm x (sortI l)).trans ((sortI_perm l).cons x)
theorem insI_sorted (x:Int):∀{l:List Int},l.Pairwise (fun a b=>decide (a≤b)=true)→(insI x l).Pairwise (fun a b=>decide (a≤b)=true)
 |[],_=>by unfold insI;simp
 |y::l,h=>by
  unfold insI
  rw [List.pairwise_cons]at h
  cases hd:decide (x≤y)with
  |true=>
   refine List.pairwise_cons.2 ⟨fun z hz=> ?_,List.pairwise_cons.2 h⟩
   rcases List.mem_cons.1 hz with rfl |hz
   ·exact hd
   ·have:=h.1 z hz
    rw [decide_eq_true_eq]at*
    omega
  |false=>
   refine List.pairwise_cons.2 ⟨fun z hz=> ?_,insI_sorted x h.2⟩
   rcases List.mem_cons.1 ((insI_perm x l).mem_iff.1 hz)with rfl |hz
   ·rw [decide_eq_false_iff_not]at hd
    rw [decide_eq_true_eq]
    omega
   ·exact h.1 z hz
theorem sortI_sorted:∀l:List Int,(sortI l).Pairwise (fun a b=>decide (a≤b)=true)
 |[]=>List.Pairwise.nil
 |x::l=>insI_sorted x (sortI_sorted l)
theorem sortI_eq (l:List Int):(l.mergeSort fun x y=>decide (x≤y))=sortI l:=by
 have tr:∀x y z:Int,decide (x≤y)=true→decide (y≤z)=true→decide (x≤z)=true:=fun x y z h1 h2=>by rw [decide_eq_true_eq]at*;omega
 have tt:∀x y:Int,(decide (x≤y)||decide (y≤x))=true:=fun x y=>by rw [Bool.or_eq_true,decide_eq_true_eq,decide_eq_true_eq];omega
 refine List.Perm.eq_of_pairwise (le:=fun x y=>decide (x≤y)=true) (fun x y _ _ h1 h2=>by rw [decide_eq_true_eq]at*;omega) (List.pairwise_mergeSort tr tt l) (sortI_sorted l) ?_
 exact(List.mergeSort_perm l _).trans (sortI_perm l).symm
theorem trLeave_some {P:Program} {fn:Func} {r:R} {v:AV} {H':AHeap} (h:trLeave P fn r= .ok v H'):∃e T1 H1 m1,r.out=some (e,T1,H1,m1)∧(e= .normal∨e= .ret)∧aleave P fn T1 H1 m1= .ok v H':=by
 unfold trLeave at h
 cases r with
 |no=>cases h
 |normal T H m=>exact⟨_,_,_,_,rfl, .inl rfl,h⟩
 |exit _ _ _ _=>cases h
 |goto _ _ _ _=>cases h
 |ret T H m=>exact⟨_,_,_,_,rfl, .inr rfl,h⟩
theorem spT_some {ih:RunnerN} {args:List AV} {H:AHeap} {v:AV} {H':AHeap} (h:spT ih args H= .ok v H'):∃yi jl jp lm es clock ks el ex fz ro,args=[.yield yi, .ptr jl 0, .ptr jp 0]∧H.get jl=some (.cells el [.map lm] ex fz ro)∧H.get lm=some (.map es clock)∧keysI es.toList=some ks∧
  1≤ks.length∧ks.length≤100000∧bornOk clock es.toList=true∧nodN (es.toList.map (·.born))=true∧spRun ih args yi (sortI ks) H= .ok v H':=by
 unfold spT at h
 split at h
 ·rename_i yi jl jp
  split at h
  ·rename_i el lm ex fz ro hg
   unfold spMap at h
   split at h
   ·rename_i es clock hm
    split at h
    ·rename_i ks hk
     cases hb:(Nat.ble 1 ks.length&&(Nat.ble ks.length 100000&&(bornOk clock es.toList&&nodN (es.toList.map (·.born)))))with
     |false=>rw [hb]at h;cases h
     |true=>
      rw [hb]at h
      simp only [Bool.and_eq_true]at hb
      exact⟨yi,jl,jp,lm,es,clock,ks,el,ex,fz,ro,rfl,hg,hm,hk,Nat.le_of_ble_eq_true hb.1,Nat.le_of_ble_eq_true hb.2.1,hb.2.2.1,hb.2.2.2,h⟩
    ·cases h
   ·cases h
  ·cases h
 ·cases h
end
end Go.Proofs.YtjcbbabaabcdgaaGreatDoor
/- Package gear: trains in the runner of closed calls: it is sound. -/
namespace Go.Proofs.YtjcbbabaabcdgaaGreatDoor
open Go.RowKit Sv
set_option linter.unusedSectionVars false
variable [Sv.Ground]
theorem spT_mono {ih:RunnerN} (hI:RunOkN Tryz.prog ih) {args:List AV} {H:AHeap} {v:AV} {H':AHeap} (h:spT ih args H= .ok v H'):H.next+3≤H'.next:=by
 obtain⟨yi,jl,jp,lm,es,clock,ks,el,ex,fz,ro,rfl,h1,h2,h3,h4,h5,h6,h7,h8⟩:=spT_some h
 obtain⟨e,T1,H1,m1,ho,he,hl⟩:=trLeave_some h8
 have a1:=hI.mono _ _ _ _ _ _ _ _ _ _ ho
 have a2:=aleave_mono hl
 have a3:(trH yi (sortI ks) H).next=H.next+3:=rfl
 omega
theorem trT_den {ρ:Env} {yi jl jp i:Nat} {a':Act} (hs:a'.tmps.size=48) (h0:Den ρ (.yield yi) (a'.tmps.getD 0 undef)) (h1:Den ρ (.ptr jl 0) (a'.tmps.getD 1 undef)) (h2:Den ρ (.ptr jp 0) (a'.tmps.getD 2 undef)) (h3:Den ρ (.ptr i 0) (a'.tmps.getD 3 undef)) (h4:Den ρ (.ptr (i+2) 0) (a'.tmps.getD 4 undef))
  (hu:∀t,t<48→t∉[0,1,2,3,4,5,10,11,12,13,14,15,16,17,18,19,20,21]→a'.tmps.getD t undef=undef):TDen ρ (trT [.yield yi, .ptr jl 0, .ptr jp 0] i) 48 a'.tmps:=by
 refine⟨hs,fun t=> ?_⟩
 unfold trT
 simp only [List.foldl_cons,List.foldl_nil,Tr.get_set,initT_get,Tr.get_nil,List.length_cons,List.length_nil,Nat.zero_le,true_and,Nat.zero_add,Nat.reduceAdd,Nat.sub_zero]
 by_cases hb:t∈[5,10,11,12,13,14,15,16,17,18,19,20,21]
 ·simp only [List.mem_cons,List.not_mem_nil,or_false]at hb
  rcases hb with rfl |rfl |rfl |rfl |rfl |rfl |rfl |rfl |rfl |rfl |rfl |rfl |rfl<;>exact .bot _
 ·simp only [List.mem_cons,List.not_mem_nil,or_false,not_or]at hb
  obtain⟨b1,b2,b3,b4,b5,b6,b7,b8,b9,b10,b11,b12,b13⟩:=hb
  rw [if_neg (Ne.symm b13),if_neg (Ne.symm b12),if_neg (Ne.symm b11),if_neg (Ne.symm b10),if_neg (Ne.symm b9),if_neg (Ne.symm b8),if_neg (Ne.symm b7),if_neg (Ne.symm b6),if_neg (Ne.symm b5),if_neg (Ne.symm b4),if_neg (Ne.symm b3),if_neg (Ne.symm b2),if_neg (Ne.symm b1)]
  by_cases e4:t=4
  ·subst e4;exact h4
  ·rw [if_neg (Ne.symm e4)]
   by_cases e3:t=3
   ·subst e3;exact h3
   ·rw [if_neg (Ne.symm e3)]
    by_cases hlt:t<3
    ·rw [if_pos hlt]
     rcases t with _|_|_|t
     ·exact h0
     ·exact h1
     ·exact h2
     ·omega
    ·rw [if_neg hlt]
     by_cases h48:t<48
     ·rw [hu t h48 (by simp;omega)];exact .raw _
     ·rw [Array.getD_eq_getD_getElem?,Array.getElem?_eq_none (by omega)];exact .raw _
theorem img_put {ρ:Env} {H:AHeap} {b b' c:Nat} {k:ABlk} (h:¬Img ρ H b') (hne:b'≠b):¬Img (ρ.put H.next b c) (H.new k) b':=fun⟨i,k',c',e1,e2⟩=>by
 rw [AHeap.get_new]at e1
 split at e1
 ·rename_i hi;rw [←hi,Env.put_same]at e2;cases e2;exact hne rfl
 ·rename_i hi
  have:ρ.put H.next b c i=ρ i:=by simp [Env.put,Ne.symm hi]
  rw [this]at e2
  exact h ⟨i,k',c',e1,e2⟩
theorem put_far {ρ:Env} {i j b c:Nat} (h:j≠i):ρ.put i b c j=ρ j:=by simp [Env.put,h]
theorem cells1 {cap:Nat}:cap*1=cap*Tryz.prog.cellsOf 3:=by rw [show Tryz.prog.cellsOf 3=1 by kernel_rfl]
theorem ints_dens {ρ:Env} (l:List Int):Dens ρ (l.map fun n=>AV.raw (.int .i64 n)) (ic l):=by
 unfold ic
 induction l with
 |nil=>exact .nil
 |cons x l ih=>exact .cons (.raw _) ih
theorem spT_sim {ih:RunnerN} (hI:RunOkN Tryz.prog ih) {args:List AV} {H:AHeap} {v:AV} {H':AHeap} (h:spT ih args H= .ok v H') (B:Nat) (ρ:Env) (xs:List Value) (w:World) (m:Nat) (hH:HDen Tryz.prog B ρ H w) (hG:Glob ρ) (hd:Dens ρ args xs) (hf:Fr ρ H.next H'.next):
  CallsIn (FF none) m Tryz.prog 149 xs.toArray w (CallPost Tryz.prog B ρ H w v H'):=by
 have hmono:=spT_mono hI h
 obtain⟨yi,jl,jp,lm,es,clock,ks,el,ex,fz,ro,rfl,h1,h2,h3,h4,h5,h6,h7,h8⟩:=spT_some h
 obtain⟨e,T1,H1,m1,ho,he,hl⟩:=trLeave_some h8
 have hnx:=aleave_mono hl
 match xs,hd with
 |[x0,x1,x2], .cons d0 (.cons d1 (.cons d2 .nil))=>
  obtain⟨lp,c0,r0,rfl⟩:=d0.yield_inv
  obtain⟨bl,c1,r1,rfl⟩:=d1.ptr_inv
  obtain⟨bp,c2,r2,rfl⟩:=d2.ptr_inv
  obtain⟨ys,fz0,g1,_,g3,_,_,g6⟩:=cells_at hH h1 r1
  obtain⟨y,hy1,hy2⟩:=g3.get (i:=0) rfl
  obtain⟨b,cb,rb,rfl⟩:=hy2.map_inv
  have hcell:w.cell? ⟨bl,0,none⟩=some (.map (some b)):=by
   have e1:(ys.toList.take 1)[0]? =some (Value.map (some b)):=hy1
   rw [List.getElem?_take,if_pos (by decide),Array.getElem?_toList]at e1
   rw [cell_of_row _ _ 0 ys _ _ g1];exact e1
  obtain⟨o,q1,q2,_⟩:=hH.at h2 rb
  have q2:o= .map es clock:=q2
  subst q2
  refine trains_head m lp bl bp b es clock ks w _ hcell q1 (bornOk_ok h6) (nodN_ok h7) (keysI_ok h3) h5 fun a' W hO=> ?_
  obtain⟨vk,k1,k2⟩:=hO.b4
  rw [sortI_eq]at k2
  have hlen:(sortI ks).length=ks.length:=(sortI_perm ks).length_eq
  rcases k2.2 with⟨_,k3⟩|⟨g,cap,cur,rfl,k3,k4,k5,k6,k7,k8⟩
  ·omega
  ·have k8':cur.toList.take (sortI ks).length=ic (sortI ks):=by rw [hlen];simpa using k8
   have hn0:∀i,H.next≤i→i<H.next+3→ρ i=none:=fun i a1 a2=>hf i a1 (by omega)
   have hBw:=hH.base
   have nof:∀b' A,w.heap.size≤b'→ρ.fz b'=some A→False:=fun b' A hb' hz=>by
    obtain⟨⟨e',fr,e2⟩,_⟩:=hH.fz b' A hz
    have:=(Array.getElem?_eq_some_iff.1 e2).1
    omega
   have noi:∀b',w.heap.size≤b'→¬Img ρ H b':=fun b' hb' ⟨i,k,c,e1,e2⟩=>by
    obtain⟨o,e3,_⟩:=hH.at e1 e2
    have:=(Array.getElem?_eq_some_iff.1 e3).1
    omega
   obtain⟨p1,p2⟩:=grown_sim hH hO.gr
   -- the box of yield
   obtain⟨s1,t1⟩:=adopt (b:=w.heap.size) (c:=0) (k:= .cells 35 [.yield yi] true false false) p1 p2 hBw (Nat.le_refl _) (noi _ (Nat.le_refl _)) (fun A=>nof _ A (Nat.le_refl _)) (hn0 _ (Nat.le_refl _) (by omega)) (Nat.le_refl _) hO.b3
    ⟨_,_,rfl,fun _=>rfl, .cons ((Den.yield r0).mono (Env.put_le (hn0 _ (Nat.le_refl _) (by omega)))) .nil,fun _=>rfl,fun hh=>by cases hh⟩
   have n1:=img_put (b':=g) (b:=w.heap.size) (c:=0) (k:= .cells 35 [.yield yi] true false false) (noi g (by omega)) (by omega)
   have n1':=img_put (b':=w.heap.size+1) (b:=w.heap.size) (c:=0) (k:= .cells 35 [.yield yi] true false false) (noi _ (by omega)) (by omega)
   -- the row
   have f1:(ρ.put H.next w.heap.size 0) (H.next+1)=none:=by rw [put_far (by omega)];exact hn0 _ (by omega) (by omega)
   obtain⟨s2,t2⟩:=adopt (b:=g) (c:=cap) (k:= .cells 3 ((sortI ks).map fun n=> .raw (.int .i64 n)) false false false) s1 t1 hBw (by omega) n1 (fun A=>nof _ A (by omega)) f1 (Nat.le_succ _) k4
    ⟨cur,_,rfl,fun _=>rfl,by rw [List.length_map,k8'];exact ints_dens _,(fun hh=>by cases hh),fun _=>⟨g,cap,Env.put_same ..,by rw [k7];exact cells1⟩⟩
   have n2:=img_put (b':=w.heap.size+1) (b:=g) (c:=cap) (k:= .cells 3 ((sortI ks).map fun n=> .raw (.int .i64 n)) false false false) n1' (by omega)
   -- the cell of kinds
   have f2:((ρ.put H.next w.heap.size 0).put (H.next+1) g cap) (H.next+2)=none:=by rw [put_far (by omega),put_far (by omega)];exact hn0 _ (by omega) (by omega)
   have rg:((ρ.put H.next w.heap.size 0).put (H.next+1) g cap) (H.next+1)=some (g,cap):=Env.put_same ..
   obtain⟨s3,t3⟩:=adopt (b:=w.heap.size+1) (c:=0) (k:= .cells 80 [.slice (Nat.succ H.next) 0 (sortI ks).length .any] true false false) s2 t2 hBw (by omega) n2 (fun A=>nof _ A (by omega)) f2 (by show H.next≤H.next+2;omega) k1
    ⟨_,_,rfl,fun _=>rfl, .cons (by rw [hlen];exact(Den.slice (cap:= .any) rg trivial k5).mono (Env.put_le f2)) .nil,fun _=>rfl,fun hh=>by cases hh⟩
   have hfr:=(t3.fr (H':=H1) (by rw [hnx];exact hf))
   have hT:TDen (((ρ.put H.next w.heap.size 0).put (H.next+1) g cap).put (H.next+2) (w.heap.size+1) 0) (trT [.yield yi, .ptr jl 0, .ptr jp 0] H.next) 48 a'.tmps:=by
    refine trT_den hO.size ?_ ?_ ?_ ?_ ?_ hO.un
    ·rw [hO.t0];exact(Den.yield r0).mono t3.le
    ·rw [hO.t1];exact(Den.ptr r1).mono t3.le
    ·rw [hO.t2];exact(Den.ptr r2).mono t3.le
    ·rw [hO.t3];exact .ptr (c:=0) (by rw [put_far (by omega),put_far (by omega)];exact Env.put_same ..)
    ·rw [hO.t4];exact .ptr (c:=0) (Env.put_same ..)
   refine hI.sim _ _ _ _ _ _ _ _ _ _ ho B _ a' W none m _ trivial ⟨hT,s3,hG.mono t3.le⟩ hO.df hfr fun ρ' a2 w2 z1 z2 z3=> ?_
   have:LeavesInM (FF none) m Tryz.prog Tryz.f149 a2.tmps (CallPost Tryz.prog B ρ H w v H') a2.defers .returning w2:=aleave_ok m1 z1 z3 hl fun y w3 u1 u2 u3=>⟨y,ρ',rfl,u1,u2,(t3.trans z2).trans u3⟩
   rcases he with rfl |rfl<;>exact this
theorem clT_ok {ih:RunnerN} (hI:RunOkN Tryz.prog ih):CallOk Tryz.prog (clT ih) where
 mono f args H v H' h:=by
  unfold clT at h
  cases hb:Nat.beq f 149 with
  |false=>rw [hb]at h;exact(acallN_ok hI).mono _ _ _ _ _ h
  |true=>rw [hb]at h;have:=spT_mono hI h;omega
 sim f args H v H' h B ρ xs w m hH hG hd hf:=by
  unfold clT at h
  cases hb:Nat.beq f 149 with
  |false=>rw [hb]at h;exact(acallN_ok hI).sim _ _ _ _ _ h B ρ xs w m hH hG hd hf
  |true=>
   rw [hb]at h
   obtain rfl:=Nat.eq_of_beq_eq_true hb
   exact spT_sim hI h B ρ xs w m hH hG hd hf
end Go.Proofs.YtjcbbabaabcdgaaGreatDoor
/- Numbers as lists of digits to some base, the least significant one first: plain facts. -/
namespace Go.Proofs.YtjcbbabaabcdgaaGreatDoor
def vl (b:Int):List Int→Int
 |[]=>0
 |x::r=>x+b*vl b r
def Dg (b:Int) (l:List Int):Prop:=∀x∈l,0≤x∧x<b
theorem Dg.nil {b:Int}:Dg b []:=fun x h=>by cases h
theorem Dg.cons {b x:Int} {l:List Int} (h:0≤x∧x<b) (hl:Dg b l):Dg b (x::l):=fun y hy=>by
 rcases List.mem_cons.1 hy with rfl |hy
 ·exact h
 ·exact hl y hy
theorem Dg.tail {b x:Int} {l:List Int} (h:Dg b (x::l)):Dg b l:=fun y hy=>h y (List.mem_cons_of_mem _ hy)
theorem Dg.head {b x:Int} {l:List Int} (h:Dg b (x::l)):0≤x∧x<b:=h x List.mem_cons_self
theorem Dg.app {b:Int} {l m:List Int} (h:Dg b l) (g:Dg b m):Dg b (l++m):=fun y hy=>(List.mem_append.1 hy).elim (h y) (g y)
theorem Dg.left {b:Int} {l m:List Int} (h:Dg b (l++m)):Dg b l:=fun y hy=>h y (List.mem_append_left _ hy)
theorem Dg.take {b:Int} {l:List Int} (h:Dg b l) (k:Nat):Dg b (l.take k):=fun y hy=>h y (List.mem_of_mem_take hy)
theorem Dg.drop {b:Int} {l:List Int} (h:Dg b l) (k:Nat):Dg b (l.drop k):=fun y hy=>h y (List.mem_of_mem_drop hy)
theorem Dg.set {b:Int} {l:List Int} (h:Dg b l) {k:Nat} {x:Int} (hx:0≤x∧x<b):Dg b (l.set k x):=fun y hy=>by
 rcases List.mem_or_eq_of_mem_set hy with hy|rfl
 ·exact h y hy
 ·exact hx
theorem Dg.at' {b:Int} {l:List Int} (h:Dg b l) {k:Nat} (hk:k<l.length):0≤l.getD k 0∧l.getD k 0<b:=by
 have:l.getD k 0=l[k]:=by simp [List.getD_eq_getElem?_getD,hk]
 rw [this];exact h _ (List.getElem_mem _)
theorem Dg.get {b:Int} (hb:0<b) {l:List Int} (h:Dg b l) (k:Nat):0≤l.getD k 0∧l.getD k 0<b:=by
 by_cases hk:k<l.length
 ·exact h.at' hk
 ·rw [List.getD_eq_getElem?_getD,List.getElem?_eq_none (by omega)]
  exact⟨Int.le_refl _,hb⟩
theorem Dg.rep {b:Int} (hb:0<b) (n:Nat):Dg b (List.replicate n 0):=fun y hy=>by
 rw [(List.mem_replicate.1 hy).2];exact⟨Int.le_refl _,hb⟩
theorem mul_nn {a b:Int} (ha:0≤a) (hb:0≤b):0≤a*b:=Int.mul_nonneg ha hb
theorem pow_pos' {b:Int} (hb:0<b):∀n:Nat,0<b^n
 |0=>by simp
 |n+1=>by rw [Int.pow_succ];exact Int.mul_pos (pow_pos' hb n) hb
theorem vl_nn {b:Int} (hb:0<b):∀{l:List Int},Dg b l→0≤vl b l
 |[],_=>Int.le_refl _
 |x::r,h=>by
  have h1:=h.head
  have h2:=Int.mul_nonneg (Int.le_of_lt hb) (vl_nn hb h.tail)
  show 0≤x+b*vl b r
  omega
theorem vl_lt {b:Int} (hb:0<b):∀{l:List Int},Dg b l→vl b l<b^l.length
 |[],_=>by simp [vl]
 |x::r,h=>by
  have h1:=h.head
  have h2:=vl_lt hb h.tail
  have h3:b*vl b r≤b*(b^r.length-1):=Int.mul_le_mul_of_nonneg_left (by omega) (Int.le_of_lt hb)
  have h4:b*(b^r.length-1)=b*b^r.length-b:=by rw [Int.mul_sub,Int.mul_one]
  have h5:b^(x::r).length=b*b^r.length:=by rw [List.length_cons,Int.pow_succ,Int.mul_comm]
  rw [h5]
  show x+b*vl b r<_
  omega
theorem vl_app (b:Int):∀(l m:List Int),vl b (l++m)=vl b l+b^l.length*vl b m
 |[],m=>by simp [vl]
 |x::r,m=>by
  show x+b*vl b (r++m)=x+b*vl b r+b^(r.length+1)*vl b m
  rw [vl_app b r m,Int.mul_add,Int.pow_succ,Int.mul_comm (b^r.length) b,Int.mul_assoc,Int.add_assoc]
theorem vl_one (b x:Int):vl b [x]=x:=by simp [vl]
theorem vl_snoc (b:Int) (l:List Int) (x:Int):vl b (l++[x])=vl b l+b^l.length*x:=by rw [vl_app,vl_one]
theorem vl_rep (b:Int):∀n:Nat,vl b (List.replicate n 0)=0
 |0=>rfl
 |n+1=>by rw [List.replicate_succ];show 0+b*vl b (List.replicate n 0)=0;rw [vl_rep b n];simp
theorem dg_getD {l:List Int} {k:Nat} (h:k<l.length):l.getD k 0=l[k]:=by simp [List.getD_eq_getElem?_getD,h]
theorem dg_take {l:List Int} {k:Nat} (h:k<l.length):l.take (k+1)=l.take k++[l.getD k 0]:=by rw [dg_getD h];simp
theorem vl_take {b:Int} {l:List Int} {k:Nat} (h:k<l.length):vl b (l.take (k+1))=vl b (l.take k)+b^k*l.getD k 0:=by
 rw [dg_take h,vl_snoc,List.length_take,Nat.min_eq_left (by omega)]
theorem vl_take' {b:Int} (l:List Int) (k:Nat):vl b (l.take (k+1))=vl b (l.take k)+b^k*l.getD k 0:=by
 by_cases h:k<l.length
 ·exact vl_take h
 ·have e:l.getD k 0=0:=by rw [List.getD_eq_getElem?_getD,List.getElem?_eq_none (by omega)];rfl
  rw [e,List.take_of_length_le (by omega),List.take_of_length_le (by omega)];simp
theorem vl_split (b:Int) (l:List Int) (k:Nat) (h:k≤l.length):vl b l=vl b (l.take k)+b^k*vl b (l.drop k):=by
 have:=vl_app b (l.take k) (l.drop k)
 rw [List.take_append_drop,List.length_take,Nat.min_eq_left h]at this
 exact this
theorem vl_set (b:Int):∀(l:List Int) (k:Nat) (x:Int),k<l.length→vl b (l.set k x)=vl b l+b^k*(x-l.getD k 0)
 |[],k,_,h=>absurd h (Nat.not_lt_zero _)
 |y::r,0,x,_=>by
  show x+b*vl b r=y+b*vl b r+b^0*(x-(y::r).getD 0 0)
  simp;omega
 |y::r,k+1,x,h=>by
  show y+b*vl b (r.set k x)=y+b*vl b r+b^(k+1)*(x-(y::r).getD (k+1) 0)
  have e:(y::r).getD (k+1) 0=r.getD k 0:=by simp
  rw [vl_set b r k x (by simpa using h),e,Int.mul_add,Int.pow_succ,Int.mul_comm (b^k) b,Int.mul_assoc,Int.add_assoc]
def Tm (l:List Int):Prop:=∀k,l.length=k+1→l.getD k 0≠0
def trimL (l:List Int):Nat→List Int
 |0=>[]
 |k+1=>if l.getD k 0=0 then trimL l k else l.take (k+1)
theorem trimL_eq (l:List Int):∀k,k≤l.length→∃m,m≤k∧trimL l k=l.take m∧(∀j,m≤j→j<k→l.getD j 0=0)∧(∀j,m=j+1→l.getD j 0≠0)
 |0,_=>⟨0,Nat.le_refl _,by simp [trimL],fun j _ h=>by omega,fun j h=>by omega⟩
 |k+1,hk=>by
  unfold trimL
  by_cases h:l.getD k 0=0
  ·rw [if_pos h]
   obtain⟨m,h1,h2,h3,h4⟩:=trimL_eq l k (by omega)
   refine⟨m,by omega,h2,fun j g1 g2=> ?_,h4⟩
   by_cases e:j=k
   ·rw [e];exact h
   ·exact h3 j g1 (by omega)
  ·rw [if_neg h]
   exact⟨k+1,Nat.le_refl _,rfl,fun j g1 g2=>by omega,fun j e=>by
    obtain rfl:j=k:=by omega
    exact h⟩
theorem trim_vl {b:Int} (l:List Int):∀k,k≤l.length→vl b (trimL l k)=vl b (l.take k)
 |0,_=>by simp [trimL]
 |k+1,hk=>by
  unfold trimL
  by_cases h:l.getD k 0=0
  ·rw [if_pos h,trim_vl l k (by omega),vl_take (by omega),h];simp
  ·rw [if_neg h]
theorem trim_tm (l:List Int) (k:Nat) (hk:k≤l.length):Tm (trimL l k):=by
 obtain⟨m,h1,h2,_,h4⟩:=trimL_eq l k hk
 rw [h2]
 intro j hj
 rw [List.length_take,Nat.min_eq_left (by omega)]at hj
 have:=h4 j hj
 rwa [List.getD_eq_getElem?_getD,List.getElem?_take,if_pos (by omega),←List.getD_eq_getElem?_getD]
theorem trim_dg {b:Int} {l:List Int} (h:Dg b l) (k:Nat) (hk:k≤l.length):Dg b (trimL l k):=by
 obtain⟨m,_,h2,_⟩:=trimL_eq l k hk
 rw [h2];exact h.take _
theorem trim_id {l:List Int} (h:Tm l):trimL l l.length=l:=by
 cases hl:l.length with
 |zero=>rw [List.eq_nil_of_length_eq_zero hl];rfl
 |succ k=>
  unfold trimL
  rw [if_neg (h k hl)]
  exact List.take_of_length_le (by omega)
theorem vl_ge {b:Int} (hb:0<b) {l:List Int} (h:Dg b l) (ht:Tm l) {k:Nat} (hl:l.length=k+1):b^k≤vl b l:=by
 have h1:=vl_take (b:=b) (l:=l) (k:=k) (by omega)
 rw [List.take_of_length_le (by omega)]at h1
 have h2:=vl_nn hb (h.take k)
 have h3:=h.at' (k:=k) (by omega)
 have h4:=ht k hl
 have h5:b^k*1≤b^k*l.getD k 0:=Int.mul_le_mul_of_nonneg_left (by omega) (Int.le_of_lt (pow_pos' hb k))
 omega
theorem pow_le_pow' {b:Int} (hb:1≤b) {m n:Nat} (h:m≤n):b^m≤b^n:=by
 obtain⟨d,rfl⟩:=Nat.exists_eq_add_of_le h
 rw [Int.pow_add]
 have h1:=pow_pos' (show 0<b by omega) m
 have h2:=pow_pos' (show 0<b by omega) d
 have:=Int.mul_le_mul_of_nonneg_left (show 1≤b^d by omega) (Int.le_of_lt h1)
 omega
theorem vl_short {b:Int} (hb:1<b) {l m:List Int} (h:Dg b l) (g:Dg b m) (ht:Tm m) (hl:l.length<m.length):vl b l<vl b m:=by
 obtain⟨k,hk⟩:∃k,m.length=k+1:=⟨m.length-1,by omega⟩
 have h1:=vl_lt (show 0<b by omega) h
 have h2:=vl_ge (show 0<b by omega) g ht hk
 have h3:=pow_le_pow' (show 1≤b by omega) (show l.length≤k by omega)
 omega
theorem vl_cmp {b:Int} (hb:1<b) {l m:List Int} (h:Dg b l) (g:Dg b m) (hl:l.length=m.length) {k:Nat} (hk:k<l.length) (hlt:l.getD k 0<m.getD k 0) (heq:∀j,k<j→j<l.length→l.getD j 0=m.getD j 0):vl b l<vl b m:=by
 have hb0:0<b:=by omega
 have hd:l.drop (k+1)=m.drop (k+1):=by
  refine List.ext_getElem (by simp [hl]) fun i h1 h2=> ?_
  rw [List.getElem_drop,List.getElem_drop,←dg_getD,←dg_getD]
  exact heq _ (by omega) (by simp at h1;omega)
 rw [vl_split b l (k+1) (by omega),vl_split b m (k+1) (by omega),hd,vl_take hk,vl_take (by omega)]
 have h1:=vl_lt hb0 (h.take k)
 rw [List.length_take,Nat.min_eq_left (by omega)]at h1
 have h2:=vl_nn hb0 (g.take k)
 have h3:b^k*(l.getD k 0+1)≤b^k*m.getD k 0:=Int.mul_le_mul_of_nonneg_left (by omega) (Int.le_of_lt (pow_pos' hb0 k))
 rw [Int.mul_add,Int.mul_one]at h3
 omega
theorem vl_inj {b:Int} (hb:1<b):∀{l m:List Int},Dg b l→Dg b m→l.length=m.length→vl b l=vl b m→l=m
 |[],[],_,_,_,_=>rfl
 |[],_::_,_,_,h,_=>by cases h
 |_::_,[],_,_,h,_=>by cases h
 |x::l,y::m,h,g,hl,e=>by
  have e:x+b*vl b l=y+b*vl b m:=e
  have h1:=h.head
  have g1:=g.head
  have hx:x=y:=by
   have a1:(x+b*vl b l)%b=x:=by rw [Int.add_mul_emod_self_left];exact Int.emod_eq_of_lt h1.1 h1.2
   have a2:(y+b*vl b m)%b=y:=by rw [Int.add_mul_emod_self_left];exact Int.emod_eq_of_lt g1.1 g1.2
   rw [←a1,←a2,e]
  subst hx
  have e2:b*vl b l=b*vl b m:=by omega
  have e3:=Int.eq_of_mul_eq_mul_left (by omega) e2
  rw [vl_inj hb h.tail g.tail (by simpa using hl) e3]
theorem vl_unique {b:Int} (hb:1<b) {l m:List Int} (h:Dg b l) (g:Dg b m) (hl:Tm l) (hm:Tm m) (e:vl b l=vl b m):l=m:=by
 rcases Nat.lt_trichotomy l.length m.length with h1|h1|h1
 ·have:=vl_short hb h g hm h1;omega
 ·exact vl_inj hb h g h1 e
 ·have:=vl_short hb g h hl h1;omega
theorem Tm.nil:Tm []:=fun k h=>by cases h
section
variable {b:Int}
structure Parts (b v1 v2 v' u0 u1 u2 u' s:Int):Prop where
 b2:2≤b
 s1:1≤s
 v1:1≤v1∧v1<b
 v2:0≤v2∧v2<b
 v':0≤v'∧v'<s
 u0:0≤u0∧u0<b
 u1:0≤u1∧u1<b
 u2:0≤u2∧u2<b
 u':0≤u'∧u'<s
variable {v1 v2 v' u0 u1 u2 u' s:Int}
def vAll (b v1 v2 v' s:Int):Int:=(v1*b+v2)*s+v'
def uAll (b u0 u1 u2 u' s:Int):Int:=((u0*b+u1)*b+u2)*s+u'
theorem mul_lt_of {a c x:Int} (h:a*x<c*x) (hx:0<x):a<c:=Int.lt_of_mul_lt_mul_right h (Int.le_of_lt hx)
theorem guess_hi (p:Parts b v1 v2 v' u0 u1 u2 u' s) {t q:Int} (ht:0≤t) (hq:q*vAll b v1 v2 v' s≤uAll b u0 u1 u2 u' s) (h:(u0*b+u1-t*v1)*b+u2<t*v2):q<t:=by
 have h1:(u0*b+u1)*b+u2+1≤t*(v1*b+v2):=by
  have e1:(u0*b+u1-t*v1)*b=(u0*b+u1)*b-t*v1*b:=Int.sub_mul _ _ _
  have e2:t*(v1*b+v2)=t*v1*b+t*v2:=by rw [Int.mul_add,Int.mul_assoc]
  rw [e1]at h
  rw [e2]
  omega
 have h2:=Int.mul_le_mul_of_nonneg_right h1 (show 0≤s by have:=p.s1;omega)
 have e3:((u0*b+u1)*b+u2+1)*s=((u0*b+u1)*b+u2)*s+s:=by rw [Int.add_mul _ 1,Int.one_mul]
 rw [e3]at h2
 have h3:t*(v1*b+v2)*s≤t*vAll b v1 v2 v' s:=by
  rw [Int.mul_assoc]
  exact Int.mul_le_mul_of_nonneg_left (by unfold vAll;have:=p.v';omega) ht
 have h4:uAll b u0 u1 u2 u' s<t*vAll b v1 v2 v' s:=by unfold uAll;have:=p.u';omega
 have h5:q*vAll b v1 v2 v' s<t*vAll b v1 v2 v' s:=by omega
 refine mul_lt_of h5 ?_
 have:=p.v1
 have h6:0<v1*b+v2:=by
  have:=Int.mul_pos (show 0<v1 by omega) (show 0<b by have:=p.b2;omega)
  have:=p.v2;omega
 have h7:=Int.mul_pos h6 (show 0<s by have:=p.s1;omega)
 unfold vAll
 have:=p.v'
 omega
theorem guess_lo (p:Parts b v1 v2 v' u0 u1 u2 u' s) {t:Int} (ht:0≤t∧t<b) (h:t*v2≤(u0*b+u1-t*v1)*b+u2):(t-1)*vAll b v1 v2 v' s≤uAll b u0 u1 u2 u' s:=by
 have e1:(u0*b+u1-t*v1)*b=(u0*b+u1)*b-t*v1*b:=Int.sub_mul _ _ _
 have e2:t*(v1*b+v2)=t*v1*b+t*v2:=by rw [Int.mul_add,Int.mul_assoc]
 have h1:t*(v1*b+v2)≤(u0*b+u1)*b+u2:=by rw [e2];rw [e1]at h;omega
 have h2:=Int.mul_le_mul_of_nonneg_right h1 (show 0≤s by have:=p.s1;omega)
 have h3:t*v'≤(b-1)*s:=by
  have a:=Int.mul_le_mul_of_nonneg_right (show t≤b-1 by omega) p.v'.1
  have c:=Int.mul_le_mul_of_nonneg_left (show v'≤s by have:=p.v';omega) (show 0≤b-1 by have:=p.b2;omega)
  omega
 have h4:b*s≤vAll b v1 v2 v' s:=by
  have a:=Int.mul_le_mul_of_nonneg_right p.v1.1 (show 0≤b by have:=p.b2;omega)
  rw [Int.one_mul]at a
  have c:=Int.mul_le_mul_of_nonneg_right (show b≤v1*b+v2 by have:=p.v2;omega) (show 0≤s by have:=p.s1;omega)
  unfold vAll
  have:=p.v'
  omega
 have e3:(t-1)*vAll b v1 v2 v' s=t*vAll b v1 v2 v' s-vAll b v1 v2 v' s:=by rw [Int.sub_mul,Int.one_mul]
 have e4:t*vAll b v1 v2 v' s=t*(v1*b+v2)*s+t*v':=by unfold vAll;rw [Int.mul_add,Int.mul_assoc]
 have e5:(b-1)*s=b*s-s:=by rw [Int.sub_mul,Int.one_mul]
 rw [e3,e4]
 unfold uAll
 have:=p.u'
 have:=p.s1
 omega
theorem guess_far (p:Parts b v1 v2 v' u0 u1 u2 u' s) {t:Int} (ht:0≤t∧t<b) (h:b≤u0*b+u1-t*v1):t*v2≤(u0*b+u1-t*v1)*b+u2:=by
 have h1:t*v2≤b*b:=by
  have a:=Int.mul_le_mul_of_nonneg_right (show t≤b by omega) p.v2.1
  have c:=Int.mul_le_mul_of_nonneg_left (show v2≤b by have:=p.v2;omega) (show 0≤b by have:=p.b2;omega)
  omega
 have h2:=Int.mul_le_mul_of_nonneg_right h (show 0≤b by have:=p.b2;omega)
 have:=p.u2
 omega
theorem guess_first (p:Parts b v1 v2 v' u0 u1 u2 u' s) {q:Int} (hq0:0≤q) (hq:q*vAll b v1 v2 v' s≤uAll b u0 u1 u2 u' s):q*v1≤u0*b+u1:=by
 refine Int.not_lt.1 fun hlt=> ?_
 have hb:=p.b2
 have h1:u0*b+u1+1≤q*v1:=hlt
 have h2:=Int.mul_le_mul_of_nonneg_right h1 (show 0≤b by omega)
 have e1:(u0*b+u1+1)*b=(u0*b+u1)*b+b:=by rw [Int.add_mul _ 1,Int.one_mul]
 rw [e1]at h2
 have h3:=Int.mul_le_mul_of_nonneg_right (show(u0*b+u1)*b+u2+1≤q*v1*b by have:=p.u2;omega) (show 0≤s by have:=p.s1;omega)
 have e2:((u0*b+u1)*b+u2+1)*s=((u0*b+u1)*b+u2)*s+s:=by rw [Int.add_mul _ 1,Int.one_mul]
 rw [e2]at h3
 have h4:q*v1*b*s≤q*vAll b v1 v2 v' s:=by
  rw [Int.mul_assoc,Int.mul_assoc]
  refine Int.mul_le_mul_of_nonneg_left ?_ hq0
  rw [←Int.mul_assoc]
  unfold vAll
  have a:v1*b*s≤(v1*b+v2)*s:=Int.mul_le_mul_of_nonneg_right (by have:=p.v2;omega) (by have:=p.s1;omega)
  have:=p.v'
  omega
 unfold uAll at hq
 have:=p.u'
 omega
end
end Go.Proofs.YtjcbbabaabcdgaaGreatDoor
/- Package num: lists of words: trim, the sum. -/
namespace Go.Proofs.YtjcbbabaabcdgaaGreatDoor
open Go.RowKit Sv
set_option maxRecDepth 100000
set_option linter.unusedVariables false
noncomputable section
abbrev tU:Ty:= .int .u64
abbrev uv (x:Int):AV:= .raw (.int .u64 x)
abbrev lu (l:List Int):AV:= .lst false tU l
abbrev obU (j:Nat) (l:List Int):AV:= .osl 168 tU j 0 l.length (capOf l.length)
abbrev oeU (l:List Int):Ent:= .opt 168 tU l
def dgB (l:List Int):Bool:=l.all fun x=>decide (0≤x)&&decide (x<18446744073709551616)
def tmB (l:List Int):Bool:=Nat.beq (trimL l l.length).length l.length
def vw (l:List Int):Int:=vl 18446744073709551616 l
noncomputable def BTrim:Code:=(Tryz.f195.body).getD .skip
def trW (l:List Int):List Int:=trimL l l.length
def STrim (w:List Int) (n:Nat):St:={n:=21,sl:=[(0,lu w),(3,iv n)],en:=[],next:=64}
def STrim1 (w:List Int) (n:Nat):St:={n:=21,sl:=[(0,lu w),(3,iv ((n:Int)-1))],en:=[],next:=64}
theorem tw_start (w:List Int):
  Tst.path (vrun0 Tryz.prog (ctrs []) (fl BTrim []) 2 21 [lu w]) [] (toSt Tryz.prog 21 .normal [] (STrim w w.length)):=
 mp (an (rr w) (an (rr ((↑w.length:Int))) trivial))
theorem tw_go (w:List Int) (n:Nat) (h1:(↑n:Int)>0) (h2: -9223372036854775808≤(↑n:Int)-1∧(↑n:Int)-1≤9223372036854775807) (h3:(0:Int)≤(↑n:Int)-1) (h4:Int.toNat ((↑n:Int)-1)<w.length) (h5:List.getD w (Int.toNat ((↑n:Int)-1)) (0:Int)=0):
  Tst.path (vall Tryz.prog (ctrs []) (fl BTrim [1,1,0,0,0]) (STrim w n)) [true,true,true,true,true,true,true,true] (toSt Tryz.prog 21 .normal [] (STrim1 w n)):=
 mp (an (bT (decide_eq_true h1)) (an (bT (decide_eq_true h1)) (an (bT (decide_eq_true h1)) (an (fits_i64 h2) (an (bT (decide_eq_true h1)) (an (decide_eq_true h3) (an (decide_eq_true h4) (an (bT (decide_eq_true h1)) (an (bT (decide_eq_true h1)) (an (decide_eq_true h1) (an (beq_iff_eq.mpr h5) (an (fits_i64 h2) (an (rr w) (an (rr ((↑n:Int)-1)) trivial))))))))))))))
theorem tw_hit (w:List Int) (n:Nat) (h1:(↑n:Int)>0) (h2: -9223372036854775808≤(↑n:Int)-1∧(↑n:Int)-1≤9223372036854775807) (h3:(0:Int)≤(↑n:Int)-1) (h4:Int.toNat ((↑n:Int)-1)<w.length) (h5:¬List.getD w (Int.toNat ((↑n:Int)-1)) (0:Int)=0):
  Tst.path (vall Tryz.prog (ctrs []) (fl BTrim [1,1,0,0,0]) (STrim w n)) [true,true,true,true,true,true,true,false] (toSt Tryz.prog 21 (.exit 0) [] (STrim w n)):=
 mp (an (bT (decide_eq_true h1)) (an (bT (decide_eq_true h1)) (an (bT (decide_eq_true h1)) (an (fits_i64 h2) (an (bT (decide_eq_true h1)) (an (decide_eq_true h3) (an (decide_eq_true h4) (an (bT (decide_eq_true h1)) (an (bT (decide_eq_true h1)) (an (decide_eq_true h1) (an (beq_eq_false_iff_ne.mpr h5) (an (rr w) (an (rr ((↑n:Int))) trivial)))))))))))))
theorem tw_end (w:List Int) (n:Nat) (h1:¬(↑n:Int)>0):
  Tst.path (vall Tryz.prog (ctrs []) (fl BTrim [1,1,0,0,0]) (STrim w n)) [false,false,false,false,false,false,false,false] (toSt Tryz.prog 21 (.exit 0) [] (STrim w n)):=
 mp (an (bT (decide_eq_false h1)) (an (bT (decide_eq_false h1)) (an (bT (decide_eq_false h1)) (an (bT (decide_eq_false h1)) (an (bT (decide_eq_false h1)) (an (bT (decide_eq_false h1)) (an (decide_eq_false h1) (an rf (an (rr w) (an (rr ((↑n:Int))) trivial))))))))))
theorem tw_ret (w:List Int) (n:Nat) (h1:n≤w.length) (h2:(List.drop (0:Nat) (List.take n w))=(List.take n w)):
  Tst.path (vall Tryz.prog (ctrs []) (List.drop 3 (fl BTrim [])) (STrim w n)) [] (toRet Tryz.prog Tryz.f195 false (lu (w.take n))):=
 mp (an (show(decide ((0:Int)≤(↑n:Int)))=true from decide_eq_true (by omega)) (an (show(decide ((0:Nat)≤n))=true from decide_eq_true (by omega)) (an (decide_eq_true h1) h2)))
noncomputable def cTrim:Ctr:={f:=195,ps:=[.list false tU],rs:=[.list false tU],fresh:=false,pre:=fun d=>decide (List.length (α:=Int) d.1≤1000000),fn:=fun d=>(trW d.1,())}
theorem trim_holds (w:List Int) (hl:w.length≤1000000):Holds Tryz.prog false 195 [lu w] (lu (trW w)):=by
 refine holds_fl (c:=BTrim) Tryz.func195 rfl rfl fun w0 F=> ?_
 refine GoalL.to known mixed none_ok 2 _ (tw_start w) (by kernel_rfl) ?_
 refine GoalL.loop (ι:={n:Nat//n≤w.length∧trimL w n=trW w}) (id:=0) (b:=cat BTrim [1,1,0,0,0]) (rest:=List.drop 3 (fl BTrim [])) (by kernel_rfl) (fun n=>STrim w n.1) (fun n=>n.1) ⟨w.length,Nat.le_refl _,rfl⟩ (fun _=>rfl) ?_
 rintro⟨n,hn,hv⟩
 cases n with
 |zero=>
  refine GoalL.all (s:=STrim w 0) known mixed none_ok _ (tw_end w 0 (by omega)) (by kernel_rfl) ?_
  refine onN_exit (inB_exit ?_)
  have e:trW w=w.take 0:=by rw [←hv];rfl
  rw [e]
  exact GoalL.allRet (s:=STrim w 0) known mixed none_ok _ (tw_ret w 0 (by omega) rfl) fun T H h=>h
 |succ k=>
  have e0:(((k+1:Nat):Int)-1).toNat=k:=by omega
  have e1:STrim1 w (k+1)=STrim w k:=by
   unfold STrim1 STrim
   rw [show(((k+1:Nat):Int)-1)=(k:Int) by omega]
  by_cases hz:w.getD k 0=0
  ·refine GoalL.all (s:=STrim w (k+1)) (s':=STrim1 w (k+1)) known mixed none_ok _ (tw_go w (k+1) (by omega) (by omega) (by omega) (by omega) (by rw [e0];exact hz)) (by kernel_rfl) ?_
   have hv2:trimL w k=trW w:=by rw [←hv,trimL,if_pos hz]
   rw [e1]
   exact⟨⟨k,by omega,hv2⟩,by simp,rfl,rfl⟩
  ·refine GoalL.all (s:=STrim w (k+1)) known mixed none_ok _ (tw_hit w (k+1) (by omega) (by omega) (by omega) (by omega) (by rw [e0];exact hz)) (by kernel_rfl) ?_
   refine onN_exit (inB_exit ?_)
   have e:trW w=w.take (k+1):=by rw [←hv,trimL,if_neg hz]
   rw [e]
   exact GoalL.allRet (s:=STrim w (k+1)) known mixed none_ok _ (tw_ret w (k+1) (by omega) rfl) fun T H h=>h
theorem cTrim_ok:cTrim.Ok Tryz.prog:=fun⟨w,_⟩ h=>trim_holds w (of_decide_eq_true h)
end
end Go.Proofs.YtjcbbabaabcdgaaGreatDoor
/- Numbers as lists of digits: the list of a number; sums and differences digit by digit. -/
namespace Go.Proofs.YtjcbbabaabcdgaaGreatDoor
theorem Tm.cons {x:Int} {l:List Int} (h:Tm l) (hx:l=[]→x≠0):Tm (x::l):=fun k hk=>by
 cases l with
 |nil=>
  simp at hk
  subst hk
  exact hx rfl
 |cons y r=>
  cases k with
  |zero=>simp at hk
  |succ k=>
   have:=h k (by simpa using hk)
   simpa using this
theorem dg_ex {b:Int} (hb:1<b):∀n:Nat,∃l,Dg b l∧Tm l∧vl b l=(n:Int):=fun n=>by
 induction n using Nat.strongRecOn with
 |_ n ih=>
  by_cases h0:n=0
  ·subst h0;exact⟨[],Dg.nil,Tm.nil,rfl⟩
  ·have hlt:((n:Int)/b).toNat<n:=by
    have h1:(n:Int)/b<n:=Int.ediv_lt_of_lt_mul (by omega) (by
     have:(n:Int)*1<n*b:=Int.mul_lt_mul_of_pos_left hb (by omega)
     omega)
    have h2:0≤(n:Int)/b:=Int.ediv_nonneg (by omega) (by omega)
    omega
   obtain⟨l,h1,h2,h3⟩:=ih _ hlt
   have h4:0≤(n:Int)/b:=Int.ediv_nonneg (by omega) (by omega)
   rw [Int.toNat_of_nonneg h4]at h3
   have h5:=Int.emod_nonneg (n:Int) (show b≠0 by omega)
   have h6:=Int.emod_lt_of_pos (n:Int) (show 0<b by omega)
   have h7:=Int.emod_add_mul_ediv (n:Int) b
   refine⟨(n:Int)%b::l,Dg.cons ⟨h5,h6⟩ h1,Tm.cons h2 fun e hz=> ?_, ?_⟩
   ·subst e
    have h3:(0:Int)=(n:Int)/b:=h3
    rw [hz,←h3]at h7
    simp at h7
    omega
   ·show(n:Int)%b+b*vl b l=n
    rw [h3];exact h7
noncomputable def dgN (b z:Int):List Int:=if h:1<b∧0≤z then Classical.choose (dg_ex h.1 z.toNat)else []
theorem dgN_spec {b z:Int} (hb:1<b) (hz:0≤z):Dg b (dgN b z)∧Tm (dgN b z)∧vl b (dgN b z)=z:=by
 unfold dgN
 rw [dif_pos ⟨hb,hz⟩]
 obtain⟨h1,h2,h3⟩:=Classical.choose_spec (dg_ex hb z.toNat)
 exact⟨h1,h2,by rw [h3];omega⟩
theorem dgN_uniq {b z:Int} {l:List Int} (hb:1<b) (h1:Dg b l) (h2:Tm l) (h3:vl b l=z):l=dgN b z:=by
 have hz:0≤z:=by rw [←h3];exact vl_nn (by omega) h1
 obtain⟨g1,g2,g3⟩:=dgN_spec hb hz
 exact vl_unique hb h1 g1 h2 g2 (by rw [h3,g3])
theorem set_take {l:List Int} {i:Nat} {d:Int}:(l.set i d).take i=l.take i:=by
 refine List.ext_getElem? fun j=> ?_
 rw [List.getElem?_take,List.getElem?_take]
 split
 ·rw [List.getElem?_set_ne (by omega)]
 ·rfl
theorem set_at {l:List Int} {i:Nat} {d:Int} (h:i<l.length):(l.set i d).getD i 0=d:=by
 rw [List.getD_eq_getElem?_getD,List.getElem?_set_self h];rfl
theorem vl_set_next {b:Int} {l:List Int} {i:Nat} {d:Int} (h:i<l.length):vl b ((l.set i d).take (i+1))=vl b (l.take i)+b^i*d:=by
 rw [vl_take',set_take,set_at h]
theorem vl_long {b:Int} (hb:0<b) {l:List Int} (h:Dg b l) (k:Nat):vl b (l.take k)≤vl b l:=by
 by_cases hk:k≤l.length
 ·rw [vl_split b l k hk]
  have:=mul_nn (Int.le_of_lt (pow_pos' hb k)) (vl_nn hb (h.drop k))
  omega
 ·rw [List.take_of_length_le (by omega)];exact Int.le_refl _
theorem vl_low {b:Int} (hb:0<b) {l:List Int} (h:Dg b l) {k:Nat} (hlt:vl b l<b^k):vl b (l.take k)=vl b l:=by
 by_cases hk:k≤l.length
 ·have hs:=vl_split b l k hk
  have h1:=vl_nn hb (h.drop k)
  have h2:=vl_nn hb (h.take k)
  have hz:vl b (l.drop k)=0:=by
   by_cases hz:vl b (l.drop k)=0
   ·exact hz
   ·have h3:b^k*1≤b^k*vl b (l.drop k):=Int.mul_le_mul_of_nonneg_left (by omega) (Int.le_of_lt (pow_pos' hb k))
    omega
  rw [hz]at hs
  omega
 ·rw [List.take_of_length_le (by omega)]
theorem add_next {P b s c' a e c X Y O:Int} (h:s+b*c'=a+e+c) (hi:O+P*c=X+Y):O+P*s+P*b*c'=X+P*a+(Y+P*e):=by
 have h1:P*(s+b*c')=P*(a+e+c):=by rw [h]
 rw [Int.mul_add,Int.mul_add,Int.mul_add,←Int.mul_assoc]at h1
 omega
theorem sub_next {P b s c' a e c X Y O:Int} (h:s-b*c'=a-e-c) (hi:O-P*c=X-Y):O+P*s-P*b*c'=X+P*a-(Y+P*e):=by
 have h1:P*(s-b*c')=P*(a-e-c):=by rw [h]
 rw [Int.mul_sub,Int.mul_sub,Int.mul_sub,←Int.mul_assoc]at h1
 omega
end Go.Proofs.YtjcbbabaabcdgaaGreatDoor
