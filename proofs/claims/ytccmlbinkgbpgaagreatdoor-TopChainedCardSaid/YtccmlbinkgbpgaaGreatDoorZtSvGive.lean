/- Package num: one step of the long division. -/
import Derived.Test.YtccmlbinkgbpgaaGreatDoorZtVSh
import Derived.Test.YtccmlbinkgbpgaaGreatDoorZtVBas
namespace Go.Proofs.YtccmlbinkgbpgaaGreatDoor
open Go.RowKit Sv
set_option maxRecDepth 100000
set_option linter.unusedVariables false
noncomputable section
def toRetE (P:Program) (fn:Func) (e:TypeId) (t:Ty) (xs:List t.den) (res:AV):R→Prop
 | .ret T H []=>(match aresults P fn T H with
   | .ok v _=>frz true H v res∧(match H.get 64 with
     |some (.own e' t' ys)=>chk (Nat.beq e e') (eqD t' t ys xs)
     |_=>False)
   |_=>False)
 |_=>False
noncomputable def BStep:Code:=(Tryz.f162.body).getD .skip
noncomputable def stCs:VCaller:=ctrs [cMul64,cDiv64]
abbrev stL1:List Nat:=[1,1,1,1,1,0,0,0]
abbrev stL2:List Nat:=[1,1,1,1,1,1,1,0,1,0,0]
abbrev stL3:List Nat:=[1,1,1,1,1,1,1,1,1,1,1,0,1,0,0]
abbrev uo (v:List Int) (k:Nat) (cap:Cap):AV:= .osl 179 tU 64 k (v.length+1) cap
abbrev enS (xs:List Int):List (Nat×Ent):=[(64, .blk (.own 179 tU xs))]
abbrev s64:Sv.Ren:=[(64,64,none)]
def SSa (xs v:List Int) (k:Nat) (cap:Cap) (q r o:Int):St:={n:=186,sl:=[(0,uo v k cap),(1,lu v),(5,iv v.length),(6,uv q),(7,uv r),(8,uv o)],en:=enS xs,next:=65}
def SSc (xs v:List Int) (k:Nat) (cap:Cap) (q c b:Int) (i:Nat):St:={n:=186,sl:=[(0,uo v k cap),(1,lu v),(5,iv v.length),(6,uv q),(11,uv b),(12,uv c),(104,iv v.length),(105,iv i)],en:=enS xs,next:=65}
def SSe (xs v:List Int) (k:Nat) (cap:Cap) (q b:Int):St:={n:=186,sl:=[(0,uo v k cap),(1,lu v),(5,iv v.length),(6,uv q),(11,uv b)],en:=enS xs,next:=65}
def SSd (xs v:List Int) (k:Nat) (cap:Cap) (q c:Int) (i:Nat):St:={n:=186,sl:=[(0,uo v k cap),(1,lu v),(5,iv v.length),(6,uv q),(17,uv c),(156,iv v.length),(157,iv i)],en:=enS xs,next:=65}
def loS (q x c:Int):Int:=sumD (mlLo q x) c 0
def hiS (q x c:Int):Int:=IntKind.wrap .u64 (mlHi q x+carD (mlLo q x) c 0)
def decS (q:Int):Int:=IntKind.wrap .u64 (q-1)
theorem st_max (xs v:List Int) (k:Nat) (cap:Cap) (h1:(ownHas 179 tU (some (ABlk.own 179 (.int .u64) xs)) (k+v.length))=true) (h2: -9223372036854775808≤(↑v.length:Int)-1∧(↑v.length:Int)-1≤9223372036854775807) (h3:(0:Int)≤(↑v.length:Int)-1) (h4:Int.toNat ((↑v.length:Int)-1)<v.length) (h5:List.getD xs (k+v.length) (0:Int)≥List.getD v (Int.toNat ((↑v.length:Int)-1)) (0:Int)) (h6:(ownHas 179 tU (some (ABlk.own 179 (.int .u64) xs)) (k+Int.toNat ((↑v.length:Int)-1)))=true) (h7:((↑((Int.toNat (List.getD xs (k+Int.toNat ((↑v.length:Int)-1)) (0:Int))+Int.toNat (List.getD v (Int.toNat ((↑v.length:Int)-1)) (0:Int))+Int.toNat (0:Int))%(2:Nat)^(64:Nat)):Int))=(sumD (List.getD xs (k+Int.toNat ((↑v.length:Int)-1)) (0:Int)) (List.getD v (Int.toNat ((↑v.length:Int)-1)) (0:Int)) (0:Int))) (h8:((↑((Int.toNat (List.getD xs (k+Int.toNat ((↑v.length:Int)-1)) (0:Int))+Int.toNat (List.getD v (Int.toNat ((↑v.length:Int)-1)) (0:Int))+Int.toNat (0:Int))/(2:Nat)^(64:Nat)):Int))=(carD (List.getD xs (k+Int.toNat ((↑v.length:Int)-1)) (0:Int)) (List.getD v (Int.toNat ((↑v.length:Int)-1)) (0:Int)) (0:Int))):
  Tst.path (vlist Tryz.prog stCs 186 ((fl BStep []).take 6) (initT [uo v k cap,lu v] .nil 0) (He 179 tU xs)) [true] (toSt Tryz.prog 186 .normal s64 (SSa xs v k cap 18446744073709551615 (sumD (xs.getD (k+((v.length:Int)-1).toNat) 0) (v.getD ((v.length:Int)-1).toNat 0) 0) (carD (xs.getD (k+((v.length:Int)-1).toNat) 0) (v.getD ((v.length:Int)-1).toNat 0) 0))):=
 mp (an (show(decide ((0:Int)≤(↑v.length:Int)))=true from decide_eq_true (by omega)) (an (show(decide (v.length<v.length+(1:Nat)))=true from decide_eq_true (by omega)) (an h1 (an h1 (an (sr (AV.raw (Value.int .u64 (List.getD xs (k+v.length) (0:Int))))) (an (fits_i64 h2) (an (decide_eq_true h3) (an (decide_eq_true h4) (an (sr (AV.raw (Value.int .u64 (List.getD v (Int.toNat ((↑v.length:Int)-1)) (0:Int))))) (an (decide_eq_true h5) (an (fits_i64 h2) (an (decide_eq_true h3) (an (show(decide (Int.toNat ((↑v.length:Int)-1)<v.length+(1:Nat)))=true from decide_eq_true (by omega)) (an h6 (an h6 (an (sr (AV.raw (Value.int .u64 (List.getD xs (k+Int.toNat ((↑v.length:Int)-1)) (0:Int))))) (an (fits_i64 h2) (an (decide_eq_true h3) (an (decide_eq_true h4) (an (sr (AV.raw (Value.int .u64 (List.getD v (Int.toNat ((↑v.length:Int)-1)) (0:Int))))) (an (an (rr k) (an (rr (v.length+(1:Nat))) (rr cap))) (an (rr v) (an (rr ((↑v.length:Int))) (an (rr ((18446744073709551615:Int))) (an h7 (an h8 (an (rr xs) trivial)))))))))))))))))))))))))))
theorem st_div (xs v:List Int) (k:Nat) (cap:Cap) (h1:(ownHas 179 tU (some (ABlk.own 179 (.int .u64) xs)) (k+v.length))=true) (h2: -9223372036854775808≤(↑v.length:Int)-1∧(↑v.length:Int)-1≤9223372036854775807) (h3:(0:Int)≤(↑v.length:Int)-1) (h4:Int.toNat ((↑v.length:Int)-1)<v.length) (h5:¬List.getD xs (k+v.length) (0:Int)≥List.getD v (Int.toNat ((↑v.length:Int)-1)) (0:Int)) (h6:(ownHas 179 tU (some (ABlk.own 179 (.int .u64) xs)) (k+Int.toNat ((↑v.length:Int)-1)))=true) (h7:(okD (List.getD xs (k+v.length) (0:Int)) (List.getD xs (k+Int.toNat ((↑v.length:Int)-1)) (0:Int)) (List.getD v (Int.toNat ((↑v.length:Int)-1)) (0:Int)))=true):
  Tst.path (vlist Tryz.prog stCs 186 ((fl BStep []).take 6) (initT [uo v k cap,lu v] .nil 0) (He 179 tU xs)) [false] (toSt Tryz.prog 186 .normal s64 (SSa xs v k cap (div64Q (xs.getD (k+v.length) 0) (xs.getD (k+((v.length:Int)-1).toNat) 0) (v.getD ((v.length:Int)-1).toNat 0)) (div64R (xs.getD (k+v.length) 0) (xs.getD (k+((v.length:Int)-1).toNat) 0) (v.getD ((v.length:Int)-1).toNat 0)) 0)):=
 mp (an (show(decide ((0:Int)≤(↑v.length:Int)))=true from decide_eq_true (by omega)) (an (show(decide (v.length<v.length+(1:Nat)))=true from decide_eq_true (by omega)) (an h1 (an h1 (an (sr (AV.raw (Value.int .u64 (List.getD xs (k+v.length) (0:Int))))) (an (fits_i64 h2) (an (decide_eq_true h3) (an (decide_eq_true h4) (an (sr (AV.raw (Value.int .u64 (List.getD v (Int.toNat ((↑v.length:Int)-1)) (0:Int))))) (an (decide_eq_false h5) (an (show(decide ((0:Int)≤(↑v.length:Int)))=true from decide_eq_true (by omega)) (an (show(decide (v.length<v.length+(1:Nat)))=true from decide_eq_true (by omega)) (an h1 (an h1 (an (sr (AV.raw (Value.int .u64 (List.getD xs (k+v.length) (0:Int))))) (an (fits_i64 h2) (an (decide_eq_true h3) (an (show(decide (Int.toNat ((↑v.length:Int)-1)<v.length+(1:Nat)))=true from decide_eq_true (by omega)) (an h6 (an h6 (an (sr (AV.raw (Value.int .u64 (List.getD xs (k+Int.toNat ((↑v.length:Int)-1)) (0:Int))))) (an (fits_i64 h2) (an (decide_eq_true h3) (an (decide_eq_true h4) (an (sr (AV.raw (Value.int .u64 (List.getD v (Int.toNat ((↑v.length:Int)-1)) (0:Int))))) (an h7 (an (an (rr k) (an (rr (v.length+(1:Nat))) (rr cap))) (an (rr v) (an (rr ((↑v.length:Int))) (an (rr (div64Q (List.getD xs (k+v.length) (0:Int)) (List.getD xs (k+Int.toNat ((↑v.length:Int)-1)) (0:Int)) (List.getD v (Int.toNat ((↑v.length:Int)-1)) (0:Int)))) (an (rr (div64R (List.getD xs (k+v.length) (0:Int)) (List.getD xs (k+Int.toNat ((↑v.length:Int)-1)) (0:Int)) (List.getD v (Int.toNat ((↑v.length:Int)-1)) (0:Int)))) (an (rr ((0:Int))) (an (rr xs) trivial)))))))))))))))))))))))))))))))))
theorem sl_eqle (xs v:List Int) (k:Nat) (cap:Cap) (q r o:Int) (h1:o=0) (h2: -9223372036854775808≤(↑v.length:Int)-2∧(↑v.length:Int)-2≤9223372036854775807) (h3:(0:Int)≤(↑v.length:Int)-2) (h4:Int.toNat ((↑v.length:Int)-2)<v.length) (h5:(okM q (List.getD v (Int.toNat ((↑v.length:Int)-2)) (0:Int)))=true) (h6:¬mlHi q (List.getD v (Int.toNat ((↑v.length:Int)-2)) (0:Int))<r) (h7:mlHi q (List.getD v (Int.toNat ((↑v.length:Int)-2)) (0:Int))=r) (h8:(ownHas 179 tU (some (ABlk.own 179 (.int .u64) xs)) (k+Int.toNat ((↑v.length:Int)-2)))=true) (h9:mlLo q (List.getD v (Int.toNat ((↑v.length:Int)-2)) (0:Int))≤List.getD xs (k+Int.toNat ((↑v.length:Int)-2)) (0:Int)):
  Tst.path (vall Tryz.prog stCs (fl BStep stL1) (SSa xs v k cap q r o)) [true,true,true,true,true,true,true,true,true,true,true,true,true,true,false,true] (toSt Tryz.prog 186 (.exit 0) s64 (SSa xs v k cap q r o)):=
 mp (an (beq_iff_eq.mpr h1) (an (fits_i64 h2) (an (decide_eq_true h3) (an (decide_eq_true h4) (an h5 (an (bF (decide_eq_false h6)) (an (bF (decide_eq_false h6)) (an (bF (decide_eq_false h6)) (an (bF (decide_eq_false h6)) (an (bT (beq_iff_eq.mpr h7)) (an (bT (beq_iff_eq.mpr h7)) (an (bT (beq_iff_eq.mpr h7)) (an (bT (beq_iff_eq.mpr h7)) (an (fits_i64 h2) (an (bT (beq_iff_eq.mpr h7)) (an (decide_eq_true h3) (an (show(decide (Int.toNat ((↑v.length:Int)-2)<v.length+(1:Nat)))=true from decide_eq_true (by omega)) (an (bT (beq_iff_eq.mpr h7)) (an h8 (an (bT (beq_iff_eq.mpr h7)) (an (bF (decide_eq_false h6)) (an (beq_iff_eq.mpr h7) (an (decide_eq_false h6) (an (decide_eq_true h9) (an (an (rr k) (an (rr (v.length+(1:Nat))) (rr cap))) (an (rr v) (an (rr ((↑v.length:Int))) (an (rr q) (an (rr r) (an (rr o) (an (rr xs) trivial)))))))))))))))))))))))))))))))
theorem sl_eqgt (xs v:List Int) (k:Nat) (cap:Cap) (q r o:Int) (h1:o=0) (h2: -9223372036854775808≤(↑v.length:Int)-2∧(↑v.length:Int)-2≤9223372036854775807) (h3:(0:Int)≤(↑v.length:Int)-2) (h4:Int.toNat ((↑v.length:Int)-2)<v.length) (h5:(okM q (List.getD v (Int.toNat ((↑v.length:Int)-2)) (0:Int)))=true) (h6:¬mlHi q (List.getD v (Int.toNat ((↑v.length:Int)-2)) (0:Int))<r) (h7:mlHi q (List.getD v (Int.toNat ((↑v.length:Int)-2)) (0:Int))=r) (h8:(ownHas 179 tU (some (ABlk.own 179 (.int .u64) xs)) (k+Int.toNat ((↑v.length:Int)-2)))=true) (h9:¬mlLo q (List.getD v (Int.toNat ((↑v.length:Int)-2)) (0:Int))≤List.getD xs (k+Int.toNat ((↑v.length:Int)-2)) (0:Int)) (h10: -9223372036854775808≤(↑v.length:Int)-1∧(↑v.length:Int)-1≤9223372036854775807) (h11:(0:Int)≤(↑v.length:Int)-1) (h12:Int.toNat ((↑v.length:Int)-1)<v.length) (h13:(IntKind.wrap IntKind.u64 (q-1))=(decS q)) (h14:((↑((Int.toNat r+Int.toNat (List.getD v (Int.toNat ((↑v.length:Int)-1)) (0:Int))+Int.toNat (0:Int))%(2:Nat)^(64:Nat)):Int))=(sumD r (List.getD v (Int.toNat ((↑v.length:Int)-1)) (0:Int)) (0:Int))) (h15:((↑((Int.toNat r+Int.toNat (List.getD v (Int.toNat ((↑v.length:Int)-1)) (0:Int))+Int.toNat (0:Int))/(2:Nat)^(64:Nat)):Int))=(carD r (List.getD v (Int.toNat ((↑v.length:Int)-1)) (0:Int)) (0:Int))):
  Tst.path (vall Tryz.prog stCs (fl BStep stL1) (SSa xs v k cap q r o)) [true,true,true,true,true,true,true,true,true,true,true,true,true,true,false,false] (toSt Tryz.prog 186 .normal s64 (SSa xs v k cap (decS q) (sumD r (v.getD ((v.length:Int)-1).toNat 0) 0) (carD r (v.getD ((v.length:Int)-1).toNat 0) 0))):=
 mp (an (beq_iff_eq.mpr h1) (an (fits_i64 h2) (an (decide_eq_true h3) (an (decide_eq_true h4) (an h5 (an (bF (decide_eq_false h6)) (an (bF (decide_eq_false h6)) (an (bF (decide_eq_false h6)) (an (bF (decide_eq_false h6)) (an (bT (beq_iff_eq.mpr h7)) (an (bT (beq_iff_eq.mpr h7)) (an (bT (beq_iff_eq.mpr h7)) (an (bT (beq_iff_eq.mpr h7)) (an (fits_i64 h2) (an (bT (beq_iff_eq.mpr h7)) (an (decide_eq_true h3) (an (show(decide (Int.toNat ((↑v.length:Int)-2)<v.length+(1:Nat)))=true from decide_eq_true (by omega)) (an (bT (beq_iff_eq.mpr h7)) (an h8 (an (bT (beq_iff_eq.mpr h7)) (an (bF (decide_eq_false h6)) (an (beq_iff_eq.mpr h7) (an (decide_eq_false h6) (an (decide_eq_false h9) (an (fits_i64 h10) (an (decide_eq_true h11) (an (decide_eq_true h12) (an (an (rr k) (an (rr (v.length+(1:Nat))) (rr cap))) (an (rr v) (an (rr ((↑v.length:Int))) (an h13 (an h14 (an h15 (an (rr xs) trivial))))))))))))))))))))))))))))))))))
theorem sl_gt (xs v:List Int) (k:Nat) (cap:Cap) (q r o:Int) (h1:o=0) (h2: -9223372036854775808≤(↑v.length:Int)-2∧(↑v.length:Int)-2≤9223372036854775807) (h3:(0:Int)≤(↑v.length:Int)-2) (h4:Int.toNat ((↑v.length:Int)-2)<v.length) (h5:(okM q (List.getD v (Int.toNat ((↑v.length:Int)-2)) (0:Int)))=true) (h6:¬mlHi q (List.getD v (Int.toNat ((↑v.length:Int)-2)) (0:Int))<r) (h7:¬mlHi q (List.getD v (Int.toNat ((↑v.length:Int)-2)) (0:Int))=r) (h8: -9223372036854775808≤(↑v.length:Int)-1∧(↑v.length:Int)-1≤9223372036854775807) (h9:(0:Int)≤(↑v.length:Int)-1) (h10:Int.toNat ((↑v.length:Int)-1)<v.length) (h11:(IntKind.wrap IntKind.u64 (q-1))=(decS q)) (h12:((↑((Int.toNat r+Int.toNat (List.getD v (Int.toNat ((↑v.length:Int)-1)) (0:Int))+Int.toNat (0:Int))%(2:Nat)^(64:Nat)):Int))=(sumD r (List.getD v (Int.toNat ((↑v.length:Int)-1)) (0:Int)) (0:Int))) (h13:((↑((Int.toNat r+Int.toNat (List.getD v (Int.toNat ((↑v.length:Int)-1)) (0:Int))+Int.toNat (0:Int))/(2:Nat)^(64:Nat)):Int))=(carD r (List.getD v (Int.toNat ((↑v.length:Int)-1)) (0:Int)) (0:Int))):
  Tst.path (vall Tryz.prog stCs (fl BStep stL1) (SSa xs v k cap q r o)) [true,true,true,true,true,false,false,false,false,false,false,false,true,false,false,false] (toSt Tryz.prog 186 .normal s64 (SSa xs v k cap (decS q) (sumD r (v.getD ((v.length:Int)-1).toNat 0) 0) (carD r (v.getD ((v.length:Int)-1).toNat 0) 0))):=
 mp (an (beq_iff_eq.mpr h1) (an (fits_i64 h2) (an (decide_eq_true h3) (an (decide_eq_true h4) (an h5 (an (bF (decide_eq_false h6)) (an (bF (decide_eq_false h6)) (an (bF (decide_eq_false h6)) (an (bF (decide_eq_false h6)) (an (bT (beq_eq_false_iff_ne.mpr h7)) (an (bT (beq_eq_false_iff_ne.mpr h7)) (an (bT (beq_eq_false_iff_ne.mpr h7)) (an (bT (beq_eq_false_iff_ne.mpr h7)) (an (bT (beq_eq_false_iff_ne.mpr h7)) (an (bT (beq_eq_false_iff_ne.mpr h7)) (an (bT (beq_eq_false_iff_ne.mpr h7)) (an (bF (decide_eq_false h6)) (an (beq_eq_false_iff_ne.mpr h7) (an (decide_eq_false h6) (an rf (an (fits_i64 h8) (an (decide_eq_true h9) (an (decide_eq_true h10) (an (an (rr k) (an (rr (v.length+(1:Nat))) (rr cap))) (an (rr v) (an (rr ((↑v.length:Int))) (an h11 (an h12 (an h13 (an (rr xs) trivial))))))))))))))))))))))))))))))
theorem sl_lt (xs v:List Int) (k:Nat) (cap:Cap) (q r o:Int) (h1:o=0) (h2: -9223372036854775808≤(↑v.length:Int)-2∧(↑v.length:Int)-2≤9223372036854775807) (h3:(0:Int)≤(↑v.length:Int)-2) (h4:Int.toNat ((↑v.length:Int)-2)<v.length) (h5:(okM q (List.getD v (Int.toNat ((↑v.length:Int)-2)) (0:Int)))=true) (h6:mlHi q (List.getD v (Int.toNat ((↑v.length:Int)-2)) (0:Int))<r):
  Tst.path (vall Tryz.prog stCs (fl BStep stL1) (SSa xs v k cap q r o)) [true,false,false,false,false,false,true,true] (toSt Tryz.prog 186 (.exit 0) s64 (SSa xs v k cap q r o)):=
 mp (an (beq_iff_eq.mpr h1) (an (fits_i64 h2) (an (decide_eq_true h3) (an (decide_eq_true h4) (an h5 (an (bF (decide_eq_true h6)) (an (bF (decide_eq_true h6)) (an (bF (decide_eq_true h6)) (an (bF (decide_eq_true h6)) (an (bF (decide_eq_true h6)) (an (decide_eq_true h6) (an rt (an (an (rr k) (an (rr (v.length+(1:Nat))) (rr cap))) (an (rr v) (an (rr ((↑v.length:Int))) (an (rr q) (an (rr r) (an (rr o) (an (rr xs) trivial)))))))))))))))))))
theorem sl_over (xs v:List Int) (k:Nat) (cap:Cap) (q r o:Int) (h1:¬o=0):
  Tst.path (vall Tryz.prog stCs (fl BStep stL1) (SSa xs v k cap q r o)) [false] (toSt Tryz.prog 186 (.exit 0) s64 (SSa xs v k cap q r o)):=
 mp (an (beq_eq_false_iff_ne.mpr h1) (an (an (rr k) (an (rr (v.length+(1:Nat))) (rr cap))) (an (rr v) (an (rr ((↑v.length:Int))) (an (rr q) (an (rr r) (an (rr o) (an (rr xs) trivial))))))))
theorem sc_start (xs v:List Int) (k:Nat) (cap:Cap) (q r o:Int):
  Tst.path (vrun Tryz.prog stCs (List.drop 7 (fl BStep [])) 2 (SSa xs v k cap q r o)) [] (toSt Tryz.prog 186 .normal s64 (SSc xs v k cap q 0 0 0)):=
 mp (an (an (rr k) (an (rr (v.length+(1:Nat))) (rr cap))) (an (rr v) (an (rr ((↑v.length:Int))) (an (rr q) (an (rr ((0:Int))) (an (rr ((0:Int))) (an (rr ((↑v.length:Int))) (an (rr ((0:Int))) (an (rr xs) trivial)))))))))
theorem sc_0 (xs v:List Int) (k:Nat) (cap:Cap) (q c:Int) (i:Nat) (h1:(↑i:Int)<(↑v.length:Int)) (h2:i<v.length) (h3:(okM q (List.getD v i (0:Int)))=true) (h4:i<v.length+(1:Nat)) (h5:(ownHas 179 tU (some (ABlk.own 179 (.int .u64) xs)) (k+i))=true) (h6: -9223372036854775808≤(↑i:Int)+1∧(↑i:Int)+1≤9223372036854775807) (h7:((↑(if Int.toNat (List.getD xs (k+i) (0:Int))<(Int.toNat (mlLo q (List.getD v i (0:Int)))+Int.toNat c+Int.toNat (0:Int))%(2:Nat)^(64:Nat)+Int.toNat (0:Int)then(1:Nat)else(0:Nat)):Int))=(borD (List.getD xs (k+i) (0:Int)) (loS q (List.getD v i (0:Int)) c) (0:Int))) (h8:(IntKind.wrap IntKind.u64 (mlHi q (List.getD v i (0:Int))+(↑((Int.toNat (mlLo q (List.getD v i (0:Int)))+Int.toNat c+Int.toNat (0:Int))/(2:Nat)^(64:Nat)):Int)))=(hiS q (List.getD v i (0:Int)) c)) (h9:(List.set xs (k+i) (↑((Int.toNat (List.getD xs (k+i) (0:Int))+(2:Nat)^(64:Nat)-(Int.toNat (mlLo q (List.getD v i (0:Int)))+Int.toNat c+Int.toNat (0:Int))%(2:Nat)^(64:Nat)-Int.toNat (0:Int))%(2:Nat)^(64:Nat)):Int))=(List.set xs (k+i) (difD (List.getD xs (k+i) (0:Int)) (loS q (List.getD v i (0:Int)) c) (0:Int)))):
  Tst.path (vall Tryz.prog stCs (fl BStep stL2) (SSc xs v k cap q c 0 i)) [true] (toSt Tryz.prog 186 .normal s64 (SSc (xs.set (k+i) (difD (xs.getD (k+i) 0) (loS q (v.getD i 0) c) 0)) v k cap q (hiS q (v.getD i 0) c) (borD (xs.getD (k+i) 0) (loS q (v.getD i 0) c) 0) (i+1))):=
 mp (an (decide_eq_true h1) (an (show(decide ((0:Int)≤(↑i:Int)))=true from decide_eq_true (by omega)) (an (decide_eq_true h2) (an h3 (an (show(decide ((0:Int)≤(↑i:Int)))=true from decide_eq_true (by omega)) (an (decide_eq_true h4) (an h5 (an (show(decide ((0:Int)≤(↑i:Int)))=true from decide_eq_true (by omega)) (an (decide_eq_true h4) (an h5 (an (fits_i64 h6) (an (an (rr k) (an (rr (v.length+(1:Nat))) (rr cap))) (an (rr v) (an (rr ((↑v.length:Int))) (an (rr q) (an h7 (an h8 (an (rr ((↑v.length:Int))) (an (show((↑i:Int)+1)=((↑(i+(1:Nat)):Int))from(by omega)) (an h9 trivial))))))))))))))))))))
theorem sf_0 (xs v:List Int) (k:Nat) (cap:Cap) (q c:Int) (i:Nat) (h1:(ownHas 179 tU (some (ABlk.own 179 (.int .u64) xs)) (k+v.length))=true) (h2:((↑(if Int.toNat (List.getD xs (k+v.length) (0:Int))<Int.toNat c+Int.toNat (0:Int)then(1:Nat)else(0:Nat)):Int))=(borD (List.getD xs (k+v.length) (0:Int)) c (0:Int))) (h3:(List.set xs (k+v.length) (↑((Int.toNat (List.getD xs (k+v.length) (0:Int))+(2:Nat)^(64:Nat)-Int.toNat c-Int.toNat (0:Int))%(2:Nat)^(64:Nat)):Int))=(List.set xs (k+v.length) (difD (List.getD xs (k+v.length) (0:Int)) c (0:Int)))):
  Tst.path (vrun Tryz.prog stCs (List.drop 10 (fl BStep [])) 1 (SSc xs v k cap q c 0 i)) [] (toSt Tryz.prog 186 .normal s64 (SSe (xs.set (k+v.length) (difD (xs.getD (k+v.length) 0) c 0)) v k cap q (borD (xs.getD (k+v.length) 0) c 0))):=
 mp (an (show(decide ((0:Int)≤(↑v.length:Int)))=true from decide_eq_true (by omega)) (an (show(decide (v.length<v.length+(1:Nat)))=true from decide_eq_true (by omega)) (an h1 (an (show(decide ((0:Int)≤(↑v.length:Int)))=true from decide_eq_true (by omega)) (an (show(decide (v.length<v.length+(1:Nat)))=true from decide_eq_true (by omega)) (an h1 (an (an (rr k) (an (rr (v.length+(1:Nat))) (rr cap))) (an (rr v) (an (rr ((↑v.length:Int))) (an (rr q) (an h2 (an h3 trivial))))))))))))
theorem sd_0 (xs v:List Int) (k:Nat) (cap:Cap) (q:Int) (i:Nat) (h1:(↑i:Int)<(↑v.length:Int)) (h2:i<v.length+(1:Nat)) (h3:(ownHas 179 tU (some (ABlk.own 179 (.int .u64) xs)) (k+i))=true) (h4:i<v.length) (h5: -9223372036854775808≤(↑i:Int)+1∧(↑i:Int)+1≤9223372036854775807) (h6:((↑((Int.toNat (List.getD xs (k+i) (0:Int))+Int.toNat (List.getD v i (0:Int))+Int.toNat (0:Int))/(2:Nat)^(64:Nat)):Int))=(carD (List.getD xs (k+i) (0:Int)) (List.getD v i (0:Int)) (0:Int))) (h7:(List.set xs (k+i) (↑((Int.toNat (List.getD xs (k+i) (0:Int))+Int.toNat (List.getD v i (0:Int))+Int.toNat (0:Int))%(2:Nat)^(64:Nat)):Int))=(List.set xs (k+i) (sumD (List.getD xs (k+i) (0:Int)) (List.getD v i (0:Int)) (0:Int)))):
  Tst.path (vall Tryz.prog stCs (fl BStep stL3) (SSd xs v k cap q 0 i)) [true] (toSt Tryz.prog 186 .normal s64 (SSd (xs.set (k+i) (sumD (xs.getD (k+i) 0) (v.getD i 0) 0)) v k cap q (carD (xs.getD (k+i) 0) (v.getD i 0) 0) (i+1))):=
 mp (an (decide_eq_true h1) (an (show(decide ((0:Int)≤(↑i:Int)))=true from decide_eq_true (by omega)) (an (decide_eq_true h2) (an h3 (an h3 (an (sr (AV.raw (Value.int .u64 (List.getD xs (k+i) (0:Int))))) (an (show(decide ((0:Int)≤(↑i:Int)))=true from decide_eq_true (by omega)) (an (decide_eq_true h4) (an (sr (AV.raw (Value.int .u64 (List.getD v i (0:Int))))) (an (show(decide ((0:Int)≤(↑i:Int)))=true from decide_eq_true (by omega)) (an (decide_eq_true h2) (an h3 (an (fits_i64 h5) (an (an (rr k) (an (rr (v.length+(1:Nat))) (rr cap))) (an (rr v) (an (rr ((↑v.length:Int))) (an (rr q) (an h6 (an (rr ((↑v.length:Int))) (an (show((↑i:Int)+1)=((↑(i+(1:Nat)):Int))from(by omega)) (an h7 trivial)))))))))))))))))))))
theorem sc_1 (xs v:List Int) (k:Nat) (cap:Cap) (q c:Int) (i:Nat) (h1:(↑i:Int)<(↑v.length:Int)) (h2:i<v.length) (h3:(okM q (List.getD v i (0:Int)))=true) (h4:i<v.length+(1:Nat)) (h5:(ownHas 179 tU (some (ABlk.own 179 (.int .u64) xs)) (k+i))=true) (h6: -9223372036854775808≤(↑i:Int)+1∧(↑i:Int)+1≤9223372036854775807) (h7:((↑(if Int.toNat (List.getD xs (k+i) (0:Int))<(Int.toNat (mlLo q (List.getD v i (0:Int)))+Int.toNat c+Int.toNat (0:Int))%(2:Nat)^(64:Nat)+Int.toNat (1:Int)then(1:Nat)else(0:Nat)):Int))=(borD (List.getD xs (k+i) (0:Int)) (loS q (List.getD v i (0:Int)) c) (1:Int))) (h8:(IntKind.wrap IntKind.u64 (mlHi q (List.getD v i (0:Int))+(↑((Int.toNat (mlLo q (List.getD v i (0:Int)))+Int.toNat c+Int.toNat (0:Int))/(2:Nat)^(64:Nat)):Int)))=(hiS q (List.getD v i (0:Int)) c)) (h9:(List.set xs (k+i) (↑((Int.toNat (List.getD xs (k+i) (0:Int))+(2:Nat)^(64:Nat)-(Int.toNat (mlLo q (List.getD v i (0:Int)))+Int.toNat c+Int.toNat (0:Int))%(2:Nat)^(64:Nat)-Int.toNat (1:Int))%(2:Nat)^(64:Nat)):Int))=(List.set xs (k+i) (difD (List.getD xs (k+i) (0:Int)) (loS q (List.getD v i (0:Int)) c) (1:Int)))):
  Tst.path (vall Tryz.prog stCs (fl BStep stL2) (SSc xs v k cap q c 1 i)) [true] (toSt Tryz.prog 186 .normal s64 (SSc (xs.set (k+i) (difD (xs.getD (k+i) 0) (loS q (v.getD i 0) c) 1)) v k cap q (hiS q (v.getD i 0) c) (borD (xs.getD (k+i) 0) (loS q (v.getD i 0) c) 1) (i+1))):=
 mp (an (decide_eq_true h1) (an (show(decide ((0:Int)≤(↑i:Int)))=true from decide_eq_true (by omega)) (an (decide_eq_true h2) (an h3 (an (show(decide ((0:Int)≤(↑i:Int)))=true from decide_eq_true (by omega)) (an (decide_eq_true h4) (an h5 (an (show(decide ((0:Int)≤(↑i:Int)))=true from decide_eq_true (by omega)) (an (decide_eq_true h4) (an h5 (an (fits_i64 h6) (an (an (rr k) (an (rr (v.length+(1:Nat))) (rr cap))) (an (rr v) (an (rr ((↑v.length:Int))) (an (rr q) (an h7 (an h8 (an (rr ((↑v.length:Int))) (an (show((↑i:Int)+1)=((↑(i+(1:Nat)):Int))from(by omega)) (an h9 trivial))))))))))))))))))))
theorem sf_1 (xs v:List Int) (k:Nat) (cap:Cap) (q c:Int) (i:Nat) (h1:(ownHas 179 tU (some (ABlk.own 179 (.int .u64) xs)) (k+v.length))=true) (h2:((↑(if Int.toNat (List.getD xs (k+v.length) (0:Int))<Int.toNat c+Int.toNat (1:Int)then(1:Nat)else(0:Nat)):Int))=(borD (List.getD xs (k+v.length) (0:Int)) c (1:Int))) (h3:(List.set xs (k+v.length) (↑((Int.toNat (List.getD xs (k+v.length) (0:Int))+(2:Nat)^(64:Nat)-Int.toNat c-Int.toNat (1:Int))%(2:Nat)^(64:Nat)):Int))=(List.set xs (k+v.length) (difD (List.getD xs (k+v.length) (0:Int)) c (1:Int)))):
  Tst.path (vrun Tryz.prog stCs (List.drop 10 (fl BStep [])) 1 (SSc xs v k cap q c 1 i)) [] (toSt Tryz.prog 186 .normal s64 (SSe (xs.set (k+v.length) (difD (xs.getD (k+v.length) 0) c 1)) v k cap q (borD (xs.getD (k+v.length) 0) c 1))):=
 mp (an (show(decide ((0:Int)≤(↑v.length:Int)))=true from decide_eq_true (by omega)) (an (show(decide (v.length<v.length+(1:Nat)))=true from decide_eq_true (by omega)) (an h1 (an (show(decide ((0:Int)≤(↑v.length:Int)))=true from decide_eq_true (by omega)) (an (show(decide (v.length<v.length+(1:Nat)))=true from decide_eq_true (by omega)) (an h1 (an (an (rr k) (an (rr (v.length+(1:Nat))) (rr cap))) (an (rr v) (an (rr ((↑v.length:Int))) (an (rr q) (an h2 (an h3 trivial))))))))))))
theorem sd_1 (xs v:List Int) (k:Nat) (cap:Cap) (q:Int) (i:Nat) (h1:(↑i:Int)<(↑v.length:Int)) (h2:i<v.length+(1:Nat)) (h3:(ownHas 179 tU (some (ABlk.own 179 (.int .u64) xs)) (k+i))=true) (h4:i<v.length) (h5: -9223372036854775808≤(↑i:Int)+1∧(↑i:Int)+1≤9223372036854775807) (h6:((↑((Int.toNat (List.getD xs (k+i) (0:Int))+Int.toNat (List.getD v i (0:Int))+Int.toNat (1:Int))/(2:Nat)^(64:Nat)):Int))=(carD (List.getD xs (k+i) (0:Int)) (List.getD v i (0:Int)) (1:Int))) (h7:(List.set xs (k+i) (↑((Int.toNat (List.getD xs (k+i) (0:Int))+Int.toNat (List.getD v i (0:Int))+Int.toNat (1:Int))%(2:Nat)^(64:Nat)):Int))=(List.set xs (k+i) (sumD (List.getD xs (k+i) (0:Int)) (List.getD v i (0:Int)) (1:Int)))):
  Tst.path (vall Tryz.prog stCs (fl BStep stL3) (SSd xs v k cap q 1 i)) [true] (toSt Tryz.prog 186 .normal s64 (SSd (xs.set (k+i) (sumD (xs.getD (k+i) 0) (v.getD i 0) 1)) v k cap q (carD (xs.getD (k+i) 0) (v.getD i 0) 1) (i+1))):=
 mp (an (decide_eq_true h1) (an (show(decide ((0:Int)≤(↑i:Int)))=true from decide_eq_true (by omega)) (an (decide_eq_true h2) (an h3 (an h3 (an (sr (AV.raw (Value.int .u64 (List.getD xs (k+i) (0:Int))))) (an (show(decide ((0:Int)≤(↑i:Int)))=true from decide_eq_true (by omega)) (an (decide_eq_true h4) (an (sr (AV.raw (Value.int .u64 (List.getD v i (0:Int))))) (an (show(decide ((0:Int)≤(↑i:Int)))=true from decide_eq_true (by omega)) (an (decide_eq_true h2) (an h3 (an (fits_i64 h5) (an (an (rr k) (an (rr (v.length+(1:Nat))) (rr cap))) (an (rr v) (an (rr ((↑v.length:Int))) (an (rr q) (an h6 (an (rr ((↑v.length:Int))) (an (show((↑i:Int)+1)=((↑(i+(1:Nat)):Int))from(by omega)) (an h7 trivial)))))))))))))))))))))
theorem sc_end (xs v:List Int) (k:Nat) (cap:Cap) (q c b:Int) (i:Nat) (h1:¬(↑i:Int)<(↑v.length:Int)):
  Tst.path (vall Tryz.prog stCs (fl BStep stL2) (SSc xs v k cap q c b i)) [false] (toSt Tryz.prog 186 (.exit 2) s64 (SSc xs v k cap q c b i)):=
 mp (an (decide_eq_false h1) (an (an (rr k) (an (rr (v.length+(1:Nat))) (rr cap))) (an (rr v) (an (rr ((↑v.length:Int))) (an (rr q) (an (rr b) (an (rr c) (an (rr ((↑v.length:Int))) (an (rr ((↑i:Int))) (an (rr xs) trivial))))))))))
theorem se_ret (xs v:List Int) (k:Nat) (cap:Cap) (q b:Int) (h1:b=0):
  Tst.path (vall Tryz.prog stCs (List.drop 11 (fl BStep [])) (SSe xs v k cap q b)) [true] (toRetE Tryz.prog Tryz.f162 179 tU xs (uv q)):=
 mp (an (beq_iff_eq.mpr h1) (an (rr q) (rr xs)))
theorem se_go (xs v:List Int) (k:Nat) (cap:Cap) (q b:Int) (h1:¬b=0):
  Tst.path (vrun Tryz.prog stCs (List.drop 11 (fl BStep [])) 4 (SSe xs v k cap q b)) [false] (toSt Tryz.prog 186 .normal s64 (SSd xs v k cap q 0 0)):=
 mp (an (beq_eq_false_iff_ne.mpr h1) (an (an (rr k) (an (rr (v.length+(1:Nat))) (rr cap))) (an (rr v) (an (rr ((↑v.length:Int))) (an (rr q) (an (rr ((0:Int))) (an (rr ((↑v.length:Int))) (an (rr ((0:Int))) (an (rr xs) trivial)))))))))
theorem sd_end (xs v:List Int) (k:Nat) (cap:Cap) (q c:Int) (i:Nat) (h1:¬(↑i:Int)<(↑v.length:Int)):
  Tst.path (vall Tryz.prog stCs (fl BStep stL3) (SSd xs v k cap q c i)) [false] (toSt Tryz.prog 186 (.exit 4) s64 (SSd xs v k cap q c i)):=
 mp (an (decide_eq_false h1) (an (an (rr k) (an (rr (v.length+(1:Nat))) (rr cap))) (an (rr v) (an (rr ((↑v.length:Int))) (an (rr q) (an (rr c) (an (rr ((↑v.length:Int))) (an (rr ((↑i:Int))) (an (rr xs) trivial)))))))))
theorem sd_ret (xs v:List Int) (k:Nat) (cap:Cap) (q c:Int) (i:Nat) (h1:(ownHas 179 tU (some (ABlk.own 179 (.int .u64) xs)) (k+v.length))=true) (h2:(IntKind.wrap IntKind.u64 (q-1))=(decS q)):
  Tst.path (vall Tryz.prog stCs (List.drop 16 (fl BStep [])) (SSd xs v k cap q c i)) [] (toRetE Tryz.prog Tryz.f162 179 tU (xs.set (k+v.length) (IntKind.wrap .u64 (xs.getD (k+v.length) 0+c))) (uv (decS q))):=
 mp (an (show(decide ((0:Int)≤(↑v.length:Int)))=true from decide_eq_true (by omega)) (an (show(decide (v.length<v.length+(1:Nat)))=true from decide_eq_true (by omega)) (an h1 (an (show(decide ((0:Int)≤(↑v.length:Int)))=true from decide_eq_true (by omega)) (an (show(decide (v.length<v.length+(1:Nat)))=true from decide_eq_true (by omega)) (an h1 (an h2 (rr (List.set xs (k+v.length) (IntKind.wrap IntKind.u64 (List.getD xs (k+v.length) (0:Int)+c)))))))))))
def winW (xs:List Int) (k len:Nat):List Int:=(xs.drop k).take len
def stQ (xs:List Int) (k len:Nat) (v:List Int):Int:=vw (winW xs k len)/vw v
def stOut (xs:List Int) (k len:Nat) (v:List Int):List Int:=xs.take k++(padD 18446744073709551616 len (vw (winW xs k len)%vw v)++xs.drop (k+len))
def stPre (xs:List Int) (k len:Nat) (v:List Int):Bool:=dgB xs&&(dgB v&&(decide (2≤v.length)&&(Nat.beq len (v.length+1)&&(decide (v.length≤1000000)&&(decide (9223372036854775808≤v.getD (v.length-1) 0)&&decide (vw (winW xs k len)<18446744073709551616*vw v))))))
noncomputable def eStep:ECtr:={f:=162,e:=179,t:=tU,ps:=[.list false tU],rs:=[tU],pre:=fun xs k len d=>stPre xs k len d.1,out:=fun xs k len d=>stOut xs k len d.1,fn:=fun xs k len d=>(stQ xs k len d.1,())}
theorem get_mid {p u s:List Int} {i:Nat} (hi:i<u.length):(p++(u++s)).getD (p.length+i) 0=u.getD i 0:=by
 simp only [List.getD_eq_getElem?_getD]
 rw [List.getElem?_append_right (by omega),Nat.add_sub_cancel_left,List.getElem?_append_left hi]
theorem set_mid {p u s:List Int} {i:Nat} {x:Int} (hi:i<u.length):(p++(u++s)).set (p.length+i) x=p++(u.set i x++s):=by
 rw [List.set_append_right _ _ (by omega),Nat.add_sub_cancel_left,List.set_append_left _ _ hi]
theorem own_mid {p u s:List Int} {i:Nat} (hi:i<u.length):ownHas 179 tU (some (.own 179 tU (p++(u++s)))) (p.length+i)=true:=by
 rw [ownHas_own]
 exact decide_eq_true (by rw [List.length_append,List.length_append];omega)
theorem GoalL.retE' {X:Ext} {P:Program} {w0:World} {F:Sv.Env} {n:Nat} {T:Tr AV} {H:AHeap} {Q:Exit→Tr AV→AHeap→Prop} (hK:Known P) (hm:P.follows .mixedOrders=true) {SV:VCaller} (hS:CallOk P (gS SV)) {l:List Code} {fn:Func} {e:TypeId} {t:Ty} {xs:List t.den} {res:AV} (k:Nat) (D:List Bool) (h:(Sv.vlist P SV n (l.take k) T H).path D (toRetE P fn e t xs res))
  (hq:∀T H,retE P fn e t xs res .ret T H→Q .ret T H):GoalLX X P w0 F n l T H Q:=by
 obtain⟨r,h1,h2⟩:=Tst.path_gr _ _ h
 have key:GoalLX X P w0 F n (l.take k) T H (onN (fun T H=>GoalLX X P w0 F n (l.drop k) T H Q) Q):=by
  refine GoalL.vlist hK hm hS (Q1:=toRetE P fn e t xs res) (fun r hr=> ?_) h1 h2
  unfold toRetE at hr
  split at hr
  ·refine hq _ _ ?_
   rename_i T' H'
   show(match aresults P fn T' H' with | .ok v _=>frz true H' v res∧H'.get 64=some (.own e t xs)|_=>False)
   split at hr
   ·obtain⟨g1,g2⟩:=hr
    refine⟨g1, ?_⟩
    split at g2
    ·rename_i hg
     obtain⟨k1,k2⟩:=chk_and g2
     obtain⟨e1,rfl⟩:=eqD_ok k2
     subst e1
     rw [hg,Nat.eq_of_beq_eq_true k1]
    ·exact g2.elim
   ·exact hr.elim
  ·exact hr.elim
 have:=GoalL.split key
 rwa [List.take_append_drop]at this
theorem st_ok:CallOk Tryz.prog (gS stCs):=ctrs_ok fun c hc=>by
 simp only [List.mem_cons,List.not_mem_nil,or_false]at hc
 rcases hc with rfl |rfl
 ·exact cMul64_ok
 ·exact cDiv64_ok
theorem mul_hl {q x:Int}:mlHi q x*18446744073709551616+mlLo q x=q*x:=by
 unfold mlHi mlLo
 have:=Int.emod_add_mul_ediv (q*x) 18446744073709551616
 omega
theorem mul_hl_dg {q x:Int} (hq:0≤q∧q<18446744073709551616) (hx:0≤x∧x<18446744073709551616):(0≤mlHi q x∧mlHi q x<18446744073709551616)∧(0≤mlLo q x∧mlLo q x<18446744073709551616):=by
 have h0:0≤q*x:=Int.mul_nonneg hq.1 hx.1
 have h1:q*x≤18446744073709551615*18446744073709551615:=Int.mul_le_mul (by omega) (by omega) hx.1 (by decide)
 unfold mlHi mlLo
 omega
theorem hl_law {q x c:Int} (hq:0≤q∧q<18446744073709551616) (hx:0≤x∧x<18446744073709551616) (hc:0≤c∧c<18446744073709551616):
  hiS q x c*18446744073709551616+loS q x c=q*x+c∧(0≤loS q x c∧loS q x c<18446744073709551616)∧(0≤hiS q x c∧hiS q x c<18446744073709551616):=by
 have h0:0≤q*x:=Int.mul_nonneg hq.1 hx.1
 have h1:q*x≤18446744073709551615*18446744073709551615:=Int.mul_le_mul (by omega) (by omega) hx.1 (by decide)
 obtain⟨_,hlo⟩:=mul_hl_dg hq hx
 have hs:=mul_hl (q:=q) (x:=x)
 have hA:sumD (mlLo q x) c 0+18446744073709551616*carD (mlLo q x) c 0=mlLo q x+c∧(0≤sumD (mlLo q x) c 0∧sumD (mlLo q x) c 0<18446744073709551616)∧(carD (mlLo q x) c 0=0∨carD (mlLo q x) c 0=1):=by
  have:=sum_car hlo hc (.inl rfl)
  omega
 unfold hiS loS
 rw [wrapU (x:=mlHi q x+carD (mlLo q x) c 0) (by omega)]
 omega
structure GG (V U q:Int):Prop where
 rng:0≤q∧q<18446744073709551616
 hi:U/V≤q
 lo:(q-1)*V≤U
structure CI (v u0:List Int) (q:Int) (u:List Int) (c b:Int) (i:Nat):Prop where
 le:i≤v.length
 len:u.length=v.length+1
 dg:Dg 18446744073709551616 u
 hc:0≤c∧c<18446744073709551616
 hb:b=0∨b=1
 same:∀j,i≤j→u.getD j 0=u0.getD j 0
 val:vw (u.take i)-18446744073709551616^i*b=vw (u0.take i)-q*vw (v.take i)+18446744073709551616^i*c
theorem CI.next {v u0 u:List Int} {q c b:Int} {i:Nat} (I:CI v u0 q u c b i) (hv:Dg 18446744073709551616 v) (hq:0≤q∧q<18446744073709551616) (hi:i<v.length):
  CI v u0 q (u.set i (difD (u.getD i 0) (loS q (v.getD i 0) c) b)) (hiS q (v.getD i 0) c) (borD (u.getD i 0) (loS q (v.getD i 0) c) b) (i+1):=by
 have hvi:=hv.get (by decide) i
 have hui:=I.dg.get (by decide) i
 obtain⟨h1,h2,h3⟩:=hl_law hq hvi I.hc
 obtain⟨g1,g2,g3⟩:=dif_bor hui h2 I.hb
 have hlen:=I.len
 refine⟨hi,by rw [List.length_set];exact hlen,I.dg.set g2,h3,g3,fun j hj=> ?_, ?_⟩
 ·rw [set_get,if_neg (by omega)];exact I.same j (by omega)
 ·have hval:=I.val
  unfold vw at hval ⊢
  rw [vl_set_next (by omega),vl_take' u0,vl_take' v,Int.pow_succ,←I.same i (Nat.le_refl _)]
  exact mulsub_next h1 g1 hval
structure DI (v u0:List Int) (u:List Int) (c:Int) (i:Nat):Prop where
 le:i≤v.length
 len:u.length=v.length+1
 dg:Dg 18446744073709551616 u
 hc:c=0∨c=1
 same:∀j,i≤j→u.getD j 0=u0.getD j 0
 val:vw (u.take i)+18446744073709551616^i*c=vw (u0.take i)+vw (v.take i)
theorem DI.next {v u0 u:List Int} {c:Int} {i:Nat} (I:DI v u0 u c i) (hv:Dg 18446744073709551616 v) (hi:i<v.length):
  DI v u0 (u.set i (sumD (u.getD i 0) (v.getD i 0) c)) (carD (u.getD i 0) (v.getD i 0) c) (i+1):=by
 have hvi:=hv.get (by decide) i
 have hui:=I.dg.get (by decide) i
 obtain⟨g1,g2,g3⟩:=sum_car hui hvi I.hc
 have hlen:=I.len
 refine⟨hi,by rw [List.length_set];exact hlen,I.dg.set g2,g3,fun j hj=> ?_, ?_⟩
 ·rw [set_get,if_neg (by omega)];exact I.same j (by omega)
 ·have hval:=I.val
  unfold vw at hval ⊢
  rw [vl_set_next (by omega),vl_take' u0,vl_take' v,Int.pow_succ,←I.same i (Nat.le_refl _)]
  exact add_next g1 hval
section
variable {v u0 p s:List Int} {m:Nat} {q:Int}
theorem Dg.of_len {u:List Int} {n:Nat} (h:Dg 18446744073709551616 u) (hl:u.length=n+1):u=padD 18446744073709551616 (n+1) (vw u):=by
 have:=pad_eq (b:=18446744073709551616) (by decide) h
 rw [hl]at this;exact this
theorem vw_last {u:List Int} {n:Nat} (hl:u.length=n+1):vw u=vw (u.take n)+18446744073709551616^n*u.getD n 0:=by
 have:=vl_take (b:=18446744073709551616) (l:=u) (k:=n) (by omega)
 rw [List.take_of_length_le (by omega)]at this
 exact this
theorem CI.fin {u:List Int} {c b:Int} (I:CI v u0 q u c b v.length) (hlu:u0.length=v.length+1):
  vw (u.set v.length (difD (u.getD v.length 0) c b))-18446744073709551616^(v.length+1)*borD (u.getD v.length 0) c b=vw u0-q*vw v∧Dg 18446744073709551616 (u.set v.length (difD (u.getD v.length 0) c b))∧(borD (u.getD v.length 0) c b=0∨borD (u.getD v.length 0) c b=1)∧(u.set v.length (difD (u.getD v.length 0) c b)).length=v.length+1:=by
 have hui:=I.dg.get (by decide) v.length
 obtain⟨g1,g2,g3⟩:=dif_bor hui I.hc I.hb
 have hlen:=I.len
 refine⟨?_,I.dg.set g2,g3,by rw [List.length_set];exact hlen⟩
 have hval:=I.val
 rw [List.take_length]at hval
 rw [vw_last (n:=v.length) (by rw [List.length_set];exact hlen),set_take,set_at (by omega),vw_last (u:=u0) hlu,←I.same v.length (Nat.le_refl _),Int.pow_succ]
 generalize vw (u.take v.length)=a at*
 generalize vw (u0.take v.length)=a0 at*
 generalize difD (u.getD v.length 0) c b=d at*
 generalize borD (u.getD v.length 0) c b=bb at*
 generalize u.getD v.length 0=un at*
 generalize (18446744073709551616:Int)^v.length=P at*
 generalize q*vw v=qV at*
 have:P*(d-18446744073709551616*bb)=P*(un-c-b):=by rw [g1]
 grind
theorem fin_ok {U V:Int} (hV:0<V) (G:GG V U q) (h:0≤U-q*V):U/V=q∧U%V=U-q*V:=by
 have h1:q≤U/V:=(Int.le_ediv_iff_mul_le hV).2 (by omega)
 have h2:=G.hi
 have e:U/V=q:=by omega
 refine⟨e, ?_⟩
 have:=Int.emod_add_mul_ediv U V
 rw [e,Int.mul_comm]at this
 omega
theorem fin_less {U V:Int} (hV:0<V) (G:GG V U q) (h:U-q*V<0):U/V=q-1∧U%V=U-q*V+V:=by
 have h1:q-1≤U/V:=(Int.le_ediv_iff_mul_le hV).2 G.lo
 have h2:U/V<q:=(Int.ediv_lt_iff_lt_mul hV).2 (by omega)
 have e:U/V=q-1:=by omega
 refine⟨e, ?_⟩
 have:=Int.emod_add_mul_ediv U V
 rw [e,Int.mul_comm,Int.sub_mul,Int.one_mul]at this
 omega
theorem DI.fin {u1 u:List Int} {c:Int} {U R:Int} (I:DI v u1 u c v.length) (hl1:u1.length=v.length+1) (hU:vw u1=U+18446744073709551616^(v.length+1)) (hR:U+vw v=R) (hR0:0≤R) (hR1:R<18446744073709551616^v.length):
  u.set v.length (IntKind.wrap .u64 (u.getD v.length 0+c))=padD 18446744073709551616 (v.length+1) R:=by
 have hui:=I.dg.get (by decide) v.length
 have hlen:=I.len
 have hval:=I.val
 rw [List.take_length]at hval
 rw [vw_last hl1,←I.same v.length (Nat.le_refl _),Int.pow_succ]at hU
 have ht0:=vl_nn (b:=18446744073709551616) (by decide) (I.dg.take v.length)
 have ht1:=vl_lt (b:=18446744073709551616) (by decide) (I.dg.take v.length)
 rw [List.length_take,Nat.min_eq_left (by omega)]at ht1
 have hP:=pow_pos' (b:=18446744073709551616) (by decide) v.length
 have key:u.getD v.length 0+c=18446744073709551616∧vw (u.take v.length)=R:=by
  unfold vw at*
  generalize vl 18446744073709551616 (u.take v.length)=a at*
  generalize vl 18446744073709551616 (u1.take v.length)=a1 at*
  generalize u.getD v.length 0=un at*
  generalize (18446744073709551616:Int)^v.length=P at*
  have e:P*(un+c-18446744073709551616)=R-a:=by grind
  have hz:un+c-18446744073709551616=0:=by
   rcases Int.lt_trichotomy (un+c-18446744073709551616) 0 with h|h|h
   ·have:=Int.mul_le_mul_of_nonneg_left (show un+c-18446744073709551616≤ -1 by omega) (Int.le_of_lt hP)
    omega
   ·exact h
   ·have:=Int.mul_le_mul_of_nonneg_left (show 1≤un+c-18446744073709551616 by omega) (Int.le_of_lt hP)
    omega
  rw [hz,Int.mul_zero]at e
  omega
 rw [key.1]
 have hw:IntKind.wrap .u64 18446744073709551616=0:=by rw [wrapU_mod];rfl
 rw [hw]
 have hd:Dg 18446744073709551616 (u.set v.length 0):=I.dg.set (by decide)
 have:=hd.of_len (n:=v.length) (by rw [List.length_set];exact hlen)
 rw [this]
 congr 1
 rw [vw_last (n:=v.length) (by rw [List.length_set];exact hlen),set_take,set_at (by omega),Int.mul_zero,Int.add_zero]
 exact key.2
end
end
end Go.Proofs.YtccmlbinkgbpgaaGreatDoor
/- Package num: one step of the long division: the walk. -/
namespace Go.Proofs.YtccmlbinkgbpgaaGreatDoor
open Go.RowKit Sv
set_option maxRecDepth 100000
set_option linter.unusedVariables false
noncomputable section
abbrev stEnd (res:List Int) (q:Int):Exit→Tr AV→AHeap→Prop:=retE Tryz.prog Tryz.f162 179 tU res (uv q)
theorem step_tail {v u0 p s:List Int} {q:Int} (hv:Dg 18446744073709551616 v) (hu:Dg 18446744073709551616 u0) (hlu:u0.length=v.length+1) (hvl:v.length≤1000000) (hV:0<vw v) (G:GG (vw v) (vw u0) q)
  (cap:Cap) (r o:Int) (A:Nat→Option (Nat×Nat)) (Y:Nat→Option Obj) (w:World) (F:Sv.Env):
  GoalLX (XE A Y) Tryz.prog w F 186 (List.drop 7 (fl BStep [])) (SSa (p++(u0++s)) v p.length cap q r o).T (SSa (p++(u0++s)) v p.length cap q r o).H (stEnd (p++(padD 18446744073709551616 (v.length+1) (vw u0%vw v)++s)) (vw u0/vw v)):=by
 have hS:=st_ok
 refine GoalL.st (s:=SSa (p++(u0++s)) v p.length cap q r o) known mixed hS 2 _ (sc_start _ v _ cap q r o) (by kernel_rfl) ?_
 refine GoalL.loop (ι:={x:List Int×Int×Int×Nat//CI v u0 q x.1 x.2.1 x.2.2.1 x.2.2.2}) (id:=2) (b:=cat BStep stL2) (rest:=List.drop 10 (fl BStep [])) (by kernel_rfl) (fun x=>SSc (p++(x.1.1++s)) v p.length cap q x.1.2.1 x.1.2.2.1 x.1.2.2.2) (fun x=>v.length-x.1.2.2.2)
  ⟨(u0,0,0,0),⟨Nat.zero_le _,hlu,hu,⟨Int.le_refl 0,show(0:Int)<18446744073709551616 by decide⟩, .inl rfl,fun _ _=>rfl,by simp [vw,vl]⟩⟩ (fun _=>rfl) ?_
 rintro⟨⟨u,c,b,i⟩,I⟩
 have I:CI v u0 q u c b i:=I
 have hlen:=I.len
 by_cases hi:i<v.length
 ·have N:=I.next hv G.rng hi
  have hvi:=hv.get (by decide) i
  have fin:∃j:{x:List Int×Int×Int×Nat//CI v u0 q x.1 x.2.1 x.2.2.1 x.2.2.2},v.length-j.1.2.2.2<v.length-i∧
    (SSc ((p++(u++s)).set (p.length+i) (difD ((p++(u++s)).getD (p.length+i) 0) (loS q (v.getD i 0) c) b)) v p.length cap q (hiS q (v.getD i 0) c) (borD ((p++(u++s)).getD (p.length+i) 0) (loS q (v.getD i 0) c) b) (i+1)).T=(SSc (p++(j.1.1++s)) v p.length cap q j.1.2.1 j.1.2.2.1 j.1.2.2.2).T∧
    (SSc ((p++(u++s)).set (p.length+i) (difD ((p++(u++s)).getD (p.length+i) 0) (loS q (v.getD i 0) c) b)) v p.length cap q (hiS q (v.getD i 0) c) (borD ((p++(u++s)).getD (p.length+i) 0) (loS q (v.getD i 0) c) b) (i+1)).H=(SSc (p++(j.1.1++s)) v p.length cap q j.1.2.1 j.1.2.2.1 j.1.2.2.2).H:=by
   rw [get_mid (p:=p) (s:=s) (show i<u.length by omega),set_mid (p:=p) (s:=s) (show i<u.length by omega)]
   exact⟨⟨(_,_,_,i+1),N⟩,by simp;omega,rfl,rfl⟩
  have ho:ownHas 179 tU (some (.own 179 tU (p++(u++s)))) (p.length+i)=true:=own_mid (by omega)
  have hm:=okM_iff.2 ⟨G.rng,hvi⟩
  rcases I.hb with hb|hb
  ·subst hb
   exact GoalL.all (s:=SSc (p++(u++s)) v p.length cap q c 0 i) known mixed hS _ (sc_0 (p++(u++s)) v p.length cap q c i (by omega) hi hm (by omega) ho (by omega) rfl rfl rfl) (by kernel_rfl) fin
  ·subst hb
   exact GoalL.all (s:=SSc (p++(u++s)) v p.length cap q c 1 i) known mixed hS _ (sc_1 (p++(u++s)) v p.length cap q c i (by omega) hi hm (by omega) ho (by omega) rfl rfl rfl) (by kernel_rfl) fin
 ·refine GoalL.all (s:=SSc (p++(u++s)) v p.length cap q c b i) known mixed hS _ (sc_end _ v _ cap q c b i (by omega)) (by kernel_rfl) ?_
  refine onN_exit (inB_exit ?_)
  have hle:=I.le
  obtain rfl:i=v.length:=by omega
  obtain⟨f1,f2,f3,f4⟩:=I.fin hlu
  have ho:ownHas 179 tU (some (.own 179 tU (p++(u++s)))) (p.length+v.length)=true:=own_mid (by omega)
  -- the rest, from the state with the borrow
  have rest:∀u1 b1,u1=u.set v.length (difD (u.getD v.length 0) c b)→b1=borD (u.getD v.length 0) c b→
    GoalLX (XE A Y) Tryz.prog w F 186 (List.drop 11 (fl BStep [])) (SSe (p++(u1++s)) v p.length cap q b1).T (SSe (p++(u1++s)) v p.length cap q b1).H (stEnd (p++(padD 18446744073709551616 (v.length+1) (vw u0%vw v)++s)) (vw u0/vw v)):=by
   intro u1 b1 e1 e2
   rw [←e1,←e2]at f1
   rw [←e1]at f2 f4
   rw [←e2]at f3
   have hn:=vl_nn (b:=18446744073709551616) (by decide) f2
   have hlt:=vl_lt (b:=18446744073709551616) (by decide) f2
   rw [f4]at hlt
   by_cases hb1:b1=0
   ·have hnn:0≤vw u0-q*vw v:=by
     rw [hb1,Int.mul_zero]at f1
     unfold vw at*;omega
    obtain⟨g1,g2⟩:=fin_ok hV G hnn
    have e3:vw u1=vw u0-q*vw v:=by rw [hb1,Int.mul_zero]at f1;omega
    have e4:=f2.of_len f4
    rw [e3,←g2]at e4
    rw [g1,←e4]
    exact GoalL.retE' known mixed hS 8 _ (se_ret (p++(u1++s)) v p.length cap q b1 hb1) fun T H h=>h
   ·have hb2:b1=1:=f3.resolve_left hb1
    rw [hb2,Int.mul_one]at f1
    have hneg:vw u0-q*vw v<0:=by unfold vw at*;omega
    obtain⟨g1,g2⟩:=fin_less hV G hneg
    have hR0:=Int.emod_nonneg (vw u0) (show vw v≠0 by omega)
    have hR1:=Int.emod_lt_of_pos (vw u0) hV
    have hVl:=vl_lt (b:=18446744073709551616) (by decide) hv
    refine GoalL.st (s:=SSe (p++(u1++s)) v p.length cap q b1) known mixed hS 4 _ (se_go (p++(u1++s)) v p.length cap q b1 hb1) (by kernel_rfl) ?_
    refine GoalL.loop (ι:={x:List Int×Int×Nat//DI v u1 x.1 x.2.1 x.2.2}) (id:=4) (b:=cat BStep stL3) (rest:=List.drop 16 (fl BStep [])) (by kernel_rfl) (fun x=>SSd (p++(x.1.1++s)) v p.length cap q x.1.2.1 x.1.2.2) (fun x=>v.length-x.1.2.2)
     ⟨(u1,0,0),⟨Nat.zero_le _,f4,f2, .inl rfl,fun _ _=>rfl,by simp [vw,vl]⟩⟩ (fun _=>rfl) ?_
    rintro⟨⟨u2,c2,j⟩,J⟩
    have J:DI v u1 u2 c2 j:=J
    have hlen2:=J.len
    by_cases hj:j<v.length
    ·have N2:=J.next hv hj
     have ho2:ownHas 179 tU (some (.own 179 tU (p++(u2++s)))) (p.length+j)=true:=own_mid (by omega)
     have fin:∃y:{x:List Int×Int×Nat//DI v u1 x.1 x.2.1 x.2.2},v.length-y.1.2.2<v.length-j∧
       (SSd ((p++(u2++s)).set (p.length+j) (sumD ((p++(u2++s)).getD (p.length+j) 0) (v.getD j 0) c2)) v p.length cap q (carD ((p++(u2++s)).getD (p.length+j) 0) (v.getD j 0) c2) (j+1)).T=(SSd (p++(y.1.1++s)) v p.length cap q y.1.2.1 y.1.2.2).T∧
       (SSd ((p++(u2++s)).set (p.length+j) (sumD ((p++(u2++s)).getD (p.length+j) 0) (v.getD j 0) c2)) v p.length cap q (carD ((p++(u2++s)).getD (p.length+j) 0) (v.getD j 0) c2) (j+1)).H=(SSd (p++(y.1.1++s)) v p.length cap q y.1.2.1 y.1.2.2).H:=by
      rw [get_mid (p:=p) (s:=s) (show j<u2.length by omega),set_mid (p:=p) (s:=s) (show j<u2.length by omega)]
      exact⟨⟨(_,_,j+1),N2⟩,by simp;omega,rfl,rfl⟩
     rcases J.hc with hc2|hc2
     ·subst hc2
      exact GoalL.all (s:=SSd (p++(u2++s)) v p.length cap q 0 j) known mixed hS _ (sd_0 (p++(u2++s)) v p.length cap q j (by omega) (by omega) ho2 hj (by omega) rfl rfl) (by kernel_rfl) fin
     ·subst hc2
      exact GoalL.all (s:=SSd (p++(u2++s)) v p.length cap q 1 j) known mixed hS _ (sd_1 (p++(u2++s)) v p.length cap q j (by omega) (by omega) ho2 hj (by omega) rfl rfl) (by kernel_rfl) fin
    ·refine GoalL.all (s:=SSd (p++(u2++s)) v p.length cap q c2 j) known mixed hS _ (sd_end _ v _ cap q c2 j (by omega)) (by kernel_rfl) ?_
     refine onN_exit (inB_exit ?_)
     have hle2:=J.le
     obtain rfl:j=v.length:=by omega
     have ho2:ownHas 179 tU (some (.own 179 tU (p++(u2++s)))) (p.length+v.length)=true:=own_mid (by omega)
     have hfin:=J.fin f4 (U:=vw u0-q*vw v) (R:=vw u0%vw v) (by omega) (by omega) hR0 (by unfold vw at*;omega)
     have hdec:decS q=vw u0/vw v:=by
      rw [g1]
      unfold decS
      refine wrapU ⟨?_,by have:=G.rng;omega⟩
      rw [←g1]
      exact Int.ediv_nonneg (vl_nn (by decide) hu) (Int.le_of_lt hV)
     have:=GoalL.retE' (X:=XE A Y) (w0:=w) (F:=F) (l:=List.drop 16 (fl BStep [])) (n:=186) (T:=(SSd (p++(u2++s)) v p.length cap q c2 v.length).T) (H:=(SSd (p++(u2++s)) v p.length cap q c2 v.length).H) (Q:=stEnd ((p++(u2++s)).set (p.length+v.length) (IntKind.wrap .u64 ((p++(u2++s)).getD (p.length+v.length) 0+c2))) (decS q)) known mixed hS 8 _ (sd_ret (p++(u2++s)) v p.length cap q c2 v.length ho2 rfl) fun T H h=>h
     rw [get_mid (p:=p) (s:=s) (show v.length<u2.length by omega),set_mid (p:=p) (s:=s) (show v.length<u2.length by omega),hfin,hdec]at this
     exact this
  have fin:∀T H,(SSe ((p++(u++s)).set (p.length+v.length) (difD ((p++(u++s)).getD (p.length+v.length) 0) c b)) v p.length cap q (borD ((p++(u++s)).getD (p.length+v.length) 0) c b)).T=T→(SSe ((p++(u++s)).set (p.length+v.length) (difD ((p++(u++s)).getD (p.length+v.length) 0) c b)) v p.length cap q (borD ((p++(u++s)).getD (p.length+v.length) 0) c b)).H=H→
    GoalLX (XE A Y) Tryz.prog w F 186 (List.drop 11 (fl BStep [])) T H (stEnd (p++(padD 18446744073709551616 (v.length+1) (vw u0%vw v)++s)) (vw u0/vw v)):=by
   rw [get_mid (p:=p) (s:=s) (show v.length<u.length by omega),set_mid (p:=p) (s:=s) (show v.length<u.length by omega)]
   rintro T H rfl rfl
   exact rest _ _ rfl rfl
  rcases I.hb with hb|hb
  ·subst hb
   exact GoalL.st (s:=SSc (p++(u++s)) v p.length cap q c 0 v.length) known mixed hS 1 _ (sf_0 (p++(u++s)) v p.length cap q c v.length ho rfl rfl) (by kernel_rfl) (fin _ _ rfl rfl)
  ·subst hb
   exact GoalL.st (s:=SSc (p++(u++s)) v p.length cap q c 1 v.length) known mixed hS 1 _ (sf_1 (p++(u++s)) v p.length cap q c v.length ho rfl rfl) (by kernel_rfl) (fin _ _ rfl rfl)
theorem step_guess {v u0 p s:List Int} {m:Nat} (hv:Dg 18446744073709551616 v) (hu:Dg 18446744073709551616 u0) (hlu:u0.length=v.length+1) (hlv:v.length=m+2) (hvl:v.length≤1000000) (h1:9223372036854775808≤v.getD (m+1) 0) (hlt:vw u0<18446744073709551616*vw v)
  (cap:Cap) (q r o:Int) (hq:0≤q∧q<18446744073709551616) (hr:0≤r∧r<18446744073709551616) (ho:o=0∨o=1) (hQ:vw u0/vw v≤q) (he:q*v.getD (m+1) 0+(r+18446744073709551616*o)=u0.getD (m+2) 0*18446744073709551616+u0.getD (m+1) 0)
  (A:Nat→Option (Nat×Nat)) (Y:Nat→Option Obj) (w:World) (F:Sv.Env):
  GoalLX (XE A Y) Tryz.prog w F 186 (List.drop 6 (fl BStep [])) (SSa (p++(u0++s)) v p.length cap q r o).T (SSa (p++(u0++s)) v p.length cap q r o).H (stEnd (p++(padD 18446744073709551616 (v.length+1) (vw u0%vw v)++s)) (vw u0/vw v)):=by
 have hS:=st_ok
 have P:=parts_of (b:=18446744073709551616) (by decide) hu hv (n:=m) (by omega) hlv (by omega)
 have eV:=vAll_of (b:=18446744073709551616) hlv
 have eU:=uAll_of (b:=18446744073709551616) (u:=u0) (n:=m) (by omega)
 have hV:0<vw v:=by
  have h2:=vw_last (u:=v) (n:=m+1) hlv
  have h3:=vl_nn (b:=18446744073709551616) (by decide) (hv.take (m+1))
  have h4:=Int.mul_pos (pow_pos' (b:=18446744073709551616) (by decide) (m+1)) (show 0<v.getD (m+1) 0 by omega)
  unfold vw at h2 ⊢
  omega
 have hU0:0≤vw u0:=vl_nn (by decide) hu
 have hQ0:0≤vw u0/vw v:=Int.ediv_nonneg hU0 (Int.le_of_lt hV)
 have hQV:vw u0/vw v*vw v≤vw u0:=Int.ediv_mul_le _ (by omega)
 have en1:((v.length:Int)-1).toNat=m+1:=by omega
 have en2:((v.length:Int)-2).toNat=m:=by omega
 have hv1:=hv.get (by decide) (m+1)
 have hv2:=hv.get (by decide) m
 -- the digit that passes the test
 have pass:∀q r o:Int,0≤q∧q<18446744073709551616→vw u0/vw v≤q→q*v.getD (m+1) 0+(r+18446744073709551616*o)=u0.getD (m+2) 0*18446744073709551616+u0.getD (m+1) 0→q*v.getD m 0≤(r+18446744073709551616*o)*18446744073709551616+u0.getD m 0→GG (vw v) (vw u0) q:=fun q r o hq hQ he ht=>by
  refine⟨hq,hQ, ?_⟩
  have:=guess_lo P (t:=q) hq (by rw [show u0.getD (m+2) 0*18446744073709551616+u0.getD (m+1) 0-q*v.getD (m+1) 0=r+18446744073709551616*o by omega];exact ht)
  rw [eV,eU]at this
  exact this
 refine GoalL.loop (ι:={x:Int×Int×Int//(0≤x.1∧x.1<18446744073709551616)∧(0≤x.2.1∧x.2.1<18446744073709551616)∧(x.2.2=0∨x.2.2=1)∧vw u0/vw v≤x.1∧x.1*v.getD (m+1) 0+(x.2.1+18446744073709551616*x.2.2)=u0.getD (m+2) 0*18446744073709551616+u0.getD (m+1) 0}) (id:=0) (b:=cat BStep stL1) (rest:=List.drop 7 (fl BStep [])) (by kernel_rfl) (fun x=>SSa (p++(u0++s)) v p.length cap x.1.1 x.1.2.1 x.1.2.2) (fun x=>x.1.1.toNat) ⟨(q,r,o),hq,hr,ho,hQ,he⟩ (fun _=>rfl) ?_
 clear hq hr ho hQ he
 rintro⟨⟨q,r,o⟩,hq,hr,ho,hQ,he⟩
 have hq:0≤q∧q<18446744073709551616:=hq
 have hr:0≤r∧r<18446744073709551616:=hr
 have ho:o=0∨o=1:=ho
 have hQ:vw u0/vw v≤q:=hQ
 have he:q*v.getD (m+1) 0+(r+18446744073709551616*o)=u0.getD (m+2) 0*18446744073709551616+u0.getD (m+1) 0:=he
 have hm:=okM_iff.2 ⟨hq,hv2⟩
 have hm':okM q (v.getD ((v.length:Int)-2).toNat 0)=true:=by rw [en2];exact hm
 have hhl:=mul_hl (q:=q) (x:=v.getD m 0)
 obtain⟨hh,hl⟩:=mul_hl_dg hq hv2
 have hu2:=hu.get (by decide) m
 have hown:ownHas 179 tU (some (.own 179 tU (p++(u0++s)))) (p.length+((v.length:Int)-2).toNat)=true:=by rw [en2];exact own_mid (by omega)
 have hg2:(p++(u0++s)).getD (p.length+m) 0=u0.getD m 0:=get_mid (by omega)
 by_cases ho0:o=0
 ·subst ho0
  -- the next guess
  have next:¬(q*v.getD m 0≤(r+18446744073709551616*0)*18446744073709551616+u0.getD m 0)→∃j:{x:Int×Int×Int//(0≤x.1∧x.1<18446744073709551616)∧(0≤x.2.1∧x.2.1<18446744073709551616)∧(x.2.2=0∨x.2.2=1)∧vw u0/vw v≤x.1∧x.1*v.getD (m+1) 0+(x.2.1+18446744073709551616*x.2.2)=u0.getD (m+2) 0*18446744073709551616+u0.getD (m+1) 0},j.1.1.toNat<q.toNat∧
    (SSa (p++(u0++s)) v p.length cap (decS q) (sumD r (v.getD ((v.length:Int)-1).toNat 0) 0) (carD r (v.getD ((v.length:Int)-1).toNat 0) 0)).T=(SSa (p++(u0++s)) v p.length cap j.1.1 j.1.2.1 j.1.2.2).T∧
    (SSa (p++(u0++s)) v p.length cap (decS q) (sumD r (v.getD ((v.length:Int)-1).toNat 0) 0) (carD r (v.getD ((v.length:Int)-1).toNat 0) 0)).H=(SSa (p++(u0++s)) v p.length cap j.1.1 j.1.2.1 j.1.2.2).H:=fun hn=>by
   have hgt:=guess_hi P (t:=q) (q:=vw u0/vw v) hq.1 (by rw [eV,eU];exact hQV) (by rw [show u0.getD (m+2) 0*18446744073709551616+u0.getD (m+1) 0-q*v.getD (m+1) 0=r+18446744073709551616*0 by omega];omega)
   obtain⟨g1,g2,g3⟩:=sum_car (a:=r) (b:=v.getD (m+1) 0) (c:=0) hr hv1 (.inl rfl)
   have hd:decS q=q-1:=wrapU (by omega)
   rw [en1,hd]
   generalize sumD r (v.getD (m+1) 0) 0=sd at*
   generalize carD r (v.getD (m+1) 0) 0=cd at*
   refine⟨⟨(q-1,sd,cd),by show 0≤q-1∧q-1<_;omega,g2,g3,by show _≤q-1;omega, ?_⟩,by show(q-1).toNat<q.toNat;omega,rfl,rfl⟩
   show(q-1)*v.getD (m+1) 0+(sd+18446744073709551616*cd)=u0.getD (m+2) 0*18446744073709551616+u0.getD (m+1) 0
   have e5:(q-1)*v.getD (m+1) 0=q*v.getD (m+1) 0-v.getD (m+1) 0:=by rw [Int.sub_mul,Int.one_mul]
   omega
  by_cases hlt1:mlHi q (v.getD m 0)<r
  ·refine GoalL.all (s:=SSa (p++(u0++s)) v p.length cap q r 0) known mixed hS _ (sl_lt (p++(u0++s)) v p.length cap q r 0 rfl (by omega) (by omega) (by omega) hm' (by rw [en2];exact hlt1)) (by kernel_rfl) ?_
   refine onN_exit (inB_exit ?_)
   exact step_tail hv hu hlu hvl hV (pass q r 0 hq hQ he (by omega)) cap r 0 A Y w F
  ·by_cases heq:mlHi q (v.getD m 0)=r
   ·by_cases hle:mlLo q (v.getD m 0)≤u0.getD m 0
    ·refine GoalL.all (s:=SSa (p++(u0++s)) v p.length cap q r 0) known mixed hS _ (sl_eqle (p++(u0++s)) v p.length cap q r 0 rfl (by omega) (by omega) (by omega) hm' (by rw [en2];exact hlt1) (by rw [en2];exact heq) hown (by rw [en2,hg2];exact hle)) (by kernel_rfl) ?_
     refine onN_exit (inB_exit ?_)
     exact step_tail hv hu hlu hvl hV (pass q r 0 hq hQ he (by omega)) cap r 0 A Y w F
    ·exact GoalL.all (s:=SSa (p++(u0++s)) v p.length cap q r 0) known mixed hS _ (sl_eqgt (p++(u0++s)) v p.length cap q r 0 rfl (by omega) (by omega) (by omega) hm' (by rw [en2];exact hlt1) (by rw [en2];exact heq) hown (by rw [en2,hg2];exact hle) (by omega) (by omega) (by omega) rfl rfl rfl) (by kernel_rfl) (next (by omega))
   ·exact GoalL.all (s:=SSa (p++(u0++s)) v p.length cap q r 0) known mixed hS _ (sl_gt (p++(u0++s)) v p.length cap q r 0 rfl (by omega) (by omega) (by omega) hm' (by rw [en2];exact hlt1) (by rw [en2];exact heq) (by omega) (by omega) (by omega) rfl rfl rfl) (by kernel_rfl) (next (by omega))
 ·have ho1:o=1:=ho.resolve_left ho0
  refine GoalL.all (s:=SSa (p++(u0++s)) v p.length cap q r o) known mixed hS _ (sl_over (p++(u0++s)) v p.length cap q r o ho0) (by kernel_rfl) ?_
  refine onN_exit (inB_exit ?_)
  have hf:=guess_far P (t:=q) hq (by rw [show u0.getD (m+2) 0*18446744073709551616+u0.getD (m+1) 0-q*v.getD (m+1) 0=r+18446744073709551616*o by omega];omega)
  rw [show u0.getD (m+2) 0*18446744073709551616+u0.getD (m+1) 0-q*v.getD (m+1) 0=r+18446744073709551616*o by omega]at hf
  exact step_tail hv hu hlu hvl hV (pass q r o hq hQ he hf) cap r o A Y w F
end
end Go.Proofs.YtccmlbinkgbpgaaGreatDoor
/- Package num: one step of the long division, as a known function that writes into a row of its caller's. -/
namespace Go.Proofs.YtccmlbinkgbpgaaGreatDoor
open Go.RowKit Sv
set_option maxRecDepth 100000
set_option linter.unusedVariables false
noncomputable section
theorem step_start {v u0 p s:List Int} {m:Nat} (hv:Dg 18446744073709551616 v) (hu:Dg 18446744073709551616 u0) (hlu:u0.length=v.length+1) (hlv:v.length=m+2) (hvl:v.length≤1000000) (h1:9223372036854775808≤v.getD (m+1) 0) (hlt:vw u0<18446744073709551616*vw v)
  (cap:Cap) (A:Nat→Option (Nat×Nat)) (Y:Nat→Option Obj) (w:World) (F:Sv.Env):
  GoalLX (XE A Y) Tryz.prog w F 186 (fl BStep []) (initT [uo v p.length cap,lu v] .nil 0) (He 179 tU (p++(u0++s))) (stEnd (p++(padD 18446744073709551616 (v.length+1) (vw u0%vw v)++s)) (vw u0/vw v)):=by
 have hS:=st_ok
 have P:=parts_of (b:=18446744073709551616) (by decide) hu hv (n:=m) (by omega) hlv (by omega)
 have eV:=vAll_of (b:=18446744073709551616) hlv
 have eU:=uAll_of (b:=18446744073709551616) (u:=u0) (n:=m) (by omega)
 have hV:0<vw v:=by
  have h2:=vw_last (u:=v) (n:=m+1) hlv
  have h3:=vl_nn (b:=18446744073709551616) (by decide) (hv.take (m+1))
  have h4:=Int.mul_pos (pow_pos' (b:=18446744073709551616) (by decide) (m+1)) (show 0<v.getD (m+1) 0 by omega)
  unfold vw at h2 ⊢
  omega
 have hU0:0≤vw u0:=vl_nn (by decide) hu
 have hQ0:0≤vw u0/vw v:=Int.ediv_nonneg hU0 (Int.le_of_lt hV)
 have hQV:vw u0/vw v*vw v≤vw u0:=Int.ediv_mul_le _ (by omega)
 have hQ1:vw u0/vw v<18446744073709551616:=(Int.ediv_lt_iff_lt_mul hV).2 hlt
 have en1:((v.length:Int)-1).toNat=m+1:=by omega
 have hv1:=hv.get (by decide) (m+1)
 have hut:=hu.get (by decide) (m+2)
 have hun:=hu.get (by decide) (m+1)
 have hkn:p.length+v.length=p.length+(m+2):=by omega
 have gt:(p++(u0++s)).getD (p.length+v.length) 0=u0.getD (m+2) 0:=by rw [hkn];exact get_mid (by omega)
 have gn:(p++(u0++s)).getD (p.length+(m+1)) 0=u0.getD (m+1) 0:=get_mid (by omega)
 have o1:ownHas 179 tU (some (.own 179 tU (p++(u0++s)))) (p.length+v.length)=true:=own_mid (by omega)
 have o2:ownHas 179 tU (some (.own 179 tU (p++(u0++s)))) (p.length+((v.length:Int)-1).toNat)=true:=by rw [en1];exact own_mid (by omega)
 by_cases hge:u0.getD (m+2) 0≥v.getD (m+1) 0
 ·have hle:u0.getD (m+2) 0≤v.getD (m+1) 0:=by
   have a1:=vw_last (u:=u0) (n:=m+2) (by omega)
   have a2:=vl_nn (b:=18446744073709551616) (by decide) (hu.take (m+2))
   have a3:=vw_last (u:=v) (n:=m+1) hlv
   have a4:=vl_lt (b:=18446744073709551616) (by decide) (hv.take (m+1))
   rw [List.length_take,Nat.min_eq_left (by omega)]at a4
   have a5:=pow_pos' (b:=18446744073709551616) (by decide) (m+1)
   rw [show m+2=m+1+1 from rfl,Int.pow_succ]at a1
   rw [show m+1+1=m+2 from rfl]at a1
   unfold vw at a1 a3 hlt
   generalize vl 18446744073709551616 (u0.take (m+2))=x at*
   generalize vl 18446744073709551616 (v.take (m+1))=y at*
   generalize u0.getD (m+2) 0=ut at*
   generalize v.getD (m+1) 0=vt at*
   generalize (18446744073709551616:Int)^(m+1)=P at*
   refine Int.not_lt.1 fun hn=> ?_
   have b1:=Int.mul_le_mul_of_nonneg_left (show vt+1≤ut by omega) (Int.le_of_lt a5)
   rw [Int.mul_add,Int.mul_one]at b1
   have b2:P*18446744073709551616*ut=18446744073709551616*(P*ut):=by grind
   rw [b2]at a1
   generalize P*ut=Pu at*
   generalize P*vt=Pv at*
   omega
  obtain⟨g1,g2,g3⟩:=sum_car (a:=u0.getD (m+1) 0) (b:=v.getD (m+1) 0) (c:=0) hun hv1 (.inl rfl)
  refine GoalL.to known mixed hS 6 _ (st_max (p++(u0++s)) v p.length cap o1 (by omega) (by omega) (by omega) (by rw [gt,en1];exact hge) o2 rfl rfl) (by kernel_rfl) ?_
  rw [en1,gn]
  refine step_guess hv hu hlu hlv hvl h1 hlt cap _ _ _ (by decide) g2 g3 (by omega) ?_ A Y w F
  rw [g1]
  omega
 ·have hv0:0<v.getD (m+1) 0:=by omega
  have hD:okD (u0.getD (m+2) 0) (u0.getD (m+1) 0) (v.getD (m+1) 0)=true:=by
   unfold okD
   rw [okU_iff.2 hun,okU_iff.2 hv1,decide_eq_true hut.1,decide_eq_true (show u0.getD (m+2) 0<v.getD (m+1) 0 by omega)];rfl
  refine GoalL.to known mixed hS 6 _ (st_div (p++(u0++s)) v p.length cap o1 (by omega) (by omega) (by omega) (by rw [gt,en1];exact hge) o2 (by rw [gt,en1,gn];exact hD)) (by kernel_rfl) ?_
  rw [en1,gn,gt]
  have hdm:=Int.emod_add_mul_ediv (u0.getD (m+2) 0*18446744073709551616+u0.getD (m+1) 0) (v.getD (m+1) 0)
  have hm0:=Int.emod_nonneg (u0.getD (m+2) 0*18446744073709551616+u0.getD (m+1) 0) (show v.getD (m+1) 0≠0 by omega)
  have hm1:=Int.emod_lt_of_pos (u0.getD (m+2) 0*18446744073709551616+u0.getD (m+1) 0) hv0
  have hqn:0≤div64Q (u0.getD (m+2) 0) (u0.getD (m+1) 0) (v.getD (m+1) 0):=Int.ediv_nonneg (by omega) (by omega)
  have hql:div64Q (u0.getD (m+2) 0) (u0.getD (m+1) 0) (v.getD (m+1) 0)<18446744073709551616:=(Int.ediv_lt_iff_lt_mul hv0).2 (by omega)
  have hgf:=guess_first P hQ0 (by rw [eV,eU];exact hQV)
  refine step_guess hv hu hlu hlv hvl h1 hlt cap _ _ _ ⟨hqn,hql⟩ ⟨hm0,by show _%_<_;omega⟩ (.inl rfl) ((Int.le_ediv_iff_mul_le hv0).2 hgf) ?_ A Y w F
  show(_/_)*_+(_%_+_)=_
  rw [Int.mul_comm]
  omega
theorem eStep_run (xs v:List Int) (k len:Nat) (cap:Cap) (hp:stPre xs k len v=true) (hk:k+len≤xs.length) (A:Nat→Option (Nat×Nat)) (Y:Nat→Option Obj) (w:World) (F:Sv.Env):
  GoalLX (XE A Y) Tryz.prog w F 186 (fl BStep []) (initT [.osl 179 tU 64 k len cap,lu v] .nil 0) (He 179 tU xs) (stEnd (stOut xs k len v) (stQ xs k len v)):=by
 unfold stPre at hp
 simp only [Bool.and_eq_true,decide_eq_true_eq,dgB_iff]at hp
 obtain⟨hx,hv,h2,h3,h4,h5,h6⟩:=hp
 have h3:=Nat.eq_of_beq_eq_true h3
 subst h3
 obtain⟨m,hm⟩:∃m,v.length=m+2:=⟨v.length-2,by omega⟩
 have hpl:(xs.take k).length=k:=by rw [List.length_take];omega
 have hul:(winW xs k (v.length+1)).length=v.length+1:=by unfold winW;rw [List.length_take,List.length_drop];omega
 have hdec:xs=xs.take k++(winW xs k (v.length+1)++xs.drop (k+(v.length+1))):=by
  unfold winW
  rw [←List.drop_drop,List.take_append_drop,List.take_append_drop]
 have:=step_start (p:=xs.take k) (u0:=winW xs k (v.length+1)) (s:=xs.drop (k+(v.length+1))) hv ((hx.drop k).take _) hul hm h4 (by rw [show m+1=v.length-1 by omega];exact h5) h6 cap A Y w F
 rw [←hdec,hpl]at this
 exact this
theorem eStep_ok:eStep.Ok Tryz.prog:=
 ⟨rfl,rfl,_,BStep,Tryz.func162,rfl,by decide,fun xs k len cap d hp _ hk A Y w F=>eStep_run xs d.1 k len cap hp hk A Y w F⟩
end
end Go.Proofs.YtccmlbinkgbpgaaGreatDoor
/- The runner over an abstract memory: a row of the run's own that is handed to a function for good: it is plain data from then on. -/
namespace Go.Proofs.YtccmlbinkgbpgaaGreatDoor.Sv
open Go.RowKit
set_option linter.unusedSectionVars false
variable [Ground]
noncomputable section
def frzOne (ty:Ty) (v:AV) (H:AHeap):Tst (Option (AV×AHeap)):=match ty,v with
 | .list false t, .osl e u i k len _=>(match decide (u=t)with
   |true=> .must (Nat.beq len 0||ownHas e t (H.get i) (k+len-1)) (.ret (some (.lst false t (((blkXs t (H.get i)).drop k).take len),H.drop i)))
   |false=> .ret none)
 | .list false t, .slice i off n _=>(match H.get i with
   |some (.cells _ cs _ false false)=>(match t.readL n (cut cs off (n*t.size))with
    |some ds=> .must (Nat.ble (off+n*t.size) cs.length) (.ret (some (.lst false t ds,H.drop i)))
    |none=> .ret none)
   |_=> .ret none)
 |_,v=> .ret (some (v,H))
def frzAll:List Ty→List AV→AHeap→Tst (Option (List AV×AHeap))
 |t::ts,v::vs,H=>(frzOne t v H).bind fun r=>match r with
  |some (v1,H1)=>(frzAll ts vs H1).bind fun r2=>match r2 with
   |some (vs1,H2)=> .ret (some (v1::vs1,H2))
   |none=> .ret none
  |none=> .ret none
 |_,vs,H=> .ret (some (vs,H))
def gctrV (c:Ctr) (args:List AV) (H:AHeap):Tst VR:=(frzAll c.ps args H).bind fun r=>match r with
 |some (args1,H1)=>ctrV c args1 H1
 |none=> .ret .no
def gctrs (l:List Ctr) (SV:VCaller):VCaller:=fun f args H=>match l with
 |[]=>SV f args H
 |c::l=>match Nat.beq f c.f with |true=>gctrV c args H|false=>gctrs l SV f args H
section
variable {P:Program} {B:Nat} {ρ:Env} {H:AHeap} {w:World}
theorem freeze_blk (hH:HDen P B ρ H w) {i b c:Nat} {k:ABlk} {zs:Array Value} {e:TypeId} {fr:Nat×Nat} (hi:H.get i=some k) (hro:k.isRo=false) (hr:ρ i=some (b,c)) (hz:w.heap[b]? =some (.cells zs e fr)):
  ∃ρ1:Env,ρ1.fz b=some zs∧(∀j,ρ1 j=ρ j)∧Le ρ ρ1∧HDen P B ρ1 (H.drop i) w∧Stp ρ H w ρ1 (H.drop i) w:=by
 have hnf:ρ.fz b=none:=by
  cases hz':ρ.fz b with
  |none=>rfl
  |some A=>
   have:=(hH.fz b A hz').2 i k c hi hr
   rw [hro]at this;cases this
 have hle:Le ρ ⟨ρ.at',fun q=>if q=b then some zs else ρ.fz q⟩:=⟨fun _ _ h=>h,fun q A h=>by
  show(if q=b then some zs else ρ.fz q)=some A
  by_cases hq:q=b
  ·subst hq;rw [hnf]at h;cases h
  ·rw [if_neg hq];exact h⟩
 have key:∀j kk,(H.drop i).get j=some kk→j≠i∧H.get j=some kk:=fun j kk h=>by
  rw [AHeap.get_drop]at h
  split at h
  ·cases h
  ·rename_i h2;exact⟨fun h=>h2 h.symm,h⟩
 refine⟨⟨ρ.at',fun q=>if q=b then some zs else ρ.fz q⟩,if_pos rfl,fun _=>rfl,hle,⟨fun j kk h=> ?_,fun i1 i2 k1 k2 bb c1 c2 g1 g2 g3 g4=>hH.inj i1 i2 k1 k2 bb c1 c2 (key _ _ g1).2 (key _ _ g2).2 g3 g4,fun j kk h=>hH.lt j kk (key j kk h).2,hH.base,fun bb A h=> ?_⟩,
  ⟨hle,fun _ _=>rfl,Nat.le_refl _,Nat.le_refl _,rfl,rfl,rfl,fun _ _ _=>rfl,fun q _ ⟨j,kk,cj,h1,h2,h3⟩=>⟨j,kk,cj,(key j kk h1).2,h2,h3⟩,fun q _ ⟨j,kk,cj,h1,h3⟩=>⟨j,kk,cj,(key j kk h1).2,h3⟩,fun bb A h=> ?_⟩⟩
 ·obtain⟨bj,cj,o,e1,e2,e3,e4⟩:=hH.blk j kk (key j kk h).2
  exact⟨bj,cj,o,e1,e2,e3.mono hle,e4⟩
 ·have h:(if bb=b then some zs else ρ.fz bb)=some A:=h
  by_cases hq:bb=b
  ·subst hq
   rw [if_pos rfl]at h
   cases h
   exact⟨⟨_,_,hz⟩,fun j kk c' g1 g2=>absurd (hH.inj j i kk k bb c' c (key j kk g1).2 hi g2 hr) (key j kk g1).1⟩
  ·rw [if_neg hq]at h
   exact⟨(hH.fz bb A h).1,fun j kk c' g1 g2=>(hH.fz bb A h).2 j kk c' (key j kk g1).2 g2⟩
 ·have h:(if bb=b then some zs else ρ.fz bb)=some A:=h
  by_cases hq:bb=b
  ·subst hq;exact .inr (.inr ⟨i,k,c,hi,hro,hr⟩)
  ·rw [if_neg hq]at h;exact .inl h
theorem frzOne_ok (hH:HDen P B ρ H w) {ty:Ty} {v v1:AV} {H1:AHeap} {x:Value} (h:(frzOne ty v H).gr=some (some (v1,H1))) (hd:Den ρ v x):∃ρ1:Env,Le ρ ρ1∧HDen P B ρ1 H1 w∧Stp ρ H w ρ1 H1 w∧Den ρ1 v1 x:=by
 unfold frzOne at h
 split at h
 ·rename_i t e u i k len cap
  split at h
  ·rename_i hu
   have hu:=of_decide_eq_true hu
   subst hu
   cases hm:(Nat.beq len 0||ownHas e u (H.get i) (k+len-1))with
   |false=>rw [hm]at h;cases h
   |true=>
    rw [hm]at h
    cases h
    rcases hd.osl_inv with⟨rfl,a,rfl⟩|⟨b,c,kc,g1,g2,g3,rfl⟩
    ·rw [List.take_zero]
     by_cases hg:∃kk,H.get i=some kk∧kk.isRo=false∧∃b c zs e fr,ρ i=some (b,c)∧w.heap[b]? =some (.cells zs e fr)
     ·obtain⟨kk,q1,q2,b,c,zs,e',fr,q3,q4⟩:=hg
      obtain⟨ρ1,_,_,r1,r2,r3⟩:=freeze_blk hH q1 q2 q3 q4
      exact⟨ρ1,r1,r2,r3, .lstNil fun e=>by cases e⟩
     · -- the block is given up without being frozen
       have key:∀j kk,(H.drop i).get j=some kk→j≠i∧H.get j=some kk:=fun j kk h=>by
        rw [AHeap.get_drop]at h
        split at h
        ·cases h
        ·rename_i h2;exact⟨fun h=>h2 h.symm,h⟩
       exact⟨ρ,Le.refl _,⟨fun j kk h=>hH.blk j kk (key j kk h).2,fun i1 i2 k1 k2 bb c1 c2 g1 g2 g3 g4=>hH.inj i1 i2 k1 k2 bb c1 c2 (key _ _ g1).2 (key _ _ g2).2 g3 g4,fun j kk h=>hH.lt j kk (key j kk h).2,hH.base,fun bb A h=>⟨(hH.fz bb A h).1,fun j kk c' g1 g2=>(hH.fz bb A h).2 j kk c' (key j kk g1).2 g2⟩⟩,
        ⟨Le.refl _,fun _ _=>rfl,Nat.le_refl _,Nat.le_refl _,rfl,rfl,rfl,fun _ _ _=>rfl,fun q _ ⟨j,kk,cj,h1,h2,h3⟩=>⟨j,kk,cj,(key j kk h1).2,h2,h3⟩,fun q _ ⟨j,kk,cj,h1,h3⟩=>⟨j,kk,cj,(key j kk h1).2,h3⟩,fun bb A h=> .inl h⟩, .lstNil fun e=>by cases e⟩
    ·by_cases hl:len=0
     ·subst hl
      rw [List.take_zero]
      by_cases hg:∃kk,H.get i=some kk∧kk.isRo=false∧∃b c zs e fr,ρ i=some (b,c)∧w.heap[b]? =some (.cells zs e fr)
      ·obtain⟨kk,q1,q2,b,c,zs,e',fr,q3,q4⟩:=hg
       obtain⟨ρ1,_,_,r1,r2,r3⟩:=freeze_blk hH q1 q2 q3 q4
       exact⟨ρ1,r1,r2,r3, .lstNil fun e=>by cases e⟩
      ·have key:∀j kk,(H.drop i).get j=some kk→j≠i∧H.get j=some kk:=fun j kk h=>by
        rw [AHeap.get_drop]at h
        split at h
        ·cases h
        ·rename_i h2;exact⟨fun h=>h2 h.symm,h⟩
       exact⟨ρ,Le.refl _,⟨fun j kk h=>hH.blk j kk (key j kk h).2,fun i1 i2 k1 k2 bb c1 c2 g1 g2 g3 g4=>hH.inj i1 i2 k1 k2 bb c1 c2 (key _ _ g1).2 (key _ _ g2).2 g3 g4,fun j kk h=>hH.lt j kk (key j kk h).2,hH.base,fun bb A h=>⟨(hH.fz bb A h).1,fun j kk c' g1 g2=>(hH.fz bb A h).2 j kk c' (key j kk g1).2 g2⟩⟩,
        ⟨Le.refl _,fun _ _=>rfl,Nat.le_refl _,Nat.le_refl _,rfl,rfl,rfl,fun _ _ _=>rfl,fun q _ ⟨j,kk,cj,h1,h2,h3⟩=>⟨j,kk,cj,(key j kk h1).2,h2,h3⟩,fun q _ ⟨j,kk,cj,h1,h3⟩=>⟨j,kk,cj,(key j kk h1).2,h3⟩,fun bb A h=> .inl h⟩, .lstNil fun e=>by cases e⟩
     ·rw [Bool.or_eq_true]at hm
      have hm:=hm.resolve_left fun e=>hl (Nat.eq_of_beq_eq_true e)
      obtain⟨b1,b2⟩:=ownHas_some hm
      obtain⟨zs,q1,q2,_⟩:=own_at hH b1 g1
      obtain⟨ρ1,f1,_,r1,r2,r3⟩:=freeze_blk hH b1 rfl g1 q1
      refine⟨ρ1,r1,r2,r3, ?_⟩
      generalize blkXs u (H.get i)=xs at b1 b2 q2 ⊢
      have hle2:k+len≤xs.length:=by omega
      have e1:(xs.drop k).take len=(xs.take (k+len)).drop k:=by rw [List.take_drop]
      have hpd:=part_den (off:=0) (A:=zs.toList) (l:=k) (h:=k+len) (by simpa using q2) (by omega) hle2
      rw [Nat.zero_add,←e1]at hpd
      have hn:((xs.drop k).take len).length=len:=by simp;omega
      have hd2:=Den.lst (ρ:=ρ1) (z:=false) (t:=u) (xs:=(xs.drop k).take len) (b:=b) (off:=k*u.size) (k:=kc) (A:=zs) f1 (by
       have e3:(u.flat xs).length≤zs.toList.length:=by
        have:=q2.length
        simp at this ⊢;omega
       rw [u.flat_len]at e3 ⊢
       rw [hn,←Nat.add_mul]
       have:=Nat.le_trans (Nat.mul_le_mul_right u.size hle2) e3
       simpa using this) rfl (hpd.mono r1) (by omega) (fun e=>by cases e)
      rwa [hn]at hd2
  ·cases h
 ·rename_i t i off n cap
  split at h
  ·rename_i e cs x hg
   split at h
   ·rename_i ds hrd
    cases hm:Nat.ble (off+n*t.size) cs.length with
    |false=>rw [hm]at h;cases h
    |true=>
     rw [hm]at h
     cases h
     have hle:=Nat.le_of_ble_eq_true hm
     obtain⟨b,c,k,g1,_,g3,rfl⟩:=hd.slice_inv
     obtain⟨zs,fz',q1,_,q3,_,_,q6⟩:=cells_at hH hg g1
     obtain⟨ρ1,f1,_,r1,r2,r3⟩:=freeze_blk hH hg rfl g1 q1
     refine⟨ρ1,r1,r2,r3, ?_⟩
     have hcut:=(q3.drop off).take (n*t.size)
     obtain⟨hfd,hn⟩:=Ty.readL_den hrd hcut
     subst hn
     have hfl:=t.flat_len ds
     have e2:((zs.toList.take cs.length).drop off).take (ds.length*t.size)=(zs.toList.drop off).take (t.flat ds).length:=by
      rw [hfl,List.drop_take,List.take_take,Nat.min_eq_left (by omega)]
     rw [e2]at hfd
     exact .lst f1 (by rw [hfl];omega) rfl (hfd.mono r1) g3 fun e=>by cases e
   ·cases h
  ·cases h
 ·cases h
  exact⟨ρ,Le.refl _,hH,Stp.refl _ _ _,hd⟩
theorem frzAll_ok:∀{ts:List Ty} {vs vs1:List AV} {ρ:Env} {H H1:AHeap} {xs:List Value},HDen P B ρ H w→(frzAll ts vs H).gr=some (some (vs1,H1))→Dens ρ vs xs→∃ρ1:Env,Le ρ ρ1∧HDen P B ρ1 H1 w∧Stp ρ H w ρ1 H1 w∧Dens ρ1 vs1 xs
 |[],vs,vs1,ρ,H,H1,xs,hH,h,hd=>by
  cases h;exact⟨ρ,Le.refl _,hH,Stp.refl _ _ _,hd⟩
 |t::ts,[],vs1,ρ,H,H1,xs,hH,h,hd=>by
  cases h;exact⟨ρ,Le.refl _,hH,Stp.refl _ _ _,hd⟩
 |t::ts,v::vs,vs1,ρ,H,H1,_,hH,h, .cons d1 d2=>by
  unfold frzAll at h
  rw [Tst.gr_bind]at h
  cases h1:(frzOne t v H).gr with
  |none=>rw [h1]at h;cases h
  |some r=>
   rw [h1]at h
   cases r with
   |none=>cases h
   |some r=>
    obtain⟨v1,H2⟩:=r
    simp only [Option.bind_some]at h
    rw [Tst.gr_bind]at h
    cases h2:(frzAll ts vs H2).gr with
    |none=>rw [h2]at h;cases h
    |some r2=>
     rw [h2]at h
     cases r2 with
     |none=>cases h
     |some r2=>
      obtain⟨vs2,H3⟩:=r2
      cases h
      obtain⟨ρ1,l1,a1,s1,e1⟩:=frzOne_ok hH h1 d1
      obtain⟨ρ2,l2,a2,s2,e2⟩:=frzAll_ok a1 h2 (d2.mono l1)
      exact⟨ρ2,l1.trans l2,a2,s1.trans s2, .cons (e1.mono l2) e2⟩
theorem frzOne_next {ty:Ty} {v v1:AV} {H1:AHeap} (h:(frzOne ty v H).gr=some (some (v1,H1))):H1.next=H.next:=by
 unfold frzOne at h
 split at h
 ·split at h
  ·rename_i e u i k len _ _ _
   cases hm:(Nat.beq len 0||ownHas e _ (H.get i) (k+len-1))with
   |false=>rw [hm]at h;cases h
   |true=>rw [hm]at h;cases h;rfl
  ·cases h
 ·split at h
  ·split at h
   ·unfold Tst.gr at h
    generalize Nat.ble _ _=bb at h
    cases bb with
    |false=>cases h
    |true=>cases h;rfl
   ·cases h
  ·cases h
 ·cases h;rfl
theorem frzAll_next:∀{ts:List Ty} {vs vs1:List AV} {H H1:AHeap},(frzAll ts vs H).gr=some (some (vs1,H1))→H1.next=H.next
 |[],vs,vs1,H,H1,h=>by cases h;rfl
 |t::ts,[],vs1,H,H1,h=>by cases h;rfl
 |t::ts,v::vs,vs1,H,H1,h=>by
  unfold frzAll at h
  rw [Tst.gr_bind]at h
  cases h1:(frzOne t v H).gr with
  |none=>rw [h1]at h;cases h
  |some r=>
   rw [h1]at h
   cases r with
   |none=>cases h
   |some r=>
    obtain⟨v1,H2⟩:=r
    simp only [Option.bind_some]at h
    rw [Tst.gr_bind]at h
    cases h2:(frzAll ts vs H2).gr with
    |none=>rw [h2]at h;cases h
    |some r2=>
     rw [h2]at h
     cases r2 with
     |none=>cases h
     |some r2=>
      obtain⟨vs2,H3⟩:=r2
      cases h
      rw [frzAll_next h2,frzOne_next h1]
theorem gctrV_inv {c:Ctr} {args:List AV} {v:AV} {H':AHeap} (h:(gctrV c args H).gr=some (.ok v H')):∃args1,(frzAll c.ps args H).gr=some (some (args1,H'))∧(ctrV c args1 H').gr=some (.ok v H'):=by
 unfold gctrV at h
 rw [Tst.gr_bind]at h
 cases h1:(frzAll c.ps args H).gr with
 |none=>rw [h1]at h;cases h
 |some r=>
  rw [h1]at h
  cases r with
  |none=>cases h
  |some r=>
   obtain⟨a1,H1⟩:=r
   have h:(ctrV c a1 H1).gr=some (.ok v H'):=h
   have e:=ctrV_same h
   subst e
   exact⟨a1,rfl,h⟩
theorem gctrs_some {SV:VCaller} {f:FuncId} {args:List AV} {v:AV} {H':AHeap}:∀{l:List Ctr},(gctrs l SV f args H).gr=some (.ok v H')→(∃c∈l,c.f=f∧(gctrV c args H).gr=some (.ok v H'))∨(SV f args H).gr=some (.ok v H')
 |[],h=> .inr h
 |c::l,h=>by
  unfold gctrs at h
  cases hb:Nat.beq f c.f with
  |true=>simp only [hb]at h;exact .inl ⟨c,List.mem_cons_self,(Nat.eq_of_beq_eq_true hb).symm,h⟩
  |false=>
   simp only [hb]at h
   rcases gctrs_some h with⟨c',h1,h2⟩|h1
   ·exact .inl ⟨c',List.mem_cons_of_mem _ h1,h2⟩
   ·exact .inr h1
theorem gctrs_ok {l:List Ctr} {SV:VCaller} (hl:∀c∈l,c.Ok P) (hS:CallOk P (gS SV)):CallOk P (gS (gctrs l SV)) where
 mono f args H v H' h:=by
  rcases gctrs_some (gS_some h)with⟨c,_,_,h3⟩|h3
  ·obtain⟨a1,g1,_⟩:=gctrV_inv h3
   rw [frzAll_next g1];exact Nat.le_refl _
  ·exact hS.mono f args H v H' (by unfold gS;rw [h3];rfl)
 sim f args H v H' h B ρ xs w m hH hG hd hf:=by
  rcases gctrs_some (gS_some h)with⟨c,h1,rfl,h3⟩|h3
  ·obtain⟨a1,g1,g2⟩:=gctrV_inv h3
   obtain⟨ρ1,l1,a2,s1,e1⟩:=frzAll_ok hH g1 hd
   refine(ctrV_ok (hl c h1) g2 m a2 (hG.mono l1) e1).mono ?_
   rintro e w' ⟨x,ρ',rfl,q1,q2,q3⟩
   exact⟨x,ρ',rfl,q1,q2,s1.trans q3⟩
  ·exact hS.sim f args H v H' (by unfold gS;rw [h3];rfl) B ρ xs w m hH hG hd hf
end
end
end Go.Proofs.YtccmlbinkgbpgaaGreatDoor.Sv
