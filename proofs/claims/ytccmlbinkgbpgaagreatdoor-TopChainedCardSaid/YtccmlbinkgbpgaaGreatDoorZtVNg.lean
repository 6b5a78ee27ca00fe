/- Package num: long division of words. -/
import Derived.Test.YtccmlbinkgbpgaaGreatDoorZtSvGive
namespace Go.Proofs.YtccmlbinkgbpgaaGreatDoor
open Go.RowKit Sv
set_option maxRecDepth 100000
set_option linter.unusedVariables false
noncomputable section
noncomputable def BDvd:Code:=(Tryz.f103.body).getD .skip
noncomputable def dvdCs:VCaller:=octrs [oShUp] (ectrs [eStep] (gctrs [cTrim] (ctrs [cCmpW,cDiv64,cLz])))
abbrev dvT:List Nat:=[1,1,0,1,0]
abbrev dvL1:List Nat:=[1,1,0,1,0,1,1,0,1,0,0]
abbrev dvL2:List Nat:=[1,1,1,1,1,1,1,1,0,1,0,0]
abbrev dvL3:List Nat:=[1,1,1,1,1,1,1,1,1,0,1,0,0]
abbrev obF (j:Nat) (l:List Int):AV:= .osl 179 tU j 0 l.length .full
abbrev oeF (l:List Int):Ent:= .blk (.own 179 tU l)
def SV0 (a b:List Int):St:={n:=137,sl:=[(0,lu a),(1,lu b),(23,bv ((b.length:Int)==1))],en:=[],next:=64}
def SV1 (a b q:List Int) (r:Int) (k:Nat):St:={n:=137,sl:=[(0,lu a),(1,lu b),(6,obU 64 q),(7,uv r),(8,iv ((k:Int)-1))],en:=[(64,oeU q)],next:=65}
def SV1' (a b q:List Int) (r:Int) (k:Nat):St:={n:=137,sl:=[(0,lu a),(1,lu b),(6,obU 64 q),(7,uv r),(8,iv ((k:Int)-1-1))],en:=[(64,oeU q)],next:=65}
def SV2 (a v u q:List Int) (s:Int) (k:Nat):St:={n:=137,sl:=[(0,lu a),(9,iv s),(10,lu v),(11,obF 64 u),(12,iv v.length),(13,obU 65 q),(14,iv ((k:Int)-1))],en:=[(64,oeF u),(65,oeU q)],next:=66}
def SV2' (a v u q:List Int) (s:Int) (k:Nat):St:={n:=137,sl:=[(0,lu a),(9,iv s),(10,lu v),(11,obF 64 u),(12,iv v.length),(13,obU 65 q),(14,iv ((k:Int)-1-1))],en:=[(64,oeF u),(65,oeU q)],next:=66}
def SV3 (n:Nat) (u q:List Int) (s:Int) (i:Nat):St:={n:=137,sl:=[(9,iv s),(11,obF 64 u),(12,iv n),(13,obU 65 q),(96,iv n),(97,iv i)],en:=[(64,oeF u),(65,oeU q)],next:=66}
abbrev s65:Sv.Ren:=[(64,64,none),(65,65,none)]
def SVa (a v:List Int) (s:Int):St:={n:=137,sl:=[(0,lu a),(9,iv s),(10,lu v)],en:=[],next:=64}
theorem dz_lt (a b:List Int) (h1:(okC2 a b)=true) (h2:cmpV (vw a) (vw b)<0):
  Tst.path (vrun0 Tryz.prog dvdCs (fl BDvd []) 3 137 [lu a,lu b]) [true] (toRet Tryz.prog Tryz.f103 false (.tuple [lu [],lu a])):=
 mp (an h1 (an (decide_eq_true h2) (an (rr nilI) (an (rr a) trivial))))
theorem dz_go (a b:List Int) (h1:(okC2 a b)=true) (h2:¬cmpV (vw a) (vw b)<0):
  Tst.path (vrun0 Tryz.prog dvdCs (fl BDvd []) 4 137 [lu a,lu b]) [false] (toSt Tryz.prog 137 .normal [] (SV0 a b)):=
 mp (an h1 (an (decide_eq_false h2) (an (rr a) (an (rr b) (an (rr ((↑b.length:Int)==1)) trivial)))))
theorem p1_start (a b:List Int) (h1:a.length≤1000000) (h2: -9223372036854775808≤(↑a.length:Int)-1∧(↑a.length:Int)-1≤9223372036854775807) (h3:a.length=(zerW a.length).length) (h4:(capOf (zerW a.length).length)=(capOf a.length)) (h5:(List.flatten (List.replicate a.length (List.map AV.raw (Array.toList #[Value.int .u64 (0:Int)]))))=(List.flatMap (fun x=>[AV.raw (Value.int .u64 x)]) (zerW a.length))):
  Tst.path (vrun Tryz.prog dvdCs (fl BDvd dvT) 3 (SV0 a b)) [] (toSt Tryz.prog 137 .normal [(64,64,some a.length)] (SV1 a b (zerW a.length) 0 a.length)):=
 mp (an (show(decide ((0:Int)≤(↑a.length:Int)))=true from decide_eq_true (by omega)) (an (show(decide ((0:Int)≤(↑a.length:Int)))=true from decide_eq_true (by omega)) (an (show(decide (a.length≤a.length))=true from decide_eq_true (by omega)) (an (show(bounded a.length (8:Nat))=true from bounded_of h1 (by omega)) (an (fits_i64 h2) (an (rr a) (an (rr b) (an (an h3 (an (rr (Cap.known a.length)) h4)) (an (rr ((0:Int))) (an (rr ((↑a.length:Int)-1)) (an (an h5 h3) trivial)))))))))))
theorem p1_go (a b q:List Int) (r:Int) (k:Nat) (h1:(↑k:Int)-1≥0) (h2:(0:Int)≤(↑k:Int)-1) (h3:Int.toNat ((↑k:Int)-1)<a.length) (h4:Int.toNat (0:Int)<b.length) (h5:(okD r (List.getD a (Int.toNat ((↑k:Int)-1)) (0:Int)) (List.getD b (Int.toNat (0:Int)) (0:Int)))=true) (h6:Int.toNat ((↑k:Int)-1)<q.length) (h7: -9223372036854775808≤(↑k:Int)-1-1∧(↑k:Int)-1-1≤9223372036854775807) (h8:q.length=(List.set q (Int.toNat ((↑k:Int)-1)) (div64Q r (List.getD a (Int.toNat ((↑k:Int)-1)) (0:Int)) (List.getD b (0:Nat) (0:Int)))).length) (h9:(capOf q.length)=(capOf (List.set q (Int.toNat ((↑k:Int)-1)) (div64Q r (List.getD a (Int.toNat ((↑k:Int)-1)) (0:Int)) (List.getD b (0:Nat) (0:Int)))).length)) (h10:(div64R r (List.getD a (Int.toNat ((↑k:Int)-1)) (0:Int)) (List.getD b (Int.toNat (0:Int)) (0:Int)))=(div64R r (List.getD a (Int.toNat ((↑k:Int)-1)) (0:Int)) (List.getD b (0:Nat) (0:Int)))) (h11:(List.set q (Int.toNat ((↑k:Int)-1)) (div64Q r (List.getD a (Int.toNat ((↑k:Int)-1)) (0:Int)) (List.getD b (Int.toNat (0:Int)) (0:Int))))=(List.set q (Int.toNat ((↑k:Int)-1)) (div64Q r (List.getD a (Int.toNat ((↑k:Int)-1)) (0:Int)) (List.getD b (0:Nat) (0:Int))))):
  Tst.path (vall Tryz.prog dvdCs (fl BDvd dvL1) (SV1 a b q r k)) [true] (toSt Tryz.prog 137 .normal s64 (SV1' a b (q.set ((k:Int)-1).toNat (div64Q r (a.getD ((k:Int)-1).toNat 0) (b.getD 0 0))) (div64R r (a.getD ((k:Int)-1).toNat 0) (b.getD 0 0)) k)):=
 mp (an (decide_eq_true h1) (an (decide_eq_true h2) (an (decide_eq_true h3) (an (sr (AV.raw (Value.int .u64 (List.getD a (Int.toNat ((↑k:Int)-1)) (0:Int))))) (an rt (an (decide_eq_true h4) (an (sr (AV.raw (Value.int .u64 (List.getD b (Int.toNat (0:Int)) (0:Int))))) (an h5 (an (decide_eq_true h2) (an (decide_eq_true h6) (an (show(ownHas 179 tU (optOwn (nat_lit 179) tU q) ((0:Nat)+Int.toNat ((↑k:Int)-1)))=true from(by simp only [Nat.zero_add]<;>exact(show(ownHas 179 tU (optOwn (nat_lit 179) tU q) (Int.toNat ((↑k:Int)-1)))=true from(by rw [ownHas_optOwn];exact decide_eq_true h6)))) (an (fits_i64 h7) (an (rr a) (an (rr b) (an (an (rr ((0:Nat))) (an h8 h9)) (an h10 (an (rr ((↑k:Int)-1-1)) (an (show(List.set (blkXs tU (optOwn (nat_lit 179) tU q)) ((0:Nat)+Int.toNat ((↑k:Int)-1)) (div64Q r (List.getD a (Int.toNat ((↑k:Int)-1)) (0:Int)) (List.getD b (Int.toNat (0:Int)) (0:Int))))=(List.set q (Int.toNat ((↑k:Int)-1)) (div64Q r (List.getD a (Int.toNat ((↑k:Int)-1)) (0:Int)) (List.getD b (0:Nat) (0:Int))))from(by simp only [blkXs_optOwn,Nat.zero_add]<;>exact h11)) trivial))))))))))))))))))
theorem p1_end (a b q:List Int) (r:Int) (k:Nat) (h1:¬(↑k:Int)-1≥0):
  Tst.path (vall Tryz.prog dvdCs (fl BDvd dvL1) (SV1 a b q r k)) [false] (toSt Tryz.prog 137 (.exit 0) s64 (SV1 a b q r k)):=
 mp (an (decide_eq_false h1) (an (rr a) (an (rr b) (an (an (rr ((0:Nat))) (an (rr q.length) (rr (capOf q.length)))) (an (rr r) (an (rr ((↑k:Int)-1)) (an (show(fitOpt Tryz.prog none (optOwn (nat_lit 179) tU q) (nat_lit 179) tU q)from(fitOpt_refl _ _ _ _)) trivial)))))))
theorem p1_ret (a b q:List Int) (r:Int) (k:Nat) (h1:(Nat.beq q.length (0:Nat)||ownHas 179 tU (optOwn (nat_lit 179) tU q) (q.length-(1:Nat)))=true) (h2:(List.take q.length (List.drop (0:Nat) q)).length≤(1000000:Nat)) (h3:(1:Nat)*(1:Nat)≤(AV.raw (Value.int .u64 r)::List.append._f [] PUnit.unit (List.flatten._f [] PUnit.unit)).length) (h4:List.length [r]≤(1000000:Nat)) (h5:(trW (List.take q.length (List.drop (0:Nat) q)))=(trW q)):
  Tst.path (vall Tryz.prog dvdCs (List.drop 4 (fl BDvd dvT)) (SV1 a b q r k)) [] (toRet Tryz.prog Tryz.f103 false (.tuple [lu (trW q),lu (trW [r])])):=
 mp (an (show(Nat.beq q.length (0:Nat)||ownHas 179 tU (optOwn (nat_lit 179) tU q) ((0:Nat)+q.length-(1:Nat)))=true from(by simp only [Nat.zero_add]<;>exact(show(Nat.beq q.length (0:Nat)||ownHas 179 tU (optOwn (nat_lit 179) tU q) (q.length-(1:Nat)))=true from h1))) (an (show(decide ((List.take q.length (List.drop (0:Nat) (blkXs tU (optOwn (nat_lit 179) tU q)))).length≤(1000000:Nat)))=true from(by simp only [blkXs_optOwn]<;>exact(show(decide ((List.take q.length (List.drop (0:Nat) q)).length≤(1000000:Nat)))=true from decide_eq_true h2))) (an (show(Nat.ble ((0:Nat)+(1:Nat)*(1:Nat)) (AV.raw (Value.int .u64 r)::List.append._f [] PUnit.unit (List.flatten._f [] PUnit.unit)).length)=true from(by simp only [Nat.zero_add]<;>exact(show(Nat.ble ((1:Nat)*(1:Nat)) (AV.raw (Value.int .u64 r)::List.append._f [] PUnit.unit (List.flatten._f [] PUnit.unit)).length)=true from Nat.ble_eq_true_of_le h3))) (an (decide_eq_true h4) (an (show(trW (List.take q.length (List.drop (0:Nat) (blkXs tU (optOwn (nat_lit 179) tU q)))))=(trW q)from(by simp only [blkXs_optOwn]<;>exact h5)) (an (rr (trW [r])) trivial))))))
theorem p2_skip (a b:List Int) (h1:¬(↑b.length:Int)=1):
  Tst.path (vrun Tryz.prog dvdCs (List.drop 4 (fl BDvd [])) 1 (SV0 a b)) [false] (toSt Tryz.prog 137 .normal [] (SV0 a b)):=
 mp (an (beq_eq_false_iff_ne.mpr h1) (an (rr a) (an (rr b) (an (rr ((↑b.length:Int)==1)) trivial))))
theorem p2_a (a b v:List Int) (s:Int) (h1: -9223372036854775808≤(↑b.length:Int)-1∧(↑b.length:Int)-1≤9223372036854775807) (h2:(0:Int)≤(↑b.length:Int)-1) (h3:Int.toNat ((↑b.length:Int)-1)<b.length) (h4:(okU (List.getD b (Int.toNat ((↑b.length:Int)-1)) (0:Int)))=true) (h5:(okS b (lzI (List.getD b (Int.toNat ((↑b.length:Int)-1)) (0:Int))))=true) (h6:(Nat.beq (shW b (lzI (List.getD b (Int.toNat ((↑b.length:Int)-1)) (0:Int)))).length (0:Nat)||ownHas (OCtr.e oShUp) tU (some (ABlk.own 179 (.int .u64) (shW b (lzI (List.getD b (Int.toNat ((↑b.length:Int)-1)) (0:Int)))))) ((shW b (lzI (List.getD b (Int.toNat ((↑b.length:Int)-1)) (0:Int)))).length-(1:Nat)))=true) (h7:(List.take (shW b (lzI (List.getD b (Int.toNat ((↑b.length:Int)-1)) (0:Int)))).length (List.drop (0:Nat) (shW b (lzI (List.getD b (Int.toNat ((↑b.length:Int)-1)) (0:Int)))))).length≤(1000000:Nat)) (h8:(lzI (List.getD b (Int.toNat ((↑b.length:Int)-1)) (0:Int)))=(s)) (h9:(trW (List.take (shW b (lzI (List.getD b (Int.toNat ((↑b.length:Int)-1)) (0:Int)))).length (List.drop (0:Nat) (shW b (lzI (List.getD b (Int.toNat ((↑b.length:Int)-1)) (0:Int)))))))=(v)):
  Tst.path (vrun Tryz.prog dvdCs (List.drop 5 (fl BDvd [])) 2 (SV0 a b)) [] (toSt Tryz.prog 137 .normal [] (SVa a v s)):=
 mp (an (fits_i64 h1) (an (decide_eq_true h2) (an (decide_eq_true h3) (an h4 (an h5 (an (show(Nat.beq (shW b (lzI (List.getD b (Int.toNat ((↑b.length:Int)-1)) (0:Int)))).length (0:Nat)||ownHas (OCtr.e oShUp) tU (some (ABlk.own 179 (.int .u64) (shW b (lzI (List.getD b (Int.toNat ((↑b.length:Int)-1)) (0:Int)))))) ((0:Nat)+(shW b (lzI (List.getD b (Int.toNat ((↑b.length:Int)-1)) (0:Int)))).length-(1:Nat)))=true from(by simp only [Nat.zero_add]<;>exact(show(Nat.beq (shW b (lzI (List.getD b (Int.toNat ((↑b.length:Int)-1)) (0:Int)))).length (0:Nat)||ownHas (OCtr.e oShUp) tU (some (ABlk.own 179 (.int .u64) (shW b (lzI (List.getD b (Int.toNat ((↑b.length:Int)-1)) (0:Int)))))) ((shW b (lzI (List.getD b (Int.toNat ((↑b.length:Int)-1)) (0:Int)))).length-(1:Nat)))=true from h6))) (an (decide_eq_true h7) (an (rr a) (an h8 (an h9 trivial))))))))))
theorem p2_b (a v:List Int) (s:Int) (m:Nat) (h1:(okS a s)=true) (h2: -9223372036854775808≤(↑a.length:Int)-(↑v.length:Int)∧(↑a.length:Int)-(↑v.length:Int)≤9223372036854775807) (h3: -9223372036854775808≤(↑a.length:Int)-(↑v.length:Int)+1∧(↑a.length:Int)-(↑v.length:Int)+1≤9223372036854775807) (h4:(0:Int)≤(↑a.length:Int)-(↑v.length:Int)+1) (h5:Int.toNat ((↑a.length:Int)-(↑v.length:Int)+1)≤1000000) (h6:(shW a s).length=(shW a s).length) (h7:(Int.toNat ((↑a.length:Int)-(↑v.length:Int)+1))=(zerW m).length) (h8:(Cap.known (Int.toNat ((↑a.length:Int)-(↑v.length:Int)+1)))=(Cap.known m)) (h9:(capOf (zerW m).length)=(capOf m)) (h10:((↑a.length:Int)-(↑v.length:Int))=((↑m:Int)-1)) (h11:(List.flatten (List.replicate (Int.toNat ((↑a.length:Int)-(↑v.length:Int)+1)) (List.map AV.raw (Array.toList #[Value.int .u64 (0:Int)]))))=(List.flatMap (fun x=>[AV.raw (Value.int .u64 x)]) (zerW m))) (h12:(m)=(zerW m).length):
  Tst.path (vrun Tryz.prog dvdCs (List.drop 7 (fl BDvd [])) 4 (SVa a v s)) [] (toSt Tryz.prog 137 .normal [(64,64,none),(65,65,some m)] (SV2 a v (shW a s) (zerW m) s m)):=
 mp (an h1 (an (fits_i64 h2) (an (fits_i64 h3) (an (decide_eq_true h4) (an (decide_eq_true h4) (an (show(decide (Int.toNat ((↑a.length:Int)-(↑v.length:Int)+1)≤Int.toNat ((↑a.length:Int)-(↑v.length:Int)+1)))=true from decide_eq_true (by omega)) (an (show(bounded (Int.toNat ((↑a.length:Int)-(↑v.length:Int)+1)) (8:Nat))=true from bounded_of h5 (by omega)) (an (fits_i64 h2) (an (rr a) (an (rr s) (an (rr v) (an (an (rr ((0:Nat))) (an h6 (rr (Cap.full)))) (an (rr ((↑v.length:Int))) (an (an h7 (an h8 h9)) (an h10 (an (rr (shW a s)) (an (an h11 h12) trivial)))))))))))))))))
theorem p2_z (a v u q:List Int) (s:Int) (k:Nat) (h1:(↑k:Int)-1≥0) (h2: -9223372036854775808≤(↑k:Int)-1+(↑v.length:Int)∧(↑k:Int)-1+(↑v.length:Int)≤9223372036854775807) (h3: -9223372036854775808≤(↑k:Int)-1+(↑v.length:Int)+1∧(↑k:Int)-1+(↑v.length:Int)+1≤9223372036854775807) (h4:(0:Int)≤(↑k:Int)-1) (h5:Int.toNat ((↑k:Int)-1+(↑v.length:Int)+1)≤u.length) (h6:Int.toNat ((↑k:Int)-1)=(0:Nat)) (h7:(ownHas (ECtr.e eStep) (ECtr.t eStep) (some (ABlk.own 179 (.int .u64) u)) (Int.toNat ((↑k:Int)-1+(↑v.length:Int)+1)-(1:Nat))&&Nat.ble (1:Nat) (Int.toNat ((↑k:Int)-1+(↑v.length:Int)+1)))=true) (h8:(stPre u (0:Nat) (Int.toNat ((↑k:Int)-1+(↑v.length:Int)+1)) v)=true) (h9:Int.toNat ((↑k:Int)-1)<q.length) (h10: -9223372036854775808≤(↑k:Int)-1-1∧(↑k:Int)-1-1≤9223372036854775807) (h11:u.length=(stOut u (0:Nat) (Int.toNat ((↑k:Int)-1+(↑v.length:Int)+1)) v).length) (h12:q.length=(List.set q (Int.toNat ((↑k:Int)-1)) (stQ u (0:Nat) (Int.toNat ((↑k:Int)-1+(↑v.length:Int)+1)) v)).length) (h13:(capOf q.length)=(capOf (List.set q (Int.toNat ((↑k:Int)-1)) (stQ u (0:Nat) (Int.toNat ((↑k:Int)-1+(↑v.length:Int)+1)) v)).length)):
  Tst.path (vall Tryz.prog dvdCs (fl BDvd dvL2) (SV2 a v u q s k)) [true,true] (toSt Tryz.prog 137 .normal s65 (SV2' a v (stOut u 0 (((k:Int)-1+v.length+1).toNat) v) (q.set ((k:Int)-1).toNat (stQ u 0 (((k:Int)-1+v.length+1).toNat) v)) s k)):=
 mp (an (decide_eq_true h1) (an (fits_i64 h2) (an (fits_i64 h3) (an (show(decide ((0:Int)≤(↑k:Int)-1+(↑v.length:Int)+1))=true from decide_eq_true (by omega)) (an (decide_eq_true h4) (an (show(decide (Int.toNat ((↑k:Int)-1)≤Int.toNat ((↑k:Int)-1+(↑v.length:Int)+1)))=true from decide_eq_true (by omega)) (an (decide_eq_true h5) (an (beq_of h6) (an (show(ownHas (ECtr.e eStep) (ECtr.t eStep) (some (ABlk.own 179 (.int .u64) u)) ((0:Nat)+Int.toNat ((↑k:Int)-1+(↑v.length:Int)+1)-(1:Nat))&&Nat.ble (1:Nat) (Int.toNat ((↑k:Int)-1+(↑v.length:Int)+1)))=true from(by simp only [Nat.zero_add]<;>exact(show(ownHas (ECtr.e eStep) (ECtr.t eStep) (some (ABlk.own 179 (.int .u64) u)) (Int.toNat ((↑k:Int)-1+(↑v.length:Int)+1)-(1:Nat))&&Nat.ble (1:Nat) (Int.toNat ((↑k:Int)-1+(↑v.length:Int)+1)))=true from h7))) (an h8 (an (decide_eq_true h4) (an (decide_eq_true h9) (an (show(ownHas 179 tU (optOwn (nat_lit 179) tU q) ((0:Nat)+Int.toNat ((↑k:Int)-1)))=true from(by simp only [Nat.zero_add]<;>exact(show(ownHas 179 tU (optOwn (nat_lit 179) tU q) (Int.toNat ((↑k:Int)-1)))=true from(by rw [ownHas_optOwn];exact decide_eq_true h9)))) (an (fits_i64 h10) (an (rr a) (an (rr s) (an (rr v) (an (an (rr ((0:Nat))) (an h11 (rr (Cap.full)))) (an (rr ((↑v.length:Int))) (an (an (rr ((0:Nat))) (an h12 h13)) (an (rr ((↑k:Int)-1-1)) (an (rr (stOut u (0:Nat) (Int.toNat ((↑k:Int)-1+(↑v.length:Int)+1)) v)) (an (show(List.set (blkXs tU (optOwn (nat_lit 179) tU q)) ((0:Nat)+Int.toNat ((↑k:Int)-1)) (stQ u (0:Nat) (Int.toNat ((↑k:Int)-1+(↑v.length:Int)+1)) v))=(List.set q (Int.toNat ((↑k:Int)-1)) (stQ u (0:Nat) (Int.toNat ((↑k:Int)-1+(↑v.length:Int)+1)) v))from(by simp only [blkXs_optOwn,Nat.zero_add]<;>rfl)) trivial)))))))))))))))))))))))
theorem p2_s (a v u q:List Int) (s:Int) (k:Nat) (h1:(↑k:Int)-1≥0) (h2: -9223372036854775808≤(↑k:Int)-1+(↑v.length:Int)∧(↑k:Int)-1+(↑v.length:Int)≤9223372036854775807) (h3: -9223372036854775808≤(↑k:Int)-1+(↑v.length:Int)+1∧(↑k:Int)-1+(↑v.length:Int)+1≤9223372036854775807) (h4:(0:Int)≤(↑k:Int)-1) (h5:Int.toNat ((↑k:Int)-1+(↑v.length:Int)+1)≤u.length) (h6:(Nat.beq (Int.toNat ((↑k:Int)-1)) (0:Nat))=false) (h7:Int.toNat ((↑k:Int)-1)<Int.toNat ((↑k:Int)-1+(↑v.length:Int)+1)) (h8:(ownHas (ECtr.e eStep) (ECtr.t eStep) (some (ABlk.own 179 (.int .u64) u)) (Int.toNat ((↑k:Int)-1)+(Int.toNat ((↑k:Int)-1+(↑v.length:Int)+1)-Int.toNat ((↑k:Int)-1))-(1:Nat))&&Nat.ble (1:Nat) (Int.toNat ((↑k:Int)-1+(↑v.length:Int)+1)-Int.toNat ((↑k:Int)-1)))=true) (h9:(stPre u (Int.toNat ((↑k:Int)-1)) (Int.toNat ((↑k:Int)-1+(↑v.length:Int)+1)-Int.toNat ((↑k:Int)-1)) v)=true) (h10:Int.toNat ((↑k:Int)-1)<q.length) (h11: -9223372036854775808≤(↑k:Int)-1-1∧(↑k:Int)-1-1≤9223372036854775807) (h12:u.length=(stOut u (Int.toNat ((↑k:Int)-1)) (Int.toNat ((↑k:Int)-1+(↑v.length:Int)+1)-Int.toNat ((↑k:Int)-1)) v).length) (h13:q.length=(List.set q (Int.toNat ((↑k:Int)-1)) (stQ u (Int.toNat ((↑k:Int)-1)) (Int.toNat ((↑k:Int)-1+(↑v.length:Int)+1)-Int.toNat ((↑k:Int)-1)) v)).length) (h14:(capOf q.length)=(capOf (List.set q (Int.toNat ((↑k:Int)-1)) (stQ u (Int.toNat ((↑k:Int)-1)) (Int.toNat ((↑k:Int)-1+(↑v.length:Int)+1)-Int.toNat ((↑k:Int)-1)) v)).length)):
  Tst.path (vall Tryz.prog dvdCs (fl BDvd dvL2) (SV2 a v u q s k)) [true,false,true] (toSt Tryz.prog 137 .normal s65 (SV2' a v (stOut u ((k:Int)-1).toNat ((((k:Int)-1+v.length+1).toNat)-((k:Int)-1).toNat) v) (q.set ((k:Int)-1).toNat (stQ u ((k:Int)-1).toNat ((((k:Int)-1+v.length+1).toNat)-((k:Int)-1).toNat) v)) s k)):=
 mp (an (decide_eq_true h1) (an (fits_i64 h2) (an (fits_i64 h3) (an (show(decide ((0:Int)≤(↑k:Int)-1+(↑v.length:Int)+1))=true from decide_eq_true (by omega)) (an (decide_eq_true h4) (an (show(decide (Int.toNat ((↑k:Int)-1)≤Int.toNat ((↑k:Int)-1+(↑v.length:Int)+1)))=true from decide_eq_true (by omega)) (an (decide_eq_true h5) (an h6 (an (decide_eq_true h7) (an (show(ownHas (ECtr.e eStep) (ECtr.t eStep) (some (ABlk.own 179 (.int .u64) u)) ((0:Nat)+Int.toNat ((↑k:Int)-1)+(Int.toNat ((↑k:Int)-1+(↑v.length:Int)+1)-Int.toNat ((↑k:Int)-1))-(1:Nat))&&Nat.ble (1:Nat) (Int.toNat ((↑k:Int)-1+(↑v.length:Int)+1)-Int.toNat ((↑k:Int)-1)))=true from(by simp only [Nat.zero_add]<;>exact(show(ownHas (ECtr.e eStep) (ECtr.t eStep) (some (ABlk.own 179 (.int .u64) u)) (Int.toNat ((↑k:Int)-1)+(Int.toNat ((↑k:Int)-1+(↑v.length:Int)+1)-Int.toNat ((↑k:Int)-1))-(1:Nat))&&Nat.ble (1:Nat) (Int.toNat ((↑k:Int)-1+(↑v.length:Int)+1)-Int.toNat ((↑k:Int)-1)))=true from h8))) (an (show(stPre u ((0:Nat)+Int.toNat ((↑k:Int)-1)) (Int.toNat ((↑k:Int)-1+(↑v.length:Int)+1)-Int.toNat ((↑k:Int)-1)) v)=true from(by simp only [Nat.zero_add]<;>exact(show(stPre u (Int.toNat ((↑k:Int)-1)) (Int.toNat ((↑k:Int)-1+(↑v.length:Int)+1)-Int.toNat ((↑k:Int)-1)) v)=true from h9))) (an (decide_eq_true h4) (an (decide_eq_true h10) (an (show(ownHas 179 tU (optOwn (nat_lit 179) tU q) ((0:Nat)+Int.toNat ((↑k:Int)-1)))=true from(by simp only [Nat.zero_add]<;>exact(show(ownHas 179 tU (optOwn (nat_lit 179) tU q) (Int.toNat ((↑k:Int)-1)))=true from(by rw [ownHas_optOwn];exact decide_eq_true h10)))) (an (fits_i64 h11) (an (rr a) (an (rr s) (an (rr v) (an (an (rr ((0:Nat))) (an h12 (rr (Cap.full)))) (an (rr ((↑v.length:Int))) (an (an (rr ((0:Nat))) (an h13 h14)) (an (rr ((↑k:Int)-1-1)) (an (show(stOut u ((0:Nat)+Int.toNat ((↑k:Int)-1)) (Int.toNat ((↑k:Int)-1+(↑v.length:Int)+1)-Int.toNat ((↑k:Int)-1)) v)=(stOut u (Int.toNat ((↑k:Int)-1)) (Int.toNat ((↑k:Int)-1+(↑v.length:Int)+1)-Int.toNat ((↑k:Int)-1)) v)from(by simp only [Nat.zero_add])) (an (show(List.set (blkXs tU (optOwn (nat_lit 179) tU q)) ((0:Nat)+Int.toNat ((↑k:Int)-1)) (stQ u ((0:Nat)+Int.toNat ((↑k:Int)-1)) (Int.toNat ((↑k:Int)-1+(↑v.length:Int)+1)-Int.toNat ((↑k:Int)-1)) v))=(List.set q (Int.toNat ((↑k:Int)-1)) (stQ u (Int.toNat ((↑k:Int)-1)) (Int.toNat ((↑k:Int)-1+(↑v.length:Int)+1)-Int.toNat ((↑k:Int)-1)) v))from(by simp only [blkXs_optOwn,Nat.zero_add]<;>rfl)) trivial))))))))))))))))))))))))
theorem p2_end (a v u q:List Int) (s:Int) (k:Nat) (h1:¬(↑k:Int)-1≥0):
  Tst.path (vall Tryz.prog dvdCs (fl BDvd dvL2) (SV2 a v u q s k)) [false] (toSt Tryz.prog 137 (.exit 2) s65 (SV2 a v u q s k)):=
 mp (an (decide_eq_false h1) (an (rr a) (an (rr s) (an (rr v) (an (an (rr ((0:Nat))) (an (rr u.length) (rr (Cap.full)))) (an (rr ((↑v.length:Int))) (an (an (rr ((0:Nat))) (an (rr q.length) (rr (capOf q.length)))) (an (rr ((↑k:Int)-1)) (an (rr u) (an (show(fitOpt Tryz.prog none (optOwn (nat_lit 179) tU q) (nat_lit 179) tU q)from(fitOpt_refl _ _ _ _)) trivial))))))))))
theorem p3_start (a v u q:List Int) (s:Int) (k:Nat):
  Tst.path (vrun Tryz.prog dvdCs (List.drop 12 (fl BDvd [])) 1 (SV2 a v u q s k)) [] (toSt Tryz.prog 137 .normal s65 (SV3 v.length u q s 0)):=
 mp (an (rr s) (an (an (rr ((0:Nat))) (an (rr u.length) (rr (Cap.full)))) (an (rr ((↑v.length:Int))) (an (an (rr ((0:Nat))) (an (rr q.length) (rr (capOf q.length)))) (an (rr ((↑v.length:Int))) (an (rr ((0:Int))) (an (rr u) (an (show(fitOpt Tryz.prog none (optOwn (nat_lit 179) tU q) (nat_lit 179) tU q)from(fitOpt_refl _ _ _ _)) trivial))))))))
theorem p3_two (n:Nat) (u q:List Int) (s:Int) (i:Nat) (h1:(↑i:Int)<(↑n:Int)) (h2:i<u.length) (h3:(ownHas 179 tU (some (ABlk.own 179 (.int .u64) u)) i)=true) (h4:(0:Int)≤s) (h5:s>0) (h6: -9223372036854775808≤(↑i:Int)+1∧(↑i:Int)+1≤9223372036854775807) (h7:(↑i:Int)+1<(↑u.length:Int)) (h8:(ownHas 179 tU (some (ABlk.own 179 (.int .u64) (List.set u i (Int.fdiv (List.getD u i (0:Int)) ((2:Int)^min (Int.toNat s) (64:Nat)))))) i)=true) (h9:Int.toNat ((↑i:Int)+1)<u.length) (h10:(ownHas 179 tU (some (ABlk.own 179 (.int .u64) (List.set u i (Int.fdiv (List.getD u i (0:Int)) ((2:Int)^min (Int.toNat s) (64:Nat)))))) (Int.toNat ((↑i:Int)+1)))=true) (h11: -9223372036854775808≤64-s∧(64:Int)-s≤9223372036854775807) (h12:(0:Int)≤64-s) (h13:u.length=(List.set (List.set u i (shrU (List.getD u i (0:Int)) s)) i (orU (List.getD (List.set u i (shrU (List.getD u i (0:Int)) s)) i (0:Int)) (shlU (List.getD (List.set u i (shrU (List.getD u i (0:Int)) s)) (i+(1:Nat)) (0:Int)) ((64:Int)-s)))).length) (h14:(List.set (List.set u i (Int.fdiv (List.getD u i (0:Int)) ((2:Int)^min (Int.toNat s) (64:Nat)))) i (IntKind.wrap IntKind.u64 (↑(BitVec.toNat (BitVec.ofInt (64:Nat) (List.getD (List.set u i (Int.fdiv (List.getD u i (0:Int)) ((2:Int)^min (Int.toNat s) (64:Nat)))) i (0:Int))|||BitVec.ofInt (64:Nat) (IntKind.wrap IntKind.u64 (List.getD (List.set u i (Int.fdiv (List.getD u i (0:Int)) ((2:Int)^min (Int.toNat s) (64:Nat)))) (Int.toNat ((↑i:Int)+1)) (0:Int)*(2:Int)^min (Int.toNat ((64:Int)-s)) (64:Nat))))):Int)))=(List.set (List.set u i (shrU (List.getD u i (0:Int)) s)) i (orU (List.getD (List.set u i (shrU (List.getD u i (0:Int)) s)) i (0:Int)) (shlU (List.getD (List.set u i (shrU (List.getD u i (0:Int)) s)) (i+(1:Nat)) (0:Int)) ((64:Int)-s))))):
  Tst.path (vall Tryz.prog dvdCs (fl BDvd dvL3) (SV3 n u q s i)) [true,true,true,true,true,true,true,true] (toSt Tryz.prog 137 .normal s65 (SV3 n ((u.set i (shrU (u.getD i 0) s)).set i (orU ((u.set i (shrU (u.getD i 0) s)).getD i 0) (shlU ((u.set i (shrU (u.getD i 0) s)).getD (i+1) 0) (64-s)))) q s (i+1))):=
 mp (an (decide_eq_true h1) (an (show(decide ((0:Int)≤(↑i:Int)))=true from decide_eq_true (by omega)) (an (decide_eq_true h2) (an (show(ownHas 179 tU (some (ABlk.own 179 (.int .u64) u)) ((0:Nat)+i))=true from(by simp only [Nat.zero_add]<;>exact(show(ownHas 179 tU (some (ABlk.own 179 (.int .u64) u)) i)=true from h3))) (an (decide_eq_true h4) (an (show(decide ((0:Int)≤(↑i:Int)))=true from decide_eq_true (by omega)) (an (decide_eq_true h2) (an (show(ownHas 179 tU (some (ABlk.own 179 (.int .u64) u)) ((0:Nat)+i))=true from(by simp only [Nat.zero_add]<;>exact(show(ownHas 179 tU (some (ABlk.own 179 (.int .u64) u)) i)=true from h3))) (an (bT (decide_eq_true h5)) (an (bT (decide_eq_true h5)) (an (fits_i64 h6) (an (bT (decide_eq_true h5)) (an (bT (decide_eq_true h5)) (an (bT (decide_eq_true h5)) (an (decide_eq_true h5) (an (decide_eq_true h7) (an (show(decide ((0:Int)≤(↑i:Int)))=true from decide_eq_true (by omega)) (an (decide_eq_true h2) (an (show(ownHas 179 tU (some (ABlk.own 179 (.int .u64) (List.set u ((0:Nat)+i) (Int.fdiv (List.getD u ((0:Nat)+i) (0:Int)) ((2:Int)^min (Int.toNat s) (64:Nat)))))) ((0:Nat)+i))=true from(by simp only [Nat.zero_add]<;>exact(show(ownHas 179 tU (some (ABlk.own 179 (.int .u64) (List.set u i (Int.fdiv (List.getD u i (0:Int)) ((2:Int)^min (Int.toNat s) (64:Nat)))))) i)=true from h8))) (an (show(ownHas 179 tU (some (ABlk.own 179 (.int .u64) (List.set u ((0:Nat)+i) (Int.fdiv (List.getD u ((0:Nat)+i) (0:Int)) ((2:Int)^min (Int.toNat s) (64:Nat)))))) ((0:Nat)+i))=true from(by simp only [Nat.zero_add]<;>exact(show(ownHas 179 tU (some (ABlk.own 179 (.int .u64) (List.set u i (Int.fdiv (List.getD u i (0:Int)) ((2:Int)^min (Int.toNat s) (64:Nat)))))) i)=true from h8))) (an (sr (AV.raw (Value.int .u64 (List.getD (List.set u ((0:Nat)+i) (Int.fdiv (List.getD u ((0:Nat)+i) (0:Int)) ((2:Int)^min (Int.toNat s) (64:Nat)))) ((0:Nat)+i) (0:Int))))) (an (fits_i64 h6) (an (show(decide ((0:Int)≤(↑i:Int)+1))=true from decide_eq_true (by omega)) (an (decide_eq_true h9) (an (show(ownHas 179 tU (some (ABlk.own 179 (.int .u64) (List.set u ((0:Nat)+i) (Int.fdiv (List.getD u ((0:Nat)+i) (0:Int)) ((2:Int)^min (Int.toNat s) (64:Nat)))))) ((0:Nat)+Int.toNat ((↑i:Int)+1)))=true from(by simp only [Nat.zero_add]<;>exact(show(ownHas 179 tU (some (ABlk.own 179 (.int .u64) (List.set u i (Int.fdiv (List.getD u i (0:Int)) ((2:Int)^min (Int.toNat s) (64:Nat)))))) (Int.toNat ((↑i:Int)+1)))=true from h10))) (an (show(ownHas 179 tU (some (ABlk.own 179 (.int .u64) (List.set u ((0:Nat)+i) (Int.fdiv (List.getD u ((0:Nat)+i) (0:Int)) ((2:Int)^min (Int.toNat s) (64:Nat)))))) ((0:Nat)+Int.toNat ((↑i:Int)+1)))=true from(by simp only [Nat.zero_add]<;>exact(show(ownHas 179 tU (some (ABlk.own 179 (.int .u64) (List.set u i (Int.fdiv (List.getD u i (0:Int)) ((2:Int)^min (Int.toNat s) (64:Nat)))))) (Int.toNat ((↑i:Int)+1)))=true from h10))) (an (sr (AV.raw (Value.int .u64 (List.getD (List.set u ((0:Nat)+i) (Int.fdiv (List.getD u ((0:Nat)+i) (0:Int)) ((2:Int)^min (Int.toNat s) (64:Nat)))) ((0:Nat)+Int.toNat ((↑i:Int)+1)) (0:Int))))) (an (fits_i64 h11) (an (decide_eq_true h12) (an (show(decide ((0:Int)≤(↑i:Int)))=true from decide_eq_true (by omega)) (an (decide_eq_true h2) (an (show(ownHas 179 tU (some (ABlk.own 179 (.int .u64) (List.set u ((0:Nat)+i) (Int.fdiv (List.getD u ((0:Nat)+i) (0:Int)) ((2:Int)^min (Int.toNat s) (64:Nat)))))) ((0:Nat)+i))=true from(by simp only [Nat.zero_add]<;>exact(show(ownHas 179 tU (some (ABlk.own 179 (.int .u64) (List.set u i (Int.fdiv (List.getD u i (0:Int)) ((2:Int)^min (Int.toNat s) (64:Nat)))))) i)=true from h8))) (an (fits_i64 h6) (an (rr s) (an (an (rr ((0:Nat))) (an h13 (rr (Cap.full)))) (an (rr ((↑n:Int))) (an (an (rr ((0:Nat))) (an (rr q.length) (rr (capOf q.length)))) (an (rr ((↑n:Int))) (an (show((↑i:Int)+1)=((↑(i+(1:Nat)):Int))from(by omega)) (an (show(List.set (List.set u ((0:Nat)+i) (Int.fdiv (List.getD u ((0:Nat)+i) (0:Int)) ((2:Int)^min (Int.toNat s) (64:Nat)))) ((0:Nat)+i) (IntKind.wrap IntKind.u64 (↑(BitVec.toNat (BitVec.ofInt (64:Nat) (List.getD (List.set u ((0:Nat)+i) (Int.fdiv (List.getD u ((0:Nat)+i) (0:Int)) ((2:Int)^min (Int.toNat s) (64:Nat)))) ((0:Nat)+i) (0:Int))|||BitVec.ofInt (64:Nat) (IntKind.wrap IntKind.u64 (List.getD (List.set u ((0:Nat)+i) (Int.fdiv (List.getD u ((0:Nat)+i) (0:Int)) ((2:Int)^min (Int.toNat s) (64:Nat)))) ((0:Nat)+Int.toNat ((↑i:Int)+1)) (0:Int)*(2:Int)^min (Int.toNat ((64:Int)-s)) (64:Nat))))):Int)))=(List.set (List.set u i (shrU (List.getD u i (0:Int)) s)) i (orU (List.getD (List.set u i (shrU (List.getD u i (0:Int)) s)) i (0:Int)) (shlU (List.getD (List.set u i (shrU (List.getD u i (0:Int)) s)) (i+(1:Nat)) (0:Int)) ((64:Int)-s))))from(by simp only [Nat.zero_add]<;>exact h14)) (an (show(fitOpt Tryz.prog none (optOwn (nat_lit 179) tU q) (nat_lit 179) tU q)from(fitOpt_refl _ _ _ _)) trivial)))))))))))))))))))))))))))))))))))))))))
theorem p3_one (n:Nat) (u q:List Int) (s:Int) (i:Nat) (h1:(↑i:Int)<(↑n:Int)) (h2:i<u.length) (h3:(ownHas 179 tU (some (ABlk.own 179 (.int .u64) u)) i)=true) (h4:(0:Int)≤s) (h5:¬s>0) (h6: -9223372036854775808≤(↑i:Int)+1∧(↑i:Int)+1≤9223372036854775807) (h7:u.length=(List.set u i (shrU (List.getD u i (0:Int)) s)).length) (h8:(List.set u i (Int.fdiv (List.getD u i (0:Int)) ((2:Int)^min (Int.toNat s) (64:Nat))))=(List.set u i (shrU (List.getD u i (0:Int)) s))):
  Tst.path (vall Tryz.prog dvdCs (fl BDvd dvL3) (SV3 n u q s i)) [true,false,false,false,false,false,false,false] (toSt Tryz.prog 137 .normal s65 (SV3 n (u.set i (shrU (u.getD i 0) s)) q s (i+1))):=
 mp (an (decide_eq_true h1) (an (show(decide ((0:Int)≤(↑i:Int)))=true from decide_eq_true (by omega)) (an (decide_eq_true h2) (an (show(ownHas 179 tU (some (ABlk.own 179 (.int .u64) u)) ((0:Nat)+i))=true from(by simp only [Nat.zero_add]<;>exact(show(ownHas 179 tU (some (ABlk.own 179 (.int .u64) u)) i)=true from h3))) (an (decide_eq_true h4) (an (show(decide ((0:Int)≤(↑i:Int)))=true from decide_eq_true (by omega)) (an (decide_eq_true h2) (an (show(ownHas 179 tU (some (ABlk.own 179 (.int .u64) u)) ((0:Nat)+i))=true from(by simp only [Nat.zero_add]<;>exact(show(ownHas 179 tU (some (ABlk.own 179 (.int .u64) u)) i)=true from h3))) (an (bT (decide_eq_false h5)) (an (bT (decide_eq_false h5)) (an (bT (decide_eq_false h5)) (an (bT (decide_eq_false h5)) (an (bT (decide_eq_false h5)) (an (decide_eq_false h5) (an rf (an (fits_i64 h6) (an (rr s) (an (an (rr ((0:Nat))) (an h7 (rr (Cap.full)))) (an (rr ((↑n:Int))) (an (an (rr ((0:Nat))) (an (rr q.length) (rr (capOf q.length)))) (an (rr ((↑n:Int))) (an (show((↑i:Int)+1)=((↑(i+(1:Nat)):Int))from(by omega)) (an (show(List.set u ((0:Nat)+i) (Int.fdiv (List.getD u ((0:Nat)+i) (0:Int)) ((2:Int)^min (Int.toNat s) (64:Nat))))=(List.set u i (shrU (List.getD u i (0:Int)) s))from(by simp only [Nat.zero_add]<;>exact h8)) (an (show(fitOpt Tryz.prog none (optOwn (nat_lit 179) tU q) (nat_lit 179) tU q)from(fitOpt_refl _ _ _ _)) trivial))))))))))))))))))))))))
theorem p3_end (n:Nat) (u q:List Int) (s:Int) (i:Nat) (h1:¬(↑i:Int)<(↑n:Int)):
  Tst.path (vall Tryz.prog dvdCs (fl BDvd dvL3) (SV3 n u q s i)) [false] (toSt Tryz.prog 137 (.exit 4) s65 (SV3 n u q s i)):=
 mp (an (decide_eq_false h1) (an (rr s) (an (an (rr ((0:Nat))) (an (rr u.length) (rr (Cap.full)))) (an (rr ((↑n:Int))) (an (an (rr ((0:Nat))) (an (rr q.length) (rr (capOf q.length)))) (an (rr ((↑n:Int))) (an (rr ((↑i:Int))) (an (rr u) (an (show(fitOpt Tryz.prog none (optOwn (nat_lit 179) tU q) (nat_lit 179) tU q)from(fitOpt_refl _ _ _ _)) trivial)))))))))
theorem p4_ret (n:Nat) (u q:List Int) (s:Int) (i:Nat) (h1:(Nat.beq q.length (0:Nat)||ownHas 179 tU (optOwn (nat_lit 179) tU q) (q.length-(1:Nat)))=true) (h2:(List.take q.length (List.drop (0:Nat) q)).length≤(1000000:Nat)) (h3:n≤u.length) (h4:(Nat.beq n (0:Nat)||ownHas 179 tU (some (ABlk.own 179 (.int .u64) u)) (n-(1:Nat)))=true) (h5:(List.take n (List.drop (0:Nat) u)).length≤(1000000:Nat)) (h6:(trW (List.take q.length (List.drop (0:Nat) q)))=(trW q)) (h7:(trW (List.take n (List.drop (0:Nat) u)))=(trW (List.take n u))):
  Tst.path (vall Tryz.prog dvdCs (List.drop 14 (fl BDvd [])) (SV3 n u q s i)) [true] (toRet Tryz.prog Tryz.f103 false (.tuple [lu (trW q),lu (trW (u.take n))])):=
 mp (an (show(Nat.beq q.length (0:Nat)||ownHas 179 tU (optOwn (nat_lit 179) tU q) ((0:Nat)+q.length-(1:Nat)))=true from(by simp only [Nat.zero_add]<;>exact(show(Nat.beq q.length (0:Nat)||ownHas 179 tU (optOwn (nat_lit 179) tU q) (q.length-(1:Nat)))=true from h1))) (an (show(decide ((List.take q.length (List.drop (0:Nat) (blkXs tU (optOwn (nat_lit 179) tU q)))).length≤(1000000:Nat)))=true from(by simp only [blkXs_optOwn]<;>exact(show(decide ((List.take q.length (List.drop (0:Nat) q)).length≤(1000000:Nat)))=true from decide_eq_true h2))) (an (show(decide ((0:Int)≤(↑n:Int)))=true from decide_eq_true (by omega)) (an (show(decide ((0:Nat)≤n))=true from decide_eq_true (by omega)) (an (decide_eq_true h3) (an rt (an (show(Nat.beq n (0:Nat)||ownHas 179 tU (some (ABlk.own 179 (.int .u64) u)) ((0:Nat)+n-(1:Nat)))=true from(by simp only [Nat.zero_add]<;>exact(show(Nat.beq n (0:Nat)||ownHas 179 tU (some (ABlk.own 179 (.int .u64) u)) (n-(1:Nat)))=true from h4))) (an (decide_eq_true h5) (an (show(trW (List.take q.length (List.drop (0:Nat) (blkXs tU (optOwn (nat_lit 179) tU q)))))=(trW q)from(by simp only [blkXs_optOwn]<;>exact h6)) (an h7 trivial))))))))))
end
end Go.Proofs.YtccmlbinkgbpgaaGreatDoor
/- Package num: long division of words: the walk. -/
namespace Go.Proofs.YtccmlbinkgbpgaaGreatDoor
open Go.RowKit Sv
set_option maxRecDepth 100000
set_option linter.unusedVariables false
noncomputable section
theorem goalL_cond {X:Ext} {P:Program} {w0:World} {F:Sv.Env} {n:Nat} {T:Tr AV} {H:AHeap} {Q:Exit→Tr AV→AHeap→Prop} {l rest:List Code} {o:Operand} {x y:Code} (hl:l= .cond o x y::rest) (hb:boolV (evT T o)= .mk true)
  (h:GoalLX X P w0 F n (flatC x) T H (onN (fun T H=>GoalLX X P w0 F n rest T H Q) Q)):GoalLX X P w0 F n l T H Q:=by
 subst hl
 intro a w hs k
 obtain⟨ρ,hAR,_⟩:=hs.ex
 have hc:=evT_ok hAR.T hAR.G o
 rw [boolV_mk hb]at hc
 exact wpIn_cond hc.raw_eq (goal_flat h a w hs k)
theorem dvd_ok:CallOk Tryz.prog (gS dvdCs):=by
 refine octrs_ok (fun c hc=> ?_) (ectrs_ok (fun c hc=> ?_) (gctrs_ok (fun c hc=> ?_) (ctrs_ok fun c hc=> ?_)))
 ·rw [List.mem_singleton.1 hc];exact oShUp_ok
 ·rw [List.mem_singleton.1 hc];exact eStep_ok
 ·rw [List.mem_singleton.1 hc];exact cTrim_ok
 ·simp only [List.mem_cons,List.not_mem_nil,or_false]at hc
  rcases hc with rfl |rfl |rfl
  ·exact cCmpW_ok
  ·exact cDiv64_ok
  ·exact cLz_ok
def okDv (a b:List Int):Bool:=okC2 a b&&(decide (1≤b.length)&&(decide (a.length≤300000)&&decide (b.length≤300000)))
def dvQ (a b:List Int):List Int:=dgN 18446744073709551616 (vw a/vw b)
def dvR (a b:List Int):List Int:=dgN 18446744073709551616 (vw a%vw b)
noncomputable def cDvd:Ctr:={f:=103,ps:=[.list false tU, .list false tU],rs:=[.list false tU, .list false tU],fresh:=false,pre:=fun d=>okDv d.1 d.2.1,fn:=fun d=>(dvQ d.1 d.2.1,(dvR d.1 d.2.1,()))}
abbrev dvEnd (q r:List Int):Exit→Tr AV→AHeap→Prop:=retQ Tryz.prog false Tryz.f103 (.tuple [lu q,lu r])
theorem ev_opt {l:List Int} {k:Nat} (h:k=l.length):(Nat.beq l.length 0||ownHas 179 tU (optOwn 179 tU l) (k-1))=true:=by
 subst h
 cases l with
 |nil=>rfl
 |cons x r=>rw [ownHas_optOwn];simp
theorem one_run {a:List Int} {y:Int} (ha:Dg 18446744073709551616 a) (hy:1≤y∧y<18446744073709551616) (hla:a.length≤300000) (w:World) (F:Sv.Env):
  GoalL Tryz.prog w F 137 (fl BDvd dvT) (SV0 a [y]).T (SV0 a [y]).H (fun e T H=>e= .ret∧dvEnd (dvQ a [y]) (dvR a [y]) .ret T H):=by
 have hS:=dvd_ok
 refine GoalL.st (s:=SV0 a [y]) known mixed hS 3 _ (p1_start a [y] (by omega) (by omega) (zer_len _).symm (by rw [zer_len]) (zer_cells _)) (by kernel_rfl) ?_
 refine GoalL.loop (ι:={x:List Int×Int×Nat//x.2.2≤a.length∧x.1.length=a.length∧Dg 18446744073709551616 x.1∧(0≤x.2.1∧x.2.1<y)∧vw (a.drop x.2.2)=vw (x.1.drop x.2.2)*y+x.2.1}) (id:=0) (b:=cat BDvd dvL1) (rest:=List.drop 4 (fl BDvd dvT)) (by kernel_rfl) (fun x=>SV1 a [y] x.1.1 x.1.2.1 x.1.2.2) (fun x=>x.1.2.2)
  ⟨(zerW a.length,0,a.length),Nat.le_refl _,zer_len _,zer_dg _,⟨Int.le_refl 0,show(0:Int)<y by omega⟩,by
    show vw (a.drop a.length)=vw ((zerW a.length).drop a.length)*y+0
    rw [List.drop_length,List.drop_eq_nil_of_le (by rw [zer_len];exact Nat.le_refl _)];simp [vw,vl]⟩ (fun _=>rfl) ?_
 rintro⟨⟨q,r,k⟩,hk,hq,hdq,hr,hv⟩
 have hk:k≤a.length:=hk
 have hq:q.length=a.length:=hq
 have hdq:Dg 18446744073709551616 q:=hdq
 have hr:0≤r∧r<y:=hr
 have hv:vw (a.drop k)=vw (q.drop k)*y+r:=hv
 cases k with
 |zero=>
  refine GoalL.all (s:=SV1 a [y] q r 0) known mixed hS _ (p1_end a [y] q r 0 (by omega)) (by kernel_rfl) ?_
  refine onN_exit (inB_exit ?_)
  rw [List.drop_zero,List.drop_zero]at hv
  have e1:vw [y]=y:=vw_one y
  obtain⟨g1,g2⟩:=quot_of (U:=vw a) (V:=y) (t:=vw q) (by omega) (by omega) (by omega)
  have e2:dvQ a [y]=trW q:=by unfold dvQ;rw [e1,g1,trW_dg hdq]
  have e3:dvR a [y]=trW [r]:=by
   unfold dvR
   rw [e1,g2,trW_dg (dg1 (by omega)),vw_one]
   congr 1;omega
  rw [e2,e3]
  have e4:List.take q.length (List.drop 0 q)=q:=by simp
  exact GoalL.allRet (s:=SV1 a [y] q r 0) known mixed hS _ (p1_ret a [y] q r 0 (ev_opt rfl) (by rw [e4];omega) (Nat.le_refl 1) (by simp) (by rw [e4])) fun T H h=>⟨rfl,h⟩
 |succ j=>
  have ej:(((j+1:Nat):Int)-1).toNat=j:=by omega
  have haj:=ha.get (by decide) j
  have hD:okD r (a.getD j 0) y=true:=by
   unfold okD
   rw [okU_iff.2 haj,okU_iff.2 (by omega),decide_eq_true hr.1,decide_eq_true hr.2];rfl
  have hdm:=Int.emod_add_mul_ediv (r*18446744073709551616+a.getD j 0) y
  have hm0:=Int.emod_nonneg (r*18446744073709551616+a.getD j 0) (show y≠0 by omega)
  have hm1:=Int.emod_lt_of_pos (r*18446744073709551616+a.getD j 0) (show 0<y by omega)
  have hq0:0≤(r*18446744073709551616+a.getD j 0)/y:=Int.ediv_nonneg (by omega) (by omega)
  have hq1:(r*18446744073709551616+a.getD j 0)/y<18446744073709551616:=(Int.ediv_lt_iff_lt_mul (by omega)).2 (by
   have:(r+1)*18446744073709551616≤y*18446744073709551616:=Int.mul_le_mul_of_nonneg_right (by omega) (by decide)
   rw [Int.mul_comm _ y];omega)
  refine GoalL.all (s:=SV1 a [y] q r (j+1)) known mixed hS _ (p1_go a [y] q r (j+1) (by omega) (by omega) (by omega) (by simp) (by rw [ej];exact hD) (by omega) (by omega) (by rw [List.length_set]) (by rw [List.length_set]) rfl rfl) (by kernel_rfl) ?_
  rw [ej]
  have e5:(((j+1:Nat):Int)-1-1)=(j:Int)-1:=by omega
  refine⟨⟨(q.set j (div64Q r (a.getD j 0) y),div64R r (a.getD j 0) y,j),by show j≤_;omega,by show(q.set j _).length=_;rw [List.length_set];exact hq,hdq.set ⟨hq0,hq1⟩,⟨hm0,hm1⟩, ?_⟩,by show j<j+1;omega, ?_, ?_⟩
  ·show vw (a.drop j)=vw ((q.set j (div64Q r (a.getD j 0) y)).drop j)*y+div64R r (a.getD j 0) y
   unfold vw at hv ⊢
   rw [vl_drop (l:=a) (by omega),vl_drop (l:=q.set j _) (by rw [List.length_set];omega),set_at (by omega),hv]
   have e6:(q.set j (div64Q r (a.getD j 0) y)).drop (j+1)=q.drop (j+1):=by rw [List.drop_set];rw [if_pos (by omega)]
   rw [e6]
   unfold div64Q div64R
   generalize vl 18446744073709551616 (q.drop (j+1))=z at*
   generalize (r*18446744073709551616+a.getD j 0)/y=d at*
   generalize (r*18446744073709551616+a.getD j 0)%y=e at*
   grind
  ·show(SV1' a [y] _ _ (j+1)).T=(SV1 a [y] _ _ j).T
   unfold SV1' SV1;rw [e5];rfl
  ·rfl
end
end Go.Proofs.YtccmlbinkgbpgaaGreatDoor
/- Package num: long division of words: the walk, with a divisor of two words and more. -/
namespace Go.Proofs.YtccmlbinkgbpgaaGreatDoor
open Go.RowKit Sv
set_option maxRecDepth 100000
set_option linter.unusedVariables false
noncomputable section
structure ShI (u:List Int) (s:Nat) (d:List Int) (i:Nat):Prop where
 len:d.length=u.length
 dg:Dg 18446744073709551616 d
 same:∀j,i≤j→d.getD j 0=u.getD j 0
 val:2^s*vw (d.take i)=vw (u.take i)+u.getD i 0%2^s*18446744073709551616^i
theorem ShI.next {u d:List Int} {s i:Nat} (I:ShI u s d i) (hu:Dg 18446744073709551616 u) (hs:s≤63) (hi:i+1<u.length) {x:Int} (hx:0≤x∧x<18446744073709551616) (he:2^s*x=u.getD i 0-u.getD i 0%2^s+u.getD (i+1) 0%2^s*18446744073709551616):
  ShI u s (d.set i x) (i+1):=by
 have hl:=I.len
 refine⟨by rw [List.length_set];exact hl,I.dg.set hx,fun j hj=> ?_, ?_⟩
 ·rw [set_get,if_neg (by omega)];exact I.same j (by omega)
 ·have hv:=I.val
  unfold vw at hv ⊢
  rw [vl_set_next (by omega),vl_take' u,Int.pow_succ]
  generalize vl 18446744073709551616 (d.take i)=a at*
  generalize vl 18446744073709551616 (u.take i)=b at*
  generalize (18446744073709551616:Int)^i=P at*
  generalize (2:Int)^s=S at*
  generalize u.getD (i+1) 0%S=r1 at*
  generalize u.getD i 0%S=r0 at*
  generalize u.getD i 0=u0 at*
  have e:P*(S*x)=P*(u0-r0+r1*18446744073709551616):=by rw [he]
  grind
theorem shr_digit {x y:Int} {s:Nat} (hs:1≤s∧s≤63) (hx:0≤x∧x<18446744073709551616) (hy:0≤y∧y<18446744073709551616):
  (0≤orU (shrU x s) (shlU y (64-(s:Int)))∧orU (shrU x s) (shlU y (64-(s:Int)))<18446744073709551616)∧2^s*orU (shrU x s) (shlU y (64-(s:Int)))=x-x%2^s+y%2^s*18446744073709551616:=by
 have e64:(64-(s:Int))=((64-s:Nat):Int):=by omega
 have hp:(0:Int)<2^s:=pow_pos' (by decide) _
 have hq:(0:Int)<2^(64-s):=pow_pos' (by decide) _
 have h64:(2:Int)^s*2^(64-s)=18446744073709551616:=by rw [←Int.pow_add,show s+(64-s)=64 by omega];rfl
 have h1:shrU x s=x/2^s:=shr_eq (by omega) hx.1
 have h2:shlU y (64-(s:Int))=2^(64-s)*(y%2^s):=by
  rw [e64,shl_eq (by omega) hy,show 64-(64-s)=s by omega]
 have hd:=Int.emod_add_mul_ediv x (2^s)
 have a0:0≤x/2^s:=Int.ediv_nonneg hx.1 (Int.le_of_lt hp)
 have a1:x/2^s<2^(64-s):=Int.ediv_lt_of_lt_mul hp (by rw [Int.mul_comm,h64];exact hx.2)
 have b0:=Int.emod_nonneg y (show(2:Int)^s≠0 by omega)
 have b1:=Int.emod_lt_of_pos y hp
 have c0:0≤2^(64-s)*(y%2^s):=Int.mul_nonneg (Int.le_of_lt hq) b0
 have c1:2^(64-s)*(y%2^s)+2^(64-s)≤18446744073709551616:=by
  have:=Int.mul_le_mul_of_nonneg_left (show y%2^s+1≤2^s by omega) (Int.le_of_lt hq)
  rw [Int.mul_add,Int.mul_one,Int.mul_comm (2^(64-s)) (2^s),h64]at this
  omega
 have e:orU (shrU x s) (shlU y (64-(s:Int)))=x/2^s+2^(64-s)*(y%2^s):=by
  rw [h1,h2]
  exact orU_add (s:=64-s) (by omega) ⟨a0,a1⟩ b0 rfl (by omega)
 rw [e]
 refine⟨by omega, ?_⟩
 rw [Int.mul_add,←Int.mul_assoc,h64]
 generalize (2:Int)^s*(x/2^s)=X at*
 rw [Int.mul_comm (18446744073709551616:Int)]
 omega
theorem fin_run {u q:List Int} {n s:Nat} {R:Int} (hu:Dg 18446744073709551616 u) (hdq:Dg 18446744073709551616 q) (hs:s≤63) (hn:n<u.length) (hn1:1≤n) (hlu:u.length≤400000) (hlq:q.length≤400000) (hU:vw u=2^s*R) (hR:0≤R) (hlt:vw u<18446744073709551616^n) (w:World) (F:Sv.Env):
  GoalL Tryz.prog w F 137 (List.drop 13 (fl BDvd [])) (SV3 n u q s 0).T (SV3 n u q s 0).H (dvEnd (trW q) (dgN 18446744073709551616 R)):=by
 have hS:=dvd_ok
 have hp:(0:Int)<2^s:=pow_pos' (by decide) _
 have h64:(2:Int)^s*2^(64-s)=18446744073709551616:=by rw [←Int.pow_add,show s+(64-s)=64 by omega];rfl
 have hu0:u.getD 0 0%2^s=0:=by
  have h1:=vl_drop (b:=18446744073709551616) (l:=u) (k:=0) (by omega)
  rw [List.drop_zero,Nat.zero_add]at h1
  have h2:u.getD 0 0=2^s*(R-2^(64-s)*vw (u.drop 1)):=by
   have h3:2^s*(2^(64-s)*vw (u.drop 1))=18446744073709551616*vw (u.drop 1):=by rw [←Int.mul_assoc,h64]
   rw [Int.mul_sub,h3]
   unfold vw at hU ⊢
   omega
  rw [h2]
  exact Int.mul_emod_right _ _
 have hun:u.getD n 0=0∧vw (u.take n)=vw u:=by
  have h1:=vl_low (b:=18446744073709551616) (by decide) hu hlt
  have h2:=vl_take (b:=18446744073709551616) (l:=u) (k:=n) hn
  have h3:=vl_long (b:=18446744073709551616) (by decide) hu (n+1)
  have h4:=hu.get (by decide) n
  have h5:=pow_pos' (b:=18446744073709551616) (by decide) n
  refine⟨?_,h1⟩
  by_cases hz:u.getD n 0=0
  ·exact hz
  ·have:=Int.mul_pos h5 (show 0<u.getD n 0 by omega)
   omega
 refine GoalL.loop (ι:={x:List Int×Nat//x.2≤n∧ShI u s x.1 x.2}) (id:=4) (b:=cat BDvd dvL3) (rest:=List.drop 14 (fl BDvd [])) (by kernel_rfl) (fun x=>SV3 n x.1.1 q s x.1.2) (fun x=>n-x.1.2)
  ⟨(u,0),Nat.zero_le _,⟨rfl,hu,fun _ _=>rfl,by show 2^s*vl _ ([]:List Int)=vl _ ([]:List Int)+u.getD 0 0%2^s*_;rw [hu0];simp [vl]⟩⟩ (fun _=>rfl) ?_
 rintro⟨⟨d,i⟩,hi,I⟩
 have hi:i≤n:=hi
 have I:ShI u s d i:=I
 have hdl:=I.len
 by_cases hlt2:i<n
 ·have hui:=hu.get (by decide) i
  have hui1:=hu.get (by decide) (i+1)
  have ho:∀l:List Int,l.length=u.length→∀j,j<u.length→ownHas 179 tU (some (.own 179 tU l)) j=true:=fun l hl j hj=>by rw [ownHas_own];exact decide_eq_true (by omega)
  have ei:((i:Int)+1).toNat=i+1:=by omega
  have sd:=I.same i (Nat.le_refl _)
  have sd1:=I.same (i+1) (by omega)
  by_cases hs0:s=0
  ·subst hs0
   have e1:shrU (d.getD i 0) (0:Nat)=d.getD i 0:=by rw [shr_eq (by omega) (by rw [sd];exact hui.1)];simp
   have N:=I.next hu (by omega) (by omega) (x:=shrU (d.getD i 0) (0:Nat)) (by rw [e1,sd];exact hui) (by rw [e1,sd];simp [Int.emod_one])
   exact GoalL.all (s:=SV3 n d q (0:Nat) i) (s':=SV3 n (d.set i (shrU (d.getD i 0) (0:Nat))) q (0:Nat) (i+1)) known mixed hS _ (p3_one n d q _ i (by omega) (by omega) (ho d hdl i (by omega)) (by omega) (by omega) (by omega) (by rw [List.length_set]) rfl) (by kernel_rfl)
    ⟨⟨(_,i+1),by show i+1≤n;omega,N⟩,by show n-(i+1)<n-i;omega,rfl,rfl⟩
  ·obtain⟨g1,g2⟩:=shr_digit (s:=s) (by omega) hui hui1
   have e1:(d.set i (shrU (d.getD i 0) s)).getD i 0=shrU (u.getD i 0) s:=by rw [set_at (by omega),sd]
   have e2:(d.set i (shrU (d.getD i 0) s)).getD (i+1) 0=u.getD (i+1) 0:=by rw [set_get,if_neg (by omega),sd1]
   have e3:(d.set i (shrU (d.getD i 0) s)).set i (orU (shrU (u.getD i 0) s) (shlU (u.getD (i+1) 0) (64-(s:Int))))=d.set i (orU (shrU (u.getD i 0) s) (shlU (u.getD (i+1) 0) (64-(s:Int)))):=List.set_set ..
   have N:=I.next hu hs (by omega) g1 g2
   have fin:∃j:{x:List Int×Nat//x.2≤n∧ShI u s x.1 x.2},n-j.1.2<n-i∧
     (SV3 n ((d.set i (shrU (d.getD i 0) s)).set i (orU ((d.set i (shrU (d.getD i 0) s)).getD i 0) (shlU ((d.set i (shrU (d.getD i 0) s)).getD (i+1) 0) (64-s)))) q s (i+1)).T=(SV3 n j.1.1 q s j.1.2).T∧
     (SV3 n ((d.set i (shrU (d.getD i 0) s)).set i (orU ((d.set i (shrU (d.getD i 0) s)).getD i 0) (shlU ((d.set i (shrU (d.getD i 0) s)).getD (i+1) 0) (64-s)))) q s (i+1)).H=(SV3 n j.1.1 q s j.1.2).H:=by
    rw [e1,e2,e3]
    exact⟨⟨(_,i+1),by show i+1≤n;omega,N⟩,by show n-(i+1)<n-i;omega,rfl,rfl⟩
   exact GoalL.all (s:=SV3 n d q s i) known mixed hS _ (p3_two n d q s i (by omega) (by omega) (ho d hdl i (by omega)) (by omega) (by omega) (by omega) (by omega) (ho _ (by rw [List.length_set];exact hdl) i (by omega)) (by omega) (by rw [ei];exact ho _ (by rw [List.length_set];exact hdl) (i+1) (by omega)) (by omega) (by omega) (by simp) (by rw [ei];rfl)) (by kernel_rfl) fin
 ·refine GoalL.all (s:=SV3 n d q s i) known mixed hS _ (p3_end n d q s i (by omega)) (by kernel_rfl) ?_
  refine onN_exit (inB_exit ?_)
  obtain rfl:i=n:=by omega
  have hv:=I.val
  rw [hun.1,hun.2,hU,Int.zero_emod,Int.zero_mul,Int.add_zero]at hv
  have hv2:vw (d.take i)=R:=Int.eq_of_mul_eq_mul_left (by omega) hv
  rw [←hv2,←trW_dg (I.dg.take i)]
  have e4:List.take q.length (List.drop 0 q)=q:=by simp
  have e5:List.take i (List.drop 0 d)=d.take i:=by simp
  exact GoalL.allRet (s:=SV3 i d q s i) known mixed hS _ (p4_ret i d q s i (ev_opt rfl) (by rw [e4];omega) (by omega) (by
   rw [ownHas_own,decide_eq_true (show i-1<d.length by omega)];simp) (by rw [e5,List.length_take];omega) (by rw [e4]) (by rw [e5])) fun T H h=>h
end
end Go.Proofs.YtccmlbinkgbpgaaGreatDoor
/- Package num: long division of words, as a known function. -/
namespace Go.Proofs.YtccmlbinkgbpgaaGreatDoor
open Go.RowKit Sv
set_option maxRecDepth 100000
set_option linter.unusedVariables false
noncomputable section
theorem main_run {a v:List Int} {s n m:Nat} {vb:Int} (ha:Dg 18446744073709551616 a) (hv:Dg 18446744073709551616 v) (hs:s≤63) (hvn:v.length=n) (hn:2≤n) (hm:m+n=a.length+1) (hm1:1≤m) (hla:a.length≤300000)
  (hV:vw v=vb*2^s) (hb0:0<vb) (hbl:18446744073709551616^(n-1)≤vb) (htop:9223372036854775808≤v.getD (n-1) 0) (w:World) (F:Sv.Env):
  GoalL Tryz.prog w F 137 (List.drop 11 (fl BDvd [])) (SV2 a v (shW a s) (zerW m) s m).T (SV2 a v (shW a s) (zerW m) s m).H (dvEnd (dgN 18446744073709551616 (vw a/vb)) (dgN 18446744073709551616 (vw a%vb))):=by
 have hS:=dvd_ok
 have hp:(0:Int)<2^s:=pow_pos' (by decide) _
 have hp64:(2:Int)^s≤2^63:=pow_le_pow' (by decide) hs
 have e63:(2:Int)^63=9223372036854775808:=rfl
 have hV0:0<vw v:=by rw [hV];exact Int.mul_pos hb0 hp
 have hVn:vw v<18446744073709551616^n:=by rw [←hvn];exact vl_lt (by decide) hv
 have hA0:0≤vw a:=vl_nn (by decide) ha
 have hA1:vw a<18446744073709551616^a.length:=vl_lt (by decide) ha
 have hAS:vw a*2^s<18446744073709551616^(a.length+1):=by
  rw [Int.pow_succ]
  have h1:=Int.mul_le_mul_of_nonneg_left (show(2:Int)^s≤18446744073709551616 by omega) hA0
  have h2:=Int.mul_lt_mul_of_pos_right hA1 (show(0:Int)<18446744073709551616 by decide)
  omega
 have hu0:vw (shW a s)=vw a*2^s:=by
  unfold shW
  rw [Int.toNat_natCast]
  exact pad_vl (by decide) _ _ (Int.mul_nonneg hA0 (Int.le_of_lt hp)) hAS
 have hul:(shW a s).length=a.length+1:=by unfold shW;exact pad_len _ _ _
 have hud:Dg 18446744073709551616 (shW a s):=by unfold shW;exact pad_dg (by decide) _ _
 have hzg:∀k,(zerW m).getD k 0=0:=fun k=>by
  unfold zerW
  rw [List.getD_eq_getElem?_getD,List.getElem?_replicate];split<;>rfl
 refine GoalL.loop (ι:={x:List Int×List Int×Nat//x.2.2≤m∧x.1.length=a.length+1∧Dg 18446744073709551616 x.1∧x.2.1.length=m∧Dg 18446744073709551616 x.2.1∧vw (x.1.drop x.2.2)<vw v∧vw x.1+vw v*vw x.2.1=vw a*2^s∧∀j,j<x.2.2→x.2.1.getD j 0=0}) (id:=2) (b:=cat BDvd dvL2) (rest:=List.drop 12 (fl BDvd [])) (by kernel_rfl) (fun x=>SV2 a v x.1.1 x.1.2.1 s x.1.2.2) (fun x=>x.1.2.2)
  ⟨(shW a s,zerW m,m),Nat.le_refl _,hul,hud,zer_len _,zer_dg _, ?_, ?_,fun j _=>hzg j⟩ (fun _=>rfl) ?_
 ·show vw ((shW a s).drop m)<vw v
  have h1:=vl_split 18446744073709551616 (shW a s) m (by omega)
  have h2:=vl_nn (b:=18446744073709551616) (by decide) (hud.take m)
  have h3:18446744073709551616^m*vw ((shW a s).drop m)≤vw a*2^s:=by rw [←hu0];unfold vw;omega
  have h4:vw a*2^s<18446744073709551616^m*vw v:=by
   have e1:(18446744073709551616:Int)^a.length=18446744073709551616^m*18446744073709551616^(n-1):=by rw [←Int.pow_add,show m+(n-1)=a.length by omega]
   have c1:=Int.mul_lt_mul_of_pos_right hA1 hp
   have c2:=Int.mul_le_mul_of_nonneg_right hbl (Int.le_of_lt hp)
   have c3:=Int.mul_le_mul_of_nonneg_left c2 (Int.le_of_lt (pow_pos' (b:=18446744073709551616) (by decide) m))
   rw [←hV,←Int.mul_assoc,←e1]at c3
   omega
  exact Int.lt_of_mul_lt_mul_left (show 18446744073709551616^m*vw ((shW a s).drop m)<18446744073709551616^m*vw v by omega) (Int.le_of_lt (pow_pos' (by decide) m))
 ·show vw (shW a s)+vw v*vw (zerW m)=_
  have:vw (zerW m)=0:=vl_rep _ m
  rw [this,hu0];omega
 rintro⟨⟨u,q,k⟩,hk,hl,hdu,hq,hdq,hlow,hval,hz⟩
 have hk:k≤m:=hk
 have hl:u.length=a.length+1:=hl
 have hdu:Dg 18446744073709551616 u:=hdu
 have hq:q.length=m:=hq
 have hdq:Dg 18446744073709551616 q:=hdq
 have hlow:vw (u.drop k)<vw v:=hlow
 have hval:vw u+vw v*vw q=vw a*2^s:=hval
 have hz:∀j,j<k→q.getD j 0=0:=hz
 cases k with
 |zero=>
  refine GoalL.all (s:=SV2 a v u q s 0) known mixed hS _ (p2_end a v u q s 0 (by omega)) (by kernel_rfl) ?_
  refine onN_exit (inB_exit ?_)
  rw [List.drop_zero]at hlow
  have hU0:0≤vw u:=vl_nn (by decide) hdu
  obtain⟨g1,g2⟩:=div_end (A:=vw a) (b:=vb) (V:=vw v) (S:=2^s) (U:=vw u) (q:=vw q) hp hb0 hV hval hU0 hlow
  rw [g1,←trW_dg hdq]
  refine GoalL.st (s:=SV2 a v u q s 0) known mixed hS 1 _ (p3_start a v u q s 0) (by kernel_rfl) ?_
  rw [hvn]
  exact fin_run hdu hdq hs (by omega) (by omega) (by omega) (by omega) g2 (Int.emod_nonneg _ (by omega)) (Int.lt_trans hlow hVn) w F
 |succ j=>
  have ej:(((j+1:Nat):Int)-1).toNat=j:=by omega
  have ew:(((j+1:Nat):Int)-1+v.length+1).toNat=j+(n+1):=by omega
  have ed:j+(n+1)-j=n+1:=by omega
  have e5:(((j+1:Nat):Int)-1-1)=(j:Int)-1:=by omega
  obtain⟨w1,w2,w3⟩:=win_val (b:=18446744073709551616) (by decide) hdu (j:=j) (n:=n) (V:=vw v) (by omega) (Int.le_of_lt hVn) hlow
  have hwin:vw (winW u j (n+1))<18446744073709551616*vw v:=by unfold winW vw;rw [←w1];exact w2
  have hpre:stPre u j (n+1) v=true:=by
   unfold stPre
   rw [dgB_iff.2 hdu,dgB_iff.2 hv,decide_eq_true (show 2≤v.length by omega),hvn,Nat.beq_refl,decide_eq_true (show n≤1000000 by omega),decide_eq_true htop,decide_eq_true hwin];rfl
  obtain⟨n1,n2,n3,n4⟩:=win_next (b:=18446744073709551616) (by decide) hdu (j:=j) (n:=n) (V:=vw v) (by omega) hV0 (Int.le_of_lt hVn) hlow (u':=stOut u j (n+1) v) rfl
  have hWn:0≤vw (winW u j (n+1)):=vl_nn (by decide) ((hdu.drop j).take _)
  have hQ0:0≤stQ u j (n+1) v:=Int.ediv_nonneg hWn (Int.le_of_lt hV0)
  have hQ1:stQ u j (n+1) v<18446744073709551616:=(Int.ediv_lt_iff_lt_mul hV0).2 hwin
  have fin:∃y:{x:List Int×List Int×Nat//x.2.2≤m∧x.1.length=a.length+1∧Dg 18446744073709551616 x.1∧x.2.1.length=m∧Dg 18446744073709551616 x.2.1∧vw (x.1.drop x.2.2)<vw v∧vw x.1+vw v*vw x.2.1=vw a*2^s∧∀j,j<x.2.2→x.2.1.getD j 0=0},y.1.2.2<j+1∧
    (SV2' a v (stOut u j (n+1) v) (q.set j (stQ u j (n+1) v)) s (j+1)).T=(SV2 a v y.1.1 y.1.2.1 s y.1.2.2).T∧(SV2' a v (stOut u j (n+1) v) (q.set j (stQ u j (n+1) v)) s (j+1)).H=(SV2 a v y.1.1 y.1.2.1 s y.1.2.2).H:=by
   refine⟨⟨(stOut u j (n+1) v,q.set j (stQ u j (n+1) v),j),by show j≤m;omega,by show(stOut u j (n+1) v).length=_;omega,n2,by show(q.set j _).length=m;rw [List.length_set];exact hq,hdq.set ⟨hQ0,hQ1⟩,n4, ?_,fun i hi=> ?_⟩,Nat.lt_succ_self _, ?_,rfl⟩
   ·show vw (stOut u j (n+1) v)+vw v*vw (q.set j (stQ u j (n+1) v))=_
    have hset:vw (q.set j (stQ u j (n+1) v))=vw q+18446744073709551616^j*stQ u j (n+1) v:=by
     unfold vw
     rw [vl_set _ _ _ _ (by omega),hz j (Nat.lt_succ_self _),Int.sub_zero]
    have n3':vw (stOut u j (n+1) v)+18446744073709551616^j*stQ u j (n+1) v*vw v=vw u:=n3
    rw [hset,←hval,←n3']
    generalize vw (stOut u j (n+1) v)=x1
    generalize stQ u j (n+1) v=x2
    generalize (18446744073709551616:Int)^j=x3
    generalize vw q=x4
    generalize vw v=x5
    grind
   ·have hi:i<j:=hi
    show(q.set j _).getD i 0=0
    rw [set_get,if_neg (by omega)];exact hz i (by omega)
   ·show(SV2' a v _ _ s (j+1)).T=(SV2 a v _ _ s j).T
    unfold SV2' SV2;rw [e5]
  have hlen':u.length=(stOut u j (n+1) v).length:=by omega
  have hown:∀i l,i<u.length→1≤l→(ownHas 179 tU (some (.own 179 tU u)) i&&Nat.ble 1 l)=true:=fun i l hi hl=>by rw [ownHas_own,decide_eq_true hi,Nat.ble_eq_true_of_le hl];rfl
  have ew0:(((0+1:Nat):Int)-1+v.length+1).toNat=n+1:=by omega
  by_cases hj0:j=0
  ·subst hj0
   refine GoalL.all (s:=SV2 a v u q s 1) known mixed hS _ (p2_z a v u q s 1 (by omega) (by omega) (by omega) (by omega) (by rw [ew0];omega) rfl (by rw [ew0];exact hown _ _ (by omega) (by omega)) (by rw [ew0];exact hpre) (by rw [ej];omega) (by omega) (by rw [ew0];exact hlen') (by rw [List.length_set]) (by rw [List.length_set])) (by kernel_rfl) ?_
   rw [ew0,ej]
   exact fin
  ·refine GoalL.all (s:=SV2 a v u q s (j+1)) known mixed hS _ (p2_s a v u q s (j+1) (by omega) (by omega) (by omega) (by omega) (by rw [ew];omega) (by
    rw [ej]
    cases hb:Nat.beq j 0 with
    |false=>rfl
    |true=>exact absurd (Nat.eq_of_beq_eq_true hb) hj0) (by rw [ew,ej];omega) (by
    rw [ew,ej,ed];exact hown _ _ (by omega) (by omega)) (by rw [ew,ej,ed];exact hpre) (by rw [ej];omega) (by omega) (by rw [ew,ej,ed];exact hlen') (by rw [List.length_set]) (by rw [List.length_set])) (by kernel_rfl) ?_
   rw [ew,ej,ed]
   exact fin
theorem dvd_holds (a b:List Int) (h:okDv a b=true):Holds Tryz.prog false 103 [lu a,lu b] (.tuple [lu (dvQ a b),lu (dvR a b)]):=by
 have hS:=dvd_ok
 unfold okDv okC2 at h
 simp only [Bool.and_eq_true,decide_eq_true_eq,dgB_iff,tmB_iff]at h
 obtain⟨⟨⟨ha,hat⟩,⟨hb,hbt⟩,hal⟩,hb1,hla,hlb⟩:=h
 have hC:okC2 a b=true:=by
  unfold okC2
  rw [dgB_iff.2 ha,tmB_iff.2 hat,dgB_iff.2 hb,tmB_iff.2 hbt,decide_eq_true hal];rfl
 have hA0:0≤vw a:=vl_nn (by decide) ha
 have hB0:0≤vw b:=vl_nn (by decide) hb
 refine holds_fl (c:=BDvd) Tryz.func103 rfl rfl fun w F=> ?_
 by_cases hlt:vw a<vw b
 ·have e1:dvQ a b=[]:=by unfold dvQ;rw [Int.ediv_eq_zero_of_lt hA0 hlt];exact dgN_zero (by decide)
  have e2:dvR a b=a:=by unfold dvR;rw [Int.emod_eq_of_lt hA0 hlt];exact(dgN_uniq (by decide) ha hat rfl).symm
  rw [e1,e2]
  exact GoalL.ret known mixed hS 3 _ (dz_lt a b hC (by unfold cmpV;rw [if_pos hlt];decide)) fun T H h=>h
 ·refine GoalL.to known mixed hS 4 _ (dz_go a b hC (by unfold cmpV;rw [if_neg hlt];split<;>decide)) (by kernel_rfl) ?_
  obtain⟨n,hn⟩:∃n,b.length=n+1:=⟨b.length-1,by omega⟩
  have hbn:=hb.get (by decide) n
  have hbz:=hbt n hn
  cases n with
  |zero=>
   obtain⟨y,rfl⟩:∃y,b=[y]:=List.length_eq_one_iff.1 hn
   have hy:y≠0:=hbz
   have hy2:0≤y∧y<18446744073709551616:=hbn
   refine goalL_cond (X:=X0) (o:= .tmp 23) (x:=cat BDvd dvT) (y:= .skip) (rest:=List.drop 5 (fl BDvd [])) (by kernel_rfl) (by kernel_rfl) ?_
   refine GoalL.mono (fun e T H hq=> ?_) (one_run ha (by omega) hla w F)
   obtain⟨rfl,hq⟩:=hq
   exact hq
  |succ m=>
   refine GoalL.st (s:=SV0 a b) known mixed hS 1 _ (p2_skip a b (by omega)) (by kernel_rfl) ?_
   obtain⟨s,hs,hs63,hY0,hY1⟩:=lz_spec (x:=b.getD (m+1) 0) (by omega)
   have en:((b.length:Int)-1).toNat=m+1:=by omega
   have hp:(0:Int)<2^s:=pow_pos' (by decide) _
   have hblast:=vw_last (u:=b) (n:=m+1) hn
   have hbt0:=vl_nn (b:=18446744073709551616) (by decide) (hb.take (m+1))
   have hbt1:=vl_lt (b:=18446744073709551616) (by decide) (hb.take (m+1))
   rw [List.length_take,Nat.min_eq_left (by omega)]at hbt1
   have hP:=pow_pos' (b:=18446744073709551616) (by decide) (m+1)
   have hbl:18446744073709551616^(m+1)≤vw b:=vl_ge (by decide) hb hbt hn
   -- the divisor, shifted up, has as many words
   have hyS:(b.getD (m+1) 0+1)*2^s≤18446744073709551616:=by
    have e64:(18446744073709551616:Int)=2^(64-s)*2^s:=by rw [←Int.pow_add,show 64-s+s=64 by omega];rfl
    have h1:b.getD (m+1) 0<2^(64-s):=Int.lt_of_mul_lt_mul_right (show b.getD (m+1) 0*2^s<2^(64-s)*2^s by rw [←e64];exact hY1) (Int.le_of_lt hp)
    rw [e64]
    exact Int.mul_le_mul_of_nonneg_right (by omega) (Int.le_of_lt hp)
   have hVlt:vw b*2^s<18446744073709551616^(m+2):=by
    have h1:vw b<18446744073709551616^(m+1)*(b.getD (m+1) 0+1):=by rw [Int.mul_add,Int.mul_one];unfold vw at*;omega
    have h2:=Int.mul_lt_mul_of_pos_right h1 hp
    have h3:=Int.mul_le_mul_of_nonneg_left hyS (Int.le_of_lt hP)
    rw [Int.mul_assoc]at h2
    rw [Int.pow_succ]
    omega
   have hshw:vw (shW b s)=vw b*2^s:=by
    unfold shW
    rw [Int.toNat_natCast]
    refine pad_vl (by decide) _ _ (Int.mul_nonneg hB0 (Int.le_of_lt hp)) ?_
    have:=pow_le_pow' (b:=18446744073709551616) (by decide) (show m+2≤b.length+1 by omega)
    omega
   have hshd:Dg 18446744073709551616 (shW b s):=by unfold shW;exact pad_dg (by decide) _ _
   have hshl:(shW b s).length=m+3:=by unfold shW;rw [pad_len];omega
   have hv:=trW_dg hshd
   rw [hshw]at hv
   have hV0:0≤vw b*2^s:=Int.mul_nonneg hB0 (Int.le_of_lt hp)
   obtain⟨v1,v2,v3⟩:=dgN_spec (b:=18446744073709551616) (by decide) hV0
   have hvV:vw (trW (shW b s))=vw b*2^s:=by rw [hv];exact v3
   have hvl:(trW (shW b s)).length=m+2:=by
    have h1:=dgN_len (b:=18446744073709551616) (by decide) hV0 hVlt
    rw [←hv]at h1
    by_cases hc:m+2≤(trW (shW b s)).length
    ·omega
    ·have h2:=vl_lt (b:=18446744073709551616) (by decide) v1
     rw [←hv]at h2
     have h3:=pow_le_pow' (b:=18446744073709551616) (by decide) (show(trW (shW b s)).length≤m+1 by omega)
     have h4:=Int.mul_le_mul_of_nonneg_left (show(1:Int)≤2^s by omega) hB0
     unfold vw at hvV hbl h4
     omega
   have hvd:Dg 18446744073709551616 (trW (shW b s)):=by rw [hv];exact v1
   have htop:9223372036854775808≤(trW (shW b s)).getD (m+2-1) 0:=by
    have h1:=vw_last (u:=trW (shW b s)) (n:=m+1) hvl
    have h2:=vl_lt (b:=18446744073709551616) (by decide) (hvd.take (m+1))
    rw [List.length_take,Nat.min_eq_left (by omega)]at h2
    have h3:18446744073709551616^(m+1)*(b.getD (m+1) 0*2^s)≤vw b*2^s:=by
     rw [←Int.mul_assoc]
     exact Int.mul_le_mul_of_nonneg_right (by unfold vw at*;omega) (Int.le_of_lt hp)
    have h4:=Int.mul_le_mul_of_nonneg_left hY0 (Int.le_of_lt hP)
    show _≤(trW (shW b s)).getD (m+1) 0
    rw [hvV]at h1
    have h5:18446744073709551616^(m+1)*9223372036854775808<18446744073709551616^(m+1)*((trW (shW b s)).getD (m+1) 0+1):=by
     rw [Int.mul_add,Int.mul_one]
     unfold vw at*
     omega
    have:=Int.lt_of_mul_lt_mul_left h5 (Int.le_of_lt hP)
    omega
   have hge:m+2≤a.length:=by
    refine Nat.not_lt.1 fun hh=> ?_
    exact hlt (vl_short (by decide) ha hb hbt (by omega))
   have hoS:∀l:List Int,Dg 18446744073709551616 l→l.length≤300000→okS l (s:Int)=true:=fun l hl hll=>by
    unfold okS
    rw [dgB_iff.2 hl,decide_eq_true (show l.length≤400000 by omega),decide_eq_true (show(0:Int)≤(s:Int) by omega),decide_eq_true (show(s:Int)<64 by omega)];rfl
   have ht:List.take (shW b s).length (List.drop 0 (shW b s))=shW b s:=by simp
   have hs':lzI (b.getD ((b.length:Int)-1).toNat 0)=(s:Int):=by rw [en];exact hs
   refine GoalL.st (s:=SV0 a b) known mixed hS 2 _ (p2_a a b (trW (shW b s)) s (by omega) (by omega) (by omega) (by rw [en];exact okU_iff.2 hbn) (by rw [hs'];exact hoS b hb hlb) (by
    rw [hs']
    have:ownHas 179 tU (some (.own 179 tU (shW b s))) ((shW b s).length-1)=true:=by rw [ownHas_own];exact decide_eq_true (by omega)
    rw [Bool.or_eq_true];exact .inr this) (by rw [hs',ht];omega) hs' (by rw [hs',ht])) (by kernel_rfl) ?_
   have em:((a.length:Int)-(trW (shW b s)).length+1).toNat=a.length-(m+2)+1:=by omega
   refine GoalL.st (s:=SVa a (trW (shW b s)) s) known mixed hS 4 _ (p2_b a (trW (shW b s)) s (a.length-(m+2)+1) (hoS a ha hla) (by omega) (by omega) (by omega) (by rw [em];omega) rfl (by rw [em,zer_len]) (by rw [em]) (by rw [zer_len]) (by omega) (by rw [em];exact zer_cells _) (by rw [zer_len])) (by kernel_rfl) ?_
   exact main_run ha hvd hs63 hvl (by omega) (by omega) (by omega) hla hvV (by omega) (by rw [show m+2-1=m+1 by omega];exact hbl) htop w F
theorem cDvd_ok:cDvd.Ok Tryz.prog:=fun⟨a,b,_⟩ h=>dvd_holds a b h
end
end Go.Proofs.YtccmlbinkgbpgaaGreatDoor
/- Package num: integers: quotient and rest. -/
namespace Go.Proofs.YtccmlbinkgbpgaaGreatDoor
open Go.RowKit Sv
set_option maxRecDepth 100000
set_option linter.unusedVariables false
noncomputable section
noncomputable def BDm:Code:=(Tryz.f128.body).getD .skip
noncomputable def ndCs:VCaller:=ctrs [cParts,cMade,cDvd,cISign,cISub,cIAdd]
abbrev s4:Sv.Ren:=[(64,64,none),(65,65,none),(66,66,none),(67,67,none)]
def SDm (a b:NI):St:={n:=84,sl:=[(2, .ptr 64 0),(3, .ptr 65 0),(4, .ptr 66 0),(5, .ptr 67 0)],en:=[(64,bI a),(65,bI b),(66,b0),(67,b0)],next:=68}
def dmQ (a b:NI):Int×List Int:=mkI (madeZ (negI a) (dvQ (prW a) (prW b)))
def dmR (a b:NI):Int×List Int:=mkI (madeZ (negI a) (dvR (prW a) (prW b)))
theorem dm_neg (a b:NI) (h1:a.2.isEmpty=true) (h2:b.2.isEmpty=true) (h3:¬a.1= -9223372036854775808) (h4:b.1≠0) (h5: -9223372036854775808≤Int.tdiv a.1 b.1∧Int.tdiv a.1 b.1≤9223372036854775807) (h6:Int.tmod a.1 b.1<0) (h7: -9223372036854775808≤Int.tdiv a.1 b.1-1∧Int.tdiv a.1 b.1-1≤9223372036854775807) (h8: -9223372036854775808≤Int.tmod a.1 b.1+b.1∧Int.tmod a.1 b.1+b.1≤9223372036854775807):
  Tst.path (vrun0 Tryz.prog ndCs (fl BDm []) 3 84 [nv a,nv b]) [true,true,true,true,true,true,true,true,true,true] (toRet Tryz.prog Tryz.f128 false (.tuple [nv (Int.tdiv a.1 b.1-1,[]),nv (Int.tmod a.1 b.1+b.1,[])])):=
 mp (an (bT (bT h1)) (an (bT (bT h1)) (an (bT (bT h1)) (an (bT h1) (an (bT (bT h2)) (an (bT (bT h2)) (an (bT (bT h2)) (an (bT h2) (an (bne_iff_ne.mpr h3) (an (sr (iv a.1)) (an (sr (iv b.1)) (an (decide_eq_true h4) (an (fits_i64 h5) (an (sr (iv a.1)) (an (sr (iv b.1)) (an (decide_eq_true h4) (an (decide_eq_true h6) (an (fits_i64 h7) (an (sr (iv b.1)) (an (fits_i64 h8) (an (an (rr (Int.tdiv a.1 b.1-1)) (an (rr nilI) trivial)) (an (an (rr (Int.tmod a.1 b.1+b.1)) (an (rr nilI) trivial)) trivial))))))))))))))))))))))
theorem dm_pos (a b:NI) (h1:a.2.isEmpty=true) (h2:b.2.isEmpty=true) (h3:¬a.1= -9223372036854775808) (h4:b.1≠0) (h5: -9223372036854775808≤Int.tdiv a.1 b.1∧Int.tdiv a.1 b.1≤9223372036854775807) (h6:¬Int.tmod a.1 b.1<0):
  Tst.path (vrun0 Tryz.prog ndCs (fl BDm []) 3 84 [nv a,nv b]) [true,true,true,true,true,true,true,true,true,false] (toRet Tryz.prog Tryz.f128 false (.tuple [nv (Int.tdiv a.1 b.1,[]),nv (Int.tmod a.1 b.1,[])])):=
 mp (an (bT (bT h1)) (an (bT (bT h1)) (an (bT (bT h1)) (an (bT h1) (an (bT (bT h2)) (an (bT (bT h2)) (an (bT (bT h2)) (an (bT h2) (an (bne_iff_ne.mpr h3) (an (sr (iv a.1)) (an (sr (iv b.1)) (an (decide_eq_true h4) (an (fits_i64 h5) (an (sr (iv a.1)) (an (sr (iv b.1)) (an (decide_eq_true h4) (an (decide_eq_false h6) (an (an (rr (Int.tdiv a.1 b.1)) (an (rr nilI) trivial)) (an (an (rr (Int.tmod a.1 b.1)) (an (rr nilI) trivial)) trivial)))))))))))))))))))
theorem dm_r1 (a b:NI) (h1:a.2.isEmpty=false):
  Tst.path (vrun0 Tryz.prog ndCs (fl BDm []) 3 84 [nv a,nv b]) [false,false,false,false,false,false,false,false,false] (toSt Tryz.prog 84 .normal s4 (SDm a b)):=
 mp (an (bT (bT h1)) (an (bT (bT h1)) (an (bT (bT h1)) (an (bT h1) (an rf (an rf (an rf (an rf (an rf (an (rr ((0:Nat))) (an (rr ((0:Nat))) (an (rr ((0:Nat))) (an (rr ((0:Nat))) (an (an (rr a.1) (an (rr a.2) trivial)) (an (an (rr b.1) (an (rr b.2) trivial)) (an (an (rr ((0:Int))) (an (rr (Value.slice none (0:Nat) (0:Nat))) trivial)) (an (an (rr ((0:Int))) (an (rr (Value.slice none (0:Nat) (0:Nat))) trivial)) trivial)))))))))))))))))
theorem dm_r2 (a b:NI) (h1:a.2.isEmpty=true) (h2:b.2.isEmpty=false):
  Tst.path (vrun0 Tryz.prog ndCs (fl BDm []) 3 84 [nv a,nv b]) [true,true,true,true,false,false,false,false,false] (toSt Tryz.prog 84 .normal s4 (SDm a b)):=
 mp (an (bT (bT h1)) (an (bT (bT h1)) (an (bT (bT h1)) (an (bT h1) (an (bT (bT h2)) (an (bT (bT h2)) (an (bT (bT h2)) (an (bT h2) (an rf (an (rr ((0:Nat))) (an (rr ((0:Nat))) (an (rr ((0:Nat))) (an (rr ((0:Nat))) (an (an (rr a.1) (an (rr a.2) trivial)) (an (an (rr b.1) (an (rr b.2) trivial)) (an (an (rr ((0:Int))) (an (rr (Value.slice none (0:Nat) (0:Nat))) trivial)) (an (an (rr ((0:Int))) (an (rr (Value.slice none (0:Nat) (0:Nat))) trivial)) trivial)))))))))))))))))
theorem dm_r3 (a b:NI) (h1:a.2.isEmpty=true) (h2:b.2.isEmpty=true) (h3:a.1= -9223372036854775808):
  Tst.path (vrun0 Tryz.prog ndCs (fl BDm []) 3 84 [nv a,nv b]) [true,true,true,true,true,true,true,true,false] (toSt Tryz.prog 84 .normal s4 (SDm a b)):=
 mp (an (bT (bT h1)) (an (bT (bT h1)) (an (bT (bT h1)) (an (bT h1) (an (bT (bT h2)) (an (bT (bT h2)) (an (bT (bT h2)) (an (bT h2) (an (bne_eq_false_iff_eq.mpr h3) (an (rr ((0:Nat))) (an (rr ((0:Nat))) (an (rr ((0:Nat))) (an (rr ((0:Nat))) (an (an (rr a.1) (an (rr a.2) trivial)) (an (an (rr b.1) (an (rr b.2) trivial)) (an (an (rr ((0:Int))) (an (rr (Value.slice none (0:Nat) (0:Nat))) trivial)) (an (an (rr ((0:Int))) (an (rr (Value.slice none (0:Nat) (0:Nat))) trivial)) trivial)))))))))))))))))
theorem dm_lt (a b:NI) (h1:(okI (a.1,a.2))=true) (h2:(okI (b.1,b.2))=true) (h3:(okDv (prW (a.1,a.2)) (prW (b.1,b.2)))=true) (h4:(dgB (dvQ (prW (a.1,a.2)) (prW (b.1,b.2)))&&tmB (dvQ (prW (a.1,a.2)) (prW (b.1,b.2))))=true) (h5:(dgB (dvR (prW (a.1,a.2)) (prW (b.1,b.2)))&&tmB (dvR (prW (a.1,a.2)) (prW (b.1,b.2))))=true) (h6:(okI ((mkI (madeZ (negI (a.1,a.2)) (dvR (prW (a.1,a.2)) (prW (b.1,b.2))))).1,(mkI (madeZ (negI (a.1,a.2)) (dvR (prW (a.1,a.2)) (prW (b.1,b.2))))).2))=true) (h7:iSign ((mkI (madeZ (negI (a.1,a.2)) (dvR (prW (a.1,a.2)) (prW (b.1,b.2))))).1,(mkI (madeZ (negI (a.1,a.2)) (dvR (prW (a.1,a.2)) (prW (b.1,b.2))))).2)<0) (h8:(okI ((mkI (madeZ (negI (a.1,a.2)) (dvQ (prW (a.1,a.2)) (prW (b.1,b.2))))).1,(mkI (madeZ (negI (a.1,a.2)) (dvQ (prW (a.1,a.2)) (prW (b.1,b.2))))).2)&&okI ((1:Int),[]))=true) (h9:(okI ((mkI (madeZ (negI (a.1,a.2)) (dvR (prW (a.1,a.2)) (prW (b.1,b.2))))).1,(mkI (madeZ (negI (a.1,a.2)) (dvR (prW (a.1,a.2)) (prW (b.1,b.2))))).2)&&okI (b.1,b.2))=true) (h10:(iSub ((mkI (madeZ (negI (a.1,a.2)) (dvQ (prW (a.1,a.2)) (prW (b.1,b.2))))).1,(mkI (madeZ (negI (a.1,a.2)) (dvQ (prW (a.1,a.2)) (prW (b.1,b.2))))).2) ((1:Int),[])).1=(iSub (dmQ a b) ((1:Int),[])).1) (h11:(iSub ((mkI (madeZ (negI (a.1,a.2)) (dvQ (prW (a.1,a.2)) (prW (b.1,b.2))))).1,(mkI (madeZ (negI (a.1,a.2)) (dvQ (prW (a.1,a.2)) (prW (b.1,b.2))))).2) ((1:Int),[])).2=(iSub (dmQ a b) ((1:Int),[])).2) (h12:(iAdd ((mkI (madeZ (negI (a.1,a.2)) (dvR (prW (a.1,a.2)) (prW (b.1,b.2))))).1,(mkI (madeZ (negI (a.1,a.2)) (dvR (prW (a.1,a.2)) (prW (b.1,b.2))))).2) (b.1,b.2)).1=(iAdd (dmR a b) b).1) (h13:(iAdd ((mkI (madeZ (negI (a.1,a.2)) (dvR (prW (a.1,a.2)) (prW (b.1,b.2))))).1,(mkI (madeZ (negI (a.1,a.2)) (dvR (prW (a.1,a.2)) (prW (b.1,b.2))))).2) (b.1,b.2)).2=(iAdd (dmR a b) b).2):
  Tst.path (vall Tryz.prog ndCs (List.drop 3 (fl BDm [])) (SDm a b)) [true] (toRet Tryz.prog Tryz.f128 false (.tuple [nv (iSub (dmQ a b) (1,[])),nv (iAdd (dmR a b) b)])):=
 mp (an h1 (an h2 (an h3 (an h4 (an h5 (an h6 (an (decide_eq_true h7) (an (sr (AV.agg [iv (mkI (madeZ (negI (a.1,a.2)) (dvQ (prW (a.1,a.2)) (prW (b.1,b.2))))).1,AV.lst true (.int .u64) (mkI (madeZ (negI (a.1,a.2)) (dvQ (prW (a.1,a.2)) (prW (b.1,b.2))))).2])) (an (sr (AV.agg [iv (mkI (madeZ (negI (a.1,a.2)) (dvQ (prW (a.1,a.2)) (prW (b.1,b.2))))).1,AV.lst true (.int .u64) (mkI (madeZ (negI (a.1,a.2)) (dvQ (prW (a.1,a.2)) (prW (b.1,b.2))))).2])) (an h8 (an (sr (AV.agg [iv (mkI (madeZ (negI (a.1,a.2)) (dvR (prW (a.1,a.2)) (prW (b.1,b.2))))).1,AV.lst true (.int .u64) (mkI (madeZ (negI (a.1,a.2)) (dvR (prW (a.1,a.2)) (prW (b.1,b.2))))).2])) (an (sr (AV.agg [iv (mkI (madeZ (negI (a.1,a.2)) (dvR (prW (a.1,a.2)) (prW (b.1,b.2))))).1,AV.lst true (.int .u64) (mkI (madeZ (negI (a.1,a.2)) (dvR (prW (a.1,a.2)) (prW (b.1,b.2))))).2])) (an (sr (AV.agg [iv (mkI (madeZ (negI (a.1,a.2)) (dvR (prW (a.1,a.2)) (prW (b.1,b.2))))).1,AV.lst true (.int .u64) (mkI (madeZ (negI (a.1,a.2)) (dvR (prW (a.1,a.2)) (prW (b.1,b.2))))).2])) (an (sr (AV.agg [iv b.1,AV.lst true (.int .u64) b.2])) (an (sr (AV.agg [iv b.1,AV.lst true (.int .u64) b.2])) (an (sr (AV.agg [iv b.1,AV.lst true (.int .u64) b.2])) (an h9 (an (sr (AV.agg [iv (iSub ((mkI (madeZ (negI (a.1,a.2)) (dvQ (prW (a.1,a.2)) (prW (b.1,b.2))))).1,(mkI (madeZ (negI (a.1,a.2)) (dvQ (prW (a.1,a.2)) (prW (b.1,b.2))))).2) ((1:Int),[])).1,AV.lst true (.int .u64) (iSub ((mkI (madeZ (negI (a.1,a.2)) (dvQ (prW (a.1,a.2)) (prW (b.1,b.2))))).1,(mkI (madeZ (negI (a.1,a.2)) (dvQ (prW (a.1,a.2)) (prW (b.1,b.2))))).2) ((1:Int),[])).2])) (an (sr (AV.agg [iv (iAdd ((mkI (madeZ (negI (a.1,a.2)) (dvR (prW (a.1,a.2)) (prW (b.1,b.2))))).1,(mkI (madeZ (negI (a.1,a.2)) (dvR (prW (a.1,a.2)) (prW (b.1,b.2))))).2) (b.1,b.2)).1,AV.lst true (.int .u64) (iAdd ((mkI (madeZ (negI (a.1,a.2)) (dvR (prW (a.1,a.2)) (prW (b.1,b.2))))).1,(mkI (madeZ (negI (a.1,a.2)) (dvR (prW (a.1,a.2)) (prW (b.1,b.2))))).2) (b.1,b.2)).2])) (an (sr (AV.agg [iv (iAdd ((mkI (madeZ (negI (a.1,a.2)) (dvR (prW (a.1,a.2)) (prW (b.1,b.2))))).1,(mkI (madeZ (negI (a.1,a.2)) (dvR (prW (a.1,a.2)) (prW (b.1,b.2))))).2) (b.1,b.2)).1,AV.lst true (.int .u64) (iAdd ((mkI (madeZ (negI (a.1,a.2)) (dvR (prW (a.1,a.2)) (prW (b.1,b.2))))).1,(mkI (madeZ (negI (a.1,a.2)) (dvR (prW (a.1,a.2)) (prW (b.1,b.2))))).2) (b.1,b.2)).2])) (an (an h10 (an h11 trivial)) (an (an h12 (an h13 trivial)) trivial))))))))))))))))))))))
theorem dm_ge (a b:NI) (h1:(okI (a.1,a.2))=true) (h2:(okI (b.1,b.2))=true) (h3:(okDv (prW (a.1,a.2)) (prW (b.1,b.2)))=true) (h4:(dgB (dvQ (prW (a.1,a.2)) (prW (b.1,b.2)))&&tmB (dvQ (prW (a.1,a.2)) (prW (b.1,b.2))))=true) (h5:(dgB (dvR (prW (a.1,a.2)) (prW (b.1,b.2)))&&tmB (dvR (prW (a.1,a.2)) (prW (b.1,b.2))))=true) (h6:(okI ((mkI (madeZ (negI (a.1,a.2)) (dvR (prW (a.1,a.2)) (prW (b.1,b.2))))).1,(mkI (madeZ (negI (a.1,a.2)) (dvR (prW (a.1,a.2)) (prW (b.1,b.2))))).2))=true) (h7:¬iSign ((mkI (madeZ (negI (a.1,a.2)) (dvR (prW (a.1,a.2)) (prW (b.1,b.2))))).1,(mkI (madeZ (negI (a.1,a.2)) (dvR (prW (a.1,a.2)) (prW (b.1,b.2))))).2)<0) (h8:(mkI (madeZ (negI (a.1,a.2)) (dvQ (prW (a.1,a.2)) (prW (b.1,b.2))))).1=(dmQ a b).1) (h9:(mkI (madeZ (negI (a.1,a.2)) (dvQ (prW (a.1,a.2)) (prW (b.1,b.2))))).2=(dmQ a b).2) (h10:(mkI (madeZ (negI (a.1,a.2)) (dvR (prW (a.1,a.2)) (prW (b.1,b.2))))).1=(dmR a b).1) (h11:(mkI (madeZ (negI (a.1,a.2)) (dvR (prW (a.1,a.2)) (prW (b.1,b.2))))).2=(dmR a b).2):
  Tst.path (vall Tryz.prog ndCs (List.drop 3 (fl BDm [])) (SDm a b)) [false] (toRet Tryz.prog Tryz.f128 false (.tuple [nv (dmQ a b),nv (dmR a b)])):=
 mp (an h1 (an h2 (an h3 (an h4 (an h5 (an h6 (an (decide_eq_false h7) (an (sr (AV.agg [iv (mkI (madeZ (negI (a.1,a.2)) (dvQ (prW (a.1,a.2)) (prW (b.1,b.2))))).1,AV.lst true (.int .u64) (mkI (madeZ (negI (a.1,a.2)) (dvQ (prW (a.1,a.2)) (prW (b.1,b.2))))).2])) (an (sr (AV.agg [iv (mkI (madeZ (negI (a.1,a.2)) (dvR (prW (a.1,a.2)) (prW (b.1,b.2))))).1,AV.lst true (.int .u64) (mkI (madeZ (negI (a.1,a.2)) (dvR (prW (a.1,a.2)) (prW (b.1,b.2))))).2])) (an (sr (AV.agg [iv (mkI (madeZ (negI (a.1,a.2)) (dvR (prW (a.1,a.2)) (prW (b.1,b.2))))).1,AV.lst true (.int .u64) (mkI (madeZ (negI (a.1,a.2)) (dvR (prW (a.1,a.2)) (prW (b.1,b.2))))).2])) (an (an h8 (an h9 trivial)) (an (an h10 (an h11 trivial)) trivial))))))))))))
noncomputable def iDivQ (a b:NI):Int×List Int:=if smI a&&(smI b&& !(a.1== -9223372036854775808))then mkI (valI a/valI b)else if valI (dmR a b)<0 then iSub (dmQ a b) (1,[])else dmQ a b
noncomputable def iDivR (a b:NI):Int×List Int:=mkI (valI a%valI b)
def okDm (a b:NI):Bool:=(okI a&&okI b)&&decide (0<valI b)
noncomputable def cDm:Ctr:={f:=128,ps:=[tI,tI],rs:=[tI,tI],fresh:=false,pre:=fun d=>okDm d.1 d.2.1,fn:=fun d=>(iDivQ d.1 d.2.1,(iDivR d.1 d.2.1,()))}
theorem nd_ok:CallOk Tryz.prog (gS ndCs):=ctrs_ok fun c hc=>by
 simp only [List.mem_cons,List.not_mem_nil,or_false]at hc
 rcases hc with rfl |rfl |rfl |rfl |rfl |rfl
 ·exact cParts_ok
 ·exact cMade_ok
 ·exact cDvd_ok
 ·exact cISign_ok
 ·exact cISub_ok
 ·exact cIAdd_ok
theorem dm_vals {n:Nat} {a b:NI} (h:okN n a=true) (g:okN n b=true) (hb:0<valI b):
  0≤vw (prW a)/vw (prW b)∧0≤vw (prW a)%vw (prW b)∧vw (prW a)%vw (prW b)<valI b∧vw (prW b)=valI b∧
  ((0≤valI a∧valI (dmQ a b)=valI a/valI b∧valI (dmR a b)=valI a%valI b∧¬valI (dmR a b)<0)∨
   (valI (dmR a b)<0∧valI (dmQ a b)-1=valI a/valI b∧valI (dmR a b)+valI b=valI a%valI b)∨
   (¬valI (dmR a b)<0∧valI (dmQ a b)=valI a/valI b∧valI (dmR a b)=valI a%valI b)):=by
 obtain⟨_,_,a3,a4,_⟩:=parts_law h
 obtain⟨_,_,b3,b4,_⟩:=parts_law g
 have eb:vw (prW b)=valI b:=by omega
 have q0:0≤vw (prW a)/vw (prW b):=Int.ediv_nonneg (by omega) (by omega)
 have r0:=Int.emod_nonneg (vw (prW a)) (show vw (prW b)≠0 by omega)
 have r1:=Int.emod_lt_of_pos (vw (prW a)) (show 0<vw (prW b) by omega)
 have hdm:=Int.emod_add_mul_ediv (vw (prW a)) (vw (prW b))
 have eQ:valI (dmQ a b)=madeZ (negI a) (dvQ (prW a) (prW b)):=val_mk _
 have eR:valI (dmR a b)=madeZ (negI a) (dvR (prW a) (prW b)):=val_mk _
 have vQ:vw (dvQ (prW a) (prW b))=vw (prW a)/vw (prW b):=vw_dgN q0
 have vR:vw (dvR (prW a) (prW b))=vw (prW a)%vw (prW b):=vw_dgN r0
 refine⟨q0,r0,by omega,eb, ?_⟩
 unfold madeZ at eQ eR
 cases hn:negI a
 ·rw [hn]at eQ eR
  have eQ:valI (dmQ a b)=vw (dvQ (prW a) (prW b)):=eQ
  have eR:valI (dmR a b)=vw (dvR (prW a) (prW b)):=eR
  have ha:¬valI a<0:=fun hh=>by rw [a4.2 hh]at hn;cases hn
  have ea:vw (prW a)=valI a:=by omega
  refine .inl ⟨by omega,by rw [eQ,vQ,ea,eb],by rw [eR,vR,ea,eb],by rw [eR,vR];omega⟩
 ·rw [hn]at eQ eR
  have eQ:valI (dmQ a b)= -vw (dvQ (prW a) (prW b)):=eQ
  have eR:valI (dmR a b)= -vw (dvR (prW a) (prW b)):=eR
  have ha:=a4.1 hn
  have ea:vw (prW a)= -valI a:=by omega
  rw [vQ]at eQ
  rw [vR]at eR
  rw [eb]at eQ eR hdm r1 r0 q0
  generalize vw (prW a)/valI b=q at*
  generalize vw (prW a)%valI b=r at*
  by_cases hr:r=0
  ·obtain⟨k1,k2⟩:=quot_of (U:=valI a) (V:=valI b) (t:= -q) hb (by rw [Int.neg_mul,Int.mul_comm q];omega) (by rw [Int.neg_mul,Int.mul_comm q];omega)
   rw [Int.neg_mul,Int.mul_comm q]at k2
   exact .inr (.inr ⟨by omega,by omega,by omega⟩)
  ·have e:(-q-1)*valI b= -(valI b*q)-valI b:=by rw [Int.sub_mul,Int.one_mul,Int.neg_mul,Int.mul_comm q]
   obtain⟨k1,k2⟩:=quot_of (U:=valI a) (V:=valI b) (t:= -q-1) hb (by rw [e];omega) (by rw [e];omega)
   rw [e]at k2
   exact .inr (.inl ⟨by omega,by omega,by omega⟩)
theorem val_iDivQ {n:Nat} {a b:NI} (h:okN n a=true) (g:okN n b=true) (hb:0<valI b):valI (iDivQ a b)=valI a/valI b:=by
 obtain⟨_,_,_,_,hv⟩:=dm_vals h g hb
 unfold iDivQ
 split
 ·exact val_mk _
 ·split
  ·rename_i hlt
   rw [val_sub]
   have e1:valI (1,[])=1:=rfl
   rw [e1]
   omega
  ·omega
theorem val_iDivR (a b:NI):valI (iDivR a b)=valI a%valI b:=val_mk _
theorem ediv_abs (x:Int) {y:Int} (hy:0<y):(x/y).natAbs≤x.natAbs:=by
 have h1:=Int.emod_add_mul_ediv x y
 have h2:=Int.emod_nonneg x (show y≠0 by omega)
 have h3:=Int.emod_lt_of_pos x hy
 by_cases h0:0≤x
 ·have h4:0≤x/y:=Int.ediv_nonneg h0 (by omega)
  have:=Int.mul_le_mul_of_nonneg_right (show 1≤y by omega) h4
  omega
 ·have h4:x/y≤ -1:=by
   have:x/y<0:=(Int.ediv_lt_iff_lt_mul hy).2 (by omega)
   omega
  have h5:=Int.mul_le_mul_of_nonneg_left (show x/y+1≤0 by omega) (show 0≤y-1 by omega)
  rw [Int.mul_zero]at h5
  have e:(y-1)*(x/y+1)=y*(x/y)+y-x/y-1:=by grind
  omega
theorem ok_iDivQ {n:Nat} {a b:NI} (h:okN n a=true) (g:okN n b=true) (hb:0<valI b) (hn:1≤n):okN n (iDivQ a b)=true:=by
 have hv:=val_iDivQ h g hb
 have ha:=val_lt h hn
 have hd:=ediv_abs (valI a) hb
 have hk:∀z:Int,z=valI a/valI b→(z.natAbs:Int)<18446744073709551616^n:=fun z hz=>by subst hz;omega
 unfold iDivQ at hv ⊢
 split
 ·exact(mkI_law (hk _ rfl)).1
 ·rename_i hc
  rw [if_neg hc]at hv
  split
  ·rename_i hlt
   rw [if_pos hlt,val_sub]at hv
   exact ok_iAdd (by rw [val_neg];exact hk _ (by omega))
  ·rename_i hlt
   rw [if_neg hlt]at hv
   unfold dmQ at hv ⊢
   rw [val_mk]at hv
   exact(mkI_law (hk _ hv)).1
theorem emod_lt_pow {n:Nat} {a b:NI} (g:okN n b=true) (hb:0<valI b) (hn:1≤n):((valI a%valI b).natAbs:Int)<18446744073709551616^n:=by
 have h1:=Int.emod_nonneg (valI a) (show valI b≠0 by omega)
 have h2:=Int.emod_lt_of_pos (valI a) hb
 have h3:=val_lt g hn
 omega
theorem ok_iDivR {n:Nat} {a b:NI} (g:okN n b=true) (hb:0<valI b) (hn:1≤n):okN n (iDivR a b)=true:=(mkI_law (emod_lt_pow g hb hn)).1
theorem dm_rest (a b:NI) (h:okI a=true) (g:okI b=true) (hb:0<valI b) (hc:¬(smI a&&(smI b&& !(a.1== -9223372036854775808)))=true) (w:World) (F:Sv.Env):
  GoalL Tryz.prog w F 84 (List.drop 3 (fl BDm [])) (SDm a b).T (SDm a b).H (retQ Tryz.prog false Tryz.f128 (.tuple [nv (iDivQ a b),nv (iDivR a b)])):=by
 have hS:=nd_ok
 obtain⟨q0,r0,r1,eb,hv⟩:=dm_vals h g hb
 obtain⟨a1,a2,a3,a4,a5⟩:=parts_law h
 obtain⟨b1,b2,b3,b4,b5⟩:=parts_law g
 have hD:okDv (prW a) (prW b)=true:=by
  unfold okDv
  have hne:1≤(prW b).length:=by
   cases hl:prW b with
   |nil=>rw [hl]at eb;have:vw []=0:=rfl;omega
   |cons _ _=>simp
  rw [show okC2 (prW a) (prW b)=true from prW_C2 h g,decide_eq_true hne,decide_eq_true (show(prW a).length≤300000 by omega),decide_eq_true (show(prW b).length≤300000 by omega)];rfl
 have hQB:=dgN_B q0
 have hRB:=dgN_B r0
 have ha:=val_lt h (by decide)
 have hbl:=val_lt g (by decide)
 have hqle:vw (prW a)/vw (prW b)≤vw (prW a):=Int.ediv_le_self _ (by omega)
 have okQ:okI (dmQ a b)=true:=by
  refine(mkI_law ?_).1
  rw [madeZ_abs (negI a) (w:=dvQ (prW a) (prW b)) (dgN_spec (b:=18446744073709551616) (by decide) q0).1,show vw (dvQ (prW a) (prW b))=_ from vw_dgN q0]
  omega
 have okR:okI (dmR a b)=true:=by
  refine(mkI_law ?_).1
  rw [madeZ_abs (negI a) (w:=dvR (prW a) (prW b)) (dgN_spec (b:=18446744073709551616) (by decide) r0).1,show vw (dvR (prW a) (prW b))=_ from vw_dgN r0]
  omega
 by_cases hlt:valI (dmR a b)<0
 ·have e1:iDivQ a b=iSub (dmQ a b) (1,[]):=by unfold iDivQ;rw [if_neg hc,if_pos hlt]
  have hval:valI (iAdd (dmR a b) b)=valI a%valI b:=by rw [val_iAdd];omega
  have e2:iAdd (dmR a b) b=iDivR a b:=by
   have ho:okI (iAdd (dmR a b) b)=true:=ok_iAdd (by rw [←val_iAdd,hval];exact emod_lt_pow g hb (by decide))
   have:=ok_mk ho (by rw [hval];have:=Int.emod_nonneg (valI a) (show valI b≠0 by omega);omega)
   rw [hval]at this
   exact this
  rw [e1,←e2]
  have one:okI ((1:Int),([]:List Int))=true:=rfl
  exact GoalL.allRet (s:=SDm a b) known mixed hS _ (dm_lt a b h g hD hQB hRB okR (by unfold iSign;exact Int.lt_of_le_of_lt (Int.le_of_eq (sgn_neg hlt)) (by decide)) (by rw [Bool.and_eq_true];exact⟨okQ,one⟩) (by rw [Bool.and_eq_true];exact⟨okR,g⟩) rfl rfl rfl rfl) fun T H h=>h
 ·have e1:iDivQ a b=dmQ a b:=by unfold iDivQ;rw [if_neg hc,if_neg hlt]
  have e2:dmR a b=iDivR a b:=by
   unfold iDivR
   have:valI (dmR a b)=valI a%valI b:=by omega
   rw [←this]
   unfold dmR
   rw [val_mk]
  rw [e1,←e2]
  exact GoalL.allRet (s:=SDm a b) known mixed hS _ (dm_ge a b h g hD hQB hRB okR (by
   show¬sgn (valI (dmR a b))<0
   unfold sgn
   rw [if_neg hlt];split<;>decide) rfl rfl rfl rfl) fun T H h=>h
theorem dm_holds (a b:NI) (h:okI a=true) (g:okI b=true) (hb:0<valI b):Holds Tryz.prog false 128 [nv a,nv b] (.tuple [nv (iDivQ a b),nv (iDivR a b)]):=by
 have hS:=nd_ok
 refine holds_fl (c:=BDm) Tryz.func128 rfl rfl fun w F=> ?_
 by_cases ha:a.2=[]
 ·have hra:=ok_sm h ha
  by_cases hbs:b.2=[]
  ·have hrb:=ok_sm g hbs
   by_cases hm:a.1= -9223372036854775808
   ·refine GoalL.to known mixed hS 3 _ (dm_r3 a b (smI_iff.2 ha) (smI_iff.2 hbs) hm) (by kernel_rfl) (dm_rest a b h g hb (fun hh=> ?_) w F)
    simp only [Bool.and_eq_true,Bool.not_eq_true',beq_eq_false_iff_ne]at hh
    exact hh.2.2 hm
   ·have eva:=valI_sm ha
    have evb:=valI_sm hbs
    rw [evb]at hb
    have hc:(smI a&&(smI b&& !(a.1== -9223372036854775808)))=true:=by
     rw [smI_iff.2 ha,smI_iff.2 hbs,beq_eq_false_iff_ne.2 hm];rfl
    have hdm:=Int.tmod_add_mul_tdiv a.1 b.1
    have hR0:=Int.emod_nonneg a.1 (show b.1≠0 by omega)
    have hR1:=Int.emod_lt_of_pos a.1 hb
    have hdm2:=Int.emod_add_mul_ediv a.1 b.1
    have hQb:=ediv_abs a.1 hb
    have hdmQ:iDivQ a b=(a.1/b.1,[]):=by
     unfold iDivQ
     rw [if_pos hc,eva,evb]
     exact mkI_small (by omega)
    have hdmR:iDivR a b=(a.1%b.1,[]):=by
     unfold iDivR
     rw [eva,evb]
     exact mkI_small (by omega)
    rw [hdmQ,hdmR]
    by_cases hneg:0≤a.1
    ·have e1:a.1.tdiv b.1=a.1/b.1:=Int.tdiv_eq_ediv_of_nonneg hneg
     have e2:a.1.tmod b.1=a.1%b.1:=Int.tmod_eq_emod_of_nonneg hneg
     have:=GoalL.ret (P:=Tryz.prog) (w0:=w) (F:=F) (X:=X0) known mixed hS 3 _ (dm_pos a b (smI_iff.2 ha) (smI_iff.2 hbs) hm (by omega) (by rw [e1];omega) (by rw [e2];omega)) fun T H h=>h
     rw [e1,e2]at this
     exact this
    ·have e1:a.1.tdiv b.1= -((-a.1)/b.1):=by
      have:=Int.neg_tdiv (a:= -a.1) (b:=b.1)
      rw [Int.neg_neg]at this
      rw [this,Int.tdiv_eq_ediv_of_nonneg (by omega)]
     have n1:=Int.emod_add_mul_ediv (-a.1) b.1
     have n2:=Int.emod_nonneg (-a.1) (show b.1≠0 by omega)
     have n3:=Int.emod_lt_of_pos (-a.1) hb
     have n4:0≤(-a.1)/b.1:=Int.ediv_nonneg (by omega) (by omega)
     have n5:(-a.1)/b.1≤ -a.1:=Int.ediv_le_self _ (by omega)
     have e2:a.1.tmod b.1= -((-a.1)%b.1):=by
      rw [e1,Int.mul_neg]at hdm
      omega
     have e4:a.1.tdiv b.1*b.1= -(b.1*(-a.1/b.1)):=by rw [e1,Int.neg_mul,Int.mul_comm]
     by_cases hr:(-a.1)%b.1=0
     ·obtain⟨k1,k2⟩:=quot_of (U:=a.1) (V:=b.1) (t:=a.1.tdiv b.1) hb (by rw [e4];omega) (by rw [e4];omega)
      have:=GoalL.ret (P:=Tryz.prog) (w0:=w) (F:=F) (X:=X0) known mixed hS 3 _ (dm_pos a b (smI_iff.2 ha) (smI_iff.2 hbs) hm (by omega) (by omega) (by omega)) fun T H h=>h
      rw [←k1,show a.1.tmod b.1=a.1%b.1 by omega]at this
      exact this
     ·have e3:(a.1.tdiv b.1-1)*b.1= -(b.1*(-a.1/b.1))-b.1:=by rw [Int.sub_mul,Int.one_mul,e4]
      obtain⟨k1,k2⟩:=quot_of (U:=a.1) (V:=b.1) (t:=a.1.tdiv b.1-1) hb (by rw [e3];omega) (by rw [e3];omega)
      have:=GoalL.ret (P:=Tryz.prog) (w0:=w) (F:=F) (X:=X0) known mixed hS 3 _ (dm_neg a b (smI_iff.2 ha) (smI_iff.2 hbs) hm (by omega) (by omega) (by omega) (by omega) (by omega)) fun T H h=>h
      rw [←k1,show a.1.tmod b.1+b.1=a.1%b.1 by rw [k2,e3];omega]at this
      exact this
  ·exact GoalL.to known mixed hS 3 _ (dm_r2 a b (smI_iff.2 ha) (smI_not.2 hbs)) (by kernel_rfl) (dm_rest a b h g hb (fun hh=>by
    simp only [Bool.and_eq_true]at hh
    exact hbs (smI_iff.1 hh.2.1)) w F)
 ·exact GoalL.to known mixed hS 3 _ (dm_r1 a b (smI_not.2 ha)) (by kernel_rfl) (dm_rest a b h g hb (fun hh=>by
   simp only [Bool.and_eq_true]at hh
   exact ha (smI_iff.1 hh.1)) w F)
theorem okDm_iff {a b:NI}:okDm a b=true↔okI a=true∧okI b=true∧0<valI b:=by
 unfold okDm
 simp only [Bool.and_eq_true,decide_eq_true_eq,and_assoc]
theorem cDm_ok:cDm.Ok Tryz.prog:=fun⟨a,b,_⟩ h=>by
 obtain⟨h1,h2,h3⟩:=okDm_iff.1 (show okDm a b=true from h)
 exact dm_holds a b h1 h2 h3
end
end Go.Proofs.YtccmlbinkgbpgaaGreatDoor
/- Package num: integers: greatest common divisor, exact quotient, fractions in lowest terms. -/
namespace Go.Proofs.YtccmlbinkgbpgaaGreatDoor
open Go.RowKit Sv
set_option maxRecDepth 100000
set_option linter.unusedVariables false
noncomputable section
noncomputable def BGcd:Code:=(Tryz.f68.body).getD .skip
noncomputable def BQuo:Code:=(Tryz.f100.body).getD .skip
noncomputable def BMake:Code:=(Tryz.f55.body).getD .skip
noncomputable def ngCs:VCaller:=ctrs [cIAbs,cISign,cDm,cINeg]
abbrev gL:List Nat:=[1,1,0,0,0]
def SGc (a b:NI):St:={n:=23,sl:=[(2, .ptr 64 0),(3, .ptr 65 0),(4, .ptr 66 0)],en:=[(64,bI a),(65,bI b),(66,b0)],next:=67}
theorem gc_start (a b:NI) (h1:(okI (a.1,a.2))=true) (h2:(okI (b.1,b.2))=true):
  Tst.path (vrun0 Tryz.prog ngCs (fl BGcd []) 2 23 [nv a,nv b]) [] (toSt Tryz.prog 23 .normal s3 (SGc (iAbs a) (iAbs b))):=
 mp (an (sr (AV.agg [iv a.1,AV.lst true (.int .u64) a.2])) (an h1 (an (sr (AV.agg [iv b.1,AV.lst true (.int .u64) b.2])) (an (sr (AV.agg [iv b.1,AV.lst true (.int .u64) b.2])) (an h2 (an (rr ((0:Nat))) (an (rr ((0:Nat))) (an (rr ((0:Nat))) (an (an (rr (iAbs (a.1,a.2)).1) (an (rr (iAbs (a.1,a.2)).2) trivial)) (an (an (rr (iAbs (b.1,b.2)).1) (an (rr (iAbs (b.1,b.2)).2) trivial)) (an (an (rr ((0:Int))) (an (rr (Value.slice none (0:Nat) (0:Nat))) trivial)) trivial)))))))))))
theorem gc_go (a b:NI) (h1:(okI (b.1,b.2))=true) (h2:¬iSign (b.1,b.2)=0) (h3:(okDm (a.1,a.2) (b.1,b.2))=true):
  Tst.path (vall Tryz.prog ngCs (fl BGcd gL) (SGc a b)) [true] (toSt Tryz.prog 23 .normal s3 (SGc b (iDivR a b))):=
 mp (an h1 (an (bne_iff_ne.mpr h2) (an h3 (an (sr (AV.agg [iv b.1,AV.lst true (.int .u64) b.2])) (an (sr (AV.agg [iv (iDivR (a.1,a.2) (b.1,b.2)).1,AV.lst true (.int .u64) (iDivR (a.1,a.2) (b.1,b.2)).2])) (an (sr (AV.agg [iv (iDivR (a.1,a.2) (b.1,b.2)).1,AV.lst true (.int .u64) (iDivR (a.1,a.2) (b.1,b.2)).2])) (an (rr ((0:Nat))) (an (rr ((0:Nat))) (an (rr ((0:Nat))) (an (an (rr b.1) (an (rr b.2) trivial)) (an (an (rr (iDivR (a.1,a.2) (b.1,b.2)).1) (an (rr (iDivR (a.1,a.2) (b.1,b.2)).2) trivial)) (an (an (rr ((0:Int))) (an (rr (Value.slice none (0:Nat) (0:Nat))) trivial)) trivial))))))))))))
theorem gc_end (a b:NI) (h1:(okI (b.1,b.2))=true) (h2:iSign (b.1,b.2)=0):
  Tst.path (vall Tryz.prog ngCs (fl BGcd gL) (SGc a b)) [false] (toSt Tryz.prog 23 (.exit 0) s3 (SGc a b)):=
 mp (an h1 (an (bne_eq_false_iff_eq.mpr h2) (an (rr ((0:Nat))) (an (rr ((0:Nat))) (an (rr ((0:Nat))) (an (an (rr a.1) (an (rr a.2) trivial)) (an (an (rr b.1) (an (rr b.2) trivial)) (an (an (rr ((0:Int))) (an (rr (Value.slice none (0:Nat) (0:Nat))) trivial)) trivial))))))))
theorem gc_ret (a b:NI):
  Tst.path (vall Tryz.prog ngCs (List.drop 3 (fl BGcd [])) (SGc a b)) [] (toRet Tryz.prog Tryz.f68 false (nv a)):=
 mp (an (rr a.1) (an (rr a.2) trivial))
theorem qu_neg (a b:NI) (h1:(okI (b.1,b.2))=true) (h2:iSign (b.1,b.2)<0) (h3:(okI (a.1,a.2))=true) (h4:(okDm ((iNeg (a.1,a.2)).1,(iNeg (a.1,a.2)).2) ((iNeg (b.1,b.2)).1,(iNeg (b.1,b.2)).2))=true):
  Tst.path (vrun0 Tryz.prog ngCs (fl BQuo []) 9 21 [nv a,nv b]) [true] (toRet Tryz.prog Tryz.f100 false (nv (iDivQ (iNeg a) (iNeg b)))):=
 mp (an h1 (an (decide_eq_true h2) (an (sr (AV.agg [iv a.1,AV.lst true (.int .u64) a.2])) (an h3 (an (sr (AV.agg [iv b.1,AV.lst true (.int .u64) b.2])) (an (sr (AV.agg [iv b.1,AV.lst true (.int .u64) b.2])) (an h1 (an h4 (an (rr (iDivQ ((iNeg (a.1,a.2)).1,(iNeg (a.1,a.2)).2) ((iNeg (b.1,b.2)).1,(iNeg (b.1,b.2)).2)).1) (an (rr (iDivQ ((iNeg (a.1,a.2)).1,(iNeg (a.1,a.2)).2) ((iNeg (b.1,b.2)).1,(iNeg (b.1,b.2)).2)).2) trivial))))))))))
theorem qu_pos (a b:NI) (h1:(okI (b.1,b.2))=true) (h2:¬iSign (b.1,b.2)<0) (h3:(okDm (a.1,a.2) (b.1,b.2))=true):
  Tst.path (vrun0 Tryz.prog ngCs (fl BQuo []) 9 21 [nv a,nv b]) [false] (toRet Tryz.prog Tryz.f100 false (nv (iDivQ a b))):=
 mp (an h1 (an (decide_eq_false h2) (an h3 (an (rr (iDivQ (a.1,a.2) (b.1,b.2)).1) (an (rr (iDivQ (a.1,a.2) (b.1,b.2)).2) trivial)))))
def iGcd (a b:NI):Int×List Int:=mkI (Int.gcd (valI a) (valI b))
noncomputable def iQuo (a b:NI):Int×List Int:=if valI b<0 then iDivQ (iNeg a) (iNeg b)else iDivQ a b
def okQuo (a b:NI):Bool:=(okI a&&okI b)&& !(valI b==0)
noncomputable def cGcd:Ctr:={f:=68,ps:=[tI,tI],rs:=[tI],fresh:=false,pre:=fun d=>okI d.1&&okI d.2.1,fn:=fun d=>(iGcd d.1 d.2.1,())}
noncomputable def cQuo:Ctr:={f:=100,ps:=[tI,tI],rs:=[tI],fresh:=false,pre:=fun d=>okQuo d.1 d.2.1,fn:=fun d=>(iQuo d.1 d.2.1,())}
theorem ng_ok:CallOk Tryz.prog (gS ngCs):=ctrs_ok fun c hc=>by
 simp only [List.mem_cons,List.not_mem_nil,or_false]at hc
 rcases hc with rfl |rfl |rfl |rfl
 ·exact cIAbs_ok
 ·exact cISign_ok
 ·exact cDm_ok
 ·exact cINeg_ok
theorem iSign_zero {a:NI}:iSign a=0↔valI a=0:=by
 unfold iSign sgn
 split
 ·constructor
  ·intro h;exact absurd h (by decide)
  ·intro h;omega
 ·split
  ·simp [*]
  ·constructor
   ·intro h;exact absurd h (by decide)
   ·intro h;omega
theorem iSign_neg {a:NI}:iSign a<0↔valI a<0:=by
 unfold iSign sgn
 split
 ·simp [*]
 ·split
  ·simp [*]
  ·constructor
   ·intro h;exact absurd h (by decide)
   ·intro h;omega
theorem ok_abs {a:NI} (h:okI a=true):okI (iAbs a)=true:=by
 have:=val_lt h (by decide)
 exact(mkI_law (by rw [Int.natAbs_natCast];exact this)).1
theorem gcd_step {x y:Int} (hx:0≤x) (hy:0<y):Int.gcd y (x%y)=Int.gcd x y:=by
 obtain⟨m,rfl⟩:∃m:Nat,x=(m:Int):=⟨x.toNat,by omega⟩
 obtain⟨n,rfl⟩:∃n:Nat,y=(n:Int):=⟨y.toNat,by omega⟩
 rw [←Int.natCast_emod]
 show Nat.gcd n (m%n)=Nat.gcd m n
 rw [Nat.gcd_comm n,←Nat.gcd_rec,Nat.gcd_comm]
theorem gcd_holds (a b:NI) (h:okI a=true) (g:okI b=true):Holds Tryz.prog false 68 [nv a,nv b] (nv (iGcd a b)):=by
 have hS:=ng_ok
 refine holds_fl (c:=BGcd) Tryz.func68 rfl rfl fun w F=> ?_
 refine GoalL.to known mixed hS 2 _ (gc_start a b h g) (by kernel_rfl) ?_
 refine GoalL.loop (ι:={x:NI×NI//okI x.1=true∧okI x.2=true∧0≤valI x.1∧0≤valI x.2∧Int.gcd (valI x.1) (valI x.2)=Int.gcd (valI a) (valI b)}) (id:=0) (b:=cat BGcd gL) (rest:=List.drop 3 (fl BGcd [])) (by kernel_rfl) (fun x=>SGc x.1.1 x.1.2) (fun x=>(valI x.1.2).natAbs)
  ⟨(iAbs a,iAbs b),ok_abs h,ok_abs g,by rw [val_abs];omega,by rw [val_abs];omega,by rw [val_abs,val_abs];rfl⟩ (fun _=>rfl) ?_
 rintro⟨⟨x,y⟩,hx,hy,hx0,hy0,hg⟩
 have hx:okI x=true:=hx
 have hy:okI y=true:=hy
 have hx0:0≤valI x:=hx0
 have hy0:0≤valI y:=hy0
 have hg:Int.gcd (valI x) (valI y)=Int.gcd (valI a) (valI b):=hg
 by_cases hz:valI y=0
 ·refine GoalL.all (s:=SGc x y) known mixed hS _ (gc_end x y hy (iSign_zero.2 hz)) (by kernel_rfl) ?_
  refine onN_exit (inB_exit ?_)
  have e:x=iGcd a b:=by
   have h1:=ok_mk hx (by omega)
   unfold iGcd
   rw [←hg,hz]
   have:((Int.gcd (valI x) 0:Nat):Int)=valI x:=by
    show((Nat.gcd (valI x).natAbs 0:Nat):Int)=_
    rw [Nat.gcd_zero_right];omega
   rw [this];exact h1
  rw [←e]
  exact GoalL.allRet (s:=SGc x y) known mixed hS _ (gc_ret x y) fun T H h=>h
 ·have hyp:0<valI y:=by omega
  have hm0:=Int.emod_nonneg (valI x) hz
  have hm1:=Int.emod_lt_of_pos (valI x) hyp
  refine GoalL.all (s:=SGc x y) known mixed hS _ (gc_go x y hy (fun hh=>hz (iSign_zero.1 hh)) (okDm_iff.2 ⟨hx,hy,hyp⟩)) (by kernel_rfl) ?_
  refine⟨⟨(y,iDivR x y),hy,ok_iDivR hy hyp (by decide),hy0,by show 0≤valI (iDivR x y);rw [val_iDivR];exact hm0, ?_⟩, ?_,rfl,rfl⟩
  ·show Int.gcd (valI y) (valI (iDivR x y))=_
   rw [val_iDivR,gcd_step hx0 hyp,hg]
  ·show(valI (iDivR x y)).natAbs<(valI y).natAbs
   rw [val_iDivR];omega
theorem cGcd_ok:cGcd.Ok Tryz.prog:=fun⟨a,b,_⟩ h=>by
 have h:(okI a&&okI b)=true:=h
 rw [Bool.and_eq_true]at h
 exact gcd_holds a b h.1 h.2
theorem quo_holds (a b:NI) (h:okI a=true) (g:okI b=true) (hb:valI b≠0):Holds Tryz.prog false 100 [nv a,nv b] (nv (iQuo a b)):=by
 have hS:=ng_ok
 refine holds_fl (c:=BQuo) Tryz.func100 rfl rfl fun w F=> ?_
 by_cases hn:valI b<0
 ·have e:iQuo a b=iDivQ (iNeg a) (iNeg b):=by unfold iQuo;rw [if_pos hn]
  rw [e]
  exact GoalL.ret known mixed hS 9 _ (qu_neg a b g (iSign_neg.2 hn) h (okDm_iff.2 ⟨ok_neg h (by decide),ok_neg g (by decide),by show 0<valI (iNeg b);rw [val_neg];omega⟩)) fun T H h=>h
 ·have e:iQuo a b=iDivQ a b:=by unfold iQuo;rw [if_neg hn]
  rw [e]
  exact GoalL.ret known mixed hS 9 _ (qu_pos a b g (fun hh=>hn (iSign_neg.1 hh)) (okDm_iff.2 ⟨h,g,by show 0<valI b;omega⟩)) fun T H h=>h
theorem okQuo_iff {a b:NI}:okQuo a b=true↔okI a=true∧okI b=true∧valI b≠0:=by
 unfold okQuo
 simp only [Bool.and_eq_true,Bool.not_eq_true',beq_eq_false_iff_ne,and_assoc]
theorem cQuo_ok:cQuo.Ok Tryz.prog:=fun⟨a,b,_⟩ h=>by
 obtain⟨h1,h2,h3⟩:=okQuo_iff.1 (show okQuo a b=true from h)
 exact quo_holds a b h1 h2 h3
theorem val_iQuo {n:Nat} {a b:NI} (h:okN n a=true) (g:okN n b=true) (hn:1≤n) (hb:valI b≠0) {c:Int} (hc:valI a=valI b*c):valI (iQuo a b)=c:=by
 unfold iQuo
 split
 ·rw [val_iDivQ (ok_neg h hn) (ok_neg g hn) (by rw [val_neg];omega),val_neg,val_neg,hc,←Int.neg_mul]
  exact Int.mul_ediv_cancel_left _ (by omega)
 ·rw [val_iDivQ h g (by omega),hc]
  exact Int.mul_ediv_cancel_left _ hb
theorem ok_iQuo {n:Nat} {a b:NI} (h:okN n a=true) (g:okN n b=true) (hn:1≤n) (hb:valI b≠0):okN n (iQuo a b)=true:=by
 unfold iQuo
 split
 ·exact ok_iDivQ (ok_neg h hn) (ok_neg g hn) (by rw [val_neg];omega) hn
 ·exact ok_iDivQ h g (by omega) hn
end
end Go.Proofs.YtccmlbinkgbpgaaGreatDoor
