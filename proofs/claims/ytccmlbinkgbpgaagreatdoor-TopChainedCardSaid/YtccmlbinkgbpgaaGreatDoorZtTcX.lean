/- The law TopChained: its steps. -/
import Derived.Test.YtccmlbinkgbpgaaGreatDoorZtTcO
import Derived.Test.YtccmlbinkgbpgaaGreatDoorZtTcA
import Derived.Test.YtccmlbinkgbpgaaGreatDoorZtDig
import Derived.Test.YtccmlbinkgbpgaaGreatDoorZtA25
import Derived.Test.YtccmlbinkgbpgaaGreatDoorZtGNo
import Derived.Test.YtccmlbinkgbpgaaGreatDoorZtGAw1
namespace Go.Proofs.YtccmlbinkgbpgaaGreatDoor
open Go.RowKit Sv
set_option maxRecDepth 100000
set_option maxHeartbeats 4000000
set_option linter.unusedVariables false
set_option linter.unusedSimpArgs false
noncomputable section
noncomputable def BTc:Code:=(Tryz.f3.body).getD .skip
abbrev nilB:List ByteArray:=[]
abbrev obR (j:Nat) (l:List ByteArray):AV:= .osl 30 .str j 0 l.length (capOf l.length)
abbrev oeR (l:List ByteArray):Ent:= .opt 30 .str l
abbrev b4 (k0 k1 k2 k3:Int):Ent:= .blk (.cells 23 [.raw (.int .u8 k0), .raw (.int .u8 k1), .raw (.int .u8 k2), .raw (.int .u8 k3)] true false false)
abbrev a4 (k0 k1 k2 k3:Int):AV:= .raw (.agg #[.int .u8 k0, .int .u8 k1, .int .u8 k2, .int .u8 k3])
noncomputable def txR (t:List (Int×Int)):ByteArray:=textQ (rR t)
noncomputable def txM (a b:ByteArray):ByteArray:=textQ (toQ a*toQ b)
noncomputable def txA (a b:ByteArray):ByteArray:=textQ (toQ a+toQ b)
noncomputable def txL (t:List (Int×Int)) (l:List ByteArray):ByteArray:=textQ (losR t (List.map toQ l))
noncomputable def cGn2:Ctr:={f:=8,ps:=[.list false tP2],rs:=[.list false tP2, .int .i64],fresh:=false,pre:=fun d=>okT2 d.1,fn:=fun d=>(nrmG d.1,(0:Int),())}
noncomputable def cGr3:Ctr:={f:=7,ps:=[.list false tP2],rs:=[.str, .int .i64],fresh:=true,pre:=fun d=>okT2 d.1,fn:=fun d=>(txR d.1,(0:Int),())}
noncomputable def cXm3:Ctr:={f:=9,ps:=[.str, .str],rs:=[.str, .int .i64],fresh:=true,pre:=fun d=>mulB d.1 d.2.1,fn:=fun d=>(txM d.1 d.2.1,(0:Int),())}
noncomputable def cXa3:Ctr:={f:=11,ps:=[.str, .str],rs:=[.str, .int .i64],fresh:=true,pre:=fun d=>addB d.1 d.2.1,fn:=fun d=>(txA d.1 d.2.1,(0:Int),())}
noncomputable def cLo3:Ctr:={f:=10,ps:=[.list false tP2, .list false .str],rs:=[.str, .int .i64],fresh:=true,pre:=fun d=>loB d.1 d.2.1,fn:=fun d=>(txL d.1 d.2.1,(0:Int),())}
noncomputable def tcCs:VCaller:=gctrs [cGn2] (ctrs [cTg,cTt,cOf3,cGr3,cXm3,cXa3,cLo3])
def S0 (a b both:List (Int×Int)) (k0 k1 k2 k3:Int):St:={n:=229,sl:=[(0,pl a),(1,pl b),(5, .ptr 64 0),(7,obP 65 both),(8,obP 66 []),(57,iv both.length),(58,iv 0)],en:=[(64,b4 k0 k1 k2 k3),(65,oeP both),(66,oeP [])],next:=67}
def S1 (a b both back:List (Int×Int)) (k0 k1 k2 k3:Int) (k:Nat):St:={n:=229,sl:=[(0,pl a),(1,pl b),(5, .ptr 64 0),(7,pl both),(8,obP 66 back),(57,iv both.length),(58,iv k)],en:=[(64,b4 k0 k1 k2 k3),(66,oeP back)],next:=67}
def S2 (a b both back:List (Int×Int)) (k0 k1 k2 k3:Int):St:={n:=229,sl:=[(0,pl a),(1,pl b),(5, .ptr 64 0),(7,pl both),(8,pl back)],en:=[(64,b4 k0 k1 k2 k3)],next:=65}
def S3 (a b both back:List (Int×Int)) (la:List ByteArray) (k0 k1 k2 k3:Int) (k:Nat):St:={n:=229,sl:=[(0,pl a),(1,pl b),(5, .ptr 64 0),(7,pl both),(8,pl back),(10,obR 65 la),(11,obR 66 []),(77,iv a.length),(78,iv k)],en:=[(64,b4 k0 k1 k2 k3),(65,oeR la),(66,oeR [])],next:=67}
def S2b (a b both back:List (Int×Int)) (la:List ByteArray) (k0 k1 k2 k3:Int):St:={n:=229,sl:=[(0,pl a),(1,pl b),(5, .ptr 64 0),(7,pl both),(8,pl back),(10,sl la),(11,obR 65 [])],en:=[(64,b4 k0 k1 k2 k3),(65,oeR [])],next:=66}
def S4 (a b both back:List (Int×Int)) (la lb:List ByteArray) (k0 k1 k2 k3:Int) (k:Nat):St:={n:=229,sl:=[(0,pl a),(1,pl b),(5, .ptr 64 0),(7,pl both),(8,pl back),(10,sl la),(11,obR 65 lb),(91,iv b.length),(92,iv k)],en:=[(64,b4 k0 k1 k2 k3),(65,oeR lb)],next:=67}
def S5 (a b both back:List (Int×Int)) (la lb:List ByteArray):St:={n:=229,sl:=[(0,pl a),(1,pl b),(7,pl both),(8,pl back),(10,sl la),(11,sl lb)],en:=[],next:=64}
def S6 (a b both:List (Int×Int)) (la lb:List ByteArray):St:={n:=229,sl:=[(0,pl a),(1,pl b),(7,pl both),(10,sl la),(11,sl lb),(16,sv (txR b))],en:=[],next:=64}
abbrev tx3 (k:Int):ByteArray:=textQ (Rat.divInt (IntKind.wrap .i64 k) 360)
theorem tc_far1 (a b:List (Int×Int)) (k0 k1 k2 k3:Int) (h1:(↑a.length:Int)>2):
  Tst.path (vrun0 Tryz.prog tcCs (fl BTc []) 6 229 [pl a,pl b,a4 k0 k1 k2 k3]) [false,false,false,true,false,false,false,false,false,true,true] (toRet Tryz.prog Tryz.f3 true (bv true)):=
 mp (an (bF (decide_eq_true h1)) (an (bF (decide_eq_true h1)) (an (bF (decide_eq_true h1)) (an (decide_eq_true h1) (an rf (an rf (an rf (an rf (an rf (an rt (an rt (an rt rt))))))))))))
theorem tc_far2 (a b:List (Int×Int)) (k0 k1 k2 k3:Int) (h1:¬(↑a.length:Int)>2) (h2:(↑b.length:Int)>2):
  Tst.path (vrun0 Tryz.prog tcCs (fl BTc []) 6 229 [pl a,pl b,a4 k0 k1 k2 k3]) [true,true,true,false,false,false,false,false,false,true,true] (toRet Tryz.prog Tryz.f3 true (bv true)):=
 mp (an (bF (decide_eq_false h1)) (an (bF (decide_eq_false h1)) (an (bF (decide_eq_false h1)) (an (decide_eq_false h1) (an (bF (decide_eq_true h2)) (an (bF (decide_eq_true h2)) (an (bF (decide_eq_true h2)) (an (bF (decide_eq_true h2)) (an (bF (decide_eq_true h2)) (an (decide_eq_true h2) (an rt (an rt rt))))))))))))
theorem tc_far3 (a b:List (Int×Int)) (k0 k1 k2 k3:Int) (h1:¬(↑a.length:Int)>2) (h2:¬(↑b.length:Int)>2) (h3:(okTT [a,b])=false):
  Tst.path (vrun0 Tryz.prog tcCs (fl BTc []) 6 229 [pl a,pl b,a4 k0 k1 k2 k3]) [true,true,true,false,true,true,true,true,true,false,true] (toRet Tryz.prog Tryz.f3 true (bv true)):=
 mp (an (bF (decide_eq_false h1)) (an (bF (decide_eq_false h1)) (an (bF (decide_eq_false h1)) (an (decide_eq_false h1) (an (bF (decide_eq_false h2)) (an (bF (decide_eq_false h2)) (an (bF (decide_eq_false h2)) (an (bF (decide_eq_false h2)) (an rt (an (bF (decide_eq_false h2)) (an (decide_eq_false h2) (an (bN h3) (an rt rt)))))))))))))
theorem tc_s11 (a b:List (Int×Int)) (k0 k1 k2 k3:Int) (h1:¬(↑a.length:Int)>2) (h2:¬(↑b.length:Int)>2) (h3:(okTT [a,b])=true) (h4:a.length=(0:Nat)) (h5:b.length=(0:Nat)) (h6:((0:Nat))=(a++b).length) (h7:(Cap.known (0:Nat))=(capOf (a++b).length)) (h8:(Int.ofNat (0:Nat))=((↑(a++b).length:Int))) (h9:(a++b)=(nilP)):
  Tst.path (vrun0 Tryz.prog tcCs (fl BTc []) 6 229 [pl a,pl b,a4 k0 k1 k2 k3]) [true,true,true,false,true,true,true,true,true,false,false,true,true] (toSt Tryz.prog 229 .normal [(64,64,none),(65,67,none)] (S0 a b (a++b) k0 k1 k2 k3)):=
 mp (an (bF (decide_eq_false h1)) (an (bF (decide_eq_false h1)) (an (bF (decide_eq_false h1)) (an (decide_eq_false h1) (an (bF (decide_eq_false h2)) (an (bF (decide_eq_false h2)) (an (bF (decide_eq_false h2)) (an (bF (decide_eq_false h2)) (an rt (an (bF (decide_eq_false h2)) (an (decide_eq_false h2) (an (bN h3) (an rt (an (beq_of h4) (an rt (an (beq_of h5) (an (rr a) (an (rr b) (an (rr ((0:Nat))) (an (an (rr ((0:Nat))) (an h6 h7)) (an (rr nilP.length) (an h8 (an (rr ((0:Int))) (an (an (rr k0) (an (rr k1) (an (rr k2) (an (rr k3) trivial)))) (an h9 (an (rr nilP) trivial))))))))))))))))))))))))))
theorem tc_s10 (a b:List (Int×Int)) (k0 k1 k2 k3:Int) (h1:¬(↑a.length:Int)>2) (h2:¬(↑b.length:Int)>2) (h3:(okTT [a,b])=true) (h4:a.length=(0:Nat)) (h5:(Nat.beq b.length (0:Nat))=false) (h6:b.length≤1000000) (h7:b.length=(a++b).length) (h8:(Cap.full)=(capOf (a++b).length)) (h9:((↑b.length:Int))=((↑(a++b).length:Int))) (h10:(blkXs tP2 none++b)=(a++b)):
  Tst.path (vrun0 Tryz.prog tcCs (fl BTc []) 6 229 [pl a,pl b,a4 k0 k1 k2 k3]) [true,true,true,false,true,true,true,true,true,false,false,true,false] (toSt Tryz.prog 229 .normal [(64,64,none),(65,68,none)] (S0 a b (a++b) k0 k1 k2 k3)):=
 mp (an (bF (decide_eq_false h1)) (an (bF (decide_eq_false h1)) (an (bF (decide_eq_false h1)) (an (decide_eq_false h1) (an (bF (decide_eq_false h2)) (an (bF (decide_eq_false h2)) (an (bF (decide_eq_false h2)) (an (bF (decide_eq_false h2)) (an rt (an (bF (decide_eq_false h2)) (an (decide_eq_false h2) (an (bN h3) (an rt (an (beq_of h4) (an rt (an h5 (an rt (an (show(bounded ((0:Nat)+b.length) (16:Nat))=true from(by simp only [Nat.zero_add]<;>exact(show(bounded b.length (16:Nat))=true from bounded_of h6 (by omega)))) (an (rr a) (an (rr b) (an (rr ((0:Nat))) (an (an (rr ((0:Nat))) (an (show((0:Nat)+b.length)=(a++b).length from(by simp only [Nat.zero_add]<;>exact h7)) h8)) (an (rr nilP.length) (an (show((↑((0:Nat)+b.length):Int))=((↑(a++b).length:Int))from(by simp only [Nat.zero_add]<;>exact h9)) (an (rr ((0:Int))) (an (an (rr k0) (an (rr k1) (an (rr k2) (an (rr k3) trivial)))) (an h10 (an (rr nilP) trivial))))))))))))))))))))))))))))
theorem tc_s01 (a b:List (Int×Int)) (k0 k1 k2 k3:Int) (h1:¬(↑a.length:Int)>2) (h2:¬(↑b.length:Int)>2) (h3:(okTT [a,b])=true) (h4:(Nat.beq a.length (0:Nat))=false) (h5:a.length≤1000000) (h6:b.length=(0:Nat)) (h7:a.length=(a++b).length) (h8:(Cap.full)=(capOf (a++b).length)) (h9:((↑a.length:Int))=((↑(a++b).length:Int))) (h10:(blkXs tP2 none++a)=(a++b)):
  Tst.path (vrun0 Tryz.prog tcCs (fl BTc []) 6 229 [pl a,pl b,a4 k0 k1 k2 k3]) [true,true,true,false,true,true,true,true,true,false,false,false,true] (toSt Tryz.prog 229 .normal [(64,64,none),(65,67,none)] (S0 a b (a++b) k0 k1 k2 k3)):=
 mp (an (bF (decide_eq_false h1)) (an (bF (decide_eq_false h1)) (an (bF (decide_eq_false h1)) (an (decide_eq_false h1) (an (bF (decide_eq_false h2)) (an (bF (decide_eq_false h2)) (an (bF (decide_eq_false h2)) (an (bF (decide_eq_false h2)) (an rt (an (bF (decide_eq_false h2)) (an (decide_eq_false h2) (an (bN h3) (an rt (an h4 (an rt (an (show(bounded ((0:Nat)+a.length) (16:Nat))=true from(by simp only [Nat.zero_add]<;>exact(show(bounded a.length (16:Nat))=true from bounded_of h5 (by omega)))) (an rt (an (beq_of h6) (an (rr a) (an (rr b) (an (rr ((0:Nat))) (an (an (rr ((0:Nat))) (an (show((0:Nat)+a.length)=(a++b).length from(by simp only [Nat.zero_add]<;>exact h7)) h8)) (an (rr nilP.length) (an (show((↑((0:Nat)+a.length):Int))=((↑(a++b).length:Int))from(by simp only [Nat.zero_add]<;>exact h9)) (an (rr ((0:Int))) (an (an (rr k0) (an (rr k1) (an (rr k2) (an (rr k3) trivial)))) (an h10 (an (rr nilP) trivial))))))))))))))))))))))))))))
theorem tc_s00 (a b:List (Int×Int)) (k0 k1 k2 k3:Int) (h1:¬(↑a.length:Int)>2) (h2:¬(↑b.length:Int)>2) (h3:(okTT [a,b])=true) (h4:(Nat.beq a.length (0:Nat))=false) (h5:a.length≤1000000) (h6:(Nat.beq b.length (0:Nat))=false) (h7:(blkIs (28:Nat) tP2 (some (ABlk.own (28:Nat) (Ty.pair (.int .i64) (.int .i64)) (blkXs tP2 none++a))) a.length Cap.full)=true) (h8:a.length+b.length≤1000000) (h9:(a.length+b.length)=(a++b).length) (h10:(Cap.full)=(capOf (a++b).length)) (h11:((↑(a.length+b.length):Int))=((↑(a++b).length:Int))) (h12:(blkXs tP2 none++a++b)=(a++b)):
  Tst.path (vrun0 Tryz.prog tcCs (fl BTc []) 6 229 [pl a,pl b,a4 k0 k1 k2 k3]) [true,true,true,false,true,true,true,true,true,false,false,false,false] (toSt Tryz.prog 229 .normal [(64,64,none),(65,68,none)] (S0 a b (a++b) k0 k1 k2 k3)):=
 mp (an (bF (decide_eq_false h1)) (an (bF (decide_eq_false h1)) (an (bF (decide_eq_false h1)) (an (decide_eq_false h1) (an (bF (decide_eq_false h2)) (an (bF (decide_eq_false h2)) (an (bF (decide_eq_false h2)) (an (bF (decide_eq_false h2)) (an rt (an (bF (decide_eq_false h2)) (an (decide_eq_false h2) (an (bN h3) (an rt (an h4 (an rt (an (show(bounded ((0:Nat)+a.length) (16:Nat))=true from(by simp only [Nat.zero_add]<;>exact(show(bounded a.length (16:Nat))=true from bounded_of h5 (by omega)))) (an rt (an h6 (an (show(blkIs (28:Nat) tP2 (some (ABlk.own (28:Nat) (Ty.pair (.int .i64) (.int .i64)) (blkXs tP2 none++a))) ((0:Nat)+a.length) Cap.full)=true from(by simp only [Nat.zero_add]<;>exact(show(blkIs (28:Nat) tP2 (some (ABlk.own (28:Nat) (Ty.pair (.int .i64) (.int .i64)) (blkXs tP2 none++a))) a.length Cap.full)=true from h7))) (an (show(bounded ((0:Nat)+a.length+b.length) (16:Nat))=true from(by simp only [Nat.zero_add]<;>exact(show(bounded (a.length+b.length) (16:Nat))=true from bounded_of h8 (by omega)))) (an (rr a) (an (rr b) (an (rr ((0:Nat))) (an (an (rr ((0:Nat))) (an (show((0:Nat)+a.length+b.length)=(a++b).length from(by simp only [Nat.zero_add]<;>exact h9)) h10)) (an (rr nilP.length) (an (show((↑((0:Nat)+a.length+b.length):Int))=((↑(a++b).length:Int))from(by simp only [Nat.zero_add]<;>exact h11)) (an (rr ((0:Int))) (an (an (rr k0) (an (rr k1) (an (rr k2) (an (rr k3) trivial)))) (an h12 (an (rr nilP) trivial))))))))))))))))))))))))))))))
theorem tc_b (a b both back:List (Int×Int)) (k0 k1 k2 k3:Int) (k:Nat) (h1:(↑k:Int)<(↑both.length:Int)) (h2:k<both.length) (h3:back.length+(1:Nat)≤1000000) (h4: -9223372036854775808≤(↑k:Int)+1∧(↑k:Int)+1≤9223372036854775807) (h5:(back.length+(1:Nat))=(back++[((List.getD both k ((0:Int),(0:Int))).2,(List.getD both k ((0:Int),(0:Int))).1)]).length) (h6:(Cap.full)=(capOf (back++[((List.getD both k ((0:Int),(0:Int))).2,(List.getD both k ((0:Int),(0:Int))).1)]).length)):
  Tst.path (vall Tryz.prog tcCs (fl BTc [1,1,1,1,0,1,0,0]) (S1 a b both back k0 k1 k2 k3 k)) [true,false] (toSt Tryz.prog 229 .normal [(64,64,none),(66,68,none)] (S1 a b both (back++[((g0 both k).2,(g0 both k).1)]) k0 k1 k2 k3 (k+1))):=
 mp (an (decide_eq_true h1) (an (show(decide ((0:Int)≤(↑k:Int)))=true from decide_eq_true (by omega)) (an (decide_eq_true h2) (an (sr (iv (List.getD both k ((0:Int),(0:Int))).2)) (an (show(decide ((0:Int)≤(↑k:Int)))=true from decide_eq_true (by omega)) (an (decide_eq_true h2) (an (sr (iv (List.getD both k ((0:Int),(0:Int))).1)) (an (sr (iv (List.getD both k ((0:Int),(0:Int))).1)) (an (sr (iv (List.getD both k ((0:Int),(0:Int))).2)) (an rt (an rf (an (show(blkIs 28 tP2 (optOwn (nat_lit 28) tP2 back) back.length (capOf back.length))=true from(blkIs_optOwn _ _ _)) (an (show(bounded (back.length+(1:Nat)) (16:Nat))=true from bounded_of h3 (by omega)) (an (sr (iv (List.getD both k ((0:Int),(0:Int))).1)) (an (sr (iv (List.getD both k ((0:Int),(0:Int))).2)) (an (fits_i64 h4) (an (rr a) (an (rr b) (an (rr ((0:Nat))) (an (rr both) (an (an (rr ((0:Nat))) (an h5 h6)) (an (rr ((↑both.length:Int))) (an (show((↑k:Int)+1)=((↑(k+(1:Nat)):Int))from(by omega)) (an (an (rr k0) (an (rr k1) (an (rr k2) (an (rr k3) trivial)))) (an (show(blkXs tP2 (optOwn (nat_lit 28) tP2 back)++[((List.getD both k ((0:Int),(0:Int))).2,(List.getD both k ((0:Int),(0:Int))).1)])=(back++[((List.getD both k ((0:Int),(0:Int))).2,(List.getD both k ((0:Int),(0:Int))).1)])from(by simp only [blkXs_optOwn]<;>rfl)) trivial)))))))))))))))))))))))))
theorem tc_be (a b both back:List (Int×Int)) (k0 k1 k2 k3:Int) (k:Nat) (h1:¬(↑k:Int)<(↑both.length:Int)):
  Tst.path (vall Tryz.prog tcCs (fl BTc [1,1,1,1,0,1,0,0]) (S1 a b both back k0 k1 k2 k3 k)) [false] (toSt Tryz.prog 229 (.exit 0) [(64,64,none),(66,66,none)] (S1 a b both back k0 k1 k2 k3 k)):=
 mp (an (decide_eq_false h1) (an (rr a) (an (rr b) (an (rr ((0:Nat))) (an (rr both) (an (an (rr ((0:Nat))) (an (rr back.length) (rr (capOf back.length)))) (an (rr ((↑both.length:Int))) (an (rr ((↑k:Int))) (an (an (rr k0) (an (rr k1) (an (rr k2) (an (rr k3) trivial)))) (an (show(fitOpt Tryz.prog none (optOwn (nat_lit 28) tP2 back) (nat_lit 28) tP2 back)from(fitOpt_refl _ _ _ _)) trivial))))))))))
theorem tc_m1 (a b both back:List (Int×Int)) (k0 k1 k2 k3:Int):
  Tst.path (vrun Tryz.prog tcCs (List.drop 7 (fl BTc [])) 2 (S2 a b both back k0 k1 k2 k3)) [] (toSt Tryz.prog 229 .normal [(64,64,none)] (S3 a b both back [] k0 k1 k2 k3 0)):=
 mp (an (rr a) (an (rr b) (an (rr ((0:Nat))) (an (rr both) (an (rr back) (an (rr nilB.length) (an (rr nilB.length) (an (rr ((↑a.length:Int))) (an (rr ((0:Int))) (an (an (rr k0) (an (rr k1) (an (rr k2) (an (rr k3) trivial)))) (an (rr nilB) (an (rr nilB) trivial))))))))))))
theorem tc_l0 (a b both back:List (Int×Int)) (la:List ByteArray) (k0 k1 k2 k3:Int) (h1:(↑(0:Nat):Int)<(↑a.length:Int)) (h2:(decide ((0:Ty.den (.int .i64))≤IntKind.wrap IntKind.i64 k0)&&(decide (IntKind.wrap IntKind.i64 k0≤(255:Ty.den (.int .i64)))&&decide ((360:Int)=(360:Ty.den (.int .i64)))))=true) (h3:la.length+(1:Nat)≤1000000) (h4:(la.length+(1:Nat))=(la++[textQ (Rat.divInt (IntKind.wrap IntKind.i64 k0) (360:Int))]).length) (h5:(Cap.full)=(capOf (la++[textQ (Rat.divInt (IntKind.wrap IntKind.i64 k0) (360:Int))]).length)):
  Tst.path (vall Tryz.prog tcCs (fl BTc [1,1,1,1,1,1,0,1,0,0]) (S3 a b both back la k0 k1 k2 k3 0)) [true,false] (toSt Tryz.prog 229 .normal [(64,64,none),(65,68,none),(66,66,none)] (S3 a b both back (la++[tx3 k0]) k0 k1 k2 k3 1)):=
 mp (an (decide_eq_true h1) (an h2 (an rt (an rf (an (show(blkIs 30 Ty.str (optOwn (nat_lit 30) Ty.str la) la.length (capOf la.length))=true from(blkIs_optOwn _ _ _)) (an (show(bounded (la.length+(1:Nat)) (16:Nat))=true from bounded_of h3 (by omega)) (an rt (an (rr a) (an (rr b) (an (rr ((0:Nat))) (an (rr both) (an (rr back) (an (an (rr ((0:Nat))) (an h4 h5)) (an (an (rr ((0:Nat))) (an (rr nilB.length) (rr (capOf nilB.length)))) (an (rr ((↑a.length:Int))) (an (show((↑(0:Nat):Int)+1)=((↑(1:Nat):Int))from(by omega)) (an (an (rr k0) (an (rr k1) (an (rr k2) (an (rr k3) trivial)))) (an (show(blkXs Ty.str (optOwn (nat_lit 30) Ty.str la)++[textQ (Rat.divInt (IntKind.wrap IntKind.i64 k0) (360:Int))])=(la++[textQ (Rat.divInt (IntKind.wrap IntKind.i64 k0) (360:Int))])from(by simp only [blkXs_optOwn]<;>rfl)) (an (rr nilB) trivial)))))))))))))))))))
theorem tc_l1 (a b both back:List (Int×Int)) (la:List ByteArray) (k0 k1 k2 k3:Int) (h1:(↑(1:Nat):Int)<(↑a.length:Int)) (h2:(decide ((0:Ty.den (.int .i64))≤IntKind.wrap IntKind.i64 k1)&&(decide (IntKind.wrap IntKind.i64 k1≤(255:Ty.den (.int .i64)))&&decide ((360:Int)=(360:Ty.den (.int .i64)))))=true) (h3:la.length+(1:Nat)≤1000000) (h4:(la.length+(1:Nat))=(la++[textQ (Rat.divInt (IntKind.wrap IntKind.i64 k1) (360:Int))]).length) (h5:(Cap.full)=(capOf (la++[textQ (Rat.divInt (IntKind.wrap IntKind.i64 k1) (360:Int))]).length)):
  Tst.path (vall Tryz.prog tcCs (fl BTc [1,1,1,1,1,1,0,1,0,0]) (S3 a b both back la k0 k1 k2 k3 1)) [true,false] (toSt Tryz.prog 229 .normal [(64,64,none),(65,68,none),(66,66,none)] (S3 a b both back (la++[tx3 k1]) k0 k1 k2 k3 2)):=
 mp (an (decide_eq_true h1) (an h2 (an rt (an rf (an (show(blkIs 30 Ty.str (optOwn (nat_lit 30) Ty.str la) la.length (capOf la.length))=true from(blkIs_optOwn _ _ _)) (an (show(bounded (la.length+(1:Nat)) (16:Nat))=true from bounded_of h3 (by omega)) (an rt (an (rr a) (an (rr b) (an (rr ((0:Nat))) (an (rr both) (an (rr back) (an (an (rr ((0:Nat))) (an h4 h5)) (an (an (rr ((0:Nat))) (an (rr nilB.length) (rr (capOf nilB.length)))) (an (rr ((↑a.length:Int))) (an (show((↑(1:Nat):Int)+1)=((↑(2:Nat):Int))from(by omega)) (an (an (rr k0) (an (rr k1) (an (rr k2) (an (rr k3) trivial)))) (an (show(blkXs Ty.str (optOwn (nat_lit 30) Ty.str la)++[textQ (Rat.divInt (IntKind.wrap IntKind.i64 k1) (360:Int))])=(la++[textQ (Rat.divInt (IntKind.wrap IntKind.i64 k1) (360:Int))])from(by simp only [blkXs_optOwn]<;>rfl)) (an (rr nilB) trivial)))))))))))))))))))
theorem tc_le (a b both back:List (Int×Int)) (la:List ByteArray) (k0 k1 k2 k3:Int) (k:Nat) (h1:¬(↑k:Int)<(↑a.length:Int)):
  Tst.path (vall Tryz.prog tcCs (fl BTc [1,1,1,1,1,1,0,1,0,0]) (S3 a b both back la k0 k1 k2 k3 k)) [false] (toSt Tryz.prog 229 (.exit 2) [(64,64,none),(65,65,none),(66,66,none)] (S3 a b both back la k0 k1 k2 k3 k)):=
 mp (an (decide_eq_false h1) (an (rr a) (an (rr b) (an (rr ((0:Nat))) (an (rr both) (an (rr back) (an (an (rr ((0:Nat))) (an (rr la.length) (rr (capOf la.length)))) (an (an (rr ((0:Nat))) (an (rr nilB.length) (rr (capOf nilB.length)))) (an (rr ((↑a.length:Int))) (an (rr ((↑k:Int))) (an (an (rr k0) (an (rr k1) (an (rr k2) (an (rr k3) trivial)))) (an (show(fitOpt Tryz.prog none (optOwn (nat_lit 30) Ty.str la) (nat_lit 30) Ty.str la)from(fitOpt_refl _ _ _ _)) (an (rr nilB) trivial)))))))))))))
theorem tc_m2 (a b both back:List (Int×Int)) (la:List ByteArray) (k0 k1 k2 k3:Int):
  Tst.path (vrun Tryz.prog tcCs (List.drop 10 (fl BTc [])) 1 (S2b a b both back la k0 k1 k2 k3)) [] (toSt Tryz.prog 229 .normal [(64,64,none),(65,65,none)] (S4 a b both back la [] k0 k1 k2 k3 0)):=
 mp (an (rr a) (an (rr b) (an (rr ((0:Nat))) (an (rr both) (an (rr back) (an (rr la) (an (an (rr ((0:Nat))) (an (rr nilB.length) (rr (capOf nilB.length)))) (an (rr ((↑b.length:Int))) (an (rr ((0:Int))) (an (an (rr k0) (an (rr k1) (an (rr k2) (an (rr k3) trivial)))) (an (rr nilB) trivial)))))))))))
theorem tc_r0 (a b both back:List (Int×Int)) (la lb:List ByteArray) (k0 k1 k2 k3:Int) (h1:(↑(0:Nat):Int)<(↑b.length:Int)) (h2:(decide ((0:Ty.den (.int .i64))≤IntKind.wrap IntKind.i64 k2)&&(decide (IntKind.wrap IntKind.i64 k2≤(255:Ty.den (.int .i64)))&&decide ((360:Int)=(360:Ty.den (.int .i64)))))=true) (h3:lb.length+(1:Nat)≤1000000) (h4:(lb.length+(1:Nat))=(lb++[textQ (Rat.divInt (IntKind.wrap IntKind.i64 k2) (360:Int))]).length) (h5:(Cap.full)=(capOf (lb++[textQ (Rat.divInt (IntKind.wrap IntKind.i64 k2) (360:Int))]).length)):
  Tst.path (vall Tryz.prog tcCs (fl BTc [1,1,1,1,1,1,1,0,1,0,0]) (S4 a b both back la lb k0 k1 k2 k3 0)) [true,false] (toSt Tryz.prog 229 .normal [(64,64,none),(65,68,none)] (S4 a b both back la (lb++[tx3 k2]) k0 k1 k2 k3 1)):=
 mp (an (decide_eq_true h1) (an rt (an h2 (an rt (an rf (an (show(blkIs 30 Ty.str (optOwn (nat_lit 30) Ty.str lb) lb.length (capOf lb.length))=true from(blkIs_optOwn _ _ _)) (an (show(bounded (lb.length+(1:Nat)) (16:Nat))=true from bounded_of h3 (by omega)) (an rt (an (rr a) (an (rr b) (an (rr ((0:Nat))) (an (rr both) (an (rr back) (an (rr la) (an (an (rr ((0:Nat))) (an h4 h5)) (an (rr ((↑b.length:Int))) (an (show((↑(0:Nat):Int)+1)=((↑(1:Nat):Int))from(by omega)) (an (an (rr k0) (an (rr k1) (an (rr k2) (an (rr k3) trivial)))) (an (show(blkXs Ty.str (optOwn (nat_lit 30) Ty.str lb)++[textQ (Rat.divInt (IntKind.wrap IntKind.i64 k2) (360:Int))])=(lb++[textQ (Rat.divInt (IntKind.wrap IntKind.i64 k2) (360:Int))])from(by simp only [blkXs_optOwn]<;>rfl)) trivial)))))))))))))))))))
theorem tc_r1 (a b both back:List (Int×Int)) (la lb:List ByteArray) (k0 k1 k2 k3:Int) (h1:(↑(1:Nat):Int)<(↑b.length:Int)) (h2:(decide ((0:Ty.den (.int .i64))≤IntKind.wrap IntKind.i64 k3)&&(decide (IntKind.wrap IntKind.i64 k3≤(255:Ty.den (.int .i64)))&&decide ((360:Int)=(360:Ty.den (.int .i64)))))=true) (h3:lb.length+(1:Nat)≤1000000) (h4:(lb.length+(1:Nat))=(lb++[textQ (Rat.divInt (IntKind.wrap IntKind.i64 k3) (360:Int))]).length) (h5:(Cap.full)=(capOf (lb++[textQ (Rat.divInt (IntKind.wrap IntKind.i64 k3) (360:Int))]).length)):
  Tst.path (vall Tryz.prog tcCs (fl BTc [1,1,1,1,1,1,1,0,1,0,0]) (S4 a b both back la lb k0 k1 k2 k3 1)) [true,false] (toSt Tryz.prog 229 .normal [(64,64,none),(65,68,none)] (S4 a b both back la (lb++[tx3 k3]) k0 k1 k2 k3 2)):=
 mp (an (decide_eq_true h1) (an rt (an h2 (an rt (an rf (an (show(blkIs 30 Ty.str (optOwn (nat_lit 30) Ty.str lb) lb.length (capOf lb.length))=true from(blkIs_optOwn _ _ _)) (an (show(bounded (lb.length+(1:Nat)) (16:Nat))=true from bounded_of h3 (by omega)) (an rt (an (rr a) (an (rr b) (an (rr ((0:Nat))) (an (rr both) (an (rr back) (an (rr la) (an (an (rr ((0:Nat))) (an h4 h5)) (an (rr ((↑b.length:Int))) (an (show((↑(1:Nat):Int)+1)=((↑(2:Nat):Int))from(by omega)) (an (an (rr k0) (an (rr k1) (an (rr k2) (an (rr k3) trivial)))) (an (show(blkXs Ty.str (optOwn (nat_lit 30) Ty.str lb)++[textQ (Rat.divInt (IntKind.wrap IntKind.i64 k3) (360:Int))])=(lb++[textQ (Rat.divInt (IntKind.wrap IntKind.i64 k3) (360:Int))])from(by simp only [blkXs_optOwn]<;>rfl)) trivial)))))))))))))))))))
theorem tc_re (a b both back:List (Int×Int)) (la lb:List ByteArray) (k0 k1 k2 k3:Int) (k:Nat) (h1:¬(↑k:Int)<(↑b.length:Int)):
  Tst.path (vall Tryz.prog tcCs (fl BTc [1,1,1,1,1,1,1,0,1,0,0]) (S4 a b both back la lb k0 k1 k2 k3 k)) [false] (toSt Tryz.prog 229 (.exit 4) [(64,64,none),(65,65,none)] (S4 a b both back la lb k0 k1 k2 k3 k)):=
 mp (an (decide_eq_false h1) (an (rr a) (an (rr b) (an (rr ((0:Nat))) (an (rr both) (an (rr back) (an (rr la) (an (an (rr ((0:Nat))) (an (rr lb.length) (rr (capOf lb.length)))) (an (rr ((↑b.length:Int))) (an (rr ((↑k:Int))) (an (an (rr k0) (an (rr k1) (an (rr k2) (an (rr k3) trivial)))) (an (show(fitOpt Tryz.prog none (optOwn (nat_lit 30) Ty.str lb) (nat_lit 30) Ty.str lb)from(fitOpt_refl _ _ _ _)) trivial))))))))))))
theorem tc_p1 (a b both back:List (Int×Int)) (la lb:List ByteArray) (h1:(okT2 a)=true) (h2:(okT2 b)=true) (h3:(okT2 both)=true) (h4:(okT2 (nrmG both))=true) (h5:(okT2 back)=true) (h6:(mulB (txR a) (txR b))=true) (h7:(mulB (txR both) (txR back))=true) (h8:Array.toList (ByteArray.data (txR both))=Array.toList (ByteArray.data (txM (txR a) (txR b)))) (h9:Array.toList (ByteArray.data (txR (nrmG both)))=Array.toList (ByteArray.data (txR both))) (h10:Array.toList (ByteArray.data (txM (txR both) (txR back)))=Array.toList (ByteArray.data (ByteArray.mk (#[(49:UInt8)])))):
  Tst.path (vrun Tryz.prog tcCs (List.drop 12 (fl BTc [])) 10 (S5 a b both back la lb)) [true,true,true,false,true,true,true,false,true,true,false,false] (toSt Tryz.prog 229 .normal [] (S6 a b both la lb)):=
 mp (an h1 (an h2 (an h3 (an h3 (an h4 (an h5 (an h6 (an h7 (an rt (an rt (an rt (an rt (an rt (an rt (an rt (an rt (an rt (an rt (an rf (an (bF (bN (decide_eq_true h8))) (an (bF (bN (decide_eq_true h8))) (an (bF (bN (decide_eq_true h8))) (an (bN (decide_eq_true h8)) (an (bF (bN (decide_eq_true h9))) (an (bF (bN (decide_eq_true h9))) (an (bN (decide_eq_true h9)) (an (bN (decide_eq_true h10)) (an (rr a) (an (rr b) (an (rr both) (an (rr la) (an (rr lb) (an (rr (txR b)) trivial)))))))))))))))))))))))))))))))))
theorem tc_q11 (a b both:List (Int×Int)) (la lb:List ByteArray) (h1:(loB a la)=true) (h2:(loB b lb)=true) (h3:la.length=(0:Nat)) (h4:lb.length=(0:Nat)) (h5:(loB both (List.take (0:Nat) (List.drop (0:Nat) (blkXs Ty.str none))))=true) (h6:(mulB (txL a la) (txR b))=true) (h7:(addB (txM (txL a la) (txR b)) (txL b lb))=true) (h8:Array.toList (ByteArray.data (txL both (List.take (0:Nat) (List.drop (0:Nat) (blkXs Ty.str none)))))=Array.toList (ByteArray.data (txA (txM (txL a la) (txR b)) (txL b lb)))):
  Tst.path (vall Tryz.prog tcCs (List.drop 22 (fl BTc [])) (S6 a b both la lb)) [true,true,true,true,true,true,true,true] (toRet Tryz.prog Tryz.f3 true (bv true)):=
 mp (an h1 (an h2 (an rt (an (beq_of h3) (an rt (an (beq_of h4) (an rt (an h5 (an h6 (an h7 (an rt (an rt (an rt (an rt (an rt (an rt (an rt (an rt (an (bT (decide_eq_true h8)) (an rt (an (decide_eq_true h8) rt)))))))))))))))))))))
theorem tc_q10 (a b both:List (Int×Int)) (la lb:List ByteArray) (h1:(loB a la)=true) (h2:(loB b lb)=true) (h3:la.length=(0:Nat)) (h4:(Nat.beq lb.length (0:Nat))=false) (h5:lb.length≤1000000) (h6:(Nat.beq lb.length (0:Nat)||ownHas (30:Nat) Ty.str (some (ABlk.own (30:Nat) Ty.str (blkXs Ty.str none++lb))) (lb.length-(1:Nat)))=true) (h7:(loB both (List.take lb.length (List.drop (0:Nat) (blkXs Ty.str none++lb))))=true) (h8:(mulB (txL a la) (txR b))=true) (h9:(addB (txM (txL a la) (txR b)) (txL b lb))=true) (h10:Array.toList (ByteArray.data (txL both (List.take lb.length (List.drop (0:Nat) (blkXs Ty.str none++lb)))))=Array.toList (ByteArray.data (txA (txM (txL a la) (txR b)) (txL b lb)))):
  Tst.path (vall Tryz.prog tcCs (List.drop 22 (fl BTc [])) (S6 a b both la lb)) [true,false,true,true,true,true,true,true] (toRet Tryz.prog Tryz.f3 true (bv true)):=
 mp (an h1 (an h2 (an rt (an (beq_of h3) (an rt (an h4 (an rt (an (show(bounded ((0:Nat)+lb.length) (16:Nat))=true from(by simp only [Nat.zero_add]<;>exact(show(bounded lb.length (16:Nat))=true from bounded_of h5 (by omega)))) (an (show(Nat.beq ((0:Nat)+lb.length) (0:Nat)||ownHas (30:Nat) Ty.str (some (ABlk.own (30:Nat) Ty.str (blkXs Ty.str none++lb))) ((0:Nat)+((0:Nat)+lb.length)-(1:Nat)))=true from(by simp only [Nat.zero_add]<;>exact(show(Nat.beq lb.length (0:Nat)||ownHas (30:Nat) Ty.str (some (ABlk.own (30:Nat) Ty.str (blkXs Ty.str none++lb))) (lb.length-(1:Nat)))=true from h6))) (an (show(loB both (List.take ((0:Nat)+lb.length) (List.drop (0:Nat) (blkXs Ty.str none++lb))))=true from(by simp only [Nat.zero_add]<;>exact(show(loB both (List.take lb.length (List.drop (0:Nat) (blkXs Ty.str none++lb))))=true from h7))) (an h8 (an h9 (an rt (an rt (an rt (an rt (an rt (an rt (an rt (an rt (an (show(decide (Array.toList (ByteArray.data (txL both (List.take ((0:Nat)+lb.length) (List.drop (0:Nat) (blkXs Ty.str none++lb)))))=Array.toList (ByteArray.data (txA (txM (txL a la) (txR b)) (txL b lb))))==true)=true from(by simp only [Nat.zero_add]<;>exact(show(decide (Array.toList (ByteArray.data (txL both (List.take lb.length (List.drop (0:Nat) (blkXs Ty.str none++lb)))))=Array.toList (ByteArray.data (txA (txM (txL a la) (txR b)) (txL b lb))))==true)=true from bT (decide_eq_true h10)))) (an rt (an (show(decide (Array.toList (ByteArray.data (txL both (List.take ((0:Nat)+lb.length) (List.drop (0:Nat) (blkXs Ty.str none++lb)))))=Array.toList (ByteArray.data (txA (txM (txL a la) (txR b)) (txL b lb)))))=true from(by simp only [Nat.zero_add]<;>exact(show(decide (Array.toList (ByteArray.data (txL both (List.take lb.length (List.drop (0:Nat) (blkXs Ty.str none++lb)))))=Array.toList (ByteArray.data (txA (txM (txL a la) (txR b)) (txL b lb)))))=true from decide_eq_true h10))) rt)))))))))))))))))))))))
theorem tc_q01 (a b both:List (Int×Int)) (la lb:List ByteArray) (h1:(loB a la)=true) (h2:(loB b lb)=true) (h3:(Nat.beq la.length (0:Nat))=false) (h4:la.length≤1000000) (h5:lb.length=(0:Nat)) (h6:(Nat.beq la.length (0:Nat)||ownHas (30:Nat) Ty.str (some (ABlk.own (30:Nat) Ty.str (blkXs Ty.str none++la))) (la.length-(1:Nat)))=true) (h7:(loB both (List.take la.length (List.drop (0:Nat) (blkXs Ty.str none++la))))=true) (h8:(mulB (txL a la) (txR b))=true) (h9:(addB (txM (txL a la) (txR b)) (txL b lb))=true) (h10:Array.toList (ByteArray.data (txL both (List.take la.length (List.drop (0:Nat) (blkXs Ty.str none++la)))))=Array.toList (ByteArray.data (txA (txM (txL a la) (txR b)) (txL b lb)))):
  Tst.path (vall Tryz.prog tcCs (List.drop 22 (fl BTc [])) (S6 a b both la lb)) [false,true,true,true,true,true,true,true] (toRet Tryz.prog Tryz.f3 true (bv true)):=
 mp (an h1 (an h2 (an rt (an h3 (an rt (an (show(bounded ((0:Nat)+la.length) (16:Nat))=true from(by simp only [Nat.zero_add]<;>exact(show(bounded la.length (16:Nat))=true from bounded_of h4 (by omega)))) (an rt (an (beq_of h5) (an (show(Nat.beq ((0:Nat)+la.length) (0:Nat)||ownHas (30:Nat) Ty.str (some (ABlk.own (30:Nat) Ty.str (blkXs Ty.str none++la))) ((0:Nat)+((0:Nat)+la.length)-(1:Nat)))=true from(by simp only [Nat.zero_add]<;>exact(show(Nat.beq la.length (0:Nat)||ownHas (30:Nat) Ty.str (some (ABlk.own (30:Nat) Ty.str (blkXs Ty.str none++la))) (la.length-(1:Nat)))=true from h6))) (an (show(loB both (List.take ((0:Nat)+la.length) (List.drop (0:Nat) (blkXs Ty.str none++la))))=true from(by simp only [Nat.zero_add]<;>exact(show(loB both (List.take la.length (List.drop (0:Nat) (blkXs Ty.str none++la))))=true from h7))) (an h8 (an h9 (an rt (an rt (an rt (an rt (an rt (an rt (an rt (an rt (an (show(decide (Array.toList (ByteArray.data (txL both (List.take ((0:Nat)+la.length) (List.drop (0:Nat) (blkXs Ty.str none++la)))))=Array.toList (ByteArray.data (txA (txM (txL a la) (txR b)) (txL b lb))))==true)=true from(by simp only [Nat.zero_add]<;>exact(show(decide (Array.toList (ByteArray.data (txL both (List.take la.length (List.drop (0:Nat) (blkXs Ty.str none++la)))))=Array.toList (ByteArray.data (txA (txM (txL a la) (txR b)) (txL b lb))))==true)=true from bT (decide_eq_true h10)))) (an rt (an (show(decide (Array.toList (ByteArray.data (txL both (List.take ((0:Nat)+la.length) (List.drop (0:Nat) (blkXs Ty.str none++la)))))=Array.toList (ByteArray.data (txA (txM (txL a la) (txR b)) (txL b lb)))))=true from(by simp only [Nat.zero_add]<;>exact(show(decide (Array.toList (ByteArray.data (txL both (List.take la.length (List.drop (0:Nat) (blkXs Ty.str none++la)))))=Array.toList (ByteArray.data (txA (txM (txL a la) (txR b)) (txL b lb)))))=true from decide_eq_true h10))) rt)))))))))))))))))))))))
theorem tc_q00 (a b both:List (Int×Int)) (la lb:List ByteArray) (h1:(loB a la)=true) (h2:(loB b lb)=true) (h3:(Nat.beq la.length (0:Nat))=false) (h4:la.length≤1000000) (h5:(Nat.beq lb.length (0:Nat))=false) (h6:(blkIs (30:Nat) Ty.str (some (ABlk.own (30:Nat) Ty.str (blkXs Ty.str none++la))) la.length Cap.full)=true) (h7:la.length+lb.length≤1000000) (h8:(Nat.beq (la.length+lb.length) (0:Nat)||ownHas (30:Nat) Ty.str (some (ABlk.own (30:Nat) Ty.str (blkXs Ty.str none++la++lb))) (la.length+lb.length-(1:Nat)))=true) (h9:(loB both (List.take (la.length+lb.length) (List.drop (0:Nat) (blkXs Ty.str none++la++lb))))=true) (h10:(mulB (txL a la) (txR b))=true) (h11:(addB (txM (txL a la) (txR b)) (txL b lb))=true) (h12:Array.toList (ByteArray.data (txL both (List.take (la.length+lb.length) (List.drop (0:Nat) (blkXs Ty.str none++la++lb)))))=Array.toList (ByteArray.data (txA (txM (txL a la) (txR b)) (txL b lb)))):
  Tst.path (vall Tryz.prog tcCs (List.drop 22 (fl BTc [])) (S6 a b both la lb)) [false,false,true,true,true,true,true,true] (toRet Tryz.prog Tryz.f3 true (bv true)):=
 mp (an h1 (an h2 (an rt (an h3 (an rt (an (show(bounded ((0:Nat)+la.length) (16:Nat))=true from(by simp only [Nat.zero_add]<;>exact(show(bounded la.length (16:Nat))=true from bounded_of h4 (by omega)))) (an rt (an h5 (an (show(blkIs (30:Nat) Ty.str (some (ABlk.own (30:Nat) Ty.str (blkXs Ty.str none++la))) ((0:Nat)+la.length) Cap.full)=true from(by simp only [Nat.zero_add]<;>exact(show(blkIs (30:Nat) Ty.str (some (ABlk.own (30:Nat) Ty.str (blkXs Ty.str none++la))) la.length Cap.full)=true from h6))) (an (show(bounded ((0:Nat)+la.length+lb.length) (16:Nat))=true from(by simp only [Nat.zero_add]<;>exact(show(bounded (la.length+lb.length) (16:Nat))=true from bounded_of h7 (by omega)))) (an (show(Nat.beq ((0:Nat)+la.length+lb.length) (0:Nat)||ownHas (30:Nat) Ty.str (some (ABlk.own (30:Nat) Ty.str (blkXs Ty.str none++la++lb))) ((0:Nat)+((0:Nat)+la.length+lb.length)-(1:Nat)))=true from(by simp only [Nat.zero_add]<;>exact(show(Nat.beq (la.length+lb.length) (0:Nat)||ownHas (30:Nat) Ty.str (some (ABlk.own (30:Nat) Ty.str (blkXs Ty.str none++la++lb))) (la.length+lb.length-(1:Nat)))=true from h8))) (an (show(loB both (List.take ((0:Nat)+la.length+lb.length) (List.drop (0:Nat) (blkXs Ty.str none++la++lb))))=true from(by simp only [Nat.zero_add]<;>exact(show(loB both (List.take (la.length+lb.length) (List.drop (0:Nat) (blkXs Ty.str none++la++lb))))=true from h9))) (an h10 (an h11 (an rt (an rt (an rt (an rt (an rt (an rt (an rt (an rt (an (show(decide (Array.toList (ByteArray.data (txL both (List.take ((0:Nat)+la.length+lb.length) (List.drop (0:Nat) (blkXs Ty.str none++la++lb)))))=Array.toList (ByteArray.data (txA (txM (txL a la) (txR b)) (txL b lb))))==true)=true from(by simp only [Nat.zero_add]<;>exact(show(decide (Array.toList (ByteArray.data (txL both (List.take (la.length+lb.length) (List.drop (0:Nat) (blkXs Ty.str none++la++lb)))))=Array.toList (ByteArray.data (txA (txM (txL a la) (txR b)) (txL b lb))))==true)=true from bT (decide_eq_true h12)))) (an rt (an (show(decide (Array.toList (ByteArray.data (txL both (List.take ((0:Nat)+la.length+lb.length) (List.drop (0:Nat) (blkXs Ty.str none++la++lb)))))=Array.toList (ByteArray.data (txA (txM (txL a la) (txR b)) (txL b lb)))))=true from(by simp only [Nat.zero_add]<;>exact(show(decide (Array.toList (ByteArray.data (txL both (List.take (la.length+lb.length) (List.drop (0:Nat) (blkXs Ty.str none++la++lb)))))=Array.toList (ByteArray.data (txA (txM (txL a la) (txR b)) (txL b lb)))))=true from decide_eq_true h12))) rt)))))))))))))))))))))))))
end
end Go.Proofs.YtccmlbinkgbpgaaGreatDoor
/- Words for a card: four bytes that came in. -/
namespace Go.Proofs.YtccmlbinkgbpgaaGreatDoor
open Go.ChangeShapes Go.WideShapes Go.ChangeAt Go.RowKit Sv
set_option linter.unusedVariables false
set_option maxRecDepth 100000 in
theorem open_four {H:Type} {enc:TypeId×Value→H} {W:World} {base:Nat} {v:Value} {d:DataW H} {p:List MemPlace} (hv:Value.okWide Tryz.prog W .any base 23 v)
  (h:DataW.Trod enc Tryz.prog W 0 (fun _=>true) true 23 v d p):
  ∃k0 k1 k2 k3:Int,v= .agg #[.int .u8 k0, .int .u8 k1, .int .u8 k2, .int .u8 k3]∧lsOk [k0,k1,k2,k3]:=by
 simp only [Value.okWide,Tryz.underlying23]at hv
 obtain⟨cs,rfl,hsz,_⟩:=hv
 have c2':Tryz.prog.cellsOf 23=4:=by kernel_rfl
 have c1':Tryz.prog.cellsOf 5=1:=by kernel_rfl
 rw [c2']at hsz
 obtain⟨fuel,hf⟩:=h
 obtain⟨xs,m,_,he,_,hl,hel⟩:=DataW.trod_array Tryz.underlying23 hf
 obtain⟨l⟩:=cs
 match l,hsz,xs,hl with
 |[u0,u1,u2,u3],_,[y0,y1,y2,y3],_=>
  have t0:=hel 0 (by decide)
  have t1:=hel 1 (by decide)
  have t2:=hel 2 (by decide)
  have t3:=hel 3 (by decide)
  obtain⟨k0,e0,_,w0⟩:=DataW.trod_int Tryz.underlying5 (show DataW.trod enc Tryz.prog W 0 (fun _=>true) true m 5 [u0]=some y0 by simpa [Value.cells,c1']using t0)
  obtain⟨k1,e1,_,w1⟩:=DataW.trod_int Tryz.underlying5 (show DataW.trod enc Tryz.prog W 0 (fun _=>true) true m 5 [u1]=some y1 by simpa [Value.cells,c1']using t1)
  obtain⟨k2,e2,_,w2⟩:=DataW.trod_int Tryz.underlying5 (show DataW.trod enc Tryz.prog W 0 (fun _=>true) true m 5 [u2]=some y2 by simpa [Value.cells,c1']using t2)
  obtain⟨k3,e3,_,w3⟩:=DataW.trod_int Tryz.underlying5 (show DataW.trod enc Tryz.prog W 0 (fun _=>true) true m 5 [u3]=some y3 by simpa [Value.cells,c1']using t3)
  simp at e0 e1 e2 e3
  subst e0;subst e1;subst e2;subst e3
  have bd:∀{k:Int},(Lit.int .u8 k).wf=true→0≤k∧k≤255:=fun {k} hk=>by
   have hk:(decide ((0:Int)≤k)&&decide (k≤255))=true:=hk
   rw [Bool.and_eq_true,decide_eq_true_eq,decide_eq_true_eq]at hk
   exact hk
  refine⟨k0,k1,k2,k3,rfl,fun k hk=> ?_⟩
  simp only [List.mem_cons,List.not_mem_nil,or_false]at hk
  rcases hk with rfl |rfl |rfl |rfl
  ·exact bd w0
  ·exact bd w1
  ·exact bd w2
  ·exact bd w3
end Go.Proofs.YtccmlbinkgbpgaaGreatDoor
/- gear.Normal, without what the seat lacks: the empty train is run. -/
namespace Go.Proofs.YtccmlbinkgbpgaaGreatDoor
open Go.RowKit Sv
set_option maxRecDepth 100000
set_option linter.unusedVariables false
set_option linter.unusedSimpArgs false
noncomputable section
def okRun2 (f:FuncId) (args:List AV) (fresh:Bool) (res:AV):Bool:=match acall Tryz.prog (acode Tryz.prog (sdraw Tryz.prog noS) 400) f args H0 with | .ok v H'=>frzB fresh H' v res|_=>false
theorem holds_okRun2 {f:FuncId} {args:List AV} {fresh:Bool} {res:AV} (h:okRun2 f args fresh res=true):Holds Tryz.prog fresh f args res:=by
 unfold okRun2 at h
 cases hr:acall Tryz.prog (acode Tryz.prog (sdraw Tryz.prog noS) 400) f args H0 with
 |ok v H'=>
  rw [hr]at h
  exact holds_call (acall_ok (acode_ok known (sdraw_ok known mixed noS_ok) 400)) hr (frzB_ok h)
 |_=>rw [hr]at h;cases h
theorem gn_holds2 (t:List (Int×Int)) (h0:trnErr t=0):Holds Tryz.prog false 8 [pl t] (.tuple [pl (nrmG t),iv 0]):=by
 cases t with
 |nil=>exact holds_okRun2 (by kernel_rfl)
 |cons p r=>
 obtain⟨tl,ti⟩:=trn_in h0
 have hS:=gnCs_ok
 generalize ht:p::r=t at*
 have tn:t.map Prod.snd=p.2::r.map Prod.snd:=by rw [←ht];rfl
 have tpos:0<t.length:=by rw [←ht];simp
 refine holds_fl (c:=BGn) Tryz.func8 rfl rfl fun w F=> ?_
 refine GoalL.to known mixed hS 6 _ (gn_start t h0) (by kernel_rfl) ?_
 refine GoalL.loop (ι:={k:Nat//k≤t.length}) (id:=0) (b:=cat BGn gnA) (rest:=List.drop 7 (fl BGn [])) (by kernel_rfl) (fun k=>SNa t ((t.take k.1).map Prod.snd) k.1) (fun k=>t.length-k.1) ⟨0,Nat.zero_le _⟩ (fun _=>rfl) ?_
 rintro⟨k,hk⟩
 have hk:k≤t.length:=hk
 by_cases hlt:k<t.length
 ·refine GoalL.all (s:=SNa t ((t.take k).map Prod.snd) k) known mixed hS _ (gn_a t _ k (by omega) hlt (by simp;omega) (by omega) (len_sn _ _) (cap_sn _ _)) (by kernel_rfl) ?_
  refine⟨⟨k+1,hlt⟩,by show t.length-(k+1)<t.length-k;omega, ?_⟩
  have e:(t.take (k+1)).map Prod.snd=(t.take k).map Prod.snd++[(g0 t k).2]:=by rw [List.take_succ_eq_append_getElem hlt,g0_get hlt,List.map_append];rfl
  show _=(SNa t ((t.take (k+1)).map Prod.snd) (k+1)).T∧_=(SNa t ((t.take (k+1)).map Prod.snd) (k+1)).H
  rw [e]
  exact⟨rfl,rfl⟩
 ·refine GoalL.all (s:=SNa t ((t.take k).map Prod.snd) k) known mixed hS _ (gn_ae t _ k (by omega)) (by kernel_rfl) ?_
  refine onN_exit (inB_exit ?_)
  obtain rfl:k=t.length:=by omega
  rw [List.take_length,tn]
  refine GoalL.st (s:=SNa t (p.2::r.map Prod.snd) t.length) (s':=SNb t [] (p.2::r.map Prod.snd) ((r.map Prod.snd).length+1) 0) known mixed hS 1 _ (gn_mid t p.2 (r.map Prod.snd) t.length rfl) (by kernel_rfl) ?_
  rw [←tn]
  have lm:(r.map Prod.snd).length+1=t.length:=by rw [←ht];simp
  rw [lm]
  obtain⟨R,hR⟩:∃R,cancel (t.map Prod.fst) (t.map Prod.snd)=R:=⟨_,rfl⟩
  have hlR:=cancel_len (t.map Prod.fst) (t.map Prod.snd)
  rw [hR]at hlR
  have hres:nrmG t=zipI (sortJ R.1) (sortJ R.2):=by unfold nrmG;rw [hR]
  rw [hres]
  refine GoalL.loop (ι:={s:List Int×List Int×Nat×Nat//s.2.2.2≤t.length∧s.2.1.length=t.length∧s.2.2.1≤t.length∧t.length≤s.2.2.1+s.2.2.2∧s.1.length≤s.2.2.2∧s.1++(cancel ((t.drop s.2.2.2).map Prod.fst) (s.2.1.take s.2.2.1)).1=R.1∧(cancel ((t.drop s.2.2.2).map Prod.fst) (s.2.1.take s.2.2.1)).2=R.2}) (id:=2) (b:=cat BGn gnB) (rest:=List.drop 9 (fl BGn [])) (by kernel_rfl) (fun s=>SNb t s.1.1 s.1.2.1 s.1.2.2.1 s.1.2.2.2) (fun s=>t.length-s.1.2.2.2)
   ⟨([],t.map Prod.snd,t.length,0),Nat.zero_le _,by simp,Nat.le_refl _,by simp,Nat.le_refl _,by simp [List.take_of_length_le,hR],by simp [List.take_of_length_le,hR]⟩ (fun _=>rfl) ?_
  rintro⟨⟨ds,xs,m,k⟩,a1,a2,a3,a4,a5,a6,a7⟩
  have a1:k≤t.length:=a1
  have a2:xs.length=t.length:=a2
  have a3:m≤t.length:=a3
  have a4:t.length≤m+k:=a4
  have a5:ds.length≤k:=a5
  have a6:ds++(cancel ((t.drop k).map Prod.fst) (xs.take m)).1=R.1:=a6
  have a7:(cancel ((t.drop k).map Prod.fst) (xs.take m)).2=R.2:=a7
  by_cases hlt:k<t.length
  ·have hm:0<m:=by omega
   have q1:Nat.beq m 0=false:=beq0 (by omega)
   have q2:(Nat.beq 0 0&&(ownHas 3 tIn (some (.own 3 tIn xs)) (m-1)&&Nat.ble 1 m))=true:=by
    rw [own_has _ tIn xs (show m-1<xs.length by omega),Nat.ble_eq_true_of_le (show 1≤m by omega)];rfl
   have q3:∀x:Int,(oneI [x]&&Nat.ble xs.length 1000000)=true:=fun x=>by rw [Nat.ble_eq_true_of_le (by omega)];rfl
   have ed:(t.drop k).map Prod.fst=(g0 t k).1::(t.drop (k+1)).map Prod.fst:=by rw [List.drop_eq_getElem_cons hlt,g0_get hlt];rfl
   rw [ed]at a6 a7
   by_cases hin:(g0 t k).1∈xs.take m
   ·obtain⟨a,b1,b2,b3⟩:=idx_in (xs.take m) 0 hin
    have ba:a<m:=by rw [List.length_take]at b1;omega
    have hi:idxO xs m [(g0 t k).1]=(a:Int):=by show Lib.idxFrom (xs.take m) (g0 t k).1 0=_;rw [b2,Nat.zero_add]
    have key:=gn_b1 t ds xs m k (by omega) hlt q1 q2 (q3 _)
    rw [hi]at key
    have hok:okDel xs m [(a:Int),(a:Int)+1]=true:=by
     show(decide ((0:Int)≤a)&&(decide ((a:Int)+1=a+1)&&(decide ((a:Int)+1≤(m:Int))&&Nat.ble xs.length 1000000)))=true
     rw [decide_eq_true (by omega),decide_eq_true rfl,decide_eq_true (by omega),Nat.ble_eq_true_of_le (by omega)];rfl
    obtain⟨d1,d2⟩:=delO_take (show m≤xs.length by omega) ba ((a:Int)+1)
    unfold cancel at a6 a7
    rw [if_pos hin,b3,←d2]at a6 a7
    refine GoalL.all (s:=SNb t ds xs m k) known mixed hS _ (key (by omega) (by omega) q2 hok (by omega)) (by kernel_rfl) ?_
    exact⟨⟨(ds,delO xs m [(a:Int),(a:Int)+1],m-1,k+1),hlt,by show(delO _ _ _).length=_;rw [d1];exact a2,by show m-1≤_;omega,by show _≤m-1+(k+1);omega,by show ds.length≤k+1;omega,a6,a7⟩,by show t.length-(k+1)<t.length-k;omega,rfl,rfl⟩
   ·have hi:idxO xs m [(g0 t k).1]= -1:=idx_out _ 0 hin
    unfold cancel at a6 a7
    rw [if_neg hin]at a6 a7
    refine GoalL.all (s:=SNb t ds xs m k) known mixed hS _ (gn_b2 t ds xs m k (by omega) hlt q1 q2 (q3 _) (by rw [hi];decide) (by omega) (by omega) (len_sn _ _) (cap_sn _ _)) (by kernel_rfl) ?_
    exact⟨⟨(ds++[(g0 t k).1],xs,m,k+1),hlt,a2,a3,by show _≤m+(k+1);omega,by show(ds++[_]).length≤k+1;simp;omega,by show(ds++[_])++_=_;rw [List.append_assoc];exact a6,a7⟩,by show t.length-(k+1)<t.length-k;omega,rfl,rfl⟩
  ·refine GoalL.all (s:=SNb t ds xs m k) known mixed hS _ (gn_be t ds xs m k (by omega)) (by kernel_rfl) ?_
   refine onN_exit (inB_exit ?_)
   obtain rfl:k=t.length:=by omega
   rw [List.drop_length]at a6 a7
   have a6:ds++[]=R.1:=a6
   have a7:xs.take m=R.2:=a7
   rw [List.append_nil]at a6
   have hdm:ds.length=m:=by
    have h1:R.2.length=m:=by rw [←a7];simp;omega
    rw [←a6,h1]at hlR
    simp at hlR;omega
   rw [←a6,←a7]
   by_cases hz:m=0
   ·have hd:ds=[]:=List.length_eq_zero_iff.1 (by omega)
    have key:=gn_f0 t ds xs m t.length (by omega) hz (by rw [hd];rfl) (by rw [hz];rfl) (by rw [hd];rfl)
    have e:zipI (List.take ds.length (List.drop 0 ds)) (List.take m (List.drop 0 xs))=zipI (sortJ ds) (sortJ (xs.take m)):=by rw [hd,hz];simp [zipI,sortJ]
    rw [e]at key
    exact GoalL.allRet (s:=SNb t ds xs m t.length) known mixed hS _ key fun T H h=>h
   ·have z1:(List.take ds.length (List.drop 0 (sortO ds ds.length)))=sortJ ds:=by
     unfold sortO
     rw [List.drop_zero,List.take_length,List.take_append_of_le_length (by rw [sortJ_len];omega),List.take_of_length_le (by rw [sortJ_len];omega)]
    have z2:(List.take m (List.drop 0 (sortO xs m)))=sortJ (xs.take m):=by
     unfold sortO
     have lm':(xs.take m).length=m:=by rw [List.length_take];omega
     rw [List.drop_zero,List.take_append_of_le_length (by rw [sortJ_len,lm'];exact Nat.le_refl _),List.take_of_length_le (by rw [sortJ_len,lm'];exact Nat.le_refl _)]
    have lo1:(sortO ds ds.length).length=ds.length:=by unfold sortO;rw [List.length_append,sortJ_len,List.take_length,List.drop_length];rfl
    have lo2:(sortO xs m).length=xs.length:=by unfold sortO;rw [List.length_append,sortJ_len];simp;omega
    have o1:ownHas 3 tIn (optOwn 3 tIn ds) (ds.length-1)=true:=by rw [ownHas_optOwn];exact decide_eq_true (show ds.length-1<ds.length by omega)
    have key:=gn_f1 t ds xs m t.length (beq0 (by omega)) (by rw [Nat.ble_eq_true_of_le (show 1≤ds.length by omega)];show(true&&(ownHas 3 tIn (optOwn 3 tIn ds) (ds.length-1)&&true))=true;rw [o1];rfl) (by show(true&&Nat.ble ds.length 1000000)=true;rw [Nat.ble_eq_true_of_le (by omega)];rfl) (beq0 hz)
     (by rw [Nat.ble_eq_true_of_le (show 1≤m by omega)];show(true&&(ownHas 3 tIn (some (.own 3 tIn xs)) (m-1)&&true))=true;rw [own_has _ tIn xs (show m-1<xs.length by omega)];rfl) (by show(true&&Nat.ble xs.length 1000000)=true;rw [Nat.ble_eq_true_of_le (by omega)];rfl) (by rw [own_has _ (.int .i64) _ (show ds.length-1<(sortO ds ds.length).length by omega),Bool.or_true]) (by rw [own_has _ (.int .i64) _ (show m-1<(sortO xs m).length by omega),Bool.or_true])
     (by rw [z1,z2];show(decide ((sortJ ds).length≤(sortJ (xs.take m)).length)&&decide ((sortJ ds).length≤1000))=true;rw [sortJ_len,sortJ_len,decide_eq_true (by simp;omega),decide_eq_true (by omega)];rfl)
    rw [z1,z2]at key
    exact GoalL.allRet (s:=SNb t ds xs m t.length) known mixed hS _ key fun T H h=>h
end
end Go.Proofs.YtccmlbinkgbpgaaGreatDoor
/- The law TopChained. -/
namespace Go.Proofs.YtccmlbinkgbpgaaGreatDoor
open Go.RowKit Sv
set_option maxRecDepth 100000
set_option maxHeartbeats 4000000
set_option linter.unusedVariables false
set_option linter.unusedSimpArgs false
noncomputable section
theorem cGn2_ok:cGn2.Ok Tryz.prog:=fun⟨t,_⟩ h=>gn_holds2 t (of_decide_eq_true h)
theorem cGr3_ok:cGr3.Ok Tryz.prog:=fun d h=>cGr2_ok d h
theorem cXm3_ok:cXm3.Ok Tryz.prog:=fun d h=>cXm_ok d h
theorem cXa3_ok:cXa3.Ok Tryz.prog:=fun d h=>cXa_ok d h
theorem cLo3_ok:cLo3.Ok Tryz.prog:=fun d h=>cLo_ok d h
theorem tcCs_ok:CallOk Tryz.prog (gS tcCs):=gctrs_ok (fun c hc=>by
 simp only [List.mem_cons,List.not_mem_nil,or_false]at hc
 rcases hc with rfl
 exact cGn2_ok) (ctrs_ok fun c hc=>by
 simp only [List.mem_cons,List.not_mem_nil,or_false]at hc
 rcases hc with rfl |rfl |rfl |rfl |rfl |rfl |rfl
 ·exact cTg_ok
 ·exact cTt_ok
 ·exact cOf3_ok
 ·exact cGr3_ok
 ·exact cXm3_ok
 ·exact cXa3_ok
 ·exact cLo3_ok)
theorem fit01 (a b both:List (Int×Int)) (k0 k1 k2 k3:Int):fit Tryz.prog [(64,64,none),(66,66,none)] 229 ((S0 a b both k0 k1 k2 k3).T.set 7 (some (pl both))) ((S0 a b both k0 k1 k2 k3).H.drop 65) (S1 a b both [] k0 k1 k2 k3 0):=
 mp (an (rr a) (an (rr b) (an (rr (0:Nat)) (an (rr both) (an (an (rr (0:Nat)) (an (rr nilP.length) (rr (capOf nilP.length)))) (an (rr ((↑both.length:Int))) (an (rr (0:Int)) (an (an (rr k0) (an (rr k1) (an (rr k2) (an (rr k3) trivial)))) (an (rr nilP) trivial)))))))))
theorem fit12 (a b both back:List (Int×Int)) (k0 k1 k2 k3:Int) (k:Nat):fit Tryz.prog [(64,64,none)] 229 ((S1 a b both back k0 k1 k2 k3 k).T.set 8 (some (pl back))) ((S1 a b both back k0 k1 k2 k3 k).H.drop 66) (S2 a b both back k0 k1 k2 k3):=
 mp (an (rr a) (an (rr b) (an (rr (0:Nat)) (an (rr both) (an (rr back) (an (an (rr k0) (an (rr k1) (an (rr k2) (an (rr k3) trivial)))) trivial))))))
theorem fit3 (a b both back:List (Int×Int)) (la:List ByteArray) (k0 k1 k2 k3:Int) (k:Nat):fit Tryz.prog [(64,64,none),(65,66,none)] 229 ((S3 a b both back la k0 k1 k2 k3 k).T.set 10 (some (sl la))) ((S3 a b both back la k0 k1 k2 k3 k).H.drop 65) (S2b a b both back la k0 k1 k2 k3):=
 mp (an (rr a) (an (rr b) (an (rr (0:Nat)) (an (rr both) (an (rr back) (an (rr la) (an (an (rr (0:Nat)) (an (rr nilB.length) (rr (capOf nilB.length)))) (an (an (rr k0) (an (rr k1) (an (rr k2) (an (rr k3) trivial)))) (an (rr nilB) trivial)))))))))
theorem fit4 (a b both back:List (Int×Int)) (la lb:List ByteArray) (k0 k1 k2 k3:Int) (k:Nat):fit Tryz.prog [] 229 ((S4 a b both back la lb k0 k1 k2 k3 k).T.set 11 (some (sl lb))) ((S4 a b both back la lb k0 k1 k2 k3 k).H.drop 65) (S5 a b both back la lb):=
 mp (an (rr a) (an (rr b) (an (rr both) (an (rr back) (an (rr la) (an (rr lb) trivial))))))
theorem tc_ne {k:Nat} (h:(List.drop k (fl BTc [])).isEmpty=false):List.drop k (fl BTc [])≠[]:=fun e=>by rw [e]at h;cases h
theorem of3_pre {k:Int} (h:0≤k∧k≤255):IntKind.wrap .i64 k=k∧(decide ((0:Int)≤IntKind.wrap .i64 k)&&(decide (IntKind.wrap .i64 k≤255)&&decide ((360:Int)=360)))=true:=by
 have w:IntKind.wrap .i64 k=k:=wrapI (by omega)
 refine⟨w, ?_⟩
 rw [w,decide_eq_true h.1,decide_eq_true h.2];rfl
theorem tx3_eq {k:Int} (h:0≤k∧k≤255):tx3 k=textQ (Rat.divInt k 360):=by
 show textQ (Rat.divInt (IntKind.wrap .i64 k) 360)=_
 rw [(of3_pre h).1]
abbrev pk (x y:Int) (k:Nat):List Int:=[x,y].take k
theorem pk_ok {x y:Int} {k:Nat} (hx:0≤x∧x≤255) (hy:0≤y∧y≤255):lsOk (pk x y k):=fun z hz=>by
 have:=List.mem_of_mem_take hz
 simp only [List.mem_cons,List.not_mem_nil,or_false]at this
 rcases this with rfl |rfl
 ·exact hx
 ·exact hy
theorem pk_len {x y:Int} {k:Nat} (h:k≤2):(pk x y k).length=k:=by
 rw [List.length_take];show min k 2=k;omega
theorem one_text:(textQ 1).data.toList=[49]:=by
 have e:=textQ_bytes 1
 rw [show Rat.den 1=1 from rfl,if_pos rfl,show(1:Rat).num=1 from rfl,itoa_pos (by decide),show(1:Int).natAbs=1 from rfl,dd_small (by decide)]at e
 exact e
theorem txM_of {r s:Rat} (h:smQ r) (g:smQ s):txM (textQ r) (textQ s)=textQ (r*s):=by unfold txM;rw [toQ_sm h,toQ_sm g]
theorem txA_of {r s:Rat} (h:smQ r) (g:smQ s):txA (textQ r) (textQ s)=textQ (r+s):=by unfold txA;rw [toQ_sm h,toQ_sm g]
theorem mulB_of {r s:Rat} (h:smQ r) (g:smQ s) (m:smQ (r*s)):mulB (textQ r) (textQ s)=true:=mulB_iff.2 ⟨isS_of h,isS_of g,by rw [toQ_sm h,toQ_sm g];exact m⟩
theorem addB_of {r s:Rat} (h:smQ r) (g:smQ s) (m:smQ (r+s)):addB (textQ r) (textQ s)=true:=addB_iff.2 ⟨isS_of h,isS_of g,by rw [toQ_sm h,toQ_sm g];exact m⟩
abbrev tcEnd:Exit→Tr AV→AHeap→Prop:=retQ Tryz.prog true Tryz.f3 (bv true)
theorem tc_tail {a b:List (Int×Int)} {ka kb:List Int} (ha:goodT a) (hb:goodT b) (ha2:a.length≤2) (hb2:b.length≤2) (hka:lsOk ka) (hkb:lsOk kb) (la:a.length=ka.length) (lb:b.length=kb.length) (w:World) (F:Sv.Env):
  GoalL Tryz.prog w F 229 (List.drop 12 (fl BTc [])) (S5 a b (a++b) (swp (a++b)) (tL ka) (tL kb)).T (S5 a b (a++b) (swp (a++b)) (tL ka) (tL kb)).H tcEnd:=by
 have hS:=tcCs_ok
 have hB:=goodT_app ha hb
 have hB4:(a++b).length≤4:=by rw [List.length_append];omega
 have hK:=goodT_swp hB
 have hK4:(swp (a++b)).length≤4:=by unfold swp;rw [List.length_map];exact hB4
 have hN:=goodT_nrm hB
 have hN4:(nrmG (a++b)).length≤4:=Nat.le_trans (len_nrm _) hB4
 have sa:=smQ_rR ha (by omega)
 have sb:=smQ_rR hb (by omega)
 have sB:=smQ_rR hB hB4
 have sK:=smQ_rR hK hK4
 have e1:=rR_app a b
 have e2:=rR_swp hB
 have s1:smQ (rR a*rR b):=by rw [←e1];exact sB
 have s2:smQ (rR (a++b)*rR (swp (a++b))):=by rw [e2];exact⟨by decide,by decide⟩
 refine GoalL.st (s:=S5 a b (a++b) (swp (a++b)) (tL ka) (tL kb)) known mixed hS 10 _ (tc_p1 a b (a++b) (swp (a++b)) (tL ka) (tL kb) (decide_eq_true (trn_of (by omega) ha)) (decide_eq_true (trn_of (by omega) hb)) (decide_eq_true (trn_of hB4 hB)) (decide_eq_true (trn_of hN4 hN)) (decide_eq_true (trn_of hK4 hK)) (mulB_of sa sb s1) (mulB_of sB sK s2) ?_ ?_ ?_) (by kernel_rfl) ?_
 ·show(textQ (rR (a++b))).data.toList=(txM (textQ (rR a)) (textQ (rR b))).data.toList
  rw [txM_of sa sb,←e1]
 ·show(textQ (rR (nrmG (a++b)))).data.toList=(textQ (rR (a++b))).data.toList
  rw [rR_nrm hB]
 ·show(txM (textQ (rR (a++b))) (textQ (rR (swp (a++b))))).data.toList=[49]
  rw [txM_of sB sK,e2,one_text]
 have l1:=smQ_los ha hka la (by omega)
 have l2:=smQ_los hb hkb lb (by omega)
 have hkB:lsOk (ka++kb):=fun x hx=>(List.mem_append.1 hx).elim (hka x) (hkb x)
 have lB:(a++b).length=(ka++kb).length:=by rw [List.length_append,List.length_append];omega
 have l3:=smQ_los hB hkB lB hB4
 have eR:lsR (ka++kb)=lsR ka++lsR kb:=by unfold lsR;rw [List.map_append]
 have eT:tL (ka++kb)=tL ka++tL kb:=by unfold tL;rw [List.map_append]
 have e3:=losR_app a (lsR ka) b (lsR kb) (by unfold lsR;rw [List.length_map];exact la)
 rw [←eR]at e3
 have s3:=smQ_prod ha hka la ha2 hb hb2
 have s4:smQ (losR a (lsR ka)*rR b+losR b (lsR kb)):=by rw [←e3];exact l3.1
 have xa:txL a (tL ka)=textQ (losR a (lsR ka)):=by unfold txL;rw [tL_toQ hka]
 have xb:txL b (tL kb)=textQ (losR b (lsR kb)):=by unfold txL;rw [tL_toQ hkb]
 have xB:txL (a++b) (tL ka++tL kb)=textQ (losR (a++b) (lsR (ka++kb))):=by unfold txL;rw [←eT,tL_toQ hkB]
 have g1:loB a (tL ka)=true:=loB_iff.2 ⟨trn_of (by omega) ha,ka,hka,rfl,la⟩
 have g2:loB b (tL kb)=true:=loB_iff.2 ⟨trn_of (by omega) hb,kb,hkb,rfl,lb⟩
 have g5:loB (a++b) (tL ka++tL kb)=true:=loB_iff.2 ⟨trn_of hB4 hB,ka++kb,hkB,eT.symm,lB⟩
 have g6:mulB (txL a (tL ka)) (txR b)=true:=by rw [xa];exact mulB_of l1.1 sb s3
 have xm:txM (txL a (tL ka)) (txR b)=textQ (losR a (lsR ka)*rR b):=by rw [xa];exact txM_of l1.1 sb
 have g7:addB (txM (txL a (tL ka)) (txR b)) (txL b (tL kb))=true:=by rw [xm,xb];exact addB_of s3 l2.1 s4
 have g8:txL (a++b) (tL ka++tL kb)=txA (txM (txL a (tL ka)) (txR b)) (txL b (tL kb)):=by rw [xB,xm,xb,txA_of s3 l2.1,e3]
 have za:(tL ka).length≤2:=by unfold tL;rw [List.length_map];omega
 have zb:(tL kb).length≤2:=by unfold tL;rw [List.length_map];omega
 generalize tL ka=A at*
 generalize tL kb=C at*
 have nz:∀{l:List ByteArray},l.length≠0→Nat.beq l.length 0=false:=fun {l} h=>by
  cases hl:Nat.beq l.length 0 with
  |false=>rfl
  |true=>exact absurd (Nat.eq_of_beq_eq_true hl) h
 by_cases hA:A.length=0
 ·obtain rfl:=List.length_eq_zero_iff.1 hA
  by_cases hC:C.length=0
  ·obtain rfl:=List.length_eq_zero_iff.1 hC
   exact GoalL.allRet (s:=S6 a b (a++b) [] []) known mixed hS _ (tc_q11 a b (a++b) [] [] g1 g2 rfl rfl g5 g6 g7 (congrArg (fun s:ByteArray=>s.data.toList) g8)) fun T H h=>h
  ·have eL:List.take C.length (List.drop 0 (blkXs Ty.str none++C))=[]++C:=List.take_length
   exact GoalL.allRet (s:=S6 a b (a++b) [] C) known mixed hS _ (tc_q10 a b (a++b) [] C g1 g2 rfl (nz hC) (by omega) (by rw [own_has _ .str (blkXs Ty.str none++C) (show C.length-1<C.length by omega),Bool.or_true]) (by rw [eL];exact g5) g6 g7 (by rw [eL];exact congrArg (fun s:ByteArray=>s.data.toList) g8)) fun T H h=>h
 ·by_cases hC:C.length=0
  ·obtain rfl:=List.length_eq_zero_iff.1 hC
   have eL:List.take A.length (List.drop 0 (blkXs Ty.str none++A))=A++[]:=by rw [List.append_nil];exact List.take_length
   exact GoalL.allRet (s:=S6 a b (a++b) A []) known mixed hS _ (tc_q01 a b (a++b) A [] g1 g2 (nz hA) (by omega) rfl (by rw [own_has _ .str (blkXs Ty.str none++A) (show A.length-1<A.length by omega),Bool.or_true]) (by rw [eL];exact g5) g6 g7 (by rw [eL];exact congrArg (fun s:ByteArray=>s.data.toList) g8)) fun T H h=>h
  ·have eL:List.take (A.length+C.length) (List.drop 0 (blkXs Ty.str none++A++C))=A++C:=by
    show List.take (A.length+C.length) (A++C)=A++C
    rw [←List.length_append,List.take_length]
   exact GoalL.allRet (s:=S6 a b (a++b) A C) known mixed hS _ (tc_q00 a b (a++b) A C g1 g2 (nz hA) (by omega) (nz hC) (by show(true&&(true&&(Nat.beq A.length A.length&&true)))=true;rw [Nat.beq_refl];rfl) (by omega) (by
    rw [own_has _ .str (blkXs Ty.str none++A++C) (show A.length+C.length-1<(A++C).length by rw [List.length_append];omega),Bool.or_true]) (by rw [eL];exact g5) g6 g7 (by rw [eL];exact congrArg (fun s:ByteArray=>s.data.toList) g8)) fun T H h=>h
theorem cap_pos {n:Nat} (h:n≠0):Cap.full=capOf n:=by cases n with
 |zero=>exact absurd rfl h
 |succ n=>rfl
theorem swp_next {t:List (Int×Int)} {k:Nat} (h:k<t.length):swp (t.take (k+1))=swp (t.take k)++[((g0 t k).2,(g0 t k).1)]:=by
 unfold swp
 rw [List.take_succ_eq_append_getElem h,g0_get h,List.map_append];rfl
theorem tc_loops {a b:List (Int×Int)} {k0 k1 k2 k3:Int} (h0:0≤k0∧k0≤255) (h1:0≤k1∧k1≤255) (h2:0≤k2∧k2≤255) (h3:0≤k3∧k3≤255) (ga:goodT a) (gb:goodT b) (ha2:a.length≤2) (hb2:b.length≤2) (w:World) (F:Sv.Env):
  GoalL Tryz.prog w F 229 (List.drop 7 (fl BTc [])) (S2 a b (a++b) (swp (a++b)) k0 k1 k2 k3).T (S2 a b (a++b) (swp (a++b)) k0 k1 k2 k3).H tcEnd:=by
 have hS:=tcCs_ok
 have tail:=tc_tail ga gb ha2 hb2 (pk_ok (k:=a.length) h0 h1) (pk_ok (k:=b.length) h2 h3) (pk_len ha2).symm (pk_len hb2).symm w F
 generalize a++b=both at*
 generalize swp both=back at*
 refine GoalL.st (s:=S2 a b both back k0 k1 k2 k3) known mixed hS 2 _ (tc_m1 a b both back k0 k1 k2 k3) (by kernel_rfl) ?_
 refine GoalL.loop (ι:={k:Nat//k≤a.length}) (id:=2) (b:=cat BTc [1,1,1,1,1,1,0,1,0,0]) (rest:=List.drop 10 (fl BTc [])) (by kernel_rfl) (fun k=>S3 a b both back (tL (pk k0 k1 k.1)) k0 k1 k2 k3 k.1) (fun k=>a.length-k.1) ⟨0,Nat.zero_le _⟩ (fun _=>rfl) ?_
 rintro⟨k,hk⟩
 have hk:k≤a.length:=hk
 by_cases hlt:k<a.length
 ·rcases (show k=0∨k=1 by omega)with rfl |rfl
  ·have key:=tc_l0 a b both back [] k0 k1 k2 k3 (by omega) (of3_pre h0).2 (show 0+1≤1000000 by decide) (len_sn _ _) (cap_sn _ _)
   rw [tx3_eq h0]at key
   refine GoalL.all (s:=S3 a b both back [] k0 k1 k2 k3 0) known mixed hS _ key (by kernel_rfl) ?_
   exact⟨⟨1,hlt⟩,by show a.length-1<a.length-0;omega,rfl,rfl⟩
  ·have key:=tc_l1 a b both back [textQ (Rat.divInt k0 360)] k0 k1 k2 k3 (by omega) (of3_pre h1).2 (show 1+1≤1000000 by decide) (len_sn _ _) (cap_sn _ _)
   rw [tx3_eq h1]at key
   refine GoalL.all (s:=S3 a b both back [textQ (Rat.divInt k0 360)] k0 k1 k2 k3 1) known mixed hS _ key (by kernel_rfl) ?_
   exact⟨⟨2,hlt⟩,by show a.length-2<a.length-1;omega,rfl,rfl⟩
 ·refine GoalL.all (s:=S3 a b both back (tL (pk k0 k1 k)) k0 k1 k2 k3 k) known mixed hS _ (tc_le a b both back _ k0 k1 k2 k3 k (by omega)) (by kernel_rfl) ?_
  refine onN_exit (inB_exit ?_)
  obtain rfl:k=a.length:=by omega
  generalize tL (pk k0 k1 a.length)=la at*
  refine GoalL.freezeSlot (tc_ne (by kernel_rfl)) (i:=65) (s:=10) (e2:=30) (t:= .str) (xs:=la) (cap:=capOf la.length) (by kernel_rfl) (by kernel_rfl) ?_
  refine GoalL.refit (tc_ne (by kernel_rfl)) (s:=S2b a b both back la k0 k1 k2 k3) (fit3 a b both back la k0 k1 k2 k3 _) ?_
  refine GoalL.st (s:=S2b a b both back la k0 k1 k2 k3) known mixed hS 1 _ (tc_m2 a b both back la k0 k1 k2 k3) (by kernel_rfl) ?_
  refine GoalL.loop (ι:={k:Nat//k≤b.length}) (id:=4) (b:=cat BTc [1,1,1,1,1,1,1,0,1,0,0]) (rest:=List.drop 12 (fl BTc [])) (by kernel_rfl) (fun k=>S4 a b both back la (tL (pk k2 k3 k.1)) k0 k1 k2 k3 k.1) (fun k=>b.length-k.1) ⟨0,Nat.zero_le _⟩ (fun _=>rfl) ?_
  rintro⟨k,hk⟩
  have hk:k≤b.length:=hk
  by_cases hlt:k<b.length
  ·rcases (show k=0∨k=1 by omega)with rfl |rfl
   ·have key:=tc_r0 a b both back la [] k0 k1 k2 k3 (by omega) (of3_pre h2).2 (show 0+1≤1000000 by decide) (len_sn _ _) (cap_sn _ _)
    rw [tx3_eq h2]at key
    refine GoalL.all (s:=S4 a b both back la [] k0 k1 k2 k3 0) known mixed hS _ key (by kernel_rfl) ?_
    exact⟨⟨1,hlt⟩,by show b.length-1<b.length-0;omega,rfl,rfl⟩
   ·have key:=tc_r1 a b both back la [textQ (Rat.divInt k2 360)] k0 k1 k2 k3 (by omega) (of3_pre h3).2 (show 1+1≤1000000 by decide) (len_sn _ _) (cap_sn _ _)
    rw [tx3_eq h3]at key
    refine GoalL.all (s:=S4 a b both back la [textQ (Rat.divInt k2 360)] k0 k1 k2 k3 1) known mixed hS _ key (by kernel_rfl) ?_
    exact⟨⟨2,hlt⟩,by show b.length-2<b.length-1;omega,rfl,rfl⟩
  ·refine GoalL.all (s:=S4 a b both back la (tL (pk k2 k3 k)) k0 k1 k2 k3 k) known mixed hS _ (tc_re a b both back la _ k0 k1 k2 k3 k (by omega)) (by kernel_rfl) ?_
   refine onN_exit (inB_exit ?_)
   obtain rfl:k=b.length:=by omega
   generalize tL (pk k2 k3 b.length)=lb at*
   refine GoalL.freezeSlot (tc_ne (by kernel_rfl)) (i:=65) (s:=11) (e2:=30) (t:= .str) (xs:=lb) (cap:=capOf lb.length) (by kernel_rfl) (by kernel_rfl) ?_
   exact GoalL.refit (tc_ne (by kernel_rfl)) (s:=S5 a b both back la lb) (fit4 a b both back la lb k0 k1 k2 k3 _) tail
theorem tc_rest {a b:List (Int×Int)} {k0 k1 k2 k3:Int} (h0:0≤k0∧k0≤255) (h1:0≤k1∧k1≤255) (h2:0≤k2∧k2≤255) (h3:0≤k3∧k3≤255) (ga:goodT a) (gb:goodT b) (ha2:a.length≤2) (hb2:b.length≤2) (w:World) (F:Sv.Env):
  GoalL Tryz.prog w F 229 (List.drop 6 (fl BTc [])) (S0 a b (a++b) k0 k1 k2 k3).T (S0 a b (a++b) k0 k1 k2 k3).H tcEnd:=by
 have hS:=tcCs_ok
 have loops:=tc_loops h0 h1 h2 h3 ga gb ha2 hb2 w F
 have hB4:(a++b).length≤4:=by rw [List.length_append];omega
 generalize a++b=both at*
 refine GoalL.freezeSlot (tc_ne (by kernel_rfl)) (i:=65) (s:=7) (e2:=28) (t:=tP2) (xs:=both) (cap:=capOf both.length) (by kernel_rfl) (by kernel_rfl) ?_
 refine GoalL.refit (tc_ne (by kernel_rfl)) (s:=S1 a b both [] k0 k1 k2 k3 0) (fit01 a b both k0 k1 k2 k3) ?_
 refine GoalL.loop (ι:={k:Nat//k≤both.length}) (id:=0) (b:=cat BTc [1,1,1,1,0,1,0,0]) (rest:=List.drop 7 (fl BTc [])) (by kernel_rfl) (fun k=>S1 a b both (swp (both.take k.1)) k0 k1 k2 k3 k.1) (fun k=>both.length-k.1) ⟨0,Nat.zero_le _⟩ (fun _=>rfl) ?_
 rintro⟨k,hk⟩
 have hk:k≤both.length:=hk
 by_cases hlt:k<both.length
 ·refine GoalL.all (s:=S1 a b both (swp (both.take k)) k0 k1 k2 k3 k) known mixed hS _ (tc_b a b both (swp (both.take k)) k0 k1 k2 k3 k (by omega) hlt (by unfold swp;rw [List.length_map,List.length_take];omega) (by omega) (len_sn _ _) (cap_sn _ _)) (by kernel_rfl) ?_
  refine⟨⟨k+1,hlt⟩,by show both.length-(k+1)<both.length-k;omega, ?_⟩
  show _=(S1 a b both (swp (both.take (k+1))) k0 k1 k2 k3 (k+1)).T∧_=(S1 a b both (swp (both.take (k+1))) k0 k1 k2 k3 (k+1)).H
  rw [swp_next hlt]
  exact⟨rfl,rfl⟩
 ·refine GoalL.all (s:=S1 a b both (swp (both.take k)) k0 k1 k2 k3 k) known mixed hS _ (tc_be a b both _ k0 k1 k2 k3 k (by omega)) (by kernel_rfl) ?_
  refine onN_exit (inB_exit ?_)
  obtain rfl:k=both.length:=by omega
  rw [List.take_length]
  refine GoalL.freezeSlot (tc_ne (by kernel_rfl)) (i:=66) (s:=8) (e2:=28) (t:=tP2) (xs:=swp both) (cap:=capOf (swp both).length) (by kernel_rfl) (by kernel_rfl) ?_
  exact GoalL.refit (tc_ne (by kernel_rfl)) (s:=S2 a b both (swp both) k0 k1 k2 k3) (fit12 a b both (swp both) k0 k1 k2 k3 _) loops
theorem tc_holds (a b:List (Int×Int)) (k0 k1 k2 k3:Int) (hk:lsOk [k0,k1,k2,k3]):Holds Tryz.prog true 3 [pl a,pl b,a4 k0 k1 k2 k3] (bv true):=by
 have hS:=tcCs_ok
 have h0:=hk k0 (by simp)
 have h1:=hk k1 (by simp)
 have h2:=hk k2 (by simp)
 have h3:=hk k3 (by simp)
 refine holds_fl (c:=BTc) Tryz.func3 rfl rfl fun w F=> ?_
 by_cases ha:2<a.length
 ·exact GoalL.ret known mixed hS 6 _ (tc_far1 a b k0 k1 k2 k3 (by omega)) fun T H h=>h
 by_cases hb:2<b.length
 ·exact GoalL.ret known mixed hS 6 _ (tc_far2 a b k0 k1 k2 k3 (by omega) (by omega)) fun T H h=>h
 cases ht:okTT [a,b]with
 |false=>exact GoalL.ret known mixed hS 6 _ (tc_far3 a b k0 k1 k2 k3 (by omega) (by omega) ht) fun T H h=>h
 |true=>
 have tt:trnErr a=0∧trnErr b=0:=by
  have ht:(true&&(decide (trnErr a=0)&&(decide (trnErr b=0)&&true)))=true:=ht
  rw [Bool.true_and,Bool.and_true,Bool.and_eq_true,decide_eq_true_eq,decide_eq_true_eq]at ht
  exact ht
 obtain⟨_,ga,_⟩:=ratF_qr tt.1
 obtain⟨_,gb,_⟩:=ratF_qr tt.2
 have rest:=tc_rest h0 h1 h2 h3 ga gb (show a.length≤2 by omega) (show b.length≤2 by omega) w F
 by_cases hA:a.length=0
 ·obtain rfl:=List.length_eq_zero_iff.1 hA
  by_cases hB:b.length=0
  ·obtain rfl:=List.length_eq_zero_iff.1 hB
   exact GoalL.to known mixed hS 6 _ (tc_s11 [] [] k0 k1 k2 k3 (by decide) (by decide) ht rfl rfl rfl rfl rfl rfl) (by kernel_rfl) rest
  ·exact GoalL.to known mixed hS 6 _ (tc_s10 [] b k0 k1 k2 k3 (by decide) (by omega) ht rfl (beq0 hB) (by omega) rfl (cap_pos hB) rfl rfl) (by kernel_rfl) rest
 ·by_cases hB:b.length=0
  ·obtain rfl:=List.length_eq_zero_iff.1 hB
   have e:a++([]:List (Int×Int))=a:=List.append_nil a
   exact GoalL.to known mixed hS 6 _ (tc_s01 a [] k0 k1 k2 k3 (by omega) (by decide) ht (beq0 hA) (by omega) rfl (by rw [e]) (by rw [e];exact cap_pos hA) (by rw [e]) (by rw [e];rfl)) (by kernel_rfl) rest
  ·have e:(a++b).length=a.length+b.length:=List.length_append
   exact GoalL.to known mixed hS 6 _ (tc_s00 a b k0 k1 k2 k3 (by omega) (by omega) ht (beq0 hA) (by omega) (beq0 hB) (by show(true&&(true&&(Nat.beq a.length a.length&&true)))=true;rw [Nat.beq_refl];rfl) (by omega) e.symm (by rw [e];exact cap_pos (by omega)) (by rw [e]) rfl) (by kernel_rfl) rest
end
end Go.Proofs.YtccmlbinkgbpgaaGreatDoor
