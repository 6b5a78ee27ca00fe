/- Package num: integers: opposite, sign, sum, product, comparison. -/
import Derived.Test.YtccmlbinkgbpgaaGreatDoorZtVNi
namespace Go.Proofs.YtccmlbinkgbpgaaGreatDoor
open Go.RowKit Sv
set_option maxRecDepth 100000
set_option linter.unusedVariables false
noncomputable section
noncomputable def BNeg:Code:=(Tryz.f75.body).getD .skip
noncomputable def BAbs:Code:=(Tryz.f127.body).getD .skip
noncomputable def BSign:Code:=(Tryz.f71.body).getD .skip
noncomputable def BIAdd:Code:=(Tryz.f72.body).getD .skip
noncomputable def BISub:Code:=(Tryz.f177.body).getD .skip
noncomputable def BIMul:Code:=(Tryz.f63.body).getD .skip
noncomputable def BICmp:Code:=(Tryz.f183.body).getD .skip
noncomputable def njCs:VCaller:=ctrs [cParts,cMade,cAddW,cSubW,cCmpW,cMulW,cMul64,cSize]
abbrev bI (a:NI):Ent:= .blk (.cells 74 [iv a.1, .lst true tU a.2] true false false)
abbrev b0:Ent:= .blk (.cells 74 [iv 0, .raw (.slice none 0 0)] true false false)
abbrev s3:Sv.Ren:=[(64,64,none),(65,65,none),(66,66,none)]
def SIA (a b:NI) (n:Nat):St:={n:=n,sl:=[(2, .ptr 64 0),(3, .ptr 65 0),(4, .ptr 66 0)],en:=[(64,bI a),(65,bI b),(66,b0)],next:=67}
theorem ng_sm (a:NI) (h1:a.2.isEmpty=true) (h2:¬a.1= -9223372036854775808) (h3:(IntKind.wrap IntKind.i64 ((0:Int)-a.1))=(-a.1)):
  Tst.path (vrun0 Tryz.prog njCs (fl BNeg []) 9 26 [nv a]) [true,true,true,true,true] (toRet Tryz.prog Tryz.f75 false (nv (-a.1,[]))):=
 mp (an (bT (bT h1)) (an (bT (bT h1)) (an (bT (bT h1)) (an (bT h1) (an (bne_iff_ne.mpr h2) (an h3 (an (rr nilI) trivial)))))))
theorem ng_min (a:NI) (h1:a.2.isEmpty=true) (h2:a.1= -9223372036854775808) (h3:(okI (a.1,a.2))=true) (h4:(dgB (prW (a.1,a.2))&&tmB (prW (a.1,a.2)))=true):
  Tst.path (vrun0 Tryz.prog njCs (fl BNeg []) 9 26 [nv a]) [true,true,true,true,false] (toRet Tryz.prog Tryz.f75 false (nv (mkI (madeZ (!negI a) (prW a))))):=
 mp (an (bT (bT h1)) (an (bT (bT h1)) (an (bT (bT h1)) (an (bT h1) (an (bne_eq_false_iff_eq.mpr h2) (an h3 (an h4 (an (rr (mkI (madeZ (!negI (a.1,a.2)) (prW (a.1,a.2)))).1) (an (rr (mkI (madeZ (!negI (a.1,a.2)) (prW (a.1,a.2)))).2) trivial)))))))))
theorem ng_big (a:NI) (h1:a.2.isEmpty=false) (h2:(okI (a.1,a.2))=true) (h3:(dgB (prW (a.1,a.2))&&tmB (prW (a.1,a.2)))=true):
  Tst.path (vrun0 Tryz.prog njCs (fl BNeg []) 9 26 [nv a]) [false,false,false,false,false] (toRet Tryz.prog Tryz.f75 false (nv (mkI (madeZ (!negI a) (prW a))))):=
 mp (an (bT (bT h1)) (an (bT (bT h1)) (an (bT (bT h1)) (an (bT h1) (an rf (an h2 (an h3 (an (rr (mkI (madeZ (!negI (a.1,a.2)) (prW (a.1,a.2)))).1) (an (rr (mkI (madeZ (!negI (a.1,a.2)) (prW (a.1,a.2)))).2) trivial)))))))))
theorem sg_all (a:NI) (h1:(if(if a.1<1 then a.1 else(1:Int))> -1 then if a.1<1 then a.1 else(1:Int)else(-1:Int))=(sgn a.1)):
  Tst.path (vrun0 Tryz.prog (ctrs []) (fl BSign []) 9 7 [nv a]) [] (toRet Tryz.prog Tryz.f71 true (iv (sgn a.1))):=
 mp h1
theorem ia_fast (a b:NI) (h1:a.2.isEmpty=true) (h2:b.2.isEmpty=true) (h3: -9223372036854775808≤a.1+b.1∧a.1+b.1≤9223372036854775807) (h4:decide (a.1+b.1>a.1)=decide (b.1>0)):
  Tst.path (vrun0 Tryz.prog njCs (fl BIAdd []) 3 67 [nv a,nv b]) [true,true,true,true,true,true] (toRet Tryz.prog Tryz.f72 false (nv (a.1+b.1,[]))):=
 mp (an (bT (bT h1)) (an (bT (bT h1)) (an (bT (bT h1)) (an (bT h1) (an (bT h2) (an (fits_i64 h3) (an (beq_iff_eq.mpr h4) (an (rr (a.1+b.1)) (an (rr nilI) trivial)))))))))
theorem ia_big1 (a b:NI) (h1:a.2.isEmpty=false):
  Tst.path (vrun0 Tryz.prog njCs (fl BIAdd []) 3 67 [nv a,nv b]) [false,false,false,false,false] (toSt Tryz.prog 67 .normal s3 (SIA a b 67)):=
 mp (an (bT (bT h1)) (an (bT (bT h1)) (an (bT (bT h1)) (an (bT h1) (an rf (an (rr ((0:Nat))) (an (rr ((0:Nat))) (an (rr ((0:Nat))) (an (an (rr a.1) (an (rr a.2) trivial)) (an (an (rr b.1) (an (rr b.2) trivial)) (an (an (rr ((0:Int))) (an (rr (Value.slice none (0:Nat) (0:Nat))) trivial)) trivial)))))))))))
theorem ia_big2 (a b:NI) (h1:a.2.isEmpty=true) (h2:b.2.isEmpty=false):
  Tst.path (vrun0 Tryz.prog njCs (fl BIAdd []) 3 67 [nv a,nv b]) [true,true,true,true,false] (toSt Tryz.prog 67 .normal s3 (SIA a b 67)):=
 mp (an (bT (bT h1)) (an (bT (bT h1)) (an (bT (bT h1)) (an (bT h1) (an (bT h2) (an (rr ((0:Nat))) (an (rr ((0:Nat))) (an (rr ((0:Nat))) (an (an (rr a.1) (an (rr a.2) trivial)) (an (an (rr b.1) (an (rr b.2) trivial)) (an (an (rr ((0:Int))) (an (rr (Value.slice none (0:Nat) (0:Nat))) trivial)) trivial)))))))))))
theorem ia_over_w (a b:NI) (h1:a.2.isEmpty=true) (h2:b.2.isEmpty=true) (h3:(fits IntKind.i64 (a.1+b.1))=false) (h4:¬decide (IntKind.wrap IntKind.i64 (a.1+b.1)>a.1)=decide (b.1>0)):
  Tst.pathW (vrun0 Tryz.prog njCs (fl BIAdd []) 3 67 [nv a,nv b]) [true,true,true,true,true,false] (toSt Tryz.prog 67 .normal s3 (SIA a b 67)):=
 mp (an (bT (bT h1)) (an (bT (bT h1)) (an (bT (bT h1)) (an (bT h1) (an (bT h2) (an h3 (an (beq_eq_false_iff_ne.mpr h4) (an (rr ((0:Nat))) (an (rr ((0:Nat))) (an (rr ((0:Nat))) (an (an (rr a.1) (an (rr a.2) trivial)) (an (an (rr b.1) (an (rr b.2) trivial)) (an (an (rr ((0:Int))) (an (rr (Value.slice none (0:Nat) (0:Nat))) trivial)) trivial)))))))))))))
theorem ia_same (a b:NI) (h1:(okI (a.1,a.2))=true) (h2:(okI (b.1,b.2))=true) (h3:negI (a.1,a.2)=negI (b.1,b.2)) (h4:(okW2 (prW (a.1,a.2)) (prW (b.1,b.2)))=true) (h5:(dgB (addW (prW (a.1,a.2)) (prW (b.1,b.2)))&&tmB (addW (prW (a.1,a.2)) (prW (b.1,b.2))))=true):
  Tst.path (vall Tryz.prog njCs (List.drop 3 (fl BIAdd [])) (SIA a b 67)) [true] (toRet Tryz.prog Tryz.f72 false (nv (mkI (madeZ (negI a) (addW (prW a) (prW b)))))):=
 mp (an h1 (an h2 (an (beq_iff_eq.mpr h3) (an h4 (an h5 (an (rr (mkI (madeZ (negI (a.1,a.2)) (addW (prW (a.1,a.2)) (prW (b.1,b.2))))).1) (an (rr (mkI (madeZ (negI (a.1,a.2)) (addW (prW (a.1,a.2)) (prW (b.1,b.2))))).2) trivial)))))))
theorem ia_ge (a b:NI) (h1:(okI (a.1,a.2))=true) (h2:(okI (b.1,b.2))=true) (h3:¬negI (a.1,a.2)=negI (b.1,b.2)) (h4:(okC2 (prW (a.1,a.2)) (prW (b.1,b.2)))=true) (h5:cmpV (vw (prW (a.1,a.2))) (vw (prW (b.1,b.2)))≥0) (h6:(okW2 (prW (a.1,a.2)) (prW (b.1,b.2))&&decide (vw (prW (b.1,b.2))≤vw (prW (a.1,a.2))))=true) (h7:(dgB (subW (prW (a.1,a.2)) (prW (b.1,b.2)))&&tmB (subW (prW (a.1,a.2)) (prW (b.1,b.2))))=true):
  Tst.path (vall Tryz.prog njCs (List.drop 3 (fl BIAdd [])) (SIA a b 67)) [false,true] (toRet Tryz.prog Tryz.f72 false (nv (mkI (madeZ (negI a) (subW (prW a) (prW b)))))):=
 mp (an h1 (an h2 (an (beq_eq_false_iff_ne.mpr h3) (an h4 (an (decide_eq_true h5) (an h6 (an h7 (an (rr (mkI (madeZ (negI (a.1,a.2)) (subW (prW (a.1,a.2)) (prW (b.1,b.2))))).1) (an (rr (mkI (madeZ (negI (a.1,a.2)) (subW (prW (a.1,a.2)) (prW (b.1,b.2))))).2) trivial)))))))))
theorem ia_lt (a b:NI) (h1:(okI (a.1,a.2))=true) (h2:(okI (b.1,b.2))=true) (h3:¬negI (a.1,a.2)=negI (b.1,b.2)) (h4:(okC2 (prW (a.1,a.2)) (prW (b.1,b.2)))=true) (h5:¬cmpV (vw (prW (a.1,a.2))) (vw (prW (b.1,b.2)))≥0) (h6:(okW2 (prW (b.1,b.2)) (prW (a.1,a.2))&&decide (vw (prW (a.1,a.2))≤vw (prW (b.1,b.2))))=true) (h7:(dgB (subW (prW (b.1,b.2)) (prW (a.1,a.2)))&&tmB (subW (prW (b.1,b.2)) (prW (a.1,a.2))))=true):
  Tst.path (vall Tryz.prog njCs (List.drop 3 (fl BIAdd [])) (SIA a b 67)) [false,false] (toRet Tryz.prog Tryz.f72 false (nv (mkI (madeZ (negI b) (subW (prW b) (prW a)))))):=
 mp (an h1 (an h2 (an (beq_eq_false_iff_ne.mpr h3) (an h4 (an (decide_eq_false h5) (an h6 (an h7 (an (rr (mkI (madeZ (negI (b.1,b.2)) (subW (prW (b.1,b.2)) (prW (a.1,a.2))))).1) (an (rr (mkI (madeZ (negI (b.1,b.2)) (subW (prW (b.1,b.2)) (prW (a.1,a.2))))).2) trivial)))))))))
theorem im_neg (a b:NI) (h1:a.2.isEmpty=true) (h2:b.2.isEmpty=true) (h3:(i64B a.1)=true) (h4:(i64B b.1)=true) (h5:(okM (absI a.1) (absI b.1))=true) (h6:mlHi (absI a.1) (absI b.1)=0) (h7:mlLo (absI a.1) (absI b.1)≤9223372036854775807) (h8:¬decide (a.1<0)=decide (b.1<0)) (h9:(IntKind.wrap IntKind.i64 ((0:Int)-IntKind.wrap IntKind.i64 (mlLo (absI a.1) (absI b.1))))=(-mlLo (absI a.1) (absI b.1))):
  Tst.path (vrun0 Tryz.prog njCs (fl BIMul []) 3 66 [nv a,nv b]) [true,true,true,true,true,true,true,true,true,true] (toRet Tryz.prog Tryz.f63 false (nv (-(mlLo (absI a.1) (absI b.1)),[]))):=
 mp (an (bT (bT h1)) (an (bT (bT h1)) (an (bT (bT h1)) (an (bT h1) (an (bT h2) (an (sr (iv a.1)) (an h3 (an (sr (iv b.1)) (an (sr (iv b.1)) (an h4 (an h5 (an (bT (beq_iff_eq.mpr h6)) (an (bT (beq_iff_eq.mpr h6)) (an (beq_iff_eq.mpr h6) (an (decide_eq_true h7) (an (bN (beq_eq_false_iff_ne.mpr h8)) (an h9 (an (rr nilI) trivial))))))))))))))))))
theorem im_pos (a b:NI) (h1:a.2.isEmpty=true) (h2:b.2.isEmpty=true) (h3:(i64B a.1)=true) (h4:(i64B b.1)=true) (h5:(okM (absI a.1) (absI b.1))=true) (h6:mlHi (absI a.1) (absI b.1)=0) (h7:mlLo (absI a.1) (absI b.1)≤9223372036854775807) (h8:decide (a.1<0)=decide (b.1<0)) (h9:(IntKind.wrap IntKind.i64 (mlLo (absI a.1) (absI b.1)))=(mlLo (absI a.1) (absI b.1))):
  Tst.path (vrun0 Tryz.prog njCs (fl BIMul []) 3 66 [nv a,nv b]) [true,true,true,true,true,true,true,true,true,false] (toRet Tryz.prog Tryz.f63 false (nv (mlLo (absI a.1) (absI b.1),[]))):=
 mp (an (bT (bT h1)) (an (bT (bT h1)) (an (bT (bT h1)) (an (bT h1) (an (bT h2) (an (sr (iv a.1)) (an h3 (an (sr (iv b.1)) (an (sr (iv b.1)) (an h4 (an h5 (an (bT (beq_iff_eq.mpr h6)) (an (bT (beq_iff_eq.mpr h6)) (an (beq_iff_eq.mpr h6) (an (decide_eq_true h7) (an (bN (beq_iff_eq.mpr h8)) (an h9 (an (rr nilI) trivial))))))))))))))))))
theorem im_r1 (a b:NI) (h1:a.2.isEmpty=true) (h2:b.2.isEmpty=true) (h3:(i64B a.1)=true) (h4:(i64B b.1)=true) (h5:(okM (absI a.1) (absI b.1))=true) (h6:mlHi (absI a.1) (absI b.1)=0) (h7:¬mlLo (absI a.1) (absI b.1)≤9223372036854775807):
  Tst.path (vrun0 Tryz.prog njCs (fl BIMul []) 3 66 [nv a,nv b]) [true,true,true,true,true,true,true,true,false] (toSt Tryz.prog 66 .normal s3 (SIA a b 66)):=
 mp (an (bT (bT h1)) (an (bT (bT h1)) (an (bT (bT h1)) (an (bT h1) (an (bT h2) (an (sr (iv a.1)) (an h3 (an (sr (iv b.1)) (an (sr (iv b.1)) (an h4 (an h5 (an (bT (beq_iff_eq.mpr h6)) (an (bT (beq_iff_eq.mpr h6)) (an (beq_iff_eq.mpr h6) (an (decide_eq_false h7) (an (rr ((0:Nat))) (an (rr ((0:Nat))) (an (rr ((0:Nat))) (an (an (rr a.1) (an (rr a.2) trivial)) (an (an (rr b.1) (an (rr b.2) trivial)) (an (an (rr ((0:Int))) (an (rr (Value.slice none (0:Nat) (0:Nat))) trivial)) trivial)))))))))))))))))))))
theorem im_r2 (a b:NI) (h1:a.2.isEmpty=true) (h2:b.2.isEmpty=true) (h3:(i64B a.1)=true) (h4:(i64B b.1)=true) (h5:(okM (absI a.1) (absI b.1))=true) (h6:¬mlHi (absI a.1) (absI b.1)=0):
  Tst.path (vrun0 Tryz.prog njCs (fl BIMul []) 3 66 [nv a,nv b]) [true,true,true,true,true,false,false,false,false] (toSt Tryz.prog 66 .normal s3 (SIA a b 66)):=
 mp (an (bT (bT h1)) (an (bT (bT h1)) (an (bT (bT h1)) (an (bT h1) (an (bT h2) (an (sr (iv a.1)) (an h3 (an (sr (iv b.1)) (an (sr (iv b.1)) (an h4 (an h5 (an (bT (beq_eq_false_iff_ne.mpr h6)) (an (bT (beq_eq_false_iff_ne.mpr h6)) (an (beq_eq_false_iff_ne.mpr h6) (an rf (an (rr ((0:Nat))) (an (rr ((0:Nat))) (an (rr ((0:Nat))) (an (an (rr a.1) (an (rr a.2) trivial)) (an (an (rr b.1) (an (rr b.2) trivial)) (an (an (rr ((0:Int))) (an (rr (Value.slice none (0:Nat) (0:Nat))) trivial)) trivial)))))))))))))))))))))
theorem im_r3 (a b:NI) (h1:a.2.isEmpty=true) (h2:b.2.isEmpty=false):
  Tst.path (vrun0 Tryz.prog njCs (fl BIMul []) 3 66 [nv a,nv b]) [true,true,true,true,false] (toSt Tryz.prog 66 .normal s3 (SIA a b 66)):=
 mp (an (bT (bT h1)) (an (bT (bT h1)) (an (bT (bT h1)) (an (bT h1) (an (bT h2) (an (rr ((0:Nat))) (an (rr ((0:Nat))) (an (rr ((0:Nat))) (an (an (rr a.1) (an (rr a.2) trivial)) (an (an (rr b.1) (an (rr b.2) trivial)) (an (an (rr ((0:Int))) (an (rr (Value.slice none (0:Nat) (0:Nat))) trivial)) trivial)))))))))))
theorem im_r4 (a b:NI) (h1:a.2.isEmpty=false):
  Tst.path (vrun0 Tryz.prog njCs (fl BIMul []) 3 66 [nv a,nv b]) [false,false,false,false,false] (toSt Tryz.prog 66 .normal s3 (SIA a b 66)):=
 mp (an (bT (bT h1)) (an (bT (bT h1)) (an (bT (bT h1)) (an (bT h1) (an rf (an (rr ((0:Nat))) (an (rr ((0:Nat))) (an (rr ((0:Nat))) (an (an (rr a.1) (an (rr a.2) trivial)) (an (an (rr b.1) (an (rr b.2) trivial)) (an (an (rr ((0:Int))) (an (rr (Value.slice none (0:Nat) (0:Nat))) trivial)) trivial)))))))))))
theorem im_fin (a b:NI) (h1:(okI (a.1,a.2))=true) (h2:(okI (b.1,b.2))=true) (h3:(okW2 (prW (a.1,a.2)) (prW (b.1,b.2)))=true) (h4:(dgB (mulW (prW (a.1,a.2)) (prW (b.1,b.2)))&&tmB (mulW (prW (a.1,a.2)) (prW (b.1,b.2))))=true) (h5:(mkI (madeZ (!negI (a.1,a.2)==negI (b.1,b.2)) (mulW (prW (a.1,a.2)) (prW (b.1,b.2))))).1=(mkI (madeZ (negI a != negI b) (mulW (prW a) (prW b)))).1) (h6:(mkI (madeZ (!negI (a.1,a.2)==negI (b.1,b.2)) (mulW (prW (a.1,a.2)) (prW (b.1,b.2))))).2=(mkI (madeZ (negI a != negI b) (mulW (prW a) (prW b)))).2):
  Tst.path (vall Tryz.prog njCs (List.drop 3 (fl BIMul [])) (SIA a b 66)) [] (toRet Tryz.prog Tryz.f63 false (nv (mkI (madeZ (negI a != negI b) (mulW (prW a) (prW b)))))):=
 mp (an h1 (an h2 (an h3 (an h4 (an h5 (an h6 trivial))))))
noncomputable def cINeg:Ctr:={f:=75,ps:=[tI],rs:=[tI],fresh:=false,pre:=fun d=>okI d.1,fn:=fun d=>(iNeg d.1,())}
noncomputable def cISign:Ctr:={f:=71,ps:=[tI],rs:=[.int .i64],fresh:=true,pre:=fun d=>okI d.1,fn:=fun d=>(iSign d.1,())}
noncomputable def cIAdd:Ctr:={f:=72,ps:=[tI,tI],rs:=[tI],fresh:=false,pre:=fun d=>okI d.1&&okI d.2.1,fn:=fun d=>(iAdd d.1 d.2.1,())}
noncomputable def cIMul:Ctr:={f:=63,ps:=[tI,tI],rs:=[tI],fresh:=false,pre:=fun d=>okI d.1&&okI d.2.1,fn:=fun d=>(iMul d.1 d.2.1,())}
theorem nj_ok:CallOk Tryz.prog (gS njCs):=ctrs_ok fun c hc=>by
 simp only [List.mem_cons,List.not_mem_nil,or_false]at hc
 rcases hc with rfl |rfl |rfl |rfl |rfl |rfl |rfl |rfl
 ·exact cParts_ok
 ·exact cMade_ok
 ·exact cAddW_ok
 ·exact cSubW_ok
 ·exact cCmpW_ok
 ·exact cMulW_ok
 ·exact cMul64_ok
 ·exact cSize_ok
theorem dgN_B {z:Int} (h:0≤z):(dgB (dgN 18446744073709551616 z)&&tmB (dgN 18446744073709551616 z))=true:=by
 obtain⟨h1,h2,_⟩:=dgN_spec (b:=18446744073709551616) (by decide) h
 rw [dgB_iff.2 h1,tmB_iff.2 h2];rfl
theorem vw_dgN {z:Int} (h:0≤z):vw (dgN 18446744073709551616 z)=z:=(dgN_spec (b:=18446744073709551616) (by decide) h).2.2
theorem prW_B {a:NI} (h:okI a=true):(dgB (prW a)&&tmB (prW a))=true:=by
 obtain⟨h1,h2,_⟩:=parts_law h
 rw [dgB_iff.2 h1,tmB_iff.2 h2];rfl
theorem prW_W2 {a b:NI} (h:okI a=true) (g:okI b=true):okW2 (prW a) (prW b)=true:=by
 obtain⟨h1,_,_,_,h5⟩:=parts_law h
 obtain⟨g1,_,_,_,g5⟩:=parts_law g
 unfold okW2
 rw [dgB_iff.2 h1,dgB_iff.2 g1,decide_eq_true (show(prW a).length≤400000 by omega),decide_eq_true (show(prW b).length≤400000 by omega)];rfl
theorem prW_C2 {a b:NI} (h:okI a=true) (g:okI b=true):okC2 (prW a) (prW b)=true:=by
 obtain⟨h1,h2,_,_,h5⟩:=parts_law h
 obtain⟨g1,g2,_⟩:=parts_law g
 unfold okC2
 rw [dgB_iff.2 h1,tmB_iff.2 h2,dgB_iff.2 g1,tmB_iff.2 g2,decide_eq_true (show(prW a).length≤1000000 by omega)];rfl
theorem ok_sm {a:NI} (h:okI a=true) (hs:a.2=[]): -9223372036854775808≤a.1∧a.1≤9223372036854775807:=i64B_iff.1 ((okN_sm hs).symm.trans h)
theorem neg_holds (a:NI) (h:okI a=true):Holds Tryz.prog false 75 [nv a] (nv (iNeg a)):=by
 obtain⟨h1,h2,h3,h4,_⟩:=parts_law h
 have e2:mkI (madeZ (!negI a) (prW a))=iNeg a:=by
  unfold iNeg
  congr 1
  cases hn:negI a
  ·have:¬valI a<0:=fun hh=>by rw [h4.2 hh]at hn;cases hn
   show-vw (prW a)=_
   omega
  ·have:=h4.1 hn
   show vw (prW a)=_
   omega
 refine holds_fl (c:=BNeg) Tryz.func75 rfl rfl fun w F=> ?_
 by_cases hs:a.2=[]
 ·have hr:=ok_sm h hs
  by_cases hm:a.1= -9223372036854775808
  ·rw [←e2]
   exact GoalL.ret known mixed nj_ok 9 _ (ng_min a (smI_iff.2 hs) hm h (prW_B h)) fun T H h=>h
  ·have e:iNeg a=(-a.1,[]):=by unfold iNeg;rw [valI_sm hs];exact mkI_small (by omega)
   rw [e]
   refine GoalL.ret known mixed nj_ok 9 _ (ng_sm a (smI_iff.2 hs) hm ?_) fun T H h=>h
   rw [wrapI (by omega)];omega
 ·rw [←e2]
  exact GoalL.ret known mixed nj_ok 9 _ (ng_big a (smI_not.2 hs) h (prW_B h)) fun T H h=>h
theorem cINeg_ok:cINeg.Ok Tryz.prog:=fun⟨a,_⟩ h=>neg_holds a h
theorem iSign_eq {a:NI} (h:okI a=true):iSign a=sgn a.1:=by
 unfold iSign
 by_cases hs:a.2=[]
 ·rw [valI_sm hs]
 ·obtain⟨h1,_,_,h4,_⟩:=(okN_big hs).1 h
  have hv:valI a=a.1*vw a.2:=by unfold valI;rw [if_neg hs]
  rw [hv]
  rcases h1 with h1|h1<;>rw [h1]
  ·rw [sgn_pos (by omega),sgn_pos (by omega)]
  ·rw [sgn_neg (by omega),sgn_neg (by omega)]
theorem sign_holds (a:NI) (h:okI a=true):Holds Tryz.prog true 71 [nv a] (iv (iSign a)):=by
 rw [iSign_eq h]
 refine holds_fl (c:=BSign) Tryz.func71 rfl rfl fun w F=> ?_
 refine GoalL.ret known mixed none_ok 9 _ (sg_all a ?_) fun T H h=>h
 unfold sgn
 split<;>split<;>split<;>(try split)<;>omega
theorem cISign_ok:cISign.Ok Tryz.prog:=fun⟨a,_⟩ h=>sign_holds a h
theorem add_rest (a b:NI) (h:okI a=true) (g:okI b=true) (hn:iAdd a b=mkI (valI a+valI b)) (w:World) (F:Sv.Env):
  GoalL Tryz.prog w F 67 (List.drop 3 (fl BIAdd [])) (SIA a b 67).T (SIA a b 67).H (retQ Tryz.prog false Tryz.f72 (nv (iAdd a b))):=by
 obtain⟨h1,h2,h3,h4,_⟩:=parts_law h
 obtain⟨g1,g2,g3,g4,_⟩:=parts_law g
 rw [hn]
 by_cases hs:negI a=negI b
 ·have e:mkI (madeZ (negI a) (addW (prW a) (prW b)))=mkI (valI a+valI b):=by
   congr 1
   have hv:vw (addW (prW a) (prW b))=vw (prW a)+vw (prW b):=vw_dgN (by omega)
   cases hna:negI a
   ·have:¬valI a<0:=fun hh=>by rw [h4.2 hh]at hna;cases hna
    have:¬valI b<0:=fun hh=>by rw [←hs,hna]at g4;have:=g4.2 hh;cases this
    show vw _=_
    omega
   ·have:=h4.1 hna
    have:=g4.1 (by rw [←hs];exact hna)
    show-vw _=_
    omega
  rw [←e]
  exact GoalL.allRet (s:=SIA a b 67) known mixed nj_ok _ (ia_same a b h g hs (prW_W2 h g) (dgN_B (show 0≤vw (prW a)+vw (prW b) by omega))) fun T H h=>h
 ·have hab:(valI a<0∧¬valI b<0)∨(¬valI a<0∧valI b<0):=by
   cases hna:negI a<;>cases hnb:negI b
   ·rw [hna,hnb]at hs;exact absurd rfl hs
   ·exact .inr ⟨fun hh=>(by rw [h4.2 hh]at hna;cases hna),g4.1 hnb⟩
   ·exact .inl ⟨h4.1 hna,fun hh=>(by rw [g4.2 hh]at hnb;cases hnb)⟩
   ·rw [hna,hnb]at hs;exact absurd rfl hs
  by_cases hge:cmpV (vw (prW a)) (vw (prW b))≥0
  ·have hle:vw (prW b)≤vw (prW a):=by
    unfold cmpV at hge
    split at hge
    ·omega
    ·omega
   have hv:vw (subW (prW a) (prW b))=vw (prW a)-vw (prW b):=vw_dgN (by omega)
   have e:mkI (madeZ (negI a) (subW (prW a) (prW b)))=mkI (valI a+valI b):=by
    congr 1
    cases hna:negI a
    ·have:¬valI a<0:=fun hh=>by rw [h4.2 hh]at hna;cases hna
     show vw _=_
     omega
    ·have:=h4.1 hna
     show-vw _=_
     omega
   rw [←e]
   exact GoalL.allRet (s:=SIA a b 67) known mixed nj_ok _ (ia_ge a b h g hs (prW_C2 h g) hge (by rw [show okW2 _ _=true from prW_W2 h g,Bool.true_and];exact decide_eq_true hle) (dgN_B (show 0≤vw (prW a)-vw (prW b) by omega))) fun T H h=>h
  ·have hle:vw (prW a)≤vw (prW b):=by
    unfold cmpV at hge
    split at hge
    ·omega
    ·split at hge<;>omega
   have hv:vw (subW (prW b) (prW a))=vw (prW b)-vw (prW a):=vw_dgN (by omega)
   have e:mkI (madeZ (negI b) (subW (prW b) (prW a)))=mkI (valI a+valI b):=by
    congr 1
    cases hnb:negI b
    ·have:¬valI b<0:=fun hh=>by rw [g4.2 hh]at hnb;cases hnb
     show vw _=_
     omega
    ·have:=g4.1 hnb
     show-vw _=_
     omega
   rw [←e]
   exact GoalL.allRet (s:=SIA a b 67) known mixed nj_ok _ (ia_lt a b h g hs (prW_C2 h g) hge (by rw [show okW2 _ _=true from prW_W2 g h,Bool.true_and];exact decide_eq_true hle) (dgN_B (show 0≤vw (prW b)-vw (prW a) by omega))) fun T H h=>h
theorem iAdd_slow {a b:NI} (h:¬(smI a&&(smI b&&i64B (a.1+b.1)))=true):iAdd a b=mkI (valI a+valI b):=by unfold iAdd;rw [if_neg h]
theorem add_holds (a b:NI) (h:okI a=true) (g:okI b=true):Holds Tryz.prog false 72 [nv a,nv b] (nv (iAdd a b)):=by
 refine holds_fl (c:=BIAdd) Tryz.func72 rfl rfl fun w F=> ?_
 by_cases ha:a.2=[]
 ·have hra:=ok_sm h ha
  by_cases hb:b.2=[]
  ·have hrb:=ok_sm g hb
   by_cases hf:i64B (a.1+b.1)=true
   ·have hf':=i64B_iff.1 hf
    have e:iAdd a b=(a.1+b.1,[]):=by unfold iAdd;rw [smI_iff.2 ha,smI_iff.2 hb,hf];rfl
    rw [e]
    refine GoalL.ret known mixed nj_ok 3 _ (ia_fast a b (smI_iff.2 ha) (smI_iff.2 hb) hf' ?_) fun T H h=>h
    rw [decide_eq_decide];omega
   ·have e:=iAdd_slow (a:=a) (b:=b) fun hh=>by
     simp only [Bool.and_eq_true]at hh
     exact hf hh.2.2
    have hf':¬(-9223372036854775808≤a.1+b.1∧a.1+b.1≤9223372036854775807):=fun hh=>hf (i64B_iff.2 hh)
    refine GoalL.toW known mixed nj_ok 3 _ (ia_over_w a b (smI_iff.2 ha) (smI_iff.2 hb) ?_ ?_) (by kernel_rfl) (add_rest a b h g e w F)
    ·unfold fits
     rw [Bool.and_eq_false_iff]
     by_cases h0: -9223372036854775808≤a.1+b.1
     ·exact .inr (decide_eq_false fun hh=>hf' ⟨h0,hh⟩)
     ·exact .inl (decide_eq_false h0)
    ·rw [decide_eq_decide]
     have hw:IntKind.wrap .i64 (a.1+b.1)=if a.1+b.1<0 then a.1+b.1+18446744073709551616 else a.1+b.1-18446744073709551616:=by
      have e1:IntKind.signed .i64=true:=rfl
      have e2:IntKind.bits .i64=64:=rfl
      unfold IntKind.wrap
      simp only [e1,e2,Bool.true_and]
      rw [show(2:Int)^64=18446744073709551616 from rfl]
      split<;>split<;>simp_all<;>omega
     rw [hw]
     split<;>omega
  ·exact GoalL.to known mixed nj_ok 3 _ (ia_big2 a b (smI_iff.2 ha) (smI_not.2 hb)) (by kernel_rfl) (add_rest a b h g (iAdd_slow fun hh=>by
    simp only [Bool.and_eq_true]at hh
    exact hb (smI_iff.1 hh.2.1)) w F)
 ·exact GoalL.to known mixed nj_ok 3 _ (ia_big1 a b (smI_not.2 ha)) (by kernel_rfl) (add_rest a b h g (iAdd_slow fun hh=>by
    simp only [Bool.and_eq_true]at hh
    exact ha (smI_iff.1 hh.1)) w F)
theorem cIAdd_ok:cIAdd.Ok Tryz.prog:=fun⟨a,b,_⟩ h=>by
 have h:(okI a&&okI b)=true:=h
 rw [Bool.and_eq_true]at h
 exact add_holds a b h.1 h.2
theorem sign_mul {x y:Int} {n m:Bool} (hn:n=true↔x<0) (hm:m=true↔y<0) {p:Int} (hp:p=x.natAbs*y.natAbs):(match(n != m)with |true=> -p|false=>p)=x*y:=by
 have e:(p:Int)=((x*y).natAbs:Int):=by rw [hp,Int.natAbs_mul];simp
 cases n<;>cases m<;>simp only [Bool.false_eq_true,false_iff,true_iff,Int.not_lt]at hn hm
 ·have:=Int.mul_nonneg hn hm;show p=_;omega
 ·have:=Int.mul_nonneg hn (show 0≤ -y by omega);rw [Int.mul_neg]at this;show-p=_;omega
 ·have:=Int.mul_nonneg (show 0≤ -x by omega) hm;rw [Int.neg_mul]at this;show-p=_;omega
 ·have:=Int.mul_nonneg (show 0≤ -x by omega) (show 0≤ -y by omega);rw [Int.neg_mul,Int.mul_neg,Int.neg_neg]at this;show p=_;omega
theorem mul_rest (a b:NI) (h:okI a=true) (g:okI b=true) (w:World) (F:Sv.Env):
  GoalL Tryz.prog w F 66 (List.drop 3 (fl BIMul [])) (SIA a b 66).T (SIA a b 66).H (retQ Tryz.prog false Tryz.f63 (nv (iMul a b))):=by
 obtain⟨h1,h2,h3,h4,_⟩:=parts_law h
 obtain⟨g1,g2,g3,g4,_⟩:=parts_law g
 have hp:0≤vw (prW a)*vw (prW b):=Int.mul_nonneg (by omega) (by omega)
 have e:mkI (madeZ (negI a != negI b) (mulW (prW a) (prW b)))=iMul a b:=by
  unfold iMul madeZ
  have hv:vw (mulW (prW a) (prW b))=vw (prW a)*vw (prW b):=vw_dgN hp
  rw [hv,h3,g3]
  exact congrArg mkI (sign_mul h4 g4 rfl)
 rw [←e]
 exact GoalL.allRet (s:=SIA a b 66) known mixed nj_ok _ (im_fin a b h g (prW_W2 h g) (dgN_B hp) rfl rfl) fun T H h=>h
theorem mul_holds (a b:NI) (h:okI a=true) (g:okI b=true):Holds Tryz.prog false 63 [nv a,nv b] (nv (iMul a b)):=by
 refine holds_fl (c:=BIMul) Tryz.func63 rfl rfl fun w F=> ?_
 by_cases ha:a.2=[]
 ·have hra:=ok_sm h ha
  by_cases hb:b.2=[]
  ·have hrb:=ok_sm g hb
   have hoa:=i64B_iff.2 hra
   have hob:=i64B_iff.2 hrb
   have hm:okM (absI a.1) (absI b.1)=true:=okM_iff.2 (by unfold absI;omega)
   by_cases hhi:mlHi (absI a.1) (absI b.1)=0
   ·by_cases hlo:mlLo (absI a.1) (absI b.1)≤9223372036854775807
    ·have hlo0:0≤mlLo (absI a.1) (absI b.1):=Int.emod_nonneg _ (by decide)
     have hp:mlLo (absI a.1) (absI b.1)=a.1.natAbs*b.1.natAbs:=by
      have:=Int.emod_add_mul_ediv (absI a.1*absI b.1) 18446744073709551616
      unfold mlHi at hhi
      rw [hhi]at this
      unfold mlLo
      show _=absI a.1*absI b.1
      omega
     have hsm:=sign_mul (n:=decide (a.1<0)) (m:=decide (b.1<0)) (by simp) (by simp) hp
     have hval:iMul a b=mkI (a.1*b.1):=by unfold iMul;rw [valI_sm ha,valI_sm hb]
     by_cases hsg:decide (a.1<0)=decide (b.1<0)
     ·have e:iMul a b=(mlLo (absI a.1) (absI b.1),[]):=by
       rw [hsg,bne_self_eq_false]at hsm
       have hsm:mlLo (absI a.1) (absI b.1)=a.1*b.1:=hsm
       rw [hval,←hsm];exact mkI_small (by omega)
      rw [e]
      exact GoalL.ret known mixed nj_ok 3 _ (im_pos a b (smI_iff.2 ha) (smI_iff.2 hb) hoa hob hm hhi hlo hsg (wrapI (by omega))) fun T H h=>h
     ·have e:iMul a b=(-mlLo (absI a.1) (absI b.1),[]):=by
       rw [show(decide (a.1<0) != decide (b.1<0))=true from bne_iff_ne.2 hsg]at hsm
       have hsm: -mlLo (absI a.1) (absI b.1)=a.1*b.1:=hsm
       rw [hval,←hsm];exact mkI_small (by omega)
      rw [e]
      refine GoalL.ret known mixed nj_ok 3 _ (im_neg a b (smI_iff.2 ha) (smI_iff.2 hb) hoa hob hm hhi hlo hsg ?_) fun T H h=>h
      rw [wrapI (x:=mlLo (absI a.1) (absI b.1)) (by omega),wrapI (by omega)];omega
    ·exact GoalL.to known mixed nj_ok 3 _ (im_r1 a b (smI_iff.2 ha) (smI_iff.2 hb) hoa hob hm hhi hlo) (by kernel_rfl) (mul_rest a b h g w F)
   ·exact GoalL.to known mixed nj_ok 3 _ (im_r2 a b (smI_iff.2 ha) (smI_iff.2 hb) hoa hob hm hhi) (by kernel_rfl) (mul_rest a b h g w F)
  ·exact GoalL.to known mixed nj_ok 3 _ (im_r3 a b (smI_iff.2 ha) (smI_not.2 hb)) (by kernel_rfl) (mul_rest a b h g w F)
 ·exact GoalL.to known mixed nj_ok 3 _ (im_r4 a b (smI_not.2 ha)) (by kernel_rfl) (mul_rest a b h g w F)
theorem cIMul_ok:cIMul.Ok Tryz.prog:=fun⟨a,b,_⟩ h=>by
 have h:(okI a&&okI b)=true:=h
 rw [Bool.and_eq_true]at h
 exact mul_holds a b h.1 h.2
end
end Go.Proofs.YtccmlbinkgbpgaaGreatDoor
/- Package num: integers: difference, absolute value, comparison. -/
namespace Go.Proofs.YtccmlbinkgbpgaaGreatDoor
open Go.RowKit Sv
set_option maxRecDepth 100000
set_option linter.unusedVariables false
noncomputable section
noncomputable def nkCs:VCaller:=ctrs [cIAdd,cINeg,cISign]
noncomputable def cISub:Ctr:={f:=177,ps:=[tI,tI],rs:=[tI],fresh:=false,pre:=fun d=>okI d.1&&okI d.2.1,fn:=fun d=>(iSub d.1 d.2.1,())}
noncomputable def cIAbs:Ctr:={f:=127,ps:=[tI],rs:=[tI],fresh:=false,pre:=fun d=>okI d.1,fn:=fun d=>(iAbs d.1,())}
noncomputable def cICmp:Ctr:={f:=183,ps:=[tI,tI],rs:=[.int .i64],fresh:=true,pre:=fun d=>okN 50000 d.1&&okN 50000 d.2.1,fn:=fun d=>(iCmp d.1 d.2.1,())}
noncomputable def nkCs2:VCaller:=ctrs [cISub,cISign]
theorem is_all (a b:NI) (h1:(okI (b.1,b.2))=true) (h2:(okI (a.1,a.2)&&okI ((iNeg (b.1,b.2)).1,(iNeg (b.1,b.2)).2))=true):
  Tst.path (vrun0 Tryz.prog nkCs (fl BISub []) 9 (Tryz.f177.ntmps) [nv a,nv b]) [] (toRet Tryz.prog Tryz.f177 false (nv (iAdd a (iNeg b)))):=
 mp (an (sr (AV.agg [iv a.1,AV.lst true (.int .u64) a.2])) (an (sr (AV.agg [iv b.1,AV.lst true (.int .u64) b.2])) (an h1 (an (sr (AV.agg [iv a.1,AV.lst true (.int .u64) a.2])) (an h2 (an (rr (iAdd (a.1,a.2) ((iNeg (b.1,b.2)).1,(iNeg (b.1,b.2)).2)).1) (an (rr (iAdd (a.1,a.2) ((iNeg (b.1,b.2)).1,(iNeg (b.1,b.2)).2)).2) trivial)))))))
theorem ab_neg (a:NI) (h1:a.1<0) (h2:(okI (a.1,a.2))=true):
  Tst.path (vrun0 Tryz.prog nkCs (fl BAbs []) 9 (Tryz.f127.ntmps) [nv a]) [true] (toRet Tryz.prog Tryz.f127 false (nv (iNeg a))):=
 mp (an (decide_eq_true h1) (an h2 (an (rr (iNeg (a.1,a.2)).1) (an (rr (iNeg (a.1,a.2)).2) trivial))))
theorem ab_pos (a:NI) (h1:¬a.1<0):
  Tst.path (vrun0 Tryz.prog nkCs (fl BAbs []) 9 (Tryz.f127.ntmps) [nv a]) [false] (toRet Tryz.prog Tryz.f127 false (nv a)):=
 mp (an (decide_eq_false h1) (an (rr a.1) (an (rr a.2) trivial)))
theorem ic_lt (a b:NI) (h1:a.2.isEmpty=true) (h2:b.2.isEmpty=true) (h3:a.1<b.1):
  Tst.path (vrun0 Tryz.prog nkCs2 (fl BICmp []) 9 29 [nv a,nv b]) [true,true,true,true,true,true] (toRet Tryz.prog Tryz.f183 true (iv (-1))):=
 mp (an (bT (bT h1)) (an (bT (bT h1)) (an (bT (bT h1)) (an (bT h1) (an (bT h2) (an (decide_eq_true h3) (rr ((-1:Int)))))))))
theorem ic_gt (a b:NI) (h1:a.2.isEmpty=true) (h2:b.2.isEmpty=true) (h3:¬a.1<b.1) (h4:a.1>b.1):
  Tst.path (vrun0 Tryz.prog nkCs2 (fl BICmp []) 9 29 [nv a,nv b]) [true,true,true,true,true,false,true] (toRet Tryz.prog Tryz.f183 true (iv 1)):=
 mp (an (bT (bT h1)) (an (bT (bT h1)) (an (bT (bT h1)) (an (bT h1) (an (bT h2) (an (decide_eq_false h3) (an (decide_eq_true h4) (rr ((1:Int))))))))))
theorem ic_eq (a b:NI) (h1:a.2.isEmpty=true) (h2:b.2.isEmpty=true) (h3:¬a.1<b.1) (h4:¬a.1>b.1):
  Tst.path (vrun0 Tryz.prog nkCs2 (fl BICmp []) 9 29 [nv a,nv b]) [true,true,true,true,true,false,false] (toRet Tryz.prog Tryz.f183 true (iv 0)):=
 mp (an (bT (bT h1)) (an (bT (bT h1)) (an (bT (bT h1)) (an (bT h1) (an (bT h2) (an (decide_eq_false h3) (an (decide_eq_false h4) (rr ((0:Int))))))))))
theorem ic_b2 (a b:NI) (h1:a.2.isEmpty=true) (h2:b.2.isEmpty=false) (h3:(okI (a.1,a.2)&&okI (b.1,b.2))=true) (h4:(okI ((iSub (a.1,a.2) (b.1,b.2)).1,(iSub (a.1,a.2) (b.1,b.2)).2))=true):
  Tst.path (vrun0 Tryz.prog nkCs2 (fl BICmp []) 9 29 [nv a,nv b]) [true,true,true,true,false] (toRet Tryz.prog Tryz.f183 true (iv (iSign (iSub a b)))):=
 mp (an (bT (bT h1)) (an (bT (bT h1)) (an (bT (bT h1)) (an (bT h1) (an (bT h2) (an h3 (an h4 (rr (iSign ((iSub (a.1,a.2) (b.1,b.2)).1,(iSub (a.1,a.2) (b.1,b.2)).2))))))))))
theorem ic_b1 (a b:NI) (h1:a.2.isEmpty=false) (h2:(okI (a.1,a.2)&&okI (b.1,b.2))=true) (h3:(okI ((iSub (a.1,a.2) (b.1,b.2)).1,(iSub (a.1,a.2) (b.1,b.2)).2))=true):
  Tst.path (vrun0 Tryz.prog nkCs2 (fl BICmp []) 9 29 [nv a,nv b]) [false,false,false,false,false] (toRet Tryz.prog Tryz.f183 true (iv (iSign (iSub a b)))):=
 mp (an (bT (bT h1)) (an (bT (bT h1)) (an (bT (bT h1)) (an (bT h1) (an rf (an h2 (an h3 (rr (iSign ((iSub (a.1,a.2) (b.1,b.2)).1,(iSub (a.1,a.2) (b.1,b.2)).2))))))))))
theorem okN_mono {n m:Nat} {a:NI} (hnm:n≤m) (h:okN n a=true):okN m a=true:=by
 by_cases hs:a.2=[]
 ·rw [okN_sm hs]at h ⊢;exact h
 ·obtain⟨h1,h2,h3,h4,h5⟩:=(okN_big hs).1 h
  exact(okN_big hs).2 ⟨h1,h2,h3,h4,by omega⟩
theorem ok_neg {n:Nat} {a:NI} (h:okN n a=true) (hn:1≤n):okN n (iNeg a)=true:=by
 have:=val_lt h hn
 exact(mkI_law (by omega)).1
theorem val_neg (a:NI):valI (iNeg a)= -valI a:=val_mk _
theorem val_sub (a b:NI):valI (iSub a b)=valI a-valI b:=by unfold iSub;rw [val_iAdd,val_neg];omega
theorem val_mul (a b:NI):valI (iMul a b)=valI a*valI b:=val_mk _
theorem val_abs (a:NI):valI (iAbs a)=(valI a).natAbs:=val_mk _
theorem nk_ok:CallOk Tryz.prog (gS nkCs):=ctrs_ok fun c hc=>by
 simp only [List.mem_cons,List.not_mem_nil,or_false]at hc
 rcases hc with rfl |rfl |rfl
 ·exact cIAdd_ok
 ·exact cINeg_ok
 ·exact cISign_ok
theorem sub_holds (a b:NI) (h:okI a=true) (g:okI b=true):Holds Tryz.prog false 177 [nv a,nv b] (nv (iSub a b)):=by
 refine holds_fl (c:=BISub) Tryz.func177 rfl rfl fun w F=> ?_
 have gn:okI (iNeg b)=true:=ok_neg g (by decide)
 exact GoalL.ret known mixed nk_ok 9 _ (is_all a b g (by rw [show okI (Prod.fst a,Prod.snd a)=true from h,Bool.true_and];exact gn)) fun T H h=>h
theorem cISub_ok:cISub.Ok Tryz.prog:=fun⟨a,b,_⟩ h=>by
 have h:(okI a&&okI b)=true:=h
 rw [Bool.and_eq_true]at h
 exact sub_holds a b h.1 h.2
theorem neg_iff {n:Nat} {a:NI} (h:okN n a=true):a.1<0↔valI a<0:=by
 obtain⟨_,_,_,h4,_⟩:=parts_law h
 rw [←h4];unfold negI;rw [decide_eq_true_eq]
theorem abs_holds (a:NI) (h:okI a=true):Holds Tryz.prog false 127 [nv a] (nv (iAbs a)):=by
 refine holds_fl (c:=BAbs) Tryz.func127 rfl rfl fun w F=> ?_
 by_cases hn:a.1<0
 ·have hv:=(neg_iff h).1 hn
  have e:iNeg a=iAbs a:=by unfold iNeg iAbs;congr 1;omega
  rw [←e]
  exact GoalL.ret known mixed nk_ok 9 _ (ab_neg a hn h) fun T H h=>h
 ·have hv:¬valI a<0:=fun hh=>hn ((neg_iff h).2 hh)
  have e:a=iAbs a:=by
   have:=ok_mk h (by omega)
   unfold iAbs
   rw [show((valI a).natAbs:Int)=valI a by omega];exact this
  have:=GoalL.ret (P:=Tryz.prog) (w0:=w) (F:=F) (X:=X0) known mixed nk_ok 9 _ (ab_pos a hn) fun T H h=>h
  rw [←e]
  exact this
theorem cIAbs_ok:cIAbs.Ok Tryz.prog:=fun⟨a,_⟩ h=>abs_holds a h
theorem nk2_ok:CallOk Tryz.prog (gS nkCs2):=ctrs_ok fun c hc=>by
 simp only [List.mem_cons,List.not_mem_nil,or_false]at hc
 rcases hc with rfl |rfl
 ·exact cISub_ok
 ·exact cISign_ok
theorem pow_two_le:(2:Int)*18446744073709551616^50000≤18446744073709551616^100000:=by
 have h:=pow_le_pow' (b:=18446744073709551616) (by decide) (show 50001≤100000 by decide)
 rw [show 50001=50000+1 from rfl,Int.pow_succ]at h
 have:=pow_pos' (b:=18446744073709551616) (by decide) 50000
 generalize (18446744073709551616:Int)^50000=p at*
 generalize (18446744073709551616:Int)^100000=q at*
 omega
theorem ok_sub {a b:NI} (h:okN 50000 a=true) (g:okN 50000 b=true):okI (iSub a b)=true:=by
 have h1:=val_lt h (by decide)
 have g1:=val_lt g (by decide)
 have h2:=pow_two_le
 refine ok_iAdd ?_
 rw [val_neg]
 generalize (18446744073709551616:Int)^50000=p at*
 generalize (18446744073709551616:Int)^100000=q at*
 omega
theorem cmp_holds (a b:NI) (h:okN 50000 a=true) (g:okN 50000 b=true):Holds Tryz.prog true 183 [nv a,nv b] (iv (iCmp a b)):=by
 have ho:=ok_sub h g
 have hs:iSign (iSub a b)=iCmp a b:=by unfold iSign iCmp;rw [val_sub]
 have h':=okN_mono (show 50000≤100000 by decide) h
 have g':=okN_mono (show 50000≤100000 by decide) g
 have hh:(okI (Prod.fst a,Prod.snd a)&&okI (Prod.fst b,Prod.snd b))=true:=by
  rw [show okI (Prod.fst a,Prod.snd a)=true from h',show okI (Prod.fst b,Prod.snd b)=true from g'];rfl
 refine holds_fl (c:=BICmp) Tryz.func183 rfl rfl fun w F=> ?_
 by_cases ha:a.2=[]
 ·by_cases hb:b.2=[]
  ·have e:iCmp a b=sgn (a.1-b.1):=by unfold iCmp;rw [valI_sm ha,valI_sm hb]
   rw [e]
   by_cases h1:a.1<b.1
   ·rw [sgn_neg (by omega)]
    exact GoalL.ret known mixed nk2_ok 9 _ (ic_lt a b (smI_iff.2 ha) (smI_iff.2 hb) h1) fun T H h=>h
   ·by_cases h2:a.1>b.1
    ·rw [sgn_pos (by omega)]
     exact GoalL.ret known mixed nk2_ok 9 _ (ic_gt a b (smI_iff.2 ha) (smI_iff.2 hb) h1 h2) fun T H h=>h
    ·rw [show a.1-b.1=0 by omega,sgn_zero]
     exact GoalL.ret known mixed nk2_ok 9 _ (ic_eq a b (smI_iff.2 ha) (smI_iff.2 hb) h1 h2) fun T H h=>h
  ·rw [←hs]
   exact GoalL.ret known mixed nk2_ok 9 _ (ic_b2 a b (smI_iff.2 ha) (smI_not.2 hb) hh ho) fun T H h=>h
 ·rw [←hs]
  exact GoalL.ret known mixed nk2_ok 9 _ (ic_b1 a b (smI_not.2 ha) hh ho) fun T H h=>h
theorem cICmp_ok:cICmp.Ok Tryz.prog:=fun⟨a,b,_⟩ h=>by
 have h:(okN 50000 a&&okN 50000 b)=true:=h
 rw [Bool.and_eq_true]at h
 exact cmp_holds a b h.1 h.2
end
end Go.Proofs.YtccmlbinkgbpgaaGreatDoor
/- Numbers as lists of digits: lists with as many digits as wanted; long division, a step of it; shifts: plain facts. -/
namespace Go.Proofs.YtccmlbinkgbpgaaGreatDoor
def padD (b:Int):Nat→Int→List Int
 |0,_=>[]
 |m+1,z=>z%b::padD b m (z/b)
theorem pad_len (b:Int):∀(m:Nat) (z:Int),(padD b m z).length=m
 |0,_=>rfl
 |m+1,z=>by rw [padD,List.length_cons,pad_len b m]
theorem pad_dg {b:Int} (hb:0<b):∀(m:Nat) (z:Int),Dg b (padD b m z)
 |0,_=> .nil
 |m+1,z=> .cons ⟨Int.emod_nonneg _ (by omega),Int.emod_lt_of_pos _ hb⟩ (pad_dg hb m _)
theorem pad_vl {b:Int} (hb:0<b):∀(m:Nat) (z:Int),0≤z→z<b^m→vl b (padD b m z)=z
 |0,z,h0,h1=>by simp at h1;simp [padD,vl];omega
 |m+1,z,h0,h1=>by
  have h2:z/b<b^m:=Int.ediv_lt_of_lt_mul hb (by rw [Int.pow_succ]at h1;exact h1)
  have h3:=pad_vl hb m (z/b) (Int.ediv_nonneg h0 (Int.le_of_lt hb)) h2
  show z%b+b*vl b (padD b m (z/b))=z
  rw [h3];exact Int.emod_add_mul_ediv z b
theorem pad_eq {b:Int} (hb:1<b) {l:List Int} (h:Dg b l):l=padD b l.length (vl b l):=by
 have hb0:0<b:=by omega
 exact vl_inj hb h (pad_dg hb0 _ _) (pad_len b _ _).symm (pad_vl hb0 _ _ (vl_nn hb0 h) (vl_lt hb0 h)).symm
theorem parts_of {b:Int} {u v:List Int} {n:Nat} (hb:2≤b) (hu:Dg b u) (hv:Dg b v) (lu:u.length=n+3) (lv:v.length=n+2) (h1:1≤v.getD (n+1) 0):
  Parts b (v.getD (n+1) 0) (v.getD n 0) (vl b (v.take n)) (u.getD (n+2) 0) (u.getD (n+1) 0) (u.getD n 0) (vl b (u.take n)) (b^n):=by
 have hb0:0<b:=by omega
 have hp:=pow_pos' hb0 n
 have l1:=vl_lt hb0 (hv.take n)
 have l2:=vl_lt hb0 (hu.take n)
 rw [List.length_take,Nat.min_eq_left (by omega)]at l1 l2
 exact⟨hb,hp,⟨h1,(hv.get hb0 _).2⟩,hv.get hb0 _,⟨vl_nn hb0 (hv.take n),l1⟩,hu.get hb0 _,hu.get hb0 _,hu.get hb0 _,⟨vl_nn hb0 (hu.take n),l2⟩⟩
theorem vAll_of {b:Int} {v:List Int} {n:Nat} (lv:v.length=n+2):vAll b (v.getD (n+1) 0) (v.getD n 0) (vl b (v.take n)) (b^n)=vl b v:=by
 have h1:=vl_take (b:=b) (l:=v) (k:=n+1) (by omega)
 have h2:=vl_take (b:=b) (l:=v) (k:=n) (by omega)
 rw [List.take_of_length_le (by omega)]at h1
 rw [h1,h2]
 unfold vAll
 rw [Int.add_mul,Int.pow_succ,Int.mul_comm (v.getD (n+1) 0) b,Int.mul_assoc,Int.mul_comm (v.getD (n+1) 0),Int.mul_comm (v.getD n 0),←Int.mul_assoc,Int.mul_comm b]
 omega
theorem uAll_of {b:Int} {u:List Int} {n:Nat} (lu:u.length=n+3):uAll b (u.getD (n+2) 0) (u.getD (n+1) 0) (u.getD n 0) (vl b (u.take n)) (b^n)=vl b u:=by
 have h0:=vl_take (b:=b) (l:=u) (k:=n+2) (by omega)
 have h1:=vl_take (b:=b) (l:=u) (k:=n+1) (by omega)
 have h2:=vl_take (b:=b) (l:=u) (k:=n) (by omega)
 rw [List.take_of_length_le (by omega)]at h0
 rw [h0,h1,h2]
 unfold uAll
 simp only [Int.pow_succ]
 generalize u.getD (n+2) 0=x
 generalize u.getD (n+1) 0=y
 generalize u.getD n 0=z
 generalize b^n=P
 clear h0 h1 h2 lu
 generalize vl b (u.take n)=V
 grind
theorem quot_of {U V t:Int} (hV:0<V) (h1:0≤U-t*V) (h2:U-t*V<V):U/V=t∧U%V=U-t*V:=by
 have h3:U=(U-t*V)+t*V:=by omega
 have hq:U/V=t:=by
  rw [h3,Int.add_mul_ediv_right _ _ (by omega),Int.ediv_eq_zero_of_lt h1 h2];omega
 refine⟨hq, ?_⟩
 have:=Int.emod_add_mul_ediv U V
 rw [hq,Int.mul_comm]at this
 omega
theorem mulsub_next {B P lo c' c t v u u' bo' bo X O W:Int} (h1:c'*B+lo=t*v+c) (h2:u'-B*bo'=u-lo-bo) (hi:O-P*bo=X-t*W+P*c):
  O+P*u'-P*B*bo'=X+P*u-t*(W+P*v)+P*B*c':=by
 grind
end Go.Proofs.YtccmlbinkgbpgaaGreatDoor
/- Words: shifts and 'or' as numbers: plain facts. -/
namespace Go.Proofs.YtccmlbinkgbpgaaGreatDoor
open Go.RowKit Sv
set_option maxRecDepth 100000
def orU (a b:Int):Int:=IntKind.wrap .u64 (((BitVec.ofInt 64 a|||BitVec.ofInt 64 b).toNat:Nat):Int)
theorem orU_add {a b:Int} {s:Nat} (hs:s≤64) (ha:0≤a∧a<2^s) {c:Int} (hc:0≤c) (hb:b=2^s*c) (hb2:b<18446744073709551616):orU a b=a+b:=by
 obtain⟨A,rfl⟩:∃A:Nat,a=(A:Int):=⟨a.toNat,by omega⟩
 obtain⟨C,rfl⟩:∃C:Nat,c=(C:Int):=⟨c.toNat,by omega⟩
 have hA:A<2^s:=by have:=ha.2;exact_mod_cast this
 have hb':b=((2^s*C:Nat):Int):=by rw [hb];norm_cast
 subst hb'
 have e64:((2^64:Nat):Int)=18446744073709551616:=rfl
 have hB:2^s*C<2^64:=by rw [←e64]at hb2;exact Int.ofNat_lt.1 hb2
 have hA2:A<2^64:=Nat.lt_of_lt_of_le hA (Nat.pow_le_pow_right (by decide) hs)
 unfold orU
 rw [BitVec.toNat_or,BitVec.ofInt_natCast,BitVec.ofInt_natCast,BitVec.toNat_ofNat,BitVec.toNat_ofNat,Nat.mod_eq_of_lt hA2,Nat.mod_eq_of_lt hB]
 have e:A|||2^s*C=A+2^s*C:=by
  rw [Nat.or_comm,←Nat.two_pow_add_eq_or_of_lt hA C,Nat.add_comm]
 have hlt:A|||2^s*C<2^64:=Nat.or_lt_two_pow hA2 hB
 rw [e]at hlt ⊢
 rw [wrapU ⟨Int.natCast_nonneg _,by have:(2:Nat)^64=18446744073709551616:=rfl;omega⟩]
 exact Int.natCast_add _ _
theorem word_split {x:Int} {s:Nat} (hs:s≤64) (hx:0≤x∧x<18446744073709551616):
  x*2^s%18446744073709551616=2^s*(x%2^(64-s))∧x*2^s=2^s*(x%2^(64-s))+18446744073709551616*(x/2^(64-s))∧(0≤x/2^(64-s)∧x/2^(64-s)<2^s)∧(0≤x%2^(64-s)∧x%2^(64-s)<2^(64-s)):=by
 have hp:(0:Int)<2^(64-s):=pow_pos' (by decide) _
 have hq:(0:Int)<2^s:=pow_pos' (by decide) _
 have h64:(2:Int)^s*2^(64-s)=18446744073709551616:=by rw [←Int.pow_add,show s+(64-s)=64 by omega];rfl
 have hd:=Int.emod_add_mul_ediv x (2^(64-s))
 have h0:=Int.emod_nonneg x (show(2:Int)^(64-s)≠0 by omega)
 have h1:=Int.emod_lt_of_pos x hp
 have h2:0≤x/2^(64-s):=Int.ediv_nonneg hx.1 (Int.le_of_lt hp)
 have h3:x/2^(64-s)<2^s:=Int.ediv_lt_of_lt_mul hp (by rw [h64];exact hx.2)
 have e:x*2^s=2^s*(x%2^(64-s))+18446744073709551616*(x/2^(64-s)):=by
  have:2^s*(x%2^(64-s)+2^(64-s)*(x/2^(64-s)))=2^s*x:=by rw [hd]
  rw [Int.mul_add,←Int.mul_assoc,h64]at this
  rw [Int.mul_comm x];omega
 refine⟨?_,e,⟨h2,h3⟩,h0,h1⟩
 rw [e,Int.add_mul_emod_self_left]
 refine Int.emod_eq_of_lt (Int.mul_nonneg (Int.le_of_lt hq) h0) ?_
 rw [←h64]
 exact Int.mul_lt_mul_of_pos_left h1 hq
end Go.Proofs.YtccmlbinkgbpgaaGreatDoor
/- Long division of words: a window and the rest: plain facts. -/
namespace Go.Proofs.YtccmlbinkgbpgaaGreatDoor
theorem drop_cons {l:List Int} {k:Nat} (h:k<l.length):l.drop k=l.getD k 0::l.drop (k+1):=by
 rw [dg_getD h];exact List.drop_eq_getElem_cons h
theorem vl_drop {b:Int} {l:List Int} {k:Nat} (h:k<l.length):vl b (l.drop k)=l.getD k 0+b*vl b (l.drop (k+1)):=by
 rw [drop_cons h];rfl
theorem win_val {b:Int} (hb:1<b) {u:List Int} {j n:Nat} (hu:Dg b u) (hj:j+n+1≤u.length) {V:Int} (hV:V≤b^n) (h:vl b (u.drop (j+1))<V):
  vl b (u.drop j)=vl b ((u.drop j).take (n+1))∧vl b (u.drop j)<b*V∧vl b (u.drop (j+n+1))=0:=by
 have hb0:0<b:=by omega
 have h1:=vl_drop (b:=b) (l:=u) (k:=j) (by omega)
 have h2:=hu.get hb0 j
 have h3:vl b (u.drop j)<b*V:=by
  have:b*vl b (u.drop (j+1))≤b*(V-1):=Int.mul_le_mul_of_nonneg_left (by omega) (Int.le_of_lt hb0)
  rw [Int.mul_sub,Int.mul_one]at this
  omega
 have h4:vl b (u.drop j)<b^(n+1):=by
  have:b*V≤b*b^n:=Int.mul_le_mul_of_nonneg_left hV (Int.le_of_lt hb0)
  rw [Int.pow_succ,Int.mul_comm];omega
 have h5:=vl_low hb0 (hu.drop j) h4
 refine⟨h5.symm,h3, ?_⟩
 have h6:=vl_split b (u.drop j) (n+1) (by rw [List.length_drop];omega)
 rw [h5,List.drop_drop]at h6
 have h7:b^(n+1)*vl b (u.drop (j+(n+1)))=0:=by omega
 rcases Int.mul_eq_zero.1 h7 with h8|h8
 ·have:=pow_pos' hb0 (n+1);omega
 ·exact h8
theorem win_next {b:Int} (hb:1<b) {u:List Int} {j n:Nat} (hu:Dg b u) (hj:j+n+1≤u.length) {V:Int} (hV0:0<V) (hV:V≤b^n) (h:vl b (u.drop (j+1))<V) {u':List Int}
  (hu':u'=u.take j++(padD b (n+1) (vl b ((u.drop j).take (n+1))%V)++u.drop (j+(n+1)))):
  u'.length=u.length∧Dg b u'∧vl b u'+b^j*(vl b ((u.drop j).take (n+1))/V)*V=vl b u∧vl b (u'.drop j)<V:=by
 have hb0:0<b:=by omega
 obtain⟨h1,h2,h3⟩:=win_val hb hu hj hV h
 generalize hW:vl b ((u.drop j).take (n+1))=W at*
 have hm0:=Int.emod_nonneg W (show V≠0 by omega)
 have hm1:=Int.emod_lt_of_pos W hV0
 have hm2:W%V<b^(n+1):=by
  have:=pow_le_pow' (show 1≤b by omega) (show n≤n+1 by omega)
  omega
 have hpv:=pad_vl hb0 (n+1) (W%V) hm0 hm2
 have htl:(u.take j).length=j:=by rw [List.length_take];omega
 have hdj:u'.drop j=padD b (n+1) (W%V)++u.drop (j+(n+1)):=by
  rw [hu',List.drop_append,htl,Nat.sub_self,List.drop_zero,List.drop_eq_nil_of_le (by omega),List.nil_append]
 have htj:u'.take j=u.take j:=by
  rw [hu',List.take_append,htl,Nat.sub_self,List.take_zero,List.append_nil,List.take_of_length_le (by omega)]
 have hvd:vl b (u'.drop j)=W%V:=by rw [hdj,vl_app,hpv,←Nat.add_assoc,h3,Int.mul_zero,Int.add_zero]
 have hlen:u'.length=u.length:=by
  rw [hu',List.length_append,List.length_append,htl,pad_len,List.length_drop];omega
 refine⟨hlen, ?_, ?_,by rw [hvd];exact hm1⟩
 ·rw [hu']
  exact(hu.take j).app ((pad_dg hb0 _ _).app (hu.drop _))
 ·rw [vl_split b u' j (by omega),vl_split b u j (by omega),htj,hvd,h1]
  have e:=Int.emod_add_mul_ediv W V
  have e2:b^j*(W%V+V*(W/V))=b^j*W:=by rw [e]
  rw [Int.mul_add]at e2
  have e3:b^j*(W/V)*V=b^j*(V*(W/V)):=by rw [Int.mul_assoc,Int.mul_comm (W/V)]
  omega
theorem div_end {A b V S U q:Int} (hS:0<S) (hb:0<b) (hV:V=b*S) (h:U+V*q=A*S) (h0:0≤U) (h1:U<V):A/b=q∧U=S*(A%b):=by
 have e:U=S*(A-b*q):=by
  rw [Int.mul_sub,Int.mul_comm S A]
  have:S*(b*q)=V*q:=by rw [hV,←Int.mul_assoc,Int.mul_comm S b]
  omega
 have g0:0≤A-q*b:=by
  rw [Int.mul_comm q b]
  refine Int.not_lt.1 fun hn=> ?_
  have:=Int.mul_lt_mul_of_pos_left hn hS
  omega
 have g1:A-q*b<b:=by
  rw [Int.mul_comm q b]
  refine Int.not_le.1 fun hn=> ?_
  have:=Int.mul_le_mul_of_nonneg_left hn (Int.le_of_lt hS)
  rw [←e,Int.mul_comm S b,←hV]at this
  omega
 obtain⟨k1,k2⟩:=quot_of hb g0 g1
 exact⟨k1,by rw [e,k2,Int.mul_comm b q]⟩
end Go.Proofs.YtccmlbinkgbpgaaGreatDoor
/- math/bits: LeadingZeros64, Div64. -/
namespace Go.Proofs.YtccmlbinkgbpgaaGreatDoor
open Go.RowKit Sv
set_option maxRecDepth 100000
set_option linter.unusedVariables false
noncomputable section
def lzI (x:Int):Int:=64-(Lib.bitLen x.toNat:Int)
def okU (x:Int):Bool:=decide (0≤x)&&decide (x<18446744073709551616)
noncomputable def cLz:Ctr:={f:=160,ps:=[tU],rs:=[.int .i64],fresh:=true,pre:=fun d=>okU d.1,fn:=fun d=>(lzI d.1,())}
noncomputable def BDiv:Code:=(Tryz.f158.body).getD .skip
noncomputable def dvCs:VCaller:=ctrs [cLz]
abbrev dL1:List Nat:=[1,1,1,1,1,1,1,1,1,1,1,1,1,1,0,0,0]
abbrev dL2:List Nat:=[1,1,1,1,1,1,1,1,1,1,1,1,1,1,1,1,1,1,0,0,0]
def SD1 (Y s v1 v2 X c d q r:Int):St:={n:=135,sl:=[(2,uv Y),(8,uv s),(9,uv v1),(10,uv v2),(11,uv X),(13,uv c),(14,uv d),(15,uv q),(16,uv r)],en:=[],next:=64}
def SD2 (Y s v1 v2 d p X q r:Int):St:={n:=135,sl:=[(2,uv Y),(8,uv s),(9,uv v1),(10,uv v2),(14,uv d),(15,uv p),(17,uv X),(18,uv q),(16,uv r)],en:=[],next:=64}
theorem dv_zero (hi lo y:Int) (h1:¬y=0) (h2:¬y≤hi) (h3:hi=0) (h4:y≠0) (h5:(IntKind.wrap IntKind.u64 (Int.tdiv lo y))=(lo/y)) (h6:(Int.tmod lo y)=(lo%y)):
  Tst.path (vrun0 Tryz.prog dvCs (fl BDiv []) 9 135 [uv hi,uv lo,uv y]) [false,false,true] (toRet Tryz.prog Tryz.f158 true (.tuple [uv (lo/y),uv (lo%y)])):=
 mp (an (beq_eq_false_iff_ne.mpr h1) (an (decide_eq_false h2) (an (beq_iff_eq.mpr h3) (an (decide_eq_true h4) (an (decide_eq_true h4) (an h5 (an h6 trivial)))))))
theorem dv_start (hi lo y Y s v1 v2 X c d q r:Int) (h1:¬y=0) (h2:¬y≤hi) (h3:¬hi=0) (h4:(okU y)=true) (h5:(0:Int)≤IntKind.wrap IntKind.u64 (lzI y)) (h6:(0:Int)≤IntKind.wrap IntKind.u64 ((64:Int)-IntKind.wrap IntKind.u64 (lzI y))) (h7:Int.fdiv (IntKind.wrap IntKind.u64 (y*(2:Int)^min (Int.toNat (IntKind.wrap IntKind.u64 (lzI y))) (64:Nat))) ((2:Int)^min (Int.toNat (32:Int)) (64:Nat))≠0) (h8:(IntKind.wrap IntKind.u64 (y*(2:Int)^min (Int.toNat (IntKind.wrap IntKind.u64 (lzI y))) (64:Nat)))=(Y)) (h9:(IntKind.wrap IntKind.u64 (lzI y))=(s)) (h10:(Int.fdiv (IntKind.wrap IntKind.u64 (y*(2:Int)^min (Int.toNat (IntKind.wrap IntKind.u64 (lzI y))) (64:Nat))) ((2:Int)^min (Int.toNat (32:Int)) (64:Nat)))=(v1)) (h11:(IntKind.wrap IntKind.u64 (↑(BitVec.toNat (BitVec.ofInt (64:Nat) (IntKind.wrap IntKind.u64 (y*(2:Int)^min (Int.toNat (IntKind.wrap IntKind.u64 (lzI y))) (64:Nat))) &&& BitVec.ofInt (64:Nat) (4294967295:Int))):Int))=(v2)) (h12:(IntKind.wrap IntKind.u64 (↑(BitVec.toNat (BitVec.ofInt (64:Nat) (IntKind.wrap IntKind.u64 (hi*(2:Int)^min (Int.toNat (IntKind.wrap IntKind.u64 (lzI y))) (64:Nat)))|||BitVec.ofInt (64:Nat) (Int.fdiv lo ((2:Int)^min (Int.toNat (IntKind.wrap IntKind.u64 ((64:Int)-IntKind.wrap IntKind.u64 (lzI y)))) (64:Nat))))):Int))=(X)) (h13:(Int.fdiv (IntKind.wrap IntKind.u64 (lo*(2:Int)^min (Int.toNat (IntKind.wrap IntKind.u64 (lzI y))) (64:Nat))) ((2:Int)^min (Int.toNat (32:Int)) (64:Nat)))=(c)) (h14:(IntKind.wrap IntKind.u64 (↑(BitVec.toNat (BitVec.ofInt (64:Nat) (IntKind.wrap IntKind.u64 (lo*(2:Int)^min (Int.toNat (IntKind.wrap IntKind.u64 (lzI y))) (64:Nat))) &&& BitVec.ofInt (64:Nat) (4294967295:Int))):Int))=(d)) (h15:(IntKind.wrap IntKind.u64 (Int.tdiv (IntKind.wrap IntKind.u64 (↑(BitVec.toNat (BitVec.ofInt (64:Nat) (IntKind.wrap IntKind.u64 (hi*(2:Int)^min (Int.toNat (IntKind.wrap IntKind.u64 (lzI y))) (64:Nat)))|||BitVec.ofInt (64:Nat) (Int.fdiv lo ((2:Int)^min (Int.toNat (IntKind.wrap IntKind.u64 ((64:Int)-IntKind.wrap IntKind.u64 (lzI y)))) (64:Nat))))):Int)) (Int.fdiv (IntKind.wrap IntKind.u64 (y*(2:Int)^min (Int.toNat (IntKind.wrap IntKind.u64 (lzI y))) (64:Nat))) ((2:Int)^min (Int.toNat (32:Int)) (64:Nat)))))=(q)) (h16:(IntKind.wrap IntKind.u64 (IntKind.wrap IntKind.u64 (↑(BitVec.toNat (BitVec.ofInt (64:Nat) (IntKind.wrap IntKind.u64 (hi*(2:Int)^min (Int.toNat (IntKind.wrap IntKind.u64 (lzI y))) (64:Nat)))|||BitVec.ofInt (64:Nat) (Int.fdiv lo ((2:Int)^min (Int.toNat (IntKind.wrap IntKind.u64 ((64:Int)-IntKind.wrap IntKind.u64 (lzI y)))) (64:Nat))))):Int)-IntKind.wrap IntKind.u64 (IntKind.wrap IntKind.u64 (Int.tdiv (IntKind.wrap IntKind.u64 (↑(BitVec.toNat (BitVec.ofInt (64:Nat) (IntKind.wrap IntKind.u64 (hi*(2:Int)^min (Int.toNat (IntKind.wrap IntKind.u64 (lzI y))) (64:Nat)))|||BitVec.ofInt (64:Nat) (Int.fdiv lo ((2:Int)^min (Int.toNat (IntKind.wrap IntKind.u64 ((64:Int)-IntKind.wrap IntKind.u64 (lzI y)))) (64:Nat))))):Int)) (Int.fdiv (IntKind.wrap IntKind.u64 (y*(2:Int)^min (Int.toNat (IntKind.wrap IntKind.u64 (lzI y))) (64:Nat))) ((2:Int)^min (Int.toNat (32:Int)) (64:Nat))))*Int.fdiv (IntKind.wrap IntKind.u64 (y*(2:Int)^min (Int.toNat (IntKind.wrap IntKind.u64 (lzI y))) (64:Nat))) ((2:Int)^min (Int.toNat (32:Int)) (64:Nat)))))=(r)):
  Tst.path (vrun0 Tryz.prog dvCs (fl BDiv []) 17 135 [uv hi,uv lo,uv y]) [false,false,false] (toSt Tryz.prog 135 .normal [] (SD1 Y s v1 v2 X c d q r)):=
 mp (an (beq_eq_false_iff_ne.mpr h1) (an (decide_eq_false h2) (an (beq_eq_false_iff_ne.mpr h3) (an h4 (an (decide_eq_true h5) (an rt (an (decide_eq_true h5) (an (decide_eq_true h6) (an (decide_eq_true h5) (an rt (an (decide_eq_true h7) (an h8 (an h9 (an h10 (an h11 (an h12 (an h13 (an h14 (an h15 (an h16 trivial))))))))))))))))))))
theorem d1_a (Y s v1 v2 X c d q r:Int) (h1:q≥4294967296) (h2:IntKind.wrap IntKind.u64 (r+v1)≥4294967296) (h3:(IntKind.wrap IntKind.u64 (q-1))=(q-1)) (h4:(IntKind.wrap IntKind.u64 (r+v1))=(r+v1)):
  Tst.path (vall Tryz.prog dvCs (fl BDiv dL1) (SD1 Y s v1 v2 X c d q r)) [false,false,false,false,false,false,false,false,true,true,true] (toSt Tryz.prog 135 (.exit 0) [] (SD1 Y s v1 v2 X c d (q-1) (r+v1))):=
 mp (an (bF (decide_eq_true h1)) (an (bF (decide_eq_true h1)) (an (bF (decide_eq_true h1)) (an (bF (decide_eq_true h1)) (an (bF (decide_eq_true h1)) (an (bF (decide_eq_true h1)) (an (bF (decide_eq_true h1)) (an (bF (decide_eq_true h1)) (an (decide_eq_true h1) (an rt (an (decide_eq_true h2) (an (rr Y) (an (rr s) (an (rr v1) (an (rr v2) (an (rr X) (an (rr c) (an (rr d) (an h3 (an h4 trivial))))))))))))))))))))
theorem d1_b (Y s v1 v2 X c d q r:Int) (h1:q≥4294967296) (h2:¬IntKind.wrap IntKind.u64 (r+v1)≥4294967296) (h3:(IntKind.wrap IntKind.u64 (q-1))=(q-1)) (h4:(IntKind.wrap IntKind.u64 (r+v1))=(r+v1)):
  Tst.path (vall Tryz.prog dvCs (fl BDiv dL1) (SD1 Y s v1 v2 X c d q r)) [false,false,false,false,false,false,false,false,true,true,false] (toSt Tryz.prog 135 .normal [] (SD1 Y s v1 v2 X c d (q-1) (r+v1))):=
 mp (an (bF (decide_eq_true h1)) (an (bF (decide_eq_true h1)) (an (bF (decide_eq_true h1)) (an (bF (decide_eq_true h1)) (an (bF (decide_eq_true h1)) (an (bF (decide_eq_true h1)) (an (bF (decide_eq_true h1)) (an (bF (decide_eq_true h1)) (an (decide_eq_true h1) (an rt (an (decide_eq_false h2) (an (rr Y) (an (rr s) (an (rr v1) (an (rr v2) (an (rr X) (an (rr c) (an (rr d) (an h3 (an h4 trivial))))))))))))))))))))
theorem d1_c (Y s v1 v2 X c d q r:Int) (h1:¬q≥4294967296) (h2:IntKind.wrap IntKind.u64 (q*v2)>IntKind.wrap IntKind.u64 (IntKind.wrap IntKind.u64 ((4294967296:Int)*r)+c)) (h3:IntKind.wrap IntKind.u64 (r+v1)≥4294967296) (h4:(IntKind.wrap IntKind.u64 (q-1))=(q-1)) (h5:(IntKind.wrap IntKind.u64 (r+v1))=(r+v1)):
  Tst.path (vall Tryz.prog dvCs (fl BDiv dL1) (SD1 Y s v1 v2 X c d q r)) [true,true,true,true,true,true,true,true,false,true,true] (toSt Tryz.prog 135 (.exit 0) [] (SD1 Y s v1 v2 X c d (q-1) (r+v1))):=
 mp (an (bF (decide_eq_false h1)) (an (bF (decide_eq_false h1)) (an (bF (decide_eq_false h1)) (an (bF (decide_eq_false h1)) (an (bF (decide_eq_false h1)) (an (bF (decide_eq_false h1)) (an (bF (decide_eq_false h1)) (an (bF (decide_eq_false h1)) (an (decide_eq_false h1) (an (decide_eq_true h2) (an (decide_eq_true h3) (an (rr Y) (an (rr s) (an (rr v1) (an (rr v2) (an (rr X) (an (rr c) (an (rr d) (an h4 (an h5 trivial))))))))))))))))))))
theorem d1_d (Y s v1 v2 X c d q r:Int) (h1:¬q≥4294967296) (h2:IntKind.wrap IntKind.u64 (q*v2)>IntKind.wrap IntKind.u64 (IntKind.wrap IntKind.u64 ((4294967296:Int)*r)+c)) (h3:¬IntKind.wrap IntKind.u64 (r+v1)≥4294967296) (h4:(IntKind.wrap IntKind.u64 (q-1))=(q-1)) (h5:(IntKind.wrap IntKind.u64 (r+v1))=(r+v1)):
  Tst.path (vall Tryz.prog dvCs (fl BDiv dL1) (SD1 Y s v1 v2 X c d q r)) [true,true,true,true,true,true,true,true,false,true,false] (toSt Tryz.prog 135 .normal [] (SD1 Y s v1 v2 X c d (q-1) (r+v1))):=
 mp (an (bF (decide_eq_false h1)) (an (bF (decide_eq_false h1)) (an (bF (decide_eq_false h1)) (an (bF (decide_eq_false h1)) (an (bF (decide_eq_false h1)) (an (bF (decide_eq_false h1)) (an (bF (decide_eq_false h1)) (an (bF (decide_eq_false h1)) (an (decide_eq_false h1) (an (decide_eq_true h2) (an (decide_eq_false h3) (an (rr Y) (an (rr s) (an (rr v1) (an (rr v2) (an (rr X) (an (rr c) (an (rr d) (an h4 (an h5 trivial))))))))))))))))))))
theorem d1_e (Y s v1 v2 X c d q r:Int) (h1:¬q≥4294967296) (h2:¬IntKind.wrap IntKind.u64 (q*v2)>IntKind.wrap IntKind.u64 (IntKind.wrap IntKind.u64 ((4294967296:Int)*r)+c)):
  Tst.path (vall Tryz.prog dvCs (fl BDiv dL1) (SD1 Y s v1 v2 X c d q r)) [true,true,true,true,true,true,true,true,false,false] (toSt Tryz.prog 135 (.exit 0) [] (SD1 Y s v1 v2 X c d q r)):=
 mp (an (bF (decide_eq_false h1)) (an (bF (decide_eq_false h1)) (an (bF (decide_eq_false h1)) (an (bF (decide_eq_false h1)) (an (bF (decide_eq_false h1)) (an (bF (decide_eq_false h1)) (an (bF (decide_eq_false h1)) (an (bF (decide_eq_false h1)) (an (decide_eq_false h1) (an (decide_eq_false h2) (an (rr Y) (an (rr s) (an (rr v1) (an (rr v2) (an (rr X) (an (rr c) (an (rr d) (an (rr q) (an (rr r) trivial)))))))))))))))))))
theorem d_mid (Y s v1 v2 X c d q r X2 q2 r2:Int) (h1:v1≠0) (h2:(IntKind.wrap IntKind.u64 (IntKind.wrap IntKind.u64 (IntKind.wrap IntKind.u64 (X*(4294967296:Int))+c)-IntKind.wrap IntKind.u64 (q*Y)))=(X2)) (h3:(IntKind.wrap IntKind.u64 (Int.tdiv (IntKind.wrap IntKind.u64 (IntKind.wrap IntKind.u64 (IntKind.wrap IntKind.u64 (X*(4294967296:Int))+c)-IntKind.wrap IntKind.u64 (q*Y))) v1))=(q2)) (h4:(IntKind.wrap IntKind.u64 (IntKind.wrap IntKind.u64 (IntKind.wrap IntKind.u64 (IntKind.wrap IntKind.u64 (X*(4294967296:Int))+c)-IntKind.wrap IntKind.u64 (q*Y))-IntKind.wrap IntKind.u64 (IntKind.wrap IntKind.u64 (Int.tdiv (IntKind.wrap IntKind.u64 (IntKind.wrap IntKind.u64 (IntKind.wrap IntKind.u64 (X*(4294967296:Int))+c)-IntKind.wrap IntKind.u64 (q*Y))) v1)*v1)))=(r2)):
  Tst.path (vrun Tryz.prog dvCs (List.drop 18 (fl BDiv [])) 3 (SD1 Y s v1 v2 X c d q r)) [] (toSt Tryz.prog 135 .normal [] (SD2 Y s v1 v2 d q X2 q2 r2)):=
 mp (an (decide_eq_true h1) (an (rr Y) (an (rr s) (an (rr v1) (an (rr v2) (an (rr d) (an (rr q) (an h2 (an h3 (an h4 trivial))))))))))
theorem d2_a (Y s v1 v2 d p X q r:Int) (h1:q≥4294967296) (h2:IntKind.wrap IntKind.u64 (r+v1)≥4294967296) (h3:(IntKind.wrap IntKind.u64 (q-1))=(q-1)) (h4:(IntKind.wrap IntKind.u64 (r+v1))=(r+v1)):
  Tst.path (vall Tryz.prog dvCs (fl BDiv dL2) (SD2 Y s v1 v2 d p X q r)) [false,false,false,false,false,false,false,false,true,true,true] (toSt Tryz.prog 135 (.exit 2) [] (SD2 Y s v1 v2 d p X (q-1) (r+v1))):=
 mp (an (bF (decide_eq_true h1)) (an (bF (decide_eq_true h1)) (an (bF (decide_eq_true h1)) (an (bF (decide_eq_true h1)) (an (bF (decide_eq_true h1)) (an (bF (decide_eq_true h1)) (an (bF (decide_eq_true h1)) (an (bF (decide_eq_true h1)) (an (decide_eq_true h1) (an rt (an (decide_eq_true h2) (an (rr Y) (an (rr s) (an (rr v1) (an (rr v2) (an (rr d) (an (rr p) (an (rr X) (an h3 (an h4 trivial))))))))))))))))))))
theorem d2_b (Y s v1 v2 d p X q r:Int) (h1:q≥4294967296) (h2:¬IntKind.wrap IntKind.u64 (r+v1)≥4294967296) (h3:(IntKind.wrap IntKind.u64 (q-1))=(q-1)) (h4:(IntKind.wrap IntKind.u64 (r+v1))=(r+v1)):
  Tst.path (vall Tryz.prog dvCs (fl BDiv dL2) (SD2 Y s v1 v2 d p X q r)) [false,false,false,false,false,false,false,false,true,true,false] (toSt Tryz.prog 135 .normal [] (SD2 Y s v1 v2 d p X (q-1) (r+v1))):=
 mp (an (bF (decide_eq_true h1)) (an (bF (decide_eq_true h1)) (an (bF (decide_eq_true h1)) (an (bF (decide_eq_true h1)) (an (bF (decide_eq_true h1)) (an (bF (decide_eq_true h1)) (an (bF (decide_eq_true h1)) (an (bF (decide_eq_true h1)) (an (decide_eq_true h1) (an rt (an (decide_eq_false h2) (an (rr Y) (an (rr s) (an (rr v1) (an (rr v2) (an (rr d) (an (rr p) (an (rr X) (an h3 (an h4 trivial))))))))))))))))))))
theorem d2_c (Y s v1 v2 d p X q r:Int) (h1:¬q≥4294967296) (h2:IntKind.wrap IntKind.u64 (q*v2)>IntKind.wrap IntKind.u64 (IntKind.wrap IntKind.u64 ((4294967296:Int)*r)+d)) (h3:IntKind.wrap IntKind.u64 (r+v1)≥4294967296) (h4:(IntKind.wrap IntKind.u64 (q-1))=(q-1)) (h5:(IntKind.wrap IntKind.u64 (r+v1))=(r+v1)):
  Tst.path (vall Tryz.prog dvCs (fl BDiv dL2) (SD2 Y s v1 v2 d p X q r)) [true,true,true,true,true,true,true,true,false,true,true] (toSt Tryz.prog 135 (.exit 2) [] (SD2 Y s v1 v2 d p X (q-1) (r+v1))):=
 mp (an (bF (decide_eq_false h1)) (an (bF (decide_eq_false h1)) (an (bF (decide_eq_false h1)) (an (bF (decide_eq_false h1)) (an (bF (decide_eq_false h1)) (an (bF (decide_eq_false h1)) (an (bF (decide_eq_false h1)) (an (bF (decide_eq_false h1)) (an (decide_eq_false h1) (an (decide_eq_true h2) (an (decide_eq_true h3) (an (rr Y) (an (rr s) (an (rr v1) (an (rr v2) (an (rr d) (an (rr p) (an (rr X) (an h4 (an h5 trivial))))))))))))))))))))
theorem d2_d (Y s v1 v2 d p X q r:Int) (h1:¬q≥4294967296) (h2:IntKind.wrap IntKind.u64 (q*v2)>IntKind.wrap IntKind.u64 (IntKind.wrap IntKind.u64 ((4294967296:Int)*r)+d)) (h3:¬IntKind.wrap IntKind.u64 (r+v1)≥4294967296) (h4:(IntKind.wrap IntKind.u64 (q-1))=(q-1)) (h5:(IntKind.wrap IntKind.u64 (r+v1))=(r+v1)):
  Tst.path (vall Tryz.prog dvCs (fl BDiv dL2) (SD2 Y s v1 v2 d p X q r)) [true,true,true,true,true,true,true,true,false,true,false] (toSt Tryz.prog 135 .normal [] (SD2 Y s v1 v2 d p X (q-1) (r+v1))):=
 mp (an (bF (decide_eq_false h1)) (an (bF (decide_eq_false h1)) (an (bF (decide_eq_false h1)) (an (bF (decide_eq_false h1)) (an (bF (decide_eq_false h1)) (an (bF (decide_eq_false h1)) (an (bF (decide_eq_false h1)) (an (bF (decide_eq_false h1)) (an (decide_eq_false h1) (an (decide_eq_true h2) (an (decide_eq_false h3) (an (rr Y) (an (rr s) (an (rr v1) (an (rr v2) (an (rr d) (an (rr p) (an (rr X) (an h4 (an h5 trivial))))))))))))))))))))
theorem d2_e (Y s v1 v2 d p X q r:Int) (h1:¬q≥4294967296) (h2:¬IntKind.wrap IntKind.u64 (q*v2)>IntKind.wrap IntKind.u64 (IntKind.wrap IntKind.u64 ((4294967296:Int)*r)+d)):
  Tst.path (vall Tryz.prog dvCs (fl BDiv dL2) (SD2 Y s v1 v2 d p X q r)) [true,true,true,true,true,true,true,true,false,false] (toSt Tryz.prog 135 (.exit 2) [] (SD2 Y s v1 v2 d p X q r)):=
 mp (an (bF (decide_eq_false h1)) (an (bF (decide_eq_false h1)) (an (bF (decide_eq_false h1)) (an (bF (decide_eq_false h1)) (an (bF (decide_eq_false h1)) (an (bF (decide_eq_false h1)) (an (bF (decide_eq_false h1)) (an (bF (decide_eq_false h1)) (an (decide_eq_false h1) (an (decide_eq_false h2) (an (rr Y) (an (rr s) (an (rr v1) (an (rr v2) (an (rr d) (an (rr p) (an (rr X) (an (rr q) (an (rr r) trivial)))))))))))))))))))
theorem d_end (Y s v1 v2 d p X q r a b:Int) (h1:(0:Int)≤s) (h2:(IntKind.wrap IntKind.u64 (IntKind.wrap IntKind.u64 (p*(4294967296:Int))+q))=(a)) (h3:(Int.fdiv (IntKind.wrap IntKind.u64 (IntKind.wrap IntKind.u64 (IntKind.wrap IntKind.u64 (X*(4294967296:Int))+d)-IntKind.wrap IntKind.u64 (q*Y))) ((2:Int)^min (Int.toNat s) (64:Nat)))=(b)):
  Tst.path (vall Tryz.prog dvCs (List.drop 22 (fl BDiv [])) (SD2 Y s v1 v2 d p X q r)) [] (toRet Tryz.prog Tryz.f158 true (.tuple [uv a,uv b])):=
 mp (an (decide_eq_true h1) (an h2 (an h3 trivial)))
def div64Q (hi lo y:Int):Int:=(hi*18446744073709551616+lo)/y
def div64R (hi lo y:Int):Int:=(hi*18446744073709551616+lo)%y
def okD (hi lo y:Int):Bool:=(decide (0≤hi)&&decide (hi<y))&&(okU lo&&okU y)
noncomputable def cDiv64:Ctr:={f:=158,ps:=[tU,tU,tU],rs:=[tU,tU],fresh:=true,pre:=fun d=>okD d.1 d.2.1 d.2.2.1,fn:=fun d=>(div64Q d.1 d.2.1 d.2.2.1,(div64R d.1 d.2.1 d.2.2.1,()))}
theorem okU_iff {x:Int}:okU x=true↔0≤x∧x<18446744073709551616:=by
 unfold okU
 rw [Bool.and_eq_true,decide_eq_true_eq,decide_eq_true_eq]
theorem cLz_ok:cLz.Ok Tryz.prog:=fun⟨x,_⟩ h w F xs hF hG hd=>by
 have h:=okU_iff.1 h
 cases hd with
 |cons d1 d2=>
  cases d2
  rw [d1.raw_eq]
  refine(Tryz.bits_LeadingZeros64 x w h.1 (by omega)).mono fun e w' ⟨h1,h2⟩=> ?_
  subst h2
  exact⟨_,⟨F.at',fun _=>none⟩,h1, .raw _,⟨hF.glob,hF.all,fun b A h=>by cases h⟩,(fun b A h=>by cases h),Below.refl _ _⟩
theorem wrapU_mod (z:Int):IntKind.wrap .u64 z=z%18446744073709551616:=by
 unfold IntKind.wrap
 have e:IntKind.signed .u64=false:=rfl
 have e2:IntKind.bits .u64=64:=rfl
 simp only [e,e2,Bool.false_and,Bool.false_eq_true,if_false]
 rfl
theorem andU_mask {a:Int} (h:0≤a∧a<18446744073709551616):IntKind.wrap .u64 (((BitVec.ofInt 64 a &&& BitVec.ofInt 64 4294967295).toNat:Nat):Int)=a%4294967296:=by
 obtain⟨A,rfl⟩:∃A:Nat,a=(A:Int):=⟨a.toNat,by omega⟩
 have hA:A<2^64:=by have e64:((2^64:Nat):Int)=18446744073709551616:=rfl;rw [←e64]at h;exact Int.ofNat_lt.1 h.2
 rw [BitVec.toNat_and,BitVec.ofInt_natCast,BitVec.toNat_ofNat,Nat.mod_eq_of_lt hA]
 rw [show(BitVec.ofInt 64 4294967295).toNat=2^32-1 from rfl,Nat.and_two_pow_sub_one_eq_mod]
 have:A%2^32<2^32:=Nat.mod_lt _ (by decide)
 rw [wrapU (by have e:(2:Nat)^32=4294967296:=rfl;omega)]
 rfl
theorem orU_comm (a b:Int):orU a b=orU b a:=by unfold orU;rw [BitVec.or_comm]
theorem bitLen_zero:∀f:Nat,Lib.bitLenAux f 0=0
 |0=>rfl
 |f+1=>by unfold Lib.bitLenAux;rw [if_pos rfl]
theorem bitLen_spec:∀(f x:Nat),x<2^f→0<x→2^(Lib.bitLenAux f x-1)≤x∧x<2^Lib.bitLenAux f x∧1≤Lib.bitLenAux f x∧Lib.bitLenAux f x≤f:=by
 intro f
 induction f with
 |zero=>intro x h h0;simp at h;omega
 |succ f ih=>
  intro x h h0
  unfold Lib.bitLenAux
  rw [if_neg (by omega)]
  by_cases h1:x=1
  ·subst h1
   rw [show 1/2=0 from rfl,bitLen_zero]
   simp
  ·obtain⟨g1,g2,g3,g4⟩:=ih (x/2) (by rw [Nat.pow_succ]at h;omega) (by omega)
   generalize Lib.bitLenAux f (x/2)=L at*
   obtain⟨l,rfl⟩:∃l,L=l+1:=⟨L-1,by omega⟩
   rw [show 1+(l+1)-1=l+1 by omega,show 1+(l+1)=l+1+1 by omega]
   rw [Nat.add_sub_cancel]at g1
   rw [Nat.pow_succ]at g2
   rw [Nat.pow_succ,Nat.pow_succ]
   omega
theorem lz_spec {x:Int} (h:0<x∧x<18446744073709551616):∃s:Nat,lzI x=s∧s≤63∧9223372036854775808≤x*2^s∧x*2^s<18446744073709551616:=by
 obtain⟨X,rfl⟩:∃X:Nat,x=(X:Int):=⟨x.toNat,by omega⟩
 have e64:((2^64:Nat):Int)=18446744073709551616:=rfl
 have hX:X<2^64:=by rw [←e64]at h;exact Int.ofNat_lt.1 h.2
 obtain⟨g1,g2,g3,g4⟩:=bitLen_spec 64 X hX (by omega)
 refine⟨64-Lib.bitLenAux 64 X, ?_,by omega, ?_, ?_⟩
 ·unfold lzI Lib.bitLen
  rw [Int.toNat_natCast];omega
 ·generalize Lib.bitLenAux 64 X=L at*
  have h1:2^(L-1)*2^(64-L)≤X*2^(64-L):=Nat.mul_le_mul_right _ g1
  rw [←Nat.pow_add,show L-1+(64-L)=63 by omega]at h1
  have e:((X*2^(64-L):Nat):Int)=(X:Int)*2^(64-L):=by rw [Int.natCast_mul,Int.natCast_pow];rfl
  have e63:((2^63:Nat):Int)=9223372036854775808:=rfl
  rw [←e,←e63];exact Int.ofNat_le.2 h1
 ·generalize Lib.bitLenAux 64 X=L at*
  have h1:X*2^(64-L)<2^L*2^(64-L):=Nat.mul_lt_mul_of_pos_right g2 (Nat.pow_pos (by decide))
  rw [←Nat.pow_add,show L+(64-L)=64 by omega]at h1
  have e:((X*2^(64-L):Nat):Int)=(X:Int)*2^(64-L):=by rw [Int.natCast_mul,Int.natCast_pow];rfl
  rw [←e,←e64];exact Int.ofNat_lt.2 h1
section
variable {b v1 v2 X c q r:Int}
theorem dq_eq (h:q*v1+r=X):q*(v1*b+v2)=X*b-r*b+q*v2:=by subst h;grind
theorem dq_stop (hY:0<v1*b+v2) (h:q*v1+r=X) (hq:(X*b+c)/(v1*b+v2)≤q) (hle:q*v2≤b*r+c):(X*b+c)/(v1*b+v2)=q:=by
 have h1:q*(v1*b+v2)≤X*b+c:=by rw [dq_eq h,Int.mul_comm r b];omega
 have:=(Int.le_ediv_iff_mul_le hY).2 h1
 omega
theorem dq_go (hY:0<v1*b+v2) (hX:X<v1*b+v2) (hb:0<b) (hc:c<b) (h:q*v1+r=X) (hgt:b≤q∨b*r+c<q*v2):(X*b+c)/(v1*b+v2)≤q-1:=by
 have h1:X*b+c<q*(v1*b+v2):=by
  rcases hgt with hgt|hgt
  ·have a1:=Int.mul_le_mul_of_nonneg_right hgt (Int.le_of_lt hY)
   have a2:=Int.mul_le_mul_of_nonneg_right (show X≤v1*b+v2-1 by omega) (Int.le_of_lt hb)
   rw [Int.sub_mul,Int.one_mul,Int.mul_comm (v1*b+v2)]at a2
   omega
  ·rw [dq_eq h,Int.mul_comm r b];omega
 have:=(Int.ediv_lt_iff_lt_mul hY).2 h1
 omega
theorem dq_far (hv1:0≤v1) (hX:X<v1*b+v2) (hv2:0≤v2∧v2<b) (hc:0≤c) (h:q*v1+r=X) (h0:0≤q) (hr:b≤r):q*v2≤b*r+c:=by
 have hqb:q<b:=by
  refine Int.not_le.1 fun hn=> ?_
  have:=Int.mul_le_mul_of_nonneg_right hn hv1
  rw [Int.mul_comm b v1]at this
  omega
 have a1:q*v2≤b*b:=Int.mul_le_mul (Int.le_of_lt hqb) (Int.le_of_lt hv2.2) hv2.1 (by omega)
 have a2:=Int.mul_le_mul_of_nonneg_left hr (show 0≤b by omega)
 omega
end
theorem mul_lt32 {q v:Int} (h0:0≤q) (hq:q<4294967296) (hv:0≤v∧v<4294967296):0≤q*v∧q*v<18446744073709551616:=by
 refine⟨Int.mul_nonneg h0 hv.1, ?_⟩
 have:=Int.mul_le_mul (show q≤4294967295 by omega) (show v≤4294967295 by omega) hv.1 (by decide)
 omega
structure DP (v1 v2 X c Y:Int):Prop where
 y:Y=v1*4294967296+v2
 v1:2147483648≤v1∧v1<4294967296
 v2:0≤v2∧v2<4294967296
 x:0≤X∧X<Y
 c:0≤c∧c<4294967296
theorem DP.start {v1 v2 X c Y:Int} (p:DP v1 v2 X c Y):X.tdiv v1*v1+(X-X.tdiv v1*v1)=X∧(X*4294967296+c)/Y≤X.tdiv v1∧0≤X.tdiv v1∧0≤X-X.tdiv v1*v1∧X-X.tdiv v1*v1<4294967296∧X.tdiv v1<18446744073709551616:=by
 have hv:=p.v1
 have hx:=p.x
 have hy:=p.y
 have hv2:=p.v2
 have e:X.tdiv v1=X/v1:=Int.tdiv_eq_ediv_of_nonneg hx.1
 rw [e]
 have h1:=Int.emod_add_mul_ediv X v1
 have h2:=Int.emod_nonneg X (show v1≠0 by omega)
 have h3:=Int.emod_lt_of_pos X (show 0<v1 by omega)
 rw [Int.mul_comm]at h1
 have h4:0≤X/v1:=Int.ediv_nonneg hx.1 (by omega)
 have h5:X/v1≤X:=Int.ediv_le_self _ hx.1
 refine⟨by omega, ?_,h4,by omega,by omega,by omega⟩
 have hY:0<Y:=by omega
 have hc:=p.c
 have key:X*4294967296+c<(X/v1+1)*Y:=by
  have a1:(X/v1+1)*Y=(X/v1*v1+v1)*4294967296+(X/v1+1)*v2:=by rw [hy];grind
  have a2:=Int.mul_nonneg (show 0≤X/v1+1 by omega) hv2.1
  omega
 have:=(Int.ediv_lt_iff_lt_mul hY).2 key
 omega
theorem DP.lim {v1 v2 X c Y q r:Int} (p:DP v1 v2 X c Y) (h0:0≤q) (hq:q<4294967296) (hr:0≤r∧r<4294967296):IntKind.wrap .u64 (q*v2)=q*v2∧IntKind.wrap .u64 (IntKind.wrap .u64 (4294967296*r)+c)=4294967296*r+c:=by
 have hc:=p.c
 exact⟨wrapU (mul_lt32 h0 hq p.v2),by rw [wrapU (x:=4294967296*r) (by omega),wrapU (by omega)]⟩
theorem div64_holds (hi lo y:Int) (h:okD hi lo y=true):Holds Tryz.prog true 158 [uv hi,uv lo,uv y] (.tuple [uv (div64Q hi lo y),uv (div64R hi lo y)]):=by
 unfold okD at h
 simp only [Bool.and_eq_true,decide_eq_true_eq,okU_iff]at h
 obtain⟨⟨hi0,hiy⟩,⟨lo0,lo1⟩,y0,y1⟩:=h
 have hS:=one_ok cLz_ok
 refine holds_fl (c:=BDiv) Tryz.func158 rfl rfl fun w F=> ?_
 by_cases hz:hi=0
 ·have e1:div64Q hi lo y=lo/y:=by unfold div64Q;rw [hz,Int.zero_mul,Int.zero_add]
  have e2:div64R hi lo y=lo%y:=by unfold div64R;rw [hz,Int.zero_mul,Int.zero_add]
  rw [e1,e2]
  refine GoalL.ret known mixed hS 9 _ (dv_zero hi lo y (by omega) (by omega) hz (by omega) ?_ (Int.tmod_eq_emod_of_nonneg lo0)) fun T H h=>h
  rw [Int.tdiv_eq_ediv_of_nonneg lo0]
  exact wrapU ⟨Int.ediv_nonneg lo0 (by omega),by have:=Int.ediv_le_self y lo0;omega⟩
 ·obtain⟨s,hs,hs63,hY0,hY1⟩:=lz_spec (x:=y) (by omega)
  have hws:IntKind.wrap .u64 (lzI y)=(s:Int):=by rw [hs];exact wrapU (by omega)
  have hws2:IntKind.wrap .u64 (64-(s:Int))=((64-s:Nat):Int):=by rw [wrapU (by omega)];omega
  have hp:(0:Int)<2^s:=pow_pos' (by decide) _
  obtain⟨l1,l2,l3,l4⟩:=word_split (x:=lo) (s:=s) (by omega) ⟨lo0,lo1⟩
  generalize hYe:y*2^s=Y at*
  have hhi:0≤hi*2^s∧hi*2^s+2^s≤Y:=by
   refine⟨Int.mul_nonneg hi0 (Int.le_of_lt hp), ?_⟩
   have:=Int.mul_le_mul_of_nonneg_right (show hi+1≤y by omega) (Int.le_of_lt hp)
   rw [Int.add_mul,Int.one_mul]at this
   omega
  generalize hX:hi*2^s+lo/2^(64-s)=X
  generalize hL:lo*2^s%18446744073709551616=L at*
  have hL1:0≤L∧L<18446744073709551616:=by rw [←hL];exact⟨Int.emod_nonneg _ (by decide),Int.emod_lt_of_pos _ (by decide)⟩
  have dp1:DP (Y/4294967296) (Y%4294967296) X (L/4294967296) Y:=⟨by omega,by omega,by omega,by omega,by omega⟩
  obtain⟨k1,k2,k3,k4,k5,k6⟩:=dp1.start
  have hmin:min s 64=s:=by omega
  have hmin2:min (64-s) 64=64-s:=by omega
  have hwY:IntKind.wrap .u64 Y=Y:=wrapU (by omega)
  have hfd:∀z:Int,Int.fdiv z (2^min (Int.toNat 32) 64)=z/4294967296:=fun z=>by
   rw [show(2:Int)^min (Int.toNat 32) 64=4294967296 from rfl]
   exact Int.fdiv_eq_ediv_of_nonneg _ (by decide)
  have hwL:IntKind.wrap .u64 (lo*2^s)=L:=by rw [wrapU_mod];exact hL
  have hwX:IntKind.wrap .u64 (((BitVec.ofInt 64 (IntKind.wrap .u64 (hi*2^s))|||BitVec.ofInt 64 (Int.fdiv lo (2^(64-s)))).toNat:Nat):Int)=X:=by
   rw [wrapU (x:=hi*2^s) (by omega),Int.fdiv_eq_ediv_of_nonneg _ (Int.le_of_lt (pow_pos' (by decide) _))]
   show orU _ _=_
   rw [orU_comm,orU_add (s:=s) (by omega) l3 hi0 (Int.mul_comm _ _) (by omega),←hX]
   omega
  have A:IntKind.wrap .u64 (y*2^min (Int.toNat (IntKind.wrap .u64 (lzI y))) 64)=Y:=by rw [hws,Int.toNat_natCast,hmin,hYe];exact hwY
  have B:IntKind.wrap .u64 (lo*2^min (Int.toNat (IntKind.wrap .u64 (lzI y))) 64)=L:=by rw [hws,Int.toNat_natCast,hmin];exact hwL
  have C:IntKind.wrap .u64 (((BitVec.ofInt 64 (IntKind.wrap .u64 (hi*2^min (Int.toNat (IntKind.wrap .u64 (lzI y))) 64))|||BitVec.ofInt 64 (Int.fdiv lo (2^min (Int.toNat (IntKind.wrap .u64 (64-IntKind.wrap .u64 (lzI y)))) 64))).toNat:Nat):Int)=X:=by
   rw [hws,hws2,Int.toNat_natCast,Int.toNat_natCast,hmin,hmin2];exact hwX
  have hmd:∀z:Int,0≤z∧z<18446744073709551616→IntKind.wrap .u64 (((BitVec.ofInt 64 z &&& BitVec.ofInt 64 4294967295).toNat:Nat):Int)=z%4294967296:=fun z hz=>andU_mask hz
  have hq1:=wrapU (x:=X.tdiv (Y/4294967296)) ⟨k3,k6⟩
  have hqm:IntKind.wrap .u64 (X.tdiv (Y/4294967296)*(Y/4294967296))=X.tdiv (Y/4294967296)*(Y/4294967296):=wrapU (by have:=dp1.v1;have:=Int.mul_nonneg k3 (show 0≤Y/4294967296 by omega);omega)
  have hr1:=wrapU (x:=X-X.tdiv (Y/4294967296)*(Y/4294967296)) (by omega)
  refine GoalL.to known mixed hS 17 _ (dv_start hi lo y Y s (Y/4294967296) (Y%4294967296) X (L/4294967296) (L%4294967296) (X.tdiv (Y/4294967296)) (X-X.tdiv (Y/4294967296)*(Y/4294967296)) (by omega) (by omega) hz (okU_iff.2 ⟨y0,y1⟩)
   (by rw [hws];omega) (by rw [hws,hws2];omega) (by rw [A,hfd];have:=dp1.v1;omega) A hws (by rw [A,hfd]) (by rw [A];exact hmd Y (by omega)) C (by rw [B,hfd]) (by rw [B];exact hmd L hL1) (by rw [C,A,hfd];exact hq1) (by rw [C,A,hfd,hq1,hqm];exact hr1)) (by kernel_rfl) ?_
  have hN:(hi*18446744073709551616+lo)*2^s=(X*4294967296+L/4294967296)*4294967296+L%4294967296:=by
   have e1:L=L/4294967296*4294967296+L%4294967296:=by omega
   rw [Int.add_mul,Int.mul_right_comm,l2,←l1,←hX]
   omega
  generalize hv1:Y/4294967296=v1 at*
  generalize hv2:Y%4294967296=v2 at*
  generalize hc:L/4294967296=c at*
  generalize hd:L%4294967296=d at*
  have hd2:0≤d∧d<4294967296:=by omega
  have hYp:0<Y:=by omega
  have hdm1:=Int.emod_add_mul_ediv (X*4294967296+c) Y
  have hx0:=Int.emod_nonneg (X*4294967296+c) (show Y≠0 by omega)
  have hx1:=Int.emod_lt_of_pos (X*4294967296+c) hYp
  have dp2:DP v1 v2 ((X*4294967296+c)%Y) d Y:=⟨dp1.y,dp1.v1,dp1.v2,⟨hx0,hx1⟩,hd2⟩
  have rest2:∀r,GoalL Tryz.prog w F 135 (List.drop 22 (fl BDiv [])) (SD2 Y s v1 v2 d ((X*4294967296+c)/Y) ((X*4294967296+c)%Y) (((X*4294967296+c)%Y*4294967296+d)/Y) r).T (SD2 Y s v1 v2 d ((X*4294967296+c)/Y) ((X*4294967296+c)%Y) (((X*4294967296+c)%Y*4294967296+d)/Y) r).H (retQ Tryz.prog true Tryz.f158 (.tuple [uv (div64Q hi lo y),uv (div64R hi lo y)])):=fun r=>by
   have hdm2:=Int.emod_add_mul_ediv ((X*4294967296+c)%Y*4294967296+d) Y
   have hz0:=Int.emod_nonneg ((X*4294967296+c)%Y*4294967296+d) (show Y≠0 by omega)
   have hz1:=Int.emod_lt_of_pos ((X*4294967296+c)%Y*4294967296+d) hYp
   have hq0:0≤(X*4294967296+c)/Y:=Int.ediv_nonneg (by have:=dp1.x;have:=dp1.c;omega) (by omega)
   have hq1':(X*4294967296+c)/Y<4294967296:=Int.ediv_lt_of_lt_mul hYp (by have:=dp1.x;have:=dp1.c;omega)
   have hp0:0≤((X*4294967296+c)%Y*4294967296+d)/Y:=Int.ediv_nonneg (by omega) (by omega)
   have hp1:((X*4294967296+c)%Y*4294967296+d)/Y<4294967296:=Int.ediv_lt_of_lt_mul hYp (by omega)
   generalize (X*4294967296+c)/Y=Q1 at*
   generalize (X*4294967296+c)%Y=X2 at*
   generalize hQ2:(X2*4294967296+d)/Y=Q2 at*
   generalize hX3:(X2*4294967296+d)%Y=X3 at*
   obtain⟨j1,j2⟩:=div_end (A:=hi*18446744073709551616+lo) (b:=y) (V:=Y) (S:=2^s) (U:=X3) (q:=Q1*4294967296+Q2) hp (by omega) hYe.symm (by rw [hN];grind) hz0 hz1
   refine GoalL.allRet (s:=SD2 Y s v1 v2 d Q1 X2 Q2 r) known mixed hS _ (d_end Y s v1 v2 d Q1 X2 Q2 r _ _ (by omega) ?_ ?_) fun T H h=>h
   ·rw [wrapU (x:=Q1*4294967296) (by omega),wrapU (by omega)]
    exact j1.symm
   ·rw [Int.toNat_natCast,hmin,Int.fdiv_eq_ediv_of_nonneg _ (Int.le_of_lt hp)]
    have e:IntKind.wrap .u64 (IntKind.wrap .u64 (IntKind.wrap .u64 (X2*4294967296)+d)-IntKind.wrap .u64 (Q2*Y))=X3:=by
     rw [wrapU_mod,wrapU_mod,wrapU_mod,wrapU_mod]
     rw [Int.mul_comm Y]at hdm2
     generalize Q2*Y=P at*
     omega
    rw [e,j2,Int.mul_ediv_cancel_left _ (by omega)]
    rfl
  have rest1:∀r,GoalL Tryz.prog w F 135 (List.drop 18 (fl BDiv [])) (SD1 Y s v1 v2 X c d ((X*4294967296+c)/Y) r).T (SD1 Y s v1 v2 X c d ((X*4294967296+c)/Y) r).H (retQ Tryz.prog true Tryz.f158 (.tuple [uv (div64Q hi lo y),uv (div64R hi lo y)])):=fun r=>by
   obtain⟨n1,n2,n3,n4,n5,n6⟩:=dp2.start
   have e:IntKind.wrap .u64 (IntKind.wrap .u64 (IntKind.wrap .u64 (X*4294967296)+c)-IntKind.wrap .u64 ((X*4294967296+c)/Y*Y))=(X*4294967296+c)%Y:=by
    rw [wrapU_mod,wrapU_mod,wrapU_mod,wrapU_mod]
    rw [Int.mul_comm Y]at hdm1
    generalize (X*4294967296+c)/Y*Y=P at*
    omega
   have m1:=wrapU (x:=((X*4294967296+c)%Y).tdiv v1) ⟨n3,n6⟩
   have m2:IntKind.wrap .u64 (((X*4294967296+c)%Y).tdiv v1*v1)=((X*4294967296+c)%Y).tdiv v1*v1:=wrapU (by have:=dp1.v1;have:=Int.mul_nonneg n3 (show 0≤v1 by omega);omega)
   refine GoalL.st (s:=SD1 Y s v1 v2 X c d ((X*4294967296+c)/Y) r) known mixed hS 3 _ (d_mid Y s v1 v2 X c d ((X*4294967296+c)/Y) r ((X*4294967296+c)%Y) (((X*4294967296+c)%Y).tdiv v1) ((X*4294967296+c)%Y-((X*4294967296+c)%Y).tdiv v1*v1) (by have:=dp1.v1;omega) e (by rw [e];exact m1) (by rw [e,m1,m2];exact wrapU (by omega))) (by kernel_rfl) ?_
   generalize (X*4294967296+c)%Y=X2 at*
   refine GoalL.loop (ι:={p:Int×Int//p.1*v1+p.2=X2∧(X2*4294967296+d)/Y≤p.1∧0≤p.1∧0≤p.2∧p.2<4294967296∧p.1<18446744073709551616}) (id:=2) (b:=cat BDiv dL2) (rest:=List.drop 22 (fl BDiv [])) (by kernel_rfl) (fun p=>SD2 Y s v1 v2 d ((X*4294967296+c)/Y) X2 p.1.1 p.1.2) (fun p=>p.1.1.toNat) ⟨(X2.tdiv v1,X2-X2.tdiv v1*v1),n1,n2,n3,n4,n5,n6⟩ (fun _=>rfl) ?_
   rintro⟨⟨q,r⟩,a1,a2,a3,a4,a5,a6⟩
   have a1:q*v1+r=X2:=a1
   have a2:(X2*4294967296+d)/Y≤q:=a2
   have a3:0≤q:=a3
   have a4:0≤r:=a4
   have a5:r<4294967296:=a5
   have a6:q<18446744073709551616:=a6
   have hgo:(4294967296≤q∨4294967296*r+d<q*v2)→(X2*4294967296+d)/Y≤q-1:=fun hg=>by
    have:=dp2.y
    subst this
    exact dq_go hYp dp2.x.2 (by decide) hd2.2 a1 hg
   have hp0:0≤(X2*4294967296+d)/Y:=Int.ediv_nonneg (by have:=dp2.x;omega) (by omega)
   have hw1:=wrapU (x:=r+v1) (by have:=dp1.v1;omega)
   have hexit:(4294967296≤q∨4294967296*r+d<q*v2)→4294967296≤r+v1→q-1=(X2*4294967296+d)/Y:=fun hg hr=>by
    have g1:=hgo hg
    have e1:(q-1)*v1+(r+v1)=X2:=by rw [Int.sub_mul,Int.one_mul];omega
    have hf:=dq_far (by have:=dp1.v1;omega) (by have:=dp2.x;have:=dp2.y;omega) dp2.v2 hd2.1 e1 (by omega) hr
    have:=dp2.y
    subst this
    exact(dq_stop hYp e1 g1 hf).symm
   by_cases hqb:q≥4294967296
   ·have hw2:=wrapU (x:=q-1) (by omega)
    by_cases hrb:r+v1≥4294967296
    ·refine GoalL.all (s:=SD2 Y s v1 v2 d ((X*4294967296+c)/Y) X2 q r) known mixed hS _ (d2_a Y s v1 v2 d _ X2 q r hqb (by rw [hw1];exact hrb) hw2 hw1) (by kernel_rfl) ?_
     refine onN_exit (inB_exit ?_)
     rw [hexit (.inl hqb) hrb]
     exact rest2 _
    ·refine GoalL.all (s:=SD2 Y s v1 v2 d ((X*4294967296+c)/Y) X2 q r) known mixed hS _ (d2_b Y s v1 v2 d _ X2 q r hqb (by rw [hw1];exact hrb) hw2 hw1) (by kernel_rfl) ?_
     exact⟨⟨(q-1,r+v1),by show(q-1)*v1+(r+v1)=X2;rw [Int.sub_mul,Int.one_mul];omega,hgo (.inl hqb),by show 0≤q-1;omega,by show 0≤r+v1;have:=dp1.v1;omega,by show r+v1<_;omega,by show q-1<_;omega⟩,by show(q-1).toNat<q.toNat;omega,rfl,rfl⟩
   ·obtain⟨w1,w2⟩:=dp2.lim a3 (by omega) ⟨a4,a5⟩
    by_cases hgt:4294967296*r+d<q*v2
    ·have hq1:1≤q:=by
      by_cases hq0:q=0
      ·rw [hq0,Int.zero_mul]at hgt;omega
      ·omega
     have hw2:=wrapU (x:=q-1) (by omega)
     by_cases hrb:r+v1≥4294967296
     ·refine GoalL.all (s:=SD2 Y s v1 v2 d ((X*4294967296+c)/Y) X2 q r) known mixed hS _ (d2_c Y s v1 v2 d _ X2 q r hqb (by rw [w1,w2];exact hgt) (by rw [hw1];exact hrb) hw2 hw1) (by kernel_rfl) ?_
      refine onN_exit (inB_exit ?_)
      rw [hexit (.inr hgt) hrb]
      exact rest2 _
     ·refine GoalL.all (s:=SD2 Y s v1 v2 d ((X*4294967296+c)/Y) X2 q r) known mixed hS _ (d2_d Y s v1 v2 d _ X2 q r hqb (by rw [w1,w2];exact hgt) (by rw [hw1];exact hrb) hw2 hw1) (by kernel_rfl) ?_
      exact⟨⟨(q-1,r+v1),by show(q-1)*v1+(r+v1)=X2;rw [Int.sub_mul,Int.one_mul];omega,hgo (.inr hgt),by show 0≤q-1;omega,by show 0≤r+v1;have:=dp1.v1;omega,by show r+v1<_;omega,by show q-1<_;omega⟩,by show(q-1).toNat<q.toNat;omega,rfl,rfl⟩
    ·refine GoalL.all (s:=SD2 Y s v1 v2 d ((X*4294967296+c)/Y) X2 q r) known mixed hS _ (d2_e Y s v1 v2 d _ X2 q r hqb (by rw [w1,w2];exact hgt)) (by kernel_rfl) ?_
     refine onN_exit (inB_exit ?_)
     have e1:(X2*4294967296+d)/Y=q:=by
      have:=dp2.y
      subst this
      exact dq_stop hYp a1 a2 (by omega)
     rw [←e1]
     exact rest2 _
  refine GoalL.loop (ι:={p:Int×Int//p.1*v1+p.2=X∧(X*4294967296+c)/Y≤p.1∧0≤p.1∧0≤p.2∧p.2<4294967296∧p.1<18446744073709551616}) (id:=0) (b:=cat BDiv dL1) (rest:=List.drop 18 (fl BDiv [])) (by kernel_rfl) (fun p=>SD1 Y s v1 v2 X c d p.1.1 p.1.2) (fun p=>p.1.1.toNat) ⟨(X.tdiv v1,X-X.tdiv v1*v1),k1,k2,k3,k4,k5,k6⟩ (fun _=>rfl) ?_
  rintro⟨⟨q,r⟩,a1,a2,a3,a4,a5,a6⟩
  have a1:q*v1+r=X:=a1
  have a2:(X*4294967296+c)/Y≤q:=a2
  have a3:0≤q:=a3
  have a4:0≤r:=a4
  have a5:r<4294967296:=a5
  have a6:q<18446744073709551616:=a6
  have hgo:(4294967296≤q∨4294967296*r+c<q*v2)→(X*4294967296+c)/Y≤q-1:=fun hg=>by
   have:=dp1.y
   subst this
   exact dq_go hYp dp1.x.2 (by decide) dp1.c.2 a1 hg
  have hp0:0≤(X*4294967296+c)/Y:=Int.ediv_nonneg (by have:=dp1.x;have:=dp1.c;omega) (by omega)
  have hw1:=wrapU (x:=r+v1) (by have:=dp1.v1;omega)
  have hexit:(4294967296≤q∨4294967296*r+c<q*v2)→4294967296≤r+v1→q-1=(X*4294967296+c)/Y:=fun hg hr=>by
   have g1:=hgo hg
   have e1:(q-1)*v1+(r+v1)=X:=by rw [Int.sub_mul,Int.one_mul];omega
   have hf:=dq_far (by have:=dp1.v1;omega) (by have:=dp1.x;have:=dp1.y;omega) dp1.v2 dp1.c.1 e1 (by omega) hr
   have:=dp1.y
   subst this
   exact(dq_stop hYp e1 g1 hf).symm
  by_cases hqb:q≥4294967296
  ·have hw2:=wrapU (x:=q-1) (by omega)
   by_cases hrb:r+v1≥4294967296
   ·refine GoalL.all (s:=SD1 Y s v1 v2 X c d q r) known mixed hS _ (d1_a Y s v1 v2 X c d q r hqb (by rw [hw1];exact hrb) hw2 hw1) (by kernel_rfl) ?_
    refine onN_exit (inB_exit ?_)
    rw [hexit (.inl hqb) hrb]
    exact rest1 _
   ·refine GoalL.all (s:=SD1 Y s v1 v2 X c d q r) known mixed hS _ (d1_b Y s v1 v2 X c d q r hqb (by rw [hw1];exact hrb) hw2 hw1) (by kernel_rfl) ?_
    exact⟨⟨(q-1,r+v1),by show(q-1)*v1+(r+v1)=X;rw [Int.sub_mul,Int.one_mul];omega,hgo (.inl hqb),by show 0≤q-1;omega,by show 0≤r+v1;have:=dp1.v1;omega,by show r+v1<_;omega,by show q-1<_;omega⟩,by show(q-1).toNat<q.toNat;omega,rfl,rfl⟩
  ·obtain⟨w1,w2⟩:=dp1.lim a3 (by omega) ⟨a4,a5⟩
   by_cases hgt:4294967296*r+c<q*v2
   ·have hq1:1≤q:=by
     by_cases hq0:q=0
     ·rw [hq0,Int.zero_mul]at hgt;omega
     ·omega
    have hw2:=wrapU (x:=q-1) (by omega)
    by_cases hrb:r+v1≥4294967296
    ·refine GoalL.all (s:=SD1 Y s v1 v2 X c d q r) known mixed hS _ (d1_c Y s v1 v2 X c d q r hqb (by rw [w1,w2];exact hgt) (by rw [hw1];exact hrb) hw2 hw1) (by kernel_rfl) ?_
     refine onN_exit (inB_exit ?_)
     rw [hexit (.inr hgt) hrb]
     exact rest1 _
    ·refine GoalL.all (s:=SD1 Y s v1 v2 X c d q r) known mixed hS _ (d1_d Y s v1 v2 X c d q r hqb (by rw [w1,w2];exact hgt) (by rw [hw1];exact hrb) hw2 hw1) (by kernel_rfl) ?_
     exact⟨⟨(q-1,r+v1),by show(q-1)*v1+(r+v1)=X;rw [Int.sub_mul,Int.one_mul];omega,hgo (.inr hgt),by show 0≤q-1;omega,by show 0≤r+v1;have:=dp1.v1;omega,by show r+v1<_;omega,by show q-1<_;omega⟩,by show(q-1).toNat<q.toNat;omega,rfl,rfl⟩
   ·refine GoalL.all (s:=SD1 Y s v1 v2 X c d q r) known mixed hS _ (d1_e Y s v1 v2 X c d q r hqb (by rw [w1,w2];exact hgt)) (by kernel_rfl) ?_
    refine onN_exit (inB_exit ?_)
    have e1:(X*4294967296+c)/Y=q:=by
     have:=dp1.y
     subst this
     exact dq_stop hYp a1 a2 (by omega)
    rw [←e1]
    exact rest1 _
theorem cDiv64_ok:cDiv64.Ok Tryz.prog:=fun⟨hi,lo,y,_⟩ h=>div64_holds hi lo y h
end
end Go.Proofs.YtccmlbinkgbpgaaGreatDoor
/- Package num: a list of words shifted up. -/
namespace Go.Proofs.YtccmlbinkgbpgaaGreatDoor
open Go.RowKit Sv
set_option maxRecDepth 100000
set_option linter.unusedVariables false
noncomputable section
def shlU (x s:Int):Int:=IntKind.wrap .u64 (x*2^min (Int.toNat s) 64)
def shrU (x s:Int):Int:=Int.fdiv x (2^min (Int.toNat s) 64)
noncomputable def BShUp:Code:=(Tryz.f161.body).getD .skip
abbrev suL:List Nat:=[1,1,0,1,0,0]
def SSu (w out:List Int) (s:Int) (i:Nat):St:={n:=40,sl:=[(0,lu w),(1,iv s),(5,obU 64 out),(12,lu w),(13,iv w.length),(14,iv i)],en:=[(64,oeU out)],next:=65}
theorem su_start (w:List Int) (s:Int) (h1: -9223372036854775808≤(↑w.length:Int)+1∧(↑w.length:Int)+1≤9223372036854775807) (h2:Int.toNat ((↑w.length:Int)+1)≤1000000) (h3:(Int.toNat ((↑w.length:Int)+1))=(zerW (w.length+(1:Nat))).length) (h4:(Cap.known (Int.toNat ((↑w.length:Int)+1)))=(Cap.known (w.length+(1:Nat)))) (h5:(capOf (zerW (w.length+(1:Nat))).length)=(capOf (w.length+(1:Nat)))) (h6:(List.flatten (List.replicate (Int.toNat ((↑w.length:Int)+1)) (List.map AV.raw (Array.toList #[Value.int .u64 (0:Int)]))))=(List.flatMap (fun x=>[AV.raw (Value.int .u64 x)]) (zerW (w.length+(1:Nat))))) (h7:(w.length+(1:Nat))=(zerW (w.length+(1:Nat))).length):
  Tst.path (vrun0 Tryz.prog (ctrs []) (fl BShUp []) 3 40 [lu w,iv s]) [] (toSt Tryz.prog 40 .normal [(64,64,some (w.length+1))] (SSu w (zerW (w.length+1)) s 0)):=
 mp (an (fits_i64 h1) (an (show(decide ((0:Int)≤(↑w.length:Int)+1))=true from decide_eq_true (by omega)) (an (show(decide ((0:Int)≤(↑w.length:Int)+1))=true from decide_eq_true (by omega)) (an (show(decide (Int.toNat ((↑w.length:Int)+1)≤Int.toNat ((↑w.length:Int)+1)))=true from decide_eq_true (by omega)) (an (show(bounded (Int.toNat ((↑w.length:Int)+1)) (8:Nat))=true from bounded_of h2 (by omega)) (an (rr w) (an (rr s) (an (an h3 (an h4 h5)) (an (rr w) (an (rr ((↑w.length:Int))) (an (rr ((0:Int))) (an (an h6 h7) trivial))))))))))))
theorem su_two (w out:List Int) (s:Int) (i:Nat) (h1:(↑i:Int)<(↑w.length:Int)) (h2:i<w.length) (h3:i<out.length) (h4:(0:Int)≤s) (h5:s>0) (h6: -9223372036854775808≤(↑i:Int)+1∧(↑i:Int)+1≤9223372036854775807) (h7: -9223372036854775808≤64-s∧(64:Int)-s≤9223372036854775807) (h8:(0:Int)≤64-s) (h9:Int.toNat ((↑i:Int)+1)<out.length) (h10:(ownHas 179 tU (some (ABlk.own 179 (.int .u64) (List.set out i (IntKind.wrap IntKind.u64 (↑(BitVec.toNat (BitVec.ofInt (64:Nat) (List.getD out i (0:Int))|||BitVec.ofInt (64:Nat) (IntKind.wrap IntKind.u64 (List.getD w i (0:Int)*(2:Int)^min (Int.toNat s) (64:Nat))))):Int))))) (Int.toNat ((↑i:Int)+1)))=true) (h11:out.length=(List.set (List.set out i (orU (List.getD out i (0:Int)) (shlU (List.getD w i (0:Int)) s))) (i+(1:Nat)) (shrU (List.getD w i (0:Int)) ((64:Int)-s))).length) (h12:(capOf out.length)=(capOf (List.set (List.set out i (orU (List.getD out i (0:Int)) (shlU (List.getD w i (0:Int)) s))) (i+(1:Nat)) (shrU (List.getD w i (0:Int)) ((64:Int)-s))).length)) (h13:(List.set (List.set out i (IntKind.wrap IntKind.u64 (↑(BitVec.toNat (BitVec.ofInt (64:Nat) (List.getD out i (0:Int))|||BitVec.ofInt (64:Nat) (IntKind.wrap IntKind.u64 (List.getD w i (0:Int)*(2:Int)^min (Int.toNat s) (64:Nat))))):Int))) (Int.toNat ((↑i:Int)+1)) (Int.fdiv (List.getD w i (0:Int)) ((2:Int)^min (Int.toNat ((64:Int)-s)) (64:Nat))))=(List.set (List.set out i (orU (List.getD out i (0:Int)) (shlU (List.getD w i (0:Int)) s))) (i+(1:Nat)) (shrU (List.getD w i (0:Int)) ((64:Int)-s)))):
  Tst.path (vall Tryz.prog (ctrs []) (fl BShUp suL) (SSu w out s i)) [true,true] (toSt Tryz.prog 40 .normal [(64,64,none)] (SSu w ((out.set i (orU (out.getD i 0) (shlU (w.getD i 0) s))).set (i+1) (shrU (w.getD i 0) (64-s))) s (i+1))):=
 mp (an (decide_eq_true h1) (an (show(decide ((0:Int)≤(↑i:Int)))=true from decide_eq_true (by omega)) (an (decide_eq_true h2) (an (show(decide ((0:Int)≤(↑i:Int)))=true from decide_eq_true (by omega)) (an (decide_eq_true h3) (an (show(ownHas 179 tU (optOwn (nat_lit 179) tU out) ((0:Nat)+i))=true from(by simp only [Nat.zero_add]<;>exact(show(ownHas 179 tU (optOwn (nat_lit 179) tU out) i)=true from(by rw [ownHas_optOwn];exact decide_eq_true h3)))) (an (show(ownHas 179 tU (optOwn (nat_lit 179) tU out) ((0:Nat)+i))=true from(by simp only [Nat.zero_add]<;>exact(show(ownHas 179 tU (optOwn (nat_lit 179) tU out) i)=true from(by rw [ownHas_optOwn];exact decide_eq_true h3)))) (an (sr (AV.raw (Value.int .u64 (List.getD (blkXs tU (optOwn (nat_lit 179) tU out)) ((0:Nat)+i) (0:Int))))) (an (decide_eq_true h4) (an (show(decide ((0:Int)≤(↑i:Int)))=true from decide_eq_true (by omega)) (an (decide_eq_true h3) (an (show(ownHas 179 tU (optOwn (nat_lit 179) tU out) ((0:Nat)+i))=true from(by simp only [Nat.zero_add]<;>exact(show(ownHas 179 tU (optOwn (nat_lit 179) tU out) i)=true from(by rw [ownHas_optOwn];exact decide_eq_true h3)))) (an (decide_eq_true h5) (an (fits_i64 h6) (an (fits_i64 h7) (an (decide_eq_true h8) (an (show(decide ((0:Int)≤(↑i:Int)+1))=true from decide_eq_true (by omega)) (an (decide_eq_true h9) (an (show(ownHas 179 tU (some (ABlk.own 179 (.int .u64) (List.set (blkXs tU (optOwn (nat_lit 179) tU out)) ((0:Nat)+i) (IntKind.wrap IntKind.u64 (↑(BitVec.toNat (BitVec.ofInt (64:Nat) (List.getD (blkXs tU (optOwn (nat_lit 179) tU out)) ((0:Nat)+i) (0:Int))|||BitVec.ofInt (64:Nat) (IntKind.wrap IntKind.u64 (List.getD w i (0:Int)*(2:Int)^min (Int.toNat s) (64:Nat))))):Int))))) ((0:Nat)+Int.toNat ((↑i:Int)+1)))=true from(by simp only [blkXs_optOwn,Nat.zero_add]<;>exact(show(ownHas 179 tU (some (ABlk.own 179 (.int .u64) (List.set out i (IntKind.wrap IntKind.u64 (↑(BitVec.toNat (BitVec.ofInt (64:Nat) (List.getD out i (0:Int))|||BitVec.ofInt (64:Nat) (IntKind.wrap IntKind.u64 (List.getD w i (0:Int)*(2:Int)^min (Int.toNat s) (64:Nat))))):Int))))) (Int.toNat ((↑i:Int)+1)))=true from h10))) (an (fits_i64 h6) (an (rr w) (an (rr s) (an (an (rr ((0:Nat))) (an h11 h12)) (an (rr w) (an (rr ((↑w.length:Int))) (an (show((↑i:Int)+1)=((↑(i+(1:Nat)):Int))from(by omega)) (an (show(List.set (List.set (blkXs tU (optOwn (nat_lit 179) tU out)) ((0:Nat)+i) (IntKind.wrap IntKind.u64 (↑(BitVec.toNat (BitVec.ofInt (64:Nat) (List.getD (blkXs tU (optOwn (nat_lit 179) tU out)) ((0:Nat)+i) (0:Int))|||BitVec.ofInt (64:Nat) (IntKind.wrap IntKind.u64 (List.getD w i (0:Int)*(2:Int)^min (Int.toNat s) (64:Nat))))):Int))) ((0:Nat)+Int.toNat ((↑i:Int)+1)) (Int.fdiv (List.getD w i (0:Int)) ((2:Int)^min (Int.toNat ((64:Int)-s)) (64:Nat))))=(List.set (List.set out i (orU (List.getD out i (0:Int)) (shlU (List.getD w i (0:Int)) s))) (i+(1:Nat)) (shrU (List.getD w i (0:Int)) ((64:Int)-s)))from(by simp only [blkXs_optOwn,Nat.zero_add]<;>exact h13)) trivial)))))))))))))))))))))))))))
theorem su_one (w out:List Int) (s:Int) (i:Nat) (h1:(↑i:Int)<(↑w.length:Int)) (h2:i<w.length) (h3:i<out.length) (h4:(0:Int)≤s) (h5:¬s>0) (h6: -9223372036854775808≤(↑i:Int)+1∧(↑i:Int)+1≤9223372036854775807) (h7:out.length=(List.set out i (orU (List.getD out i (0:Int)) (shlU (List.getD w i (0:Int)) s))).length) (h8:(capOf out.length)=(capOf (List.set out i (orU (List.getD out i (0:Int)) (shlU (List.getD w i (0:Int)) s))).length)) (h9:(List.set out i (IntKind.wrap IntKind.u64 (↑(BitVec.toNat (BitVec.ofInt (64:Nat) (List.getD out i (0:Int))|||BitVec.ofInt (64:Nat) (IntKind.wrap IntKind.u64 (List.getD w i (0:Int)*(2:Int)^min (Int.toNat s) (64:Nat))))):Int)))=(List.set out i (orU (List.getD out i (0:Int)) (shlU (List.getD w i (0:Int)) s)))):
  Tst.path (vall Tryz.prog (ctrs []) (fl BShUp suL) (SSu w out s i)) [true,false] (toSt Tryz.prog 40 .normal [(64,64,none)] (SSu w (out.set i (orU (out.getD i 0) (shlU (w.getD i 0) s))) s (i+1))):=
 mp (an (decide_eq_true h1) (an (show(decide ((0:Int)≤(↑i:Int)))=true from decide_eq_true (by omega)) (an (decide_eq_true h2) (an (show(decide ((0:Int)≤(↑i:Int)))=true from decide_eq_true (by omega)) (an (decide_eq_true h3) (an (show(ownHas 179 tU (optOwn (nat_lit 179) tU out) ((0:Nat)+i))=true from(by simp only [Nat.zero_add]<;>exact(show(ownHas 179 tU (optOwn (nat_lit 179) tU out) i)=true from(by rw [ownHas_optOwn];exact decide_eq_true h3)))) (an (show(ownHas 179 tU (optOwn (nat_lit 179) tU out) ((0:Nat)+i))=true from(by simp only [Nat.zero_add]<;>exact(show(ownHas 179 tU (optOwn (nat_lit 179) tU out) i)=true from(by rw [ownHas_optOwn];exact decide_eq_true h3)))) (an (sr (AV.raw (Value.int .u64 (List.getD (blkXs tU (optOwn (nat_lit 179) tU out)) ((0:Nat)+i) (0:Int))))) (an (decide_eq_true h4) (an (show(decide ((0:Int)≤(↑i:Int)))=true from decide_eq_true (by omega)) (an (decide_eq_true h3) (an (show(ownHas 179 tU (optOwn (nat_lit 179) tU out) ((0:Nat)+i))=true from(by simp only [Nat.zero_add]<;>exact(show(ownHas 179 tU (optOwn (nat_lit 179) tU out) i)=true from(by rw [ownHas_optOwn];exact decide_eq_true h3)))) (an (decide_eq_false h5) (an (fits_i64 h6) (an (rr w) (an (rr s) (an (an (rr ((0:Nat))) (an h7 h8)) (an (rr w) (an (rr ((↑w.length:Int))) (an (show((↑i:Int)+1)=((↑(i+(1:Nat)):Int))from(by omega)) (an (show(List.set (blkXs tU (optOwn (nat_lit 179) tU out)) ((0:Nat)+i) (IntKind.wrap IntKind.u64 (↑(BitVec.toNat (BitVec.ofInt (64:Nat) (List.getD (blkXs tU (optOwn (nat_lit 179) tU out)) ((0:Nat)+i) (0:Int))|||BitVec.ofInt (64:Nat) (IntKind.wrap IntKind.u64 (List.getD w i (0:Int)*(2:Int)^min (Int.toNat s) (64:Nat))))):Int)))=(List.set out i (orU (List.getD out i (0:Int)) (shlU (List.getD w i (0:Int)) s)))from(by simp only [blkXs_optOwn,Nat.zero_add]<;>exact h9)) trivial)))))))))))))))))))))
theorem su_end (w out:List Int) (s:Int) (i:Nat) (h1:¬(↑i:Int)<(↑w.length:Int)):
  Tst.path (vall Tryz.prog (ctrs []) (fl BShUp suL) (SSu w out s i)) [false] (toSt Tryz.prog 40 (.exit 0) [(64,64,none)] (SSu w out s i)):=
 mp (an (decide_eq_false h1) (an (rr w) (an (rr s) (an (an (rr ((0:Nat))) (an (rr out.length) (rr (capOf out.length)))) (an (rr w) (an (rr ((↑w.length:Int))) (an (rr ((↑i:Int))) (an (show(fitOpt Tryz.prog none (optOwn (nat_lit 179) tU out) (nat_lit 179) tU out)from(fitOpt_refl _ _ _ _)) trivial))))))))
theorem su_ret (w:List Int) (x:Int) (l:List Int) (s:Int) (i:Nat) (h1:(capOf (x::l).length)=(Cap.full)):
  Tst.path (vall Tryz.prog (ctrs []) (List.drop 4 (fl BShUp [])) (SSu w (x::l) s i)) [] (toRetO Tryz.prog Tryz.f161 179 tU (x::l)):=
 mp (an (rr (x::l).length) (an h1 (rr (x::l))))
def shW (w:List Int) (s:Int):List Int:=padD 18446744073709551616 (w.length+1) (vw w*2^s.toNat)
def okS (w:List Int) (s:Int):Bool:=dgB w&&(decide (w.length≤400000)&&(decide (0≤s)&&decide (s<64)))
noncomputable def oShUp:OCtr:={f:=161,e:=179,t:=tU,ps:=[.list false tU, .int .i64],pre:=fun d=>okS d.1 d.2.1,out:=fun d=>shW d.1 d.2.1}
theorem shl_eq {x:Int} {s:Nat} (hs:s≤64) (hx:0≤x∧x<18446744073709551616):shlU x s=2^s*(x%2^(64-s)):=by
 unfold shlU
 rw [Int.toNat_natCast,Nat.min_eq_left hs,wrapU_mod]
 exact(word_split hs hx).1
theorem shr_eq {x:Int} {s:Nat} (hs:s≤64) (hx:0≤x):shrU x s=x/2^s:=by
 unfold shrU
 rw [Int.toNat_natCast,Nat.min_eq_left hs]
 exact Int.fdiv_eq_ediv_of_nonneg _ (Int.le_of_lt (pow_pos' (by decide) _))
theorem set_get {l:List Int} {i:Nat} (j:Nat) {d:Int}:(l.set i d).getD j 0=if i=j∧i<l.length then d else l.getD j 0:=by
 simp only [List.getD_eq_getElem?_getD,List.getElem?_set]
 by_cases h:i=j
 ·subst h
  by_cases hl:i<l.length
  ·simp [hl]
  ·simp [hl]
 ·simp [h]
theorem set_same {l:List Int} {i:Nat} (h:i<l.length):l.set i (l.getD i 0)=l:=by
 rw [dg_getD h];exact List.set_getElem_self h
structure SuI (w:List Int) (s:Nat) (out:List Int) (i:Nat):Prop where
 le:i≤w.length
 len:out.length=w.length+1
 dg:Dg 18446744073709551616 out
 low:out.getD i 0<2^s
 zero:∀k,i<k→out.getD k 0=0
 val:vw (out.take i)+18446744073709551616^i*out.getD i 0=vw (w.take i)*2^s
theorem su_next {w:List Int} (hw:Dg 18446744073709551616 w) {s:Nat} (hs:s≤63) {out:List Int} {i:Nat} (I:SuI w s out i) (hi:i<w.length):
  SuI w s ((out.set i (orU (out.getD i 0) (shlU (w.getD i 0) s))).set (i+1) (w.getD i 0/2^(64-s))) (i+1):=by
 have hx:=hw.get (by decide) i
 have ho:=I.dg.get (by decide) i
 obtain⟨l1,l2,l3,l4⟩:=word_split (s:=s) (by omega) hx
 have hlen:=I.len
 have hp:(0:Int)<2^s:=pow_pos' (by decide) _
 have hlt:2^s*(w.getD i 0%2^(64-s))<18446744073709551616:=by rw [←l1];exact Int.emod_lt_of_pos _ (by decide)
 have hor:orU (out.getD i 0) (shlU (w.getD i 0) s)=out.getD i 0+2^s*(w.getD i 0%2^(64-s)):=by
  rw [shl_eq (by omega) hx]
  exact orU_add (by omega) ⟨ho.1,I.low⟩ l4.1 rfl hlt
 have h64:(2:Int)^s*2^(64-s)=18446744073709551616:=by rw [←Int.pow_add,show s+(64-s)=64 by omega];rfl
 have hor2:0≤out.getD i 0+2^s*(w.getD i 0%2^(64-s))∧out.getD i 0+2^s*(w.getD i 0%2^(64-s))<18446744073709551616:=by
  have h1:=Int.mul_nonneg (Int.le_of_lt hp) l4.1
  have h2:=Int.mul_le_mul_of_nonneg_left (show w.getD i 0%2^(64-s)+1≤2^(64-s) by omega) (Int.le_of_lt hp)
  rw [h64,Int.mul_add,Int.mul_one]at h2
  have:=I.low
  omega
 have hh:0≤w.getD i 0/2^(64-s)∧w.getD i 0/2^(64-s)<18446744073709551616:=by
  have:(2:Int)^s≤2^64:=pow_le_pow' (by decide) (by omega)
  have e:(2:Int)^64=18446744073709551616:=rfl
  omega
 rw [hor]
 refine⟨hi,by simp [hlen],(I.dg.set hor2).set hh, ?_,fun k hk=> ?_, ?_⟩
 ·rw [set_get,if_pos ⟨rfl,by rw [List.length_set];omega⟩];exact l3.2
 ·rw [set_get,if_neg (by omega),set_get,if_neg (by omega)];exact I.zero k (by omega)
 ·rw [set_get,if_pos ⟨rfl,by rw [List.length_set];omega⟩]
  have hv:=I.val
  unfold vw at hv ⊢
  rw [set_take,vl_set_next (by omega),vl_take (l:=w) hi,Int.pow_succ]
  generalize vl 18446744073709551616 (out.take i)=A at*
  generalize vl 18446744073709551616 (w.take i)=Bv at*
  generalize out.getD i 0=o at*
  generalize w.getD i 0/2^(64-s)=h at*
  generalize w.getD i 0%2^(64-s)=l at*
  generalize w.getD i 0=x at*
  generalize (18446744073709551616:Int)^i=P at*
  generalize (2:Int)^s=S at*
  have e:P*(x*S)=P*(S*l+18446744073709551616*h):=by rw [l2]
  grind
theorem su_fin {w:List Int} {s:Nat} {out:List Int} (I:SuI w s out w.length):out=shW w s:=by
 have hv:=I.val
 have hl:=I.len
 have h1:=vl_take (b:=18446744073709551616) (l:=out) (k:=w.length) (by omega)
 rw [List.take_of_length_le (by omega)]at h1
 rw [List.take_length]at hv
 have h2:=pad_eq (b:=18446744073709551616) (by decide) I.dg
 unfold shW
 rw [Int.toNat_natCast,←hv]
 unfold vw
 rw [←h1,←hl];exact h2
theorem shUp_run (w:List Int) (si:Int) (h:okS w si=true) (w0:World) (F:Sv.Env):GoalL Tryz.prog w0 F 40 (fl BShUp []) (initT [lu w,iv si] .nil 0) H0 (retO Tryz.prog Tryz.f161 179 tU (shW w si)):=by
 unfold okS at h
 simp only [Bool.and_eq_true,decide_eq_true_eq,dgB_iff]at h
 obtain⟨hw,hl,h0,h1⟩:=h
 obtain⟨s,rfl⟩:∃s:Nat,si=(s:Int):=⟨si.toNat,by omega⟩
 have e1:((w.length:Int)+1).toNat=w.length+1:=by omega
 refine GoalL.to known mixed none_ok 3 _ (su_start w s (by omega) (by omega) (by rw [zer_len,e1]) (by rw [e1]) (by rw [zer_len]) (by rw [e1];exact zer_cells _) (by rw [zer_len])) (by kernel_rfl) ?_
 have hz:∀k,(zerW (w.length+1)).getD k 0=0:=fun k=>by
  unfold zerW
  rw [List.getD_eq_getElem?_getD,List.getElem?_replicate];split<;>rfl
 refine GoalL.loop (ι:={p:List Int×Nat//SuI w s p.1 p.2}) (id:=0) (b:=cat BShUp suL) (rest:=List.drop 4 (fl BShUp [])) (by kernel_rfl) (fun p=>SSu w p.1.1 s p.1.2) (fun p=>w.length-p.1.2)
  ⟨(zerW (w.length+1),0),⟨Nat.zero_le _,zer_len _,zer_dg _,by show(zerW (w.length+1)).getD 0 0<_;rw [hz];exact pow_pos' (by decide) _,fun k _=>hz k,by show vl _ ([]:List Int)+_*(zerW (w.length+1)).getD 0 0=vl _ ([]:List Int)*_;rw [hz];simp [vl]⟩⟩ (fun _=>rfl) ?_
 rintro⟨⟨out,i⟩,I⟩
 have I:SuI w s out i:=I
 have hlen:=I.len
 by_cases hi:i<w.length
 ·have hx:=hw.get (by decide) i
  have N:=su_next hw (by omega) I hi
  have ei:((i:Int)+1).toNat=i+1:=by omega
  by_cases hs0:s=0
  ·subst hs0
   have e2:(out.set i (orU (out.getD i 0) (shlU (w.getD i 0) (0:Nat)))).set (i+1) (w.getD i 0/2^(64-0))=out.set i (orU (out.getD i 0) (shlU (w.getD i 0) (0:Nat))):=by
    have e3:w.getD i 0/2^(64-0)=(out.set i (orU (out.getD i 0) (shlU (w.getD i 0) (0:Nat)))).getD (i+1) 0:=by
     rw [set_get,if_neg (by omega),I.zero (i+1) (by omega)]
     exact Int.ediv_eq_zero_of_lt hx.1 hx.2
    rw [e3]
    exact set_same (by rw [List.length_set];omega)
   rw [e2]at N
   exact GoalL.all (s:=SSu w out (0:Nat) i) (s':=SSu w (out.set i (orU (out.getD i 0) (shlU (w.getD i 0) (0:Nat)))) (0:Nat) (i+1)) known mixed none_ok _ (su_one w out _ i (by omega) hi (by omega) (by omega) (by omega) (by omega) (by rw [List.length_set]) (by rw [List.length_set]) rfl) (by kernel_rfl)
    ⟨⟨(_,i+1),N⟩,by simp;omega,rfl,rfl⟩
  ·have e4:shrU (w.getD i 0) (64-(s:Int))=w.getD i 0/2^(64-s):=by
    rw [show(64-(s:Int))=((64-s:Nat):Int) by omega]
    exact shr_eq (by omega) hx.1
   rw [←e4]at N
   exact GoalL.all (s:=SSu w out s i) (s':=SSu w ((out.set i (orU (out.getD i 0) (shlU (w.getD i 0) s))).set (i+1) (shrU (w.getD i 0) (64-s))) s (i+1)) known mixed none_ok _ (su_two w out s i (by omega) hi (by omega) (by omega) (by omega) (by omega) (by omega) (by omega) (by rw [ei];omega) (by rw [ei,ownHas_own];exact decide_eq_true (by rw [List.length_set];omega)) (by simp) (by simp) (by rw [ei];rfl)) (by kernel_rfl)
    ⟨⟨(_,i+1),N⟩,by simp;omega,rfl,rfl⟩
 ·refine GoalL.all (s:=SSu w out s i) known mixed none_ok _ (su_end w out s i (by omega)) (by kernel_rfl) ?_
  refine onN_exit (inB_exit ?_)
  have hle:=I.le
  obtain rfl:i=w.length:=by omega
  rw [←su_fin I]
  cases out with
  |nil=>have:=I.len;simp at this
  |cons x l=>exact GoalL.retOwn known mixed none_ok 8 _ (su_ret w x l s w.length rfl) fun T H h=>h
theorem oShUp_ok:oShUp.Ok Tryz.prog:=
 ⟨rfl,_,BShUp,Tryz.func161,rfl,by decide,fun⟨w,s,_⟩ h=>⟨by show 1≤(shW w s).length;unfold shW;rw [pad_len];omega,fun w0 F=>shUp_run w s h w0 F⟩⟩
end
end Go.Proofs.YtccmlbinkgbpgaaGreatDoor
