/- Package num: fractions in lowest terms: Make. -/
import Derived.Test.YtccmlbinkgbpgaaGreatDoorZtVNg
import Derived.Lib.SmallJoins
import Derived.Test.YtccmlbinkgbpgaaGreatDoorZtDig
namespace Go.Proofs.YtccmlbinkgbpgaaGreatDoor
open Go.RowKit Sv
set_option maxRecDepth 100000
set_option linter.unusedVariables false
noncomputable section
abbrev tQ:Ty:= .pair tI tI
abbrev NQ:=(Int×List Int)×(Int×List Int)
abbrev qv (a:NQ):AV:= .agg [iv a.1.1, .lst true tU a.1.2,iv a.2.1, .lst true tU a.2.2]
abbrev bQ0:Ent:= .blk (.cells 76 [iv 0, .raw (.slice none 0 0),iv 0, .raw (.slice none 0 0)] true false false)
def SMk (a b:NI):St:={n:=34,sl:=[(2, .ptr 64 0),(3, .ptr 65 0),(4, .ptr 66 0)],en:=[(64,bI a),(65,bI b),(66,bQ0)],next:=67}
noncomputable def mkCs:VCaller:=ctrs [cISign,cINeg,cGcd,cQuo]
theorem mk_neg (a b:NI) (h1:(okI (b.1,b.2))=true) (h2:iSign (b.1,b.2)<0) (h3:(okI (a.1,a.2))=true):
  Tst.path (vrun0 Tryz.prog mkCs (fl BMake []) 3 34 [nv a,nv b]) [true] (toSt Tryz.prog 34 .normal s3 (SMk (iNeg a) (iNeg b))):=
 mp (an h1 (an (decide_eq_true h2) (an (sr (AV.agg [iv a.1,AV.lst true (.int .u64) a.2])) (an h3 (an (sr (AV.agg [iv b.1,AV.lst true (.int .u64) b.2])) (an (sr (AV.agg [iv b.1,AV.lst true (.int .u64) b.2])) (an h1 (an (rr ((0:Nat))) (an (rr ((0:Nat))) (an (rr ((0:Nat))) (an (an (rr (iNeg (a.1,a.2)).1) (an (rr (iNeg (a.1,a.2)).2) trivial)) (an (an (rr (iNeg (b.1,b.2)).1) (an (rr (iNeg (b.1,b.2)).2) trivial)) (an (an (rr ((0:Int))) (an (rr (Value.slice none (0:Nat) (0:Nat))) (an (rr ((0:Int))) (an (rr (Value.slice none (0:Nat) (0:Nat))) trivial)))) trivial)))))))))))))
theorem mk_pos (a b:NI) (h1:(okI (b.1,b.2))=true) (h2:¬iSign (b.1,b.2)<0):
  Tst.path (vrun0 Tryz.prog mkCs (fl BMake []) 3 34 [nv a,nv b]) [false] (toSt Tryz.prog 34 .normal s3 (SMk a b)):=
 mp (an h1 (an (decide_eq_false h2) (an (rr ((0:Nat))) (an (rr ((0:Nat))) (an (rr ((0:Nat))) (an (an (rr a.1) (an (rr a.2) trivial)) (an (an (rr b.1) (an (rr b.2) trivial)) (an (an (rr ((0:Int))) (an (rr (Value.slice none (0:Nat) (0:Nat))) (an (rr ((0:Int))) (an (rr (Value.slice none (0:Nat) (0:Nat))) trivial)))) trivial))))))))
theorem mr_one (a b:NI) (h1:b.2.isEmpty=true) (h2:b.1=1):
  Tst.path (vall Tryz.prog mkCs (List.drop 3 (fl BMake [])) (SMk a b)) [true,true,true,true,true] (toRet Tryz.prog Tryz.f55 false (qv (a,b))):=
 mp (an (bT (bT h1)) (an (bT (bT h1)) (an (bT (bT h1)) (an (bT h1) (an (beq_iff_eq.mpr h2) (an (rr a.1) (an (rr a.2) (an (rr b.1) (an (rr b.2) trivial)))))))))
theorem mr_b (a b:NI) (h1:b.2.isEmpty=true) (h2:¬b.1=1) (h3:(okI (a.1,a.2)&&okI (b.1,b.2))=true) (h4:(okQuo (a.1,a.2) ((iGcd (a.1,a.2) (b.1,b.2)).1,(iGcd (a.1,a.2) (b.1,b.2)).2))=true) (h5:(okQuo (b.1,b.2) ((iGcd (a.1,a.2) (b.1,b.2)).1,(iGcd (a.1,a.2) (b.1,b.2)).2))=true):
  Tst.path (vall Tryz.prog mkCs (List.drop 3 (fl BMake [])) (SMk a b)) [true,true,true,true,false] (toRet Tryz.prog Tryz.f55 false (qv (iQuo a (iGcd a b),iQuo b (iGcd a b)))):=
 mp (an (bT (bT h1)) (an (bT (bT h1)) (an (bT (bT h1)) (an (bT h1) (an (beq_eq_false_iff_ne.mpr h2) (an h3 (an (sr (AV.agg [iv a.1,AV.lst true (.int .u64) a.2])) (an (sr (AV.agg [iv (iGcd (a.1,a.2) (b.1,b.2)).1,AV.lst true (.int .u64) (iGcd (a.1,a.2) (b.1,b.2)).2])) (an h4 (an (sr (AV.agg [iv b.1,AV.lst true (.int .u64) b.2])) (an (sr (AV.agg [iv b.1,AV.lst true (.int .u64) b.2])) (an (sr (AV.agg [iv (iGcd (a.1,a.2) (b.1,b.2)).1,AV.lst true (.int .u64) (iGcd (a.1,a.2) (b.1,b.2)).2])) (an (sr (AV.agg [iv (iGcd (a.1,a.2) (b.1,b.2)).1,AV.lst true (.int .u64) (iGcd (a.1,a.2) (b.1,b.2)).2])) (an h5 (an (rr (iQuo (a.1,a.2) ((iGcd (a.1,a.2) (b.1,b.2)).1,(iGcd (a.1,a.2) (b.1,b.2)).2)).1) (an (rr (iQuo (a.1,a.2) ((iGcd (a.1,a.2) (b.1,b.2)).1,(iGcd (a.1,a.2) (b.1,b.2)).2)).2) (an (rr (iQuo (b.1,b.2) ((iGcd (a.1,a.2) (b.1,b.2)).1,(iGcd (a.1,a.2) (b.1,b.2)).2)).1) (an (rr (iQuo (b.1,b.2) ((iGcd (a.1,a.2) (b.1,b.2)).1,(iGcd (a.1,a.2) (b.1,b.2)).2)).2) trivial))))))))))))))))))
theorem mr_c (a b:NI) (h1:b.2.isEmpty=false) (h2:(okI (a.1,a.2)&&okI (b.1,b.2))=true) (h3:(okQuo (a.1,a.2) ((iGcd (a.1,a.2) (b.1,b.2)).1,(iGcd (a.1,a.2) (b.1,b.2)).2))=true) (h4:(okQuo (b.1,b.2) ((iGcd (a.1,a.2) (b.1,b.2)).1,(iGcd (a.1,a.2) (b.1,b.2)).2))=true):
  Tst.path (vall Tryz.prog mkCs (List.drop 3 (fl BMake [])) (SMk a b)) [false,false,false,false,false] (toRet Tryz.prog Tryz.f55 false (qv (iQuo a (iGcd a b),iQuo b (iGcd a b)))):=
 mp (an (bT (bT h1)) (an (bT (bT h1)) (an (bT (bT h1)) (an (bT h1) (an rf (an h2 (an (sr (AV.agg [iv a.1,AV.lst true (.int .u64) a.2])) (an (sr (AV.agg [iv (iGcd (a.1,a.2) (b.1,b.2)).1,AV.lst true (.int .u64) (iGcd (a.1,a.2) (b.1,b.2)).2])) (an h3 (an (sr (AV.agg [iv b.1,AV.lst true (.int .u64) b.2])) (an (sr (AV.agg [iv b.1,AV.lst true (.int .u64) b.2])) (an (sr (AV.agg [iv (iGcd (a.1,a.2) (b.1,b.2)).1,AV.lst true (.int .u64) (iGcd (a.1,a.2) (b.1,b.2)).2])) (an (sr (AV.agg [iv (iGcd (a.1,a.2) (b.1,b.2)).1,AV.lst true (.int .u64) (iGcd (a.1,a.2) (b.1,b.2)).2])) (an h4 (an (rr (iQuo (a.1,a.2) ((iGcd (a.1,a.2) (b.1,b.2)).1,(iGcd (a.1,a.2) (b.1,b.2)).2)).1) (an (rr (iQuo (a.1,a.2) ((iGcd (a.1,a.2) (b.1,b.2)).1,(iGcd (a.1,a.2) (b.1,b.2)).2)).2) (an (rr (iQuo (b.1,b.2) ((iGcd (a.1,a.2) (b.1,b.2)).1,(iGcd (a.1,a.2) (b.1,b.2)).2)).1) (an (rr (iQuo (b.1,b.2) ((iGcd (a.1,a.2) (b.1,b.2)).1,(iGcd (a.1,a.2) (b.1,b.2)).2)).2) trivial))))))))))))))))))
noncomputable def qRed (a b:NI):(Int×List Int)×(Int×List Int):=if smI b&&(b.1==1)then(a,b)else(iQuo a (iGcd a b),iQuo b (iGcd a b))
noncomputable def qMake (a b:NI):(Int×List Int)×(Int×List Int):=if iSign b<0 then qRed (iNeg a) (iNeg b)else qRed a b
noncomputable def cMake:Ctr:={f:=55,ps:=[tI,tI],rs:=[tQ],fresh:=false,pre:=fun d=>okQuo d.1 d.2.1,fn:=fun d=>(qMake d.1 d.2.1,())}
theorem mk_ok:CallOk Tryz.prog (gS mkCs):=ctrs_ok fun c hc=>by
 simp only [List.mem_cons,List.not_mem_nil,or_false]at hc
 rcases hc with rfl |rfl |rfl |rfl
 ·exact cISign_ok
 ·exact cINeg_ok
 ·exact cGcd_ok
 ·exact cQuo_ok
theorem val_gcd (a b:NI):valI (iGcd a b)=(Int.gcd (valI a) (valI b):Int):=val_mk _
theorem ok_gcd {n:Nat} {a b:NI} (g:okN n b=true) (hn:1≤n) (hb:valI b≠0):okN n (iGcd a b)=true:=by
 have h1:=val_lt g hn
 have h2:((Int.gcd (valI a) (valI b):Nat):Int)≤((valI b).natAbs:Int):=by
  have:Int.gcd (valI a) (valI b)≤(valI b).natAbs:=Nat.gcd_le_right _ (by omega)
  omega
 exact(mkI_law (by rw [Int.natAbs_natCast];omega)).1
theorem okQuo_gcd {a b:NI} (h:okI a=true) (g:okI b=true) (hb:valI b≠0):okQuo a (iGcd a b)=true∧okQuo b (iGcd a b)=true:=by
 have h0:0<Int.gcd (valI a) (valI b):=Int.gcd_pos_of_ne_zero_right _ hb
 have h1:valI (iGcd a b)≠0:=by rw [val_gcd];omega
 have h2:okI (iGcd a b)=true:=ok_gcd g (by decide) hb
 exact⟨okQuo_iff.2 ⟨h,h2,h1⟩,okQuo_iff.2 ⟨g,h2,h1⟩⟩
theorem isEmpty_iff' {a:NI}:smI a=true↔a.2=[]:=by
 unfold smI;exact List.isEmpty_iff
theorem red_holds (a b:NI) (h:okI a=true) (g:okI b=true) (hb:valI b≠0) (w:World) (F:Sv.Env):
  GoalL Tryz.prog w F 34 (List.drop 3 (fl BMake [])) (SMk a b).T (SMk a b).H (retQ Tryz.prog false Tryz.f55 (qv (qRed a b))):=by
 have hS:=mk_ok
 obtain⟨q1,q2⟩:=okQuo_gcd h g hb
 have hab:(okI a&&okI b)=true:=by rw [h,g];rfl
 unfold qRed
 by_cases he:b.2.isEmpty=true
 ·by_cases h1:b.1=1
  ·rw [if_pos (by rw [show smI b=true from he,h1];rfl)]
   exact GoalL.allRet (s:=SMk a b) known mixed hS _ (mr_one a b he h1) fun T H h=>h
  ·rw [if_neg (by rw [show smI b=true from he];simpa using h1)]
   exact GoalL.allRet (s:=SMk a b) known mixed hS _ (mr_b a b he h1 hab q1 q2) fun T H h=>h
 ·rw [if_neg (by rw [show smI b=b.2.isEmpty from rfl];simp [he])]
  exact GoalL.allRet (s:=SMk a b) known mixed hS _ (mr_c a b (by simpa using he) hab q1 q2) fun T H h=>h
theorem make_holds (a b:NI) (h:okI a=true) (g:okI b=true) (hb:valI b≠0):Holds Tryz.prog false 55 [nv a,nv b] (qv (qMake a b)):=by
 have hS:=mk_ok
 refine holds_fl (c:=BMake) Tryz.func55 rfl rfl fun w F=> ?_
 unfold qMake
 by_cases hs:iSign b<0
 ·rw [if_pos hs]
  refine GoalL.to known mixed hS 3 _ (mk_neg a b g hs h) (by kernel_rfl) ?_
  exact red_holds _ _ (ok_neg h (by decide)) (ok_neg g (by decide)) (by rw [val_neg];omega) w F
 ·rw [if_neg hs]
  refine GoalL.to known mixed hS 3 _ (mk_pos a b g hs) (by kernel_rfl) ?_
  exact red_holds _ _ h g hb w F
theorem cMake_ok:cMake.Ok Tryz.prog:=fun⟨a,b,_⟩ h=>by
 obtain⟨h1,h2,h3⟩:=okQuo_iff.1 (show okQuo a b=true from h)
 exact make_holds a b h1 h2 h3
structure QIs (n:Nat) (q:NQ) (x y:Int):Prop where
 o1:okN n q.1=true
 o2:okN n q.2=true
 pos:0<valI q.2
 low:Int.gcd (valI q.1) (valI q.2)=1
 val:valI q.1*y=x*valI q.2
theorem qRed_law {n:Nat} {a b:NI} (h:okN n a=true) (g:okN n b=true) (hn:1≤n) (hb:0<valI b):QIs n (qRed a b) (valI a) (valI b):=by
 unfold qRed
 split
 ·rename_i hc
  rw [Bool.and_eq_true]at hc
  have hv:valI b=1:=by unfold valI;rw [if_pos (isEmpty_iff'.1 hc.1)];simpa using hc.2
  exact⟨h,g,hb,by show Int.gcd (valI a) (valI b)=1;rw [hv];exact Int.gcd_one,rfl⟩
 ·have hg:0<Int.gcd (valI a) (valI b):=Int.gcd_pos_of_ne_zero_right _ (by omega)
  have og:=ok_gcd (a:=a) g hn (by omega)
  have vg:valI (iGcd a b)≠0:=by rw [val_gcd];omega
  have e1:valI a=valI (iGcd a b)*(valI a/(Int.gcd (valI a) (valI b):Int)):=by rw [val_gcd];exact(Int.mul_ediv_cancel' (Int.gcd_dvd_left _ _)).symm
  have e2:valI b=valI (iGcd a b)*(valI b/(Int.gcd (valI a) (valI b):Int)):=by rw [val_gcd];exact(Int.mul_ediv_cancel' (Int.gcd_dvd_right _ _)).symm
  have v1:=val_iQuo h og hn vg e1
  have v2:=val_iQuo g og hn vg e2
  refine⟨ok_iQuo h og hn vg,ok_iQuo g og hn vg, ?_, ?_, ?_⟩
  ·show 0<valI (iQuo b (iGcd a b))
   rw [v2];exact Int.ediv_pos_of_pos_of_dvd hb (by omega) (Int.gcd_dvd_right _ _)
  ·show Int.gcd (valI (iQuo a (iGcd a b))) (valI (iQuo b (iGcd a b)))=1
   rw [v1,v2];exact Int.gcd_ediv_gcd_ediv_gcd hg
  ·show valI (iQuo a (iGcd a b))*valI b=valI a*valI (iQuo b (iGcd a b))
   rw [v1,v2]
   generalize valI a/(Int.gcd (valI a) (valI b):Int)=x at*
   generalize valI b/(Int.gcd (valI a) (valI b):Int)=y at*
   grind
theorem qMake_law {n:Nat} {a b:NI} (h:okN n a=true) (g:okN n b=true) (hn:1≤n) (hb:valI b≠0):QIs n (qMake a b) (valI a) (valI b):=by
 unfold qMake
 split
 ·rename_i hs
  have hs:=iSign_neg.1 hs
  have:=qRed_law (ok_neg h hn) (ok_neg g hn) hn (by rw [val_neg];omega)
  refine⟨this.o1,this.o2,this.pos,this.low, ?_⟩
  have hv:=this.val
  rw [val_neg,val_neg]at hv
  rw [Int.mul_neg,Int.neg_mul]at hv
  omega
 ·rename_i hs
  have h0:¬valI b<0:=fun hh=>hs (iSign_neg.2 hh)
  exact qRed_law h g hn (by omega)
theorem low_unique {x y u v:Int} (hy:0<y) (hv:0<v) (g1:Int.gcd x y=1) (g2:Int.gcd u v=1) (h:x*v=u*y):x=u∧y=v:=by
 have d1:y∣v:=by
  have h1:y.natAbs∣v.natAbs:=by
   refine Nat.Coprime.dvd_of_dvd_mul_left (k:=y.natAbs) (m:=x.natAbs) (n:=v.natAbs) ?_ ?_
   ·show Nat.gcd _ _=1;rw [Nat.gcd_comm];exact g1
   ·rw [←Int.natAbs_mul,h,Int.natAbs_mul];exact Nat.dvd_mul_left _ _
  exact Int.natAbs_dvd_natAbs.1 h1
 have d2:v∣y:=by
  have h1:v.natAbs∣y.natAbs:=by
   refine Nat.Coprime.dvd_of_dvd_mul_left (k:=v.natAbs) (m:=u.natAbs) (n:=y.natAbs) ?_ ?_
   ·show Nat.gcd _ _=1;rw [Nat.gcd_comm];exact g2
   ·rw [←Int.natAbs_mul,←h,Int.natAbs_mul];exact Nat.dvd_mul_left _ _
  exact Int.natAbs_dvd_natAbs.1 h1
 have e:=Int.dvd_antisymm (by omega) (by omega) d1 d2
 subst e
 exact⟨Int.eq_of_mul_eq_mul_right (by omega) h,rfl⟩
end
end Go.Proofs.YtccmlbinkgbpgaaGreatDoor
/- Package num: fractions: sum, product, opposite, inverse, comparison, floor. -/
namespace Go.Proofs.YtccmlbinkgbpgaaGreatDoor
open Go.RowKit Sv
set_option maxRecDepth 100000
set_option linter.unusedVariables false
noncomputable section
noncomputable def BOf:Code:=(Tryz.f56.body).getD .skip
noncomputable def BWh:Code:=(Tryz.f64.body).getD .skip
noncomputable def BF:Code:=(Tryz.f30.body).getD .skip
noncomputable def BIsW:Code:=(Tryz.f57.body).getD .skip
noncomputable def BQSign:Code:=(Tryz.f33.body).getD .skip
noncomputable def BQAdd:Code:=(Tryz.f34.body).getD .skip
noncomputable def BQMul:Code:=(Tryz.f29.body).getD .skip
noncomputable def qaCs:VCaller:=ctrs [cIMul,cIAdd,cMake,cINeg,cISign,cICmp,cDm]
def isW (a:NQ):Bool:=smI a.2&&(a.2.1==1)
theorem of_all (n:Int):
  Tst.path (vrun0 Tryz.prog qaCs (fl BOf []) 9 5 [iv n]) [] (toRet Tryz.prog Tryz.f56 false (nv (n,[]))):=
 mp (an (rr n) (an (rr nilI) trivial))
theorem iw_t (a:NQ) (h1:a.2.2.isEmpty=true):
  Tst.path (vrun0 Tryz.prog qaCs (fl BIsW []) 9 13 [qv a]) [true,true,true,true,true] (toRet Tryz.prog Tryz.f57 true (bv (a.2.1==1))):=
 mp (an (bT (bT h1)) (an (bT (bT h1)) (an (bT (bT h1)) (an (bT (bT h1)) (an (bT h1) (rr (a.2.1==1)))))))
theorem iw_f (a:NQ) (h1:a.2.2.isEmpty=false):
  Tst.path (vrun0 Tryz.prog qaCs (fl BIsW []) 9 13 [qv a]) [false,false,false,false,false] (toRet Tryz.prog Tryz.f57 true (bv false)):=
 mp (an (bT (bT h1)) (an (bT (bT h1)) (an (bT (bT h1)) (an (bT (bT h1)) (an (bT h1) rf)))))
theorem qs_all (a:NQ) (h1:(okI (a.1.1,a.1.2))=true):
  Tst.path (vrun0 Tryz.prog qaCs (fl BQSign []) 9 6 [qv a]) [] (toRet Tryz.prog Tryz.f33 true (iv (iSign a.1))):=
 mp (an h1 (rr (iSign (a.1.1,a.1.2))))
theorem qm_all (a b:NQ) (h1:(okI (a.1.1,a.1.2)&&okI (b.1.1,b.1.2))=true) (h2:(okI (a.2.1,a.2.2)&&okI (b.2.1,b.2.2))=true) (h3:(okQuo ((iMul (a.1.1,a.1.2) (b.1.1,b.1.2)).1,(iMul (a.1.1,a.1.2) (b.1.1,b.1.2)).2) ((iMul (a.2.1,a.2.2) (b.2.1,b.2.2)).1,(iMul (a.2.1,a.2.2) (b.2.1,b.2.2)).2))=true):
  Tst.path (vrun0 Tryz.prog qaCs (fl BQMul []) 9 16 [qv a,qv b]) [] (toRet Tryz.prog Tryz.f29 false (qv (qMake (iMul a.1 b.1) (iMul a.2 b.2)))):=
 mp (an (sr (AV.agg [iv a.1.1,AV.lst true (.int .u64) a.1.2])) (an (sr (AV.agg [iv b.1.1,AV.lst true (.int .u64) b.1.2])) (an h1 (an (sr (AV.agg [iv a.2.1,AV.lst true (.int .u64) a.2.2])) (an (sr (AV.agg [iv a.2.1,AV.lst true (.int .u64) a.2.2])) (an (sr (AV.agg [iv b.2.1,AV.lst true (.int .u64) b.2.2])) (an (sr (AV.agg [iv b.2.1,AV.lst true (.int .u64) b.2.2])) (an h2 (an h3 (an (rr (qMake ((iMul (a.1.1,a.1.2) (b.1.1,b.1.2)).1,(iMul (a.1.1,a.1.2) (b.1.1,b.1.2)).2) ((iMul (a.2.1,a.2.2) (b.2.1,b.2.2)).1,(iMul (a.2.1,a.2.2) (b.2.1,b.2.2)).2)).1.1) (an (rr (qMake ((iMul (a.1.1,a.1.2) (b.1.1,b.1.2)).1,(iMul (a.1.1,a.1.2) (b.1.1,b.1.2)).2) ((iMul (a.2.1,a.2.2) (b.2.1,b.2.2)).1,(iMul (a.2.1,a.2.2) (b.2.1,b.2.2)).2)).1.2) (an (rr (qMake ((iMul (a.1.1,a.1.2) (b.1.1,b.1.2)).1,(iMul (a.1.1,a.1.2) (b.1.1,b.1.2)).2) ((iMul (a.2.1,a.2.2) (b.2.1,b.2.2)).1,(iMul (a.2.1,a.2.2) (b.2.1,b.2.2)).2)).2.1) (an (rr (qMake ((iMul (a.1.1,a.1.2) (b.1.1,b.1.2)).1,(iMul (a.1.1,a.1.2) (b.1.1,b.1.2)).2) ((iMul (a.2.1,a.2.2) (b.2.1,b.2.2)).1,(iMul (a.2.1,a.2.2) (b.2.1,b.2.2)).2)).2.2) trivial)))))))))))))
def okQ (n:Nat) (q:NQ):Bool:=okN n q.1&&(okN n q.2&&decide (0<valI q.2))
def iOf (n:Int):Int×List Int:=(n,[])
def qOf (n:NI):(Int×List Int)×(Int×List Int):=(n,(1,[]))
noncomputable def qMul (a b:NQ):(Int×List Int)×(Int×List Int):=qMake (iMul a.1 b.1) (iMul a.2 b.2)
noncomputable def qAdd (a b:NQ):(Int×List Int)×(Int×List Int):=if isW a&&isW b then(iAdd a.1 b.1,(1,[]))else qMake (iAdd (iMul a.1 b.2) (iMul b.1 a.2)) (iMul a.2 b.2)
noncomputable def cOf:Ctr:={f:=56,ps:=[.int .i64],rs:=[tI],fresh:=false,pre:=fun d=>true,fn:=fun d=>(iOf d.1,())}
noncomputable def cWh:Ctr:={f:=64,ps:=[tI],rs:=[tQ],fresh:=false,pre:=fun d=>true,fn:=fun d=>(qOf d.1,())}
noncomputable def cF:Ctr:={f:=30,ps:=[.int .i64],rs:=[tQ],fresh:=false,pre:=fun d=>true,fn:=fun d=>(qOf (iOf d.1),())}
noncomputable def cIsW:Ctr:={f:=57,ps:=[tQ],rs:=[.bool],fresh:=true,pre:=fun d=>true,fn:=fun d=>(isW d.1,())}
noncomputable def cQSign:Ctr:={f:=33,ps:=[tQ],rs:=[.int .i64],fresh:=true,pre:=fun d=>okI d.1.1,fn:=fun d=>(iSign d.1.1,())}
noncomputable def cQMul:Ctr:={f:=29,ps:=[tQ,tQ],rs:=[tQ],fresh:=false,pre:=fun d=>okQ 20000 d.1&&okQ 20000 d.2.1,fn:=fun d=>(qMul d.1 d.2.1,())}
noncomputable def cQAdd:Ctr:={f:=34,ps:=[tQ,tQ],rs:=[tQ],fresh:=false,pre:=fun d=>okQ 20000 d.1&&okQ 20000 d.2.1,fn:=fun d=>(qAdd d.1 d.2.1,())}
noncomputable def qbCs:VCaller:=ctrs [cOf,cWh,cIsW,cIMul,cIAdd,cMake]
theorem f_all (n:Int) (h1:(qOf ((iOf n).1,(iOf n).2)).1.1=(n)) (h2:(qOf ((iOf n).1,(iOf n).2)).1.2=(nilI)) (h3:(qOf ((iOf n).1,(iOf n).2)).2.1=((1:Int))) (h4:(qOf ((iOf n).1,(iOf n).2)).2.2=(nilI)):
  Tst.path (vrun0 Tryz.prog qbCs (fl BF []) 9 6 [iv n]) [] (toRet Tryz.prog Tryz.f30 false (qv ((n,[]),(1,[])))):=
 mp (an rt (an rt (an h1 (an h2 (an h3 (an h4 trivial))))))
theorem qa_one (a b:NQ) (h1:(isW ((a.1.1,a.1.2),a.2.1,a.2.2))=true) (h2:(isW ((b.1.1,b.1.2),b.2.1,b.2.2))=true) (h3:(okI (a.1.1,a.1.2)&&okI (b.1.1,b.1.2))=true) (h4:(qOf ((iAdd (a.1.1,a.1.2) (b.1.1,b.1.2)).1,(iAdd (a.1.1,a.1.2) (b.1.1,b.1.2)).2)).1.1=(iAdd a.1 b.1).1) (h5:(qOf ((iAdd (a.1.1,a.1.2) (b.1.1,b.1.2)).1,(iAdd (a.1.1,a.1.2) (b.1.1,b.1.2)).2)).1.2=(iAdd a.1 b.1).2) (h6:(qOf ((iAdd (a.1.1,a.1.2) (b.1.1,b.1.2)).1,(iAdd (a.1.1,a.1.2) (b.1.1,b.1.2)).2)).2.1=((1:Int))) (h7:(qOf ((iAdd (a.1.1,a.1.2) (b.1.1,b.1.2)).1,(iAdd (a.1.1,a.1.2) (b.1.1,b.1.2)).2)).2.2=(nilI)):
  Tst.path (vrun0 Tryz.prog qbCs (fl BQAdd []) 9 34 [qv a,qv b]) [true,true,true,true] (toRet Tryz.prog Tryz.f34 false (qv (iAdd a.1 b.1,(1,[])))):=
 mp (an rt (an (bT h1) (an (bT h1) (an rt (an h1 (an h2 (an h3 (an rt (an h4 (an h5 (an h6 (an h7 trivial))))))))))))
theorem qa_b (a b:NQ) (h1:(isW ((a.1.1,a.1.2),a.2.1,a.2.2))=true) (h2:(isW ((b.1.1,b.1.2),b.2.1,b.2.2))=false) (h3:(okI (a.1.1,a.1.2)&&okI (b.2.1,b.2.2))=true) (h4:(okI (b.1.1,b.1.2)&&okI (a.2.1,a.2.2))=true) (h5:(okI ((iMul (a.1.1,a.1.2) (b.2.1,b.2.2)).1,(iMul (a.1.1,a.1.2) (b.2.1,b.2.2)).2)&&okI ((iMul (b.1.1,b.1.2) (a.2.1,a.2.2)).1,(iMul (b.1.1,b.1.2) (a.2.1,a.2.2)).2))=true) (h6:(okI (a.2.1,a.2.2)&&okI (b.2.1,b.2.2))=true) (h7:(okQuo ((iAdd ((iMul (a.1.1,a.1.2) (b.2.1,b.2.2)).1,(iMul (a.1.1,a.1.2) (b.2.1,b.2.2)).2) ((iMul (b.1.1,b.1.2) (a.2.1,a.2.2)).1,(iMul (b.1.1,b.1.2) (a.2.1,a.2.2)).2)).1,(iAdd ((iMul (a.1.1,a.1.2) (b.2.1,b.2.2)).1,(iMul (a.1.1,a.1.2) (b.2.1,b.2.2)).2) ((iMul (b.1.1,b.1.2) (a.2.1,a.2.2)).1,(iMul (b.1.1,b.1.2) (a.2.1,a.2.2)).2)).2) ((iMul (a.2.1,a.2.2) (b.2.1,b.2.2)).1,(iMul (a.2.1,a.2.2) (b.2.1,b.2.2)).2))=true):
  Tst.path (vrun0 Tryz.prog qbCs (fl BQAdd []) 9 34 [qv a,qv b]) [true,true,true,false] (toRet Tryz.prog Tryz.f34 false (qv (qMake (iAdd (iMul a.1 b.2) (iMul b.1 a.2)) (iMul a.2 b.2)))):=
 mp (an rt (an (bT h1) (an (bT h1) (an rt (an h1 (an h2 (an (sr (AV.agg [iv a.1.1,AV.lst true (.int .u64) a.1.2])) (an (sr (AV.agg [iv b.2.1,AV.lst true (.int .u64) b.2.2])) (an h3 (an (sr (AV.agg [iv b.1.1,AV.lst true (.int .u64) b.1.2])) (an (sr (AV.agg [iv b.1.1,AV.lst true (.int .u64) b.1.2])) (an (sr (AV.agg [iv a.2.1,AV.lst true (.int .u64) a.2.2])) (an (sr (AV.agg [iv a.2.1,AV.lst true (.int .u64) a.2.2])) (an h4 (an h5 (an (sr (AV.agg [iv a.2.1,AV.lst true (.int .u64) a.2.2])) (an (sr (AV.agg [iv a.2.1,AV.lst true (.int .u64) a.2.2])) (an (sr (AV.agg [iv a.2.1,AV.lst true (.int .u64) a.2.2])) (an (sr (AV.agg [iv a.2.1,AV.lst true (.int .u64) a.2.2])) (an (sr (AV.agg [iv b.2.1,AV.lst true (.int .u64) b.2.2])) (an (sr (AV.agg [iv b.2.1,AV.lst true (.int .u64) b.2.2])) (an (sr (AV.agg [iv b.2.1,AV.lst true (.int .u64) b.2.2])) (an (sr (AV.agg [iv b.2.1,AV.lst true (.int .u64) b.2.2])) (an h6 (an h7 (an (rr (qMake ((iAdd ((iMul (a.1.1,a.1.2) (b.2.1,b.2.2)).1,(iMul (a.1.1,a.1.2) (b.2.1,b.2.2)).2) ((iMul (b.1.1,b.1.2) (a.2.1,a.2.2)).1,(iMul (b.1.1,b.1.2) (a.2.1,a.2.2)).2)).1,(iAdd ((iMul (a.1.1,a.1.2) (b.2.1,b.2.2)).1,(iMul (a.1.1,a.1.2) (b.2.1,b.2.2)).2) ((iMul (b.1.1,b.1.2) (a.2.1,a.2.2)).1,(iMul (b.1.1,b.1.2) (a.2.1,a.2.2)).2)).2) ((iMul (a.2.1,a.2.2) (b.2.1,b.2.2)).1,(iMul (a.2.1,a.2.2) (b.2.1,b.2.2)).2)).1.1) (an (rr (qMake ((iAdd ((iMul (a.1.1,a.1.2) (b.2.1,b.2.2)).1,(iMul (a.1.1,a.1.2) (b.2.1,b.2.2)).2) ((iMul (b.1.1,b.1.2) (a.2.1,a.2.2)).1,(iMul (b.1.1,b.1.2) (a.2.1,a.2.2)).2)).1,(iAdd ((iMul (a.1.1,a.1.2) (b.2.1,b.2.2)).1,(iMul (a.1.1,a.1.2) (b.2.1,b.2.2)).2) ((iMul (b.1.1,b.1.2) (a.2.1,a.2.2)).1,(iMul (b.1.1,b.1.2) (a.2.1,a.2.2)).2)).2) ((iMul (a.2.1,a.2.2) (b.2.1,b.2.2)).1,(iMul (a.2.1,a.2.2) (b.2.1,b.2.2)).2)).1.2) (an (rr (qMake ((iAdd ((iMul (a.1.1,a.1.2) (b.2.1,b.2.2)).1,(iMul (a.1.1,a.1.2) (b.2.1,b.2.2)).2) ((iMul (b.1.1,b.1.2) (a.2.1,a.2.2)).1,(iMul (b.1.1,b.1.2) (a.2.1,a.2.2)).2)).1,(iAdd ((iMul (a.1.1,a.1.2) (b.2.1,b.2.2)).1,(iMul (a.1.1,a.1.2) (b.2.1,b.2.2)).2) ((iMul (b.1.1,b.1.2) (a.2.1,a.2.2)).1,(iMul (b.1.1,b.1.2) (a.2.1,a.2.2)).2)).2) ((iMul (a.2.1,a.2.2) (b.2.1,b.2.2)).1,(iMul (a.2.1,a.2.2) (b.2.1,b.2.2)).2)).2.1) (an (rr (qMake ((iAdd ((iMul (a.1.1,a.1.2) (b.2.1,b.2.2)).1,(iMul (a.1.1,a.1.2) (b.2.1,b.2.2)).2) ((iMul (b.1.1,b.1.2) (a.2.1,a.2.2)).1,(iMul (b.1.1,b.1.2) (a.2.1,a.2.2)).2)).1,(iAdd ((iMul (a.1.1,a.1.2) (b.2.1,b.2.2)).1,(iMul (a.1.1,a.1.2) (b.2.1,b.2.2)).2) ((iMul (b.1.1,b.1.2) (a.2.1,a.2.2)).1,(iMul (b.1.1,b.1.2) (a.2.1,a.2.2)).2)).2) ((iMul (a.2.1,a.2.2) (b.2.1,b.2.2)).1,(iMul (a.2.1,a.2.2) (b.2.1,b.2.2)).2)).2.2) trivial)))))))))))))))))))))))))))))
theorem qa_c (a b:NQ) (h1:(isW ((a.1.1,a.1.2),a.2.1,a.2.2))=false) (h2:(okI (a.1.1,a.1.2)&&okI (b.2.1,b.2.2))=true) (h3:(okI (b.1.1,b.1.2)&&okI (a.2.1,a.2.2))=true) (h4:(okI ((iMul (a.1.1,a.1.2) (b.2.1,b.2.2)).1,(iMul (a.1.1,a.1.2) (b.2.1,b.2.2)).2)&&okI ((iMul (b.1.1,b.1.2) (a.2.1,a.2.2)).1,(iMul (b.1.1,b.1.2) (a.2.1,a.2.2)).2))=true) (h5:(okI (a.2.1,a.2.2)&&okI (b.2.1,b.2.2))=true) (h6:(okQuo ((iAdd ((iMul (a.1.1,a.1.2) (b.2.1,b.2.2)).1,(iMul (a.1.1,a.1.2) (b.2.1,b.2.2)).2) ((iMul (b.1.1,b.1.2) (a.2.1,a.2.2)).1,(iMul (b.1.1,b.1.2) (a.2.1,a.2.2)).2)).1,(iAdd ((iMul (a.1.1,a.1.2) (b.2.1,b.2.2)).1,(iMul (a.1.1,a.1.2) (b.2.1,b.2.2)).2) ((iMul (b.1.1,b.1.2) (a.2.1,a.2.2)).1,(iMul (b.1.1,b.1.2) (a.2.1,a.2.2)).2)).2) ((iMul (a.2.1,a.2.2) (b.2.1,b.2.2)).1,(iMul (a.2.1,a.2.2) (b.2.1,b.2.2)).2))=true):
  Tst.path (vrun0 Tryz.prog qbCs (fl BQAdd []) 9 34 [qv a,qv b]) [false,false,false,false] (toRet Tryz.prog Tryz.f34 false (qv (qMake (iAdd (iMul a.1 b.2) (iMul b.1 a.2)) (iMul a.2 b.2)))):=
 mp (an rt (an (bT h1) (an (bT h1) (an h1 (an rf (an (sr (AV.agg [iv a.1.1,AV.lst true (.int .u64) a.1.2])) (an (sr (AV.agg [iv b.2.1,AV.lst true (.int .u64) b.2.2])) (an h2 (an (sr (AV.agg [iv b.1.1,AV.lst true (.int .u64) b.1.2])) (an (sr (AV.agg [iv b.1.1,AV.lst true (.int .u64) b.1.2])) (an (sr (AV.agg [iv a.2.1,AV.lst true (.int .u64) a.2.2])) (an (sr (AV.agg [iv a.2.1,AV.lst true (.int .u64) a.2.2])) (an h3 (an h4 (an (sr (AV.agg [iv a.2.1,AV.lst true (.int .u64) a.2.2])) (an (sr (AV.agg [iv a.2.1,AV.lst true (.int .u64) a.2.2])) (an (sr (AV.agg [iv a.2.1,AV.lst true (.int .u64) a.2.2])) (an (sr (AV.agg [iv a.2.1,AV.lst true (.int .u64) a.2.2])) (an (sr (AV.agg [iv b.2.1,AV.lst true (.int .u64) b.2.2])) (an (sr (AV.agg [iv b.2.1,AV.lst true (.int .u64) b.2.2])) (an (sr (AV.agg [iv b.2.1,AV.lst true (.int .u64) b.2.2])) (an (sr (AV.agg [iv b.2.1,AV.lst true (.int .u64) b.2.2])) (an h5 (an h6 (an (rr (qMake ((iAdd ((iMul (a.1.1,a.1.2) (b.2.1,b.2.2)).1,(iMul (a.1.1,a.1.2) (b.2.1,b.2.2)).2) ((iMul (b.1.1,b.1.2) (a.2.1,a.2.2)).1,(iMul (b.1.1,b.1.2) (a.2.1,a.2.2)).2)).1,(iAdd ((iMul (a.1.1,a.1.2) (b.2.1,b.2.2)).1,(iMul (a.1.1,a.1.2) (b.2.1,b.2.2)).2) ((iMul (b.1.1,b.1.2) (a.2.1,a.2.2)).1,(iMul (b.1.1,b.1.2) (a.2.1,a.2.2)).2)).2) ((iMul (a.2.1,a.2.2) (b.2.1,b.2.2)).1,(iMul (a.2.1,a.2.2) (b.2.1,b.2.2)).2)).1.1) (an (rr (qMake ((iAdd ((iMul (a.1.1,a.1.2) (b.2.1,b.2.2)).1,(iMul (a.1.1,a.1.2) (b.2.1,b.2.2)).2) ((iMul (b.1.1,b.1.2) (a.2.1,a.2.2)).1,(iMul (b.1.1,b.1.2) (a.2.1,a.2.2)).2)).1,(iAdd ((iMul (a.1.1,a.1.2) (b.2.1,b.2.2)).1,(iMul (a.1.1,a.1.2) (b.2.1,b.2.2)).2) ((iMul (b.1.1,b.1.2) (a.2.1,a.2.2)).1,(iMul (b.1.1,b.1.2) (a.2.1,a.2.2)).2)).2) ((iMul (a.2.1,a.2.2) (b.2.1,b.2.2)).1,(iMul (a.2.1,a.2.2) (b.2.1,b.2.2)).2)).1.2) (an (rr (qMake ((iAdd ((iMul (a.1.1,a.1.2) (b.2.1,b.2.2)).1,(iMul (a.1.1,a.1.2) (b.2.1,b.2.2)).2) ((iMul (b.1.1,b.1.2) (a.2.1,a.2.2)).1,(iMul (b.1.1,b.1.2) (a.2.1,a.2.2)).2)).1,(iAdd ((iMul (a.1.1,a.1.2) (b.2.1,b.2.2)).1,(iMul (a.1.1,a.1.2) (b.2.1,b.2.2)).2) ((iMul (b.1.1,b.1.2) (a.2.1,a.2.2)).1,(iMul (b.1.1,b.1.2) (a.2.1,a.2.2)).2)).2) ((iMul (a.2.1,a.2.2) (b.2.1,b.2.2)).1,(iMul (a.2.1,a.2.2) (b.2.1,b.2.2)).2)).2.1) (an (rr (qMake ((iAdd ((iMul (a.1.1,a.1.2) (b.2.1,b.2.2)).1,(iMul (a.1.1,a.1.2) (b.2.1,b.2.2)).2) ((iMul (b.1.1,b.1.2) (a.2.1,a.2.2)).1,(iMul (b.1.1,b.1.2) (a.2.1,a.2.2)).2)).1,(iAdd ((iMul (a.1.1,a.1.2) (b.2.1,b.2.2)).1,(iMul (a.1.1,a.1.2) (b.2.1,b.2.2)).2) ((iMul (b.1.1,b.1.2) (a.2.1,a.2.2)).1,(iMul (b.1.1,b.1.2) (a.2.1,a.2.2)).2)).2) ((iMul (a.2.1,a.2.2) (b.2.1,b.2.2)).1,(iMul (a.2.1,a.2.2) (b.2.1,b.2.2)).2)).2.2) trivial))))))))))))))))))))))))))))
theorem qa_ok:CallOk Tryz.prog (gS qaCs):=ctrs_ok fun c hc=>by
 simp only [List.mem_cons,List.not_mem_nil,or_false]at hc
 rcases hc with rfl |rfl |rfl |rfl |rfl |rfl |rfl
 ·exact cIMul_ok
 ·exact cIAdd_ok
 ·exact cMake_ok
 ·exact cINeg_ok
 ·exact cISign_ok
 ·exact cICmp_ok
 ·exact cDm_ok
theorem okQ_iff {n:Nat} {q:NQ}:okQ n q=true↔okN n q.1=true∧okN n q.2=true∧0<valI q.2:=by
 unfold okQ
 simp only [Bool.and_eq_true,decide_eq_true_eq]
theorem QIs.ok {n:Nat} {q:NQ} {x y:Int} (h:QIs n q x y):okQ n q=true:=okQ_iff.2 ⟨h.o1,h.o2,h.pos⟩
theorem ok_iMul {n m:Nat} {a b:NI} (h:okN n a=true) (g:okN m b=true) (hn:1≤n) (hm:1≤m):okN (n+m) (iMul a b)=true:=by
 have h1:=val_lt h hn
 have h2:=val_lt g hm
 refine(mkI_law ?_).1
 rw [Int.natAbs_mul,Int.natCast_mul,Int.pow_add]
 have p:=pow_pos' (b:=18446744073709551616) (by decide) n
 generalize (18446744073709551616:Int)^n=P at*
 generalize (18446744073709551616:Int)^m=Q at*
 have e1:=Int.mul_le_mul_of_nonneg_right (show((valI a).natAbs:Int)≤P by omega) (show(0:Int)≤((valI b).natAbs:Int) by omega)
 have e2:=Int.mul_lt_mul_of_pos_left h2 (show 0<P by omega)
 omega
theorem ok_add' {n:Nat} {a b:NI} (h:okN n a=true) (g:okN n b=true) (hn:1≤n):okN (n+1) (iAdd a b)=true:=by
 have h1:=val_lt h hn
 have h2:=val_lt g hn
 refine ok_iAdd ?_
 rw [Int.pow_succ]
 have p:=pow_pos' (b:=18446744073709551616) (by decide) n
 generalize (18446744073709551616:Int)^n=P at*
 omega
theorem mul_ne {x y:Int} (hx:0<x) (hy:0<y):0<x*y:=Int.mul_pos hx hy
theorem of_holds (n:Int):Holds Tryz.prog false 56 [iv n] (nv (iOf n)):=by
 refine holds_fl (c:=BOf) Tryz.func56 rfl rfl fun w F=> ?_
 exact GoalL.ret known mixed qa_ok 9 _ (of_all n) fun T H h=>h
theorem cOf_ok:cOf.Ok Tryz.prog:=fun⟨n,_⟩ h=>of_holds n
theorem isw_holds (a:NQ):Holds Tryz.prog true 57 [qv a] (bv (isW a)):=by
 refine holds_fl (c:=BIsW) Tryz.func57 rfl rfl fun w F=> ?_
 cases he:a.2.2.isEmpty with
 |true=>
  have e:isW a=(a.2.1==1):=by unfold isW;rw [show smI a.2=true from he];rfl
  rw [e]
  exact GoalL.ret known mixed qa_ok 9 _ (iw_t a he) fun T H h=>h
 |false=>
  have e:isW a=false:=by unfold isW;rw [show smI a.2=false from he];rfl
  rw [e]
  exact GoalL.ret known mixed qa_ok 9 _ (iw_f a he) fun T H h=>h
theorem cIsW_ok:cIsW.Ok Tryz.prog:=fun⟨a,_⟩ h=>isw_holds a
theorem qsign_holds (a:NQ) (h:okI a.1=true):Holds Tryz.prog true 33 [qv a] (iv (iSign a.1)):=by
 refine holds_fl (c:=BQSign) Tryz.func33 rfl rfl fun w F=> ?_
 exact GoalL.ret known mixed qa_ok 9 _ (qs_all a h) fun T H h=>h
theorem cQSign_ok:cQSign.Ok Tryz.prog:=fun⟨a,_⟩ h=>qsign_holds a h
theorem and_ok {a b:NI} (h:okI a=true) (g:okI b=true):(okI a&&okI b)=true:=by rw [h,g];rfl
theorem qmul_holds (a b:NQ) (h:okQ 20000 a=true) (g:okQ 20000 b=true):Holds Tryz.prog false 29 [qv a,qv b] (qv (qMul a b)):=by
 obtain⟨h1,h2,h3⟩:=okQ_iff.1 h
 obtain⟨g1,g2,g3⟩:=okQ_iff.1 g
 have m:= @okN_mono 20000 100000
 have m2:= @okN_mono (20000+20000) 100000
 refine holds_fl (c:=BQMul) Tryz.func29 rfl rfl fun w F=> ?_
 exact GoalL.ret known mixed qa_ok 9 _ (qm_all a b (and_ok (m (by decide) h1) (m (by decide) g1)) (and_ok (m (by decide) h2) (m (by decide) g2))
  (okQuo_iff.2 ⟨m2 (by decide) (ok_iMul h1 g1 (by decide) (by decide)),m2 (by decide) (ok_iMul h2 g2 (by decide) (by decide)),by
    have:=mul_ne h3 g3
    show valI (iMul a.2 b.2)≠0
    rw [val_mul];omega⟩)) fun T H h=>h
theorem cQMul_ok:cQMul.Ok Tryz.prog:=fun⟨a,b,_⟩ h=>by
 have h:(okQ 20000 a&&okQ 20000 b)=true:=h
 rw [Bool.and_eq_true]at h
 exact qmul_holds a b h.1 h.2
end
end Go.Proofs.YtccmlbinkgbpgaaGreatDoor
/- Package num: fractions and rational numbers. -/
namespace Go.Proofs.YtccmlbinkgbpgaaGreatDoor
open Go.RowKit Sv
set_option maxRecDepth 100000
set_option linter.unusedVariables false
noncomputable section
theorem wh2_all (n:NI) (h1:n.1=(qOf n).1.1) (h2:n.2=(qOf n).1.2) (h3:(iOf (1:Int)).1=(qOf n).2.1) (h4:(iOf (1:Int)).2=(qOf n).2.2):
  Tst.path (vrun0 Tryz.prog (ctrs [cOf]) (fl BWh []) 9 6 [nv n]) [] (toRet Tryz.prog Tryz.f64 false (qv (qOf n))):=
 mp (an (sr (AV.agg [iv n.1,AV.lst true (.int .u64) n.2])) (an rt (an (sr (AV.agg [iv n.1,AV.lst true (.int .u64) n.2])) (an h1 (an h2 (an h3 (an h4 trivial)))))))
theorem wh_ok:CallOk Tryz.prog (gS (ctrs [cOf])):=ctrs_ok fun c hc=>by
 simp only [List.mem_cons,List.not_mem_nil,or_false]at hc
 rcases hc with rfl
 exact cOf_ok
theorem wh_holds (n:NI):Holds Tryz.prog false 64 [nv n] (qv (qOf n)):=by
 refine holds_fl (c:=BWh) Tryz.func64 rfl rfl fun w F=> ?_
 exact GoalL.ret known mixed wh_ok 9 _ (wh2_all n rfl rfl rfl rfl) fun T H h=>h
theorem cWh_ok:cWh.Ok Tryz.prog:=fun⟨n,_⟩ h=>wh_holds n
theorem qb_ok:CallOk Tryz.prog (gS qbCs):=ctrs_ok fun c hc=>by
 simp only [List.mem_cons,List.not_mem_nil,or_false]at hc
 rcases hc with rfl |rfl |rfl |rfl |rfl |rfl
 ·exact cOf_ok
 ·exact cWh_ok
 ·exact cIsW_ok
 ·exact cIMul_ok
 ·exact cIAdd_ok
 ·exact cMake_ok
theorem f_holds (n:Int):Holds Tryz.prog false 30 [iv n] (qv (qOf (iOf n))):=by
 refine holds_fl (c:=BF) Tryz.func30 rfl rfl fun w F=> ?_
 exact GoalL.ret known mixed qb_ok 9 _ (f_all n rfl rfl rfl rfl) fun T H h=>h
theorem cF_ok:cF.Ok Tryz.prog:=fun⟨n,_⟩ h=>f_holds n
theorem qadd_holds (a b:NQ) (h:okQ 20000 a=true) (g:okQ 20000 b=true):Holds Tryz.prog false 34 [qv a,qv b] (qv (qAdd a b)):=by
 obtain⟨h1,h2,h3⟩:=okQ_iff.1 h
 obtain⟨g1,g2,g3⟩:=okQ_iff.1 g
 have hS:=qb_ok
 have m:= @okN_mono 20000 100000
 have m2:= @okN_mono (20000+20000) 100000
 have m3:= @okN_mono (20000+20000+1) 100000
 have p1:=and_ok (m (by decide) h1) (m (by decide) g1)
 have p2:=and_ok (m (by decide) h1) (m (by decide) g2)
 have p3:=and_ok (m (by decide) g1) (m (by decide) h2)
 have p4:=and_ok (m (by decide) h2) (m (by decide) g2)
 have o1:=ok_iMul h1 g2 (by decide) (by decide)
 have o2:=ok_iMul g1 h2 (by decide) (by decide)
 have p5:=and_ok (m2 (by decide) o1) (m2 (by decide) o2)
 have p6:okQuo (iAdd (iMul a.1 b.2) (iMul b.1 a.2)) (iMul a.2 b.2)=true:=okQuo_iff.2 ⟨m3 (by decide) (ok_add' o1 o2 (by decide)),m2 (by decide) (ok_iMul h2 g2 (by decide) (by decide)),by
   have:=mul_ne h3 g3
   rw [val_mul];omega⟩
 refine holds_fl (c:=BQAdd) Tryz.func34 rfl rfl fun w F=> ?_
 unfold qAdd
 by_cases hw:isW a=true
 ·by_cases hw2:isW b=true
  ·rw [if_pos (by rw [hw,hw2];rfl)]
   exact GoalL.ret known mixed hS 9 _ (qa_one a b hw hw2 p1 rfl rfl rfl rfl) fun T H h=>h
  ·rw [if_neg (by rw [hw];simpa using hw2)]
   exact GoalL.ret known mixed hS 9 _ (qa_b a b hw (by simpa using hw2) p2 p3 p5 p4 p6) fun T H h=>h
 ·rw [if_neg (by simp [hw])]
  exact GoalL.ret known mixed hS 9 _ (qa_c a b (by simpa using hw) p2 p3 p5 p4 p6) fun T H h=>h
theorem cQAdd_ok:cQAdd.Ok Tryz.prog:=fun⟨a,b,_⟩ h=>by
 have h:(okQ 20000 a&&okQ 20000 b)=true:=h
 rw [Bool.and_eq_true]at h
 exact qadd_holds a b h.1 h.2
structure QR (n:Nat) (q:NQ) (r:Rat):Prop where
 o1:okN n q.1=true
 o2:okN n q.2=true
 num:valI q.1=r.num
 den:valI q.2=r.den
theorem QR.ok {n:Nat} {q:NQ} {r:Rat} (h:QR n q r):okQ n q=true:=okQ_iff.2 ⟨h.o1,h.o2,by rw [h.den];have:=r.den_pos;omega⟩
theorem QR.mono {n m:Nat} {q:NQ} {r:Rat} (h:QR n q r) (hnm:n≤m):QR m q r:=⟨okN_mono hnm h.o1,okN_mono hnm h.o2,h.num,h.den⟩
theorem QIs.qr {n:Nat} {q:NQ} {x y:Int} (h:QIs n q x y) (hy:y≠0):QR n q (Rat.divInt x y):=by
 have hd:((Rat.divInt x y).den:Int)≠0:=by have:=(Rat.divInt x y).den_pos;omega
 have e:(Rat.divInt x y).num*y=x*((Rat.divInt x y).den:Int):=(Rat.divInt_eq_divInt_iff hd hy).1 (Rat.num_divInt_den _)
 have g:Int.gcd (Rat.divInt x y).num ((Rat.divInt x y).den:Int)=1:=(Rat.divInt x y).reduced
 have e2:valI q.1*((Rat.divInt x y).den:Int)=(Rat.divInt x y).num*valI q.2:=by
  have h1:=h.val
  refine Int.eq_of_mul_eq_mul_right hy ?_
  generalize (Rat.divInt x y).num=N at*
  generalize ((Rat.divInt x y).den:Int)=D at*
  grind
 obtain⟨h1,h2⟩:=low_unique h.pos (by omega) h.low g e2
 exact⟨h.o1,h.o2,h1,h2⟩
theorem QR.self {n:Nat} {q:NQ} {r:Rat} (h:QR n q r):Rat.divInt (valI q.1) (valI q.2)=r:=by
 rw [h.num,h.den];exact Rat.num_divInt_den _
theorem QR.pos {n:Nat} {q:NQ} {r:Rat} (h:QR n q r):0<valI q.2:=(okQ_iff.1 h.ok).2.2
theorem qMul_qr {n m:Nat} {a b:NQ} {r s:Rat} (h:QR n a r) (g:QR m b s) (hn:1≤n) (hm:1≤m):QR (n+m) (qMul a b) (r*s):=by
 have p:=mul_ne h.pos g.pos
 have:=(qMake_law (ok_iMul h.o1 g.o1 hn hm) (ok_iMul h.o2 g.o2 hn hm) (by omega) (by rw [val_mul];omega)).qr (by rw [val_mul];omega)
 rw [val_mul,val_mul,←Rat.divInt_mul_divInt,h.self,g.self]at this
 exact this
theorem qOf_qr {n:Nat} {a:NI} (h:okN n a=true):QR n (qOf a) (valI a:Rat):=by
 refine⟨h, ?_,rfl,rfl⟩
 exact(okN_sm (n:=n) (a:=(1,[])) rfl).trans (by decide)
theorem isW_den {n:Nat} {a:NQ} {r:Rat} (h:QR n a r) (hw:isW a=true):r=(valI a.1:Rat):=by
 unfold isW at hw
 rw [Bool.and_eq_true]at hw
 have hv:valI a.2=1:=by unfold valI;rw [if_pos (isEmpty_iff'.1 hw.1)];simpa using hw.2
 have hd:=h.den
 refine Rat.ext ?_ ?_
 ·rw [h.num];rfl
 ·show r.den=1;omega
theorem qAdd_qr {n:Nat} {a b:NQ} {r s:Rat} (h:QR n a r) (g:QR n b s) (hn:1≤n):QR (n+n+1) (qAdd a b) (r+s):=by
 unfold qAdd
 split
 ·rename_i hw
  rw [Bool.and_eq_true]at hw
  have:=qOf_qr (ok_add' h.o1 g.o1 hn)
  rw [val_iAdd,Rat.intCast_add,←isW_den h hw.1,←isW_den g hw.2]at this
  exact this.mono (by omega)
 ·have p:=mul_ne h.pos g.pos
  have:=(qMake_law (ok_add' (ok_iMul h.o1 g.o2 hn hn) (ok_iMul g.o1 h.o2 hn hn) (by omega)) (okN_mono (Nat.le_succ _) (ok_iMul h.o2 g.o2 hn hn)) (by omega) (by rw [val_mul];omega)).qr (by rw [val_mul];omega)
  rw [val_iAdd,val_mul,val_mul,val_mul,←Rat.divInt_add_divInt _ _ (by have:=h.pos;omega) (by have:=g.pos;omega),h.self,g.self]at this
  exact this
theorem num_neg_iff {r:Rat}:r.num<0↔r<0:=by
 rw [←Int.not_le,←Rat.not_le,Rat.num_nonneg]
theorem qSign_qr {n:Nat} {a:NQ} {r:Rat} (h:QR n a r):iSign a.1=if r<0 then-1 else if r=0 then 0 else 1:=by
 unfold iSign sgn
 rw [h.num]
 by_cases h1:r<0
 ·rw [if_pos h1,if_pos (num_neg_iff.2 h1)]
 ·rw [if_neg h1,if_neg (fun hh=>h1 (num_neg_iff.1 hh))]
  by_cases h2:r=0
  ·rw [if_pos h2,if_pos (by rw [h2];rfl)]
  ·rw [if_neg h2,if_neg (fun hh=>h2 (Rat.num_eq_zero.1 hh))]
end
end Go.Proofs.YtccmlbinkgbpgaaGreatDoor
/- Package num: integers: powers. -/
namespace Go.Proofs.YtccmlbinkgbpgaaGreatDoor
open Go.RowKit Sv
set_option maxRecDepth 100000
set_option linter.unusedVariables false
noncomputable section
noncomputable def BPow:Code:=(Tryz.f132.body).getD .skip
noncomputable def pwCs:VCaller:=ctrs [cOf,cIMul]
def SPw (a o:NI) (k:Int):St:={n:=23,sl:=[(1,iv k),(2, .ptr 64 0),(4, .ptr 65 0),(5, .ptr 66 0)],en:=[(64,bI a),(65,b0),(66,bI o)],next:=67}
theorem pw_start (a:NI) (k:Int) (h1:(iOf (1:Int)).1=((1:Int))) (h2:(iOf (1:Int)).2=(nilI)):
  Tst.path (vrun0 Tryz.prog pwCs (fl BPow []) 2 23 [nv a,iv k]) [] (toSt Tryz.prog 23 .normal s3 (SPw a (1,[]) k)):=
 mp (an rt (an (rr k) (an (rr ((0:Nat))) (an (rr ((0:Nat))) (an (rr ((0:Nat))) (an (an (rr a.1) (an (rr a.2) trivial)) (an (an (rr ((0:Int))) (an (rr (Value.slice none (0:Nat) (0:Nat))) trivial)) (an (an h1 (an h2 trivial)) trivial))))))))
theorem pw_11 (a o:NI) (k j:Int) (h1:k>0) (h2:IntKind.wrap IntKind.i64 (↑(BitVec.toNat (BitVec.ofInt (64:Nat) k &&& BitVec.ofInt (64:Nat) (1:Int))):Int)=1) (h3:(okI (o.1,o.2)&&okI (a.1,a.2))=true) (h4:k>1) (h5:(okI (a.1,a.2)&&okI (a.1,a.2))=true) (h6:(Int.fdiv k ((2:Int)^min (Int.toNat (1:Int)) (64:Nat)))=(j)):
  Tst.path (vall Tryz.prog pwCs (fl BPow gL) (SPw a o k)) [true,true,true] (toSt Tryz.prog 23 .normal s3 (SPw (iMul a a) (iMul o a) j)):=
 mp (an (decide_eq_true h1) (an (beq_iff_eq.mpr h2) (an h3 (an (decide_eq_true h4) (an h5 (an rt (an h6 (an (rr ((0:Nat))) (an (rr ((0:Nat))) (an (rr ((0:Nat))) (an (an (rr (iMul (a.1,a.2) (a.1,a.2)).1) (an (rr (iMul (a.1,a.2) (a.1,a.2)).2) trivial)) (an (an (rr ((0:Int))) (an (rr (Value.slice none (0:Nat) (0:Nat))) trivial)) (an (an (rr (iMul (o.1,o.2) (a.1,a.2)).1) (an (rr (iMul (o.1,o.2) (a.1,a.2)).2) trivial)) trivial)))))))))))))
theorem pw_10 (a o:NI) (k j:Int) (h1:k>0) (h2:IntKind.wrap IntKind.i64 (↑(BitVec.toNat (BitVec.ofInt (64:Nat) k &&& BitVec.ofInt (64:Nat) (1:Int))):Int)=1) (h3:(okI (o.1,o.2)&&okI (a.1,a.2))=true) (h4:¬k>1) (h5:(Int.fdiv k ((2:Int)^min (Int.toNat (1:Int)) (64:Nat)))=(j)):
  Tst.path (vall Tryz.prog pwCs (fl BPow gL) (SPw a o k)) [true,true,false] (toSt Tryz.prog 23 .normal s3 (SPw a (iMul o a) j)):=
 mp (an (decide_eq_true h1) (an (beq_iff_eq.mpr h2) (an h3 (an (decide_eq_false h4) (an rt (an h5 (an (rr ((0:Nat))) (an (rr ((0:Nat))) (an (rr ((0:Nat))) (an (an (rr a.1) (an (rr a.2) trivial)) (an (an (rr ((0:Int))) (an (rr (Value.slice none (0:Nat) (0:Nat))) trivial)) (an (an (rr (iMul (o.1,o.2) (a.1,a.2)).1) (an (rr (iMul (o.1,o.2) (a.1,a.2)).2) trivial)) trivial))))))))))))
theorem pw_01 (a o:NI) (k j:Int) (h1:k>0) (h2:¬IntKind.wrap IntKind.i64 (↑(BitVec.toNat (BitVec.ofInt (64:Nat) k &&& BitVec.ofInt (64:Nat) (1:Int))):Int)=1) (h3:k>1) (h4:(okI (a.1,a.2)&&okI (a.1,a.2))=true) (h5:(Int.fdiv k ((2:Int)^min (Int.toNat (1:Int)) (64:Nat)))=(j)):
  Tst.path (vall Tryz.prog pwCs (fl BPow gL) (SPw a o k)) [true,false,true] (toSt Tryz.prog 23 .normal s3 (SPw (iMul a a) o j)):=
 mp (an (decide_eq_true h1) (an (beq_eq_false_iff_ne.mpr h2) (an (decide_eq_true h3) (an h4 (an rt (an h5 (an (rr ((0:Nat))) (an (rr ((0:Nat))) (an (rr ((0:Nat))) (an (an (rr (iMul (a.1,a.2) (a.1,a.2)).1) (an (rr (iMul (a.1,a.2) (a.1,a.2)).2) trivial)) (an (an (rr ((0:Int))) (an (rr (Value.slice none (0:Nat) (0:Nat))) trivial)) (an (an (rr o.1) (an (rr o.2) trivial)) trivial))))))))))))
theorem pw_end (a o:NI) (k:Int) (h1:¬k>0):
  Tst.path (vall Tryz.prog pwCs (fl BPow gL) (SPw a o k)) [false] (toSt Tryz.prog 23 (.exit 0) s3 (SPw a o k)):=
 mp (an (decide_eq_false h1) (an (rr k) (an (rr ((0:Nat))) (an (rr ((0:Nat))) (an (rr ((0:Nat))) (an (an (rr a.1) (an (rr a.2) trivial)) (an (an (rr ((0:Int))) (an (rr (Value.slice none (0:Nat) (0:Nat))) trivial)) (an (an (rr o.1) (an (rr o.2) trivial)) trivial))))))))
theorem pw_ret (a o:NI) (k:Int):
  Tst.path (vall Tryz.prog pwCs (List.drop 3 (fl BPow [])) (SPw a o k)) [] (toRet Tryz.prog Tryz.f132 false (nv o)):=
 mp (an (rr o.1) (an (rr o.2) trivial))
noncomputable def iPow (a:NI) (k:Int):Int×List Int:=mkI (valI a^k.toNat)
def okPw (a:NI) (k:Int):Bool:=okI a&&(decide (0≤k)&&decide (1+(a.2.length+1)*k.toNat≤100000))
noncomputable def cPow:Ctr:={f:=132,ps:=[tI, .int .i64],rs:=[tI],fresh:=false,pre:=fun d=>okPw d.1 d.2.1,fn:=fun d=>(iPow d.1 d.2.1,())}
theorem pw_ok:CallOk Tryz.prog (gS pwCs):=ctrs_ok fun c hc=>by
 simp only [List.mem_cons,List.not_mem_nil,or_false]at hc
 rcases hc with rfl |rfl
 ·exact cOf_ok
 ·exact cIMul_ok
theorem and1 {m:Nat} (h:m≤100000):IntKind.i64.wrap ↑(BitVec.ofInt 64 (m:Int) &&& BitVec.ofInt 64 1).toNat=((m%2:Nat):Int):=by
 have e:(BitVec.ofInt 64 (m:Int) &&& BitVec.ofInt 64 1).toNat=m%2:=by
  rw [BitVec.toNat_and,BitVec.toNat_ofInt,BitVec.toNat_ofInt,show((m:Int)%(2^64:Nat)).toNat=m by omega]
  exact Nat.and_one_is_mod m
 rw [e]
 rcases Nat.mod_two_eq_zero_or_one m with h|h
 ·rw [h];rfl
 ·rw [h];rfl
theorem half (m:Nat):Int.fdiv (m:Int) (2^min (Int.toNat 1) 64)=((m/2:Nat):Int):=by
 have e:(2:Int)^min (Int.toNat 1) 64=2:=rfl
 rw [e,Int.fdiv_eq_ediv_of_nonneg _ (by decide)];omega
theorem sq_pow (a:Int):∀j:Nat,(a*a)^j=a^j*a^j
 |0=>by rw [Int.pow_zero,Int.pow_zero,Int.one_mul]
 |j+1=>by rw [Int.pow_succ,Int.pow_succ,sq_pow a j];grind
theorem pow_even {a:Int} {m:Nat} (h:m%2=0):(a*a)^(m/2)=a^m:=by
 rw [sq_pow,←Int.pow_add];congr 1;omega
theorem pow_odd {a:Int} {m:Nat} (h:m%2=1):a*(a*a)^(m/2)=a^m:=by
 obtain⟨j,rfl⟩:∃j,m=2*j+1:=⟨m/2,by omega⟩
 rw [show(2*j+1)/2=j by omega,sq_pow,Int.pow_succ,show 2*j=j+j by omega,Int.pow_add,Int.mul_comm]
theorem okN_len {n:Nat} {a:NI} (h:okN n a=true):okN (a.2.length+1) a=true:=by
 by_cases hs:a.2=[]
 ·rw [okN_sm hs]at h ⊢;exact h
 ·obtain⟨h1,h2,h3,h4,h5⟩:=(okN_big hs).1 h
  exact(okN_big hs).2 ⟨h1,h2,h3,h4,by omega⟩
theorem pow_holds (a:NI) (k:Nat) (h:okI a=true) (hk:1+(a.2.length+1)*k≤100000):Holds Tryz.prog false 132 [nv a,iv (k:Int)] (nv (mkI (valI a^k))):=by
 have hS:=pw_ok
 refine holds_fl (c:=BPow) Tryz.func132 rfl rfl fun w F=> ?_
 refine GoalL.to known mixed hS 2 _ (pw_start a k rfl rfl) (by kernel_rfl) ?_
 refine GoalL.loop (ι:={x:(NI×NI)×Nat//x.1.2=mkI (valI x.1.2)∧valI x.1.2*valI x.1.1^x.2=valI a^k∧∃p q:Nat,1≤p∧1≤q∧okN p x.1.1=true∧okN q x.1.2=true∧q+p*x.2≤100000}) (id:=0) (b:=cat BPow gL) (rest:=List.drop 3 (fl BPow [])) (by kernel_rfl) (fun x=>SPw x.1.1.1 x.1.1.2 (x.1.2:Int)) (fun x=>x.1.2)
  ⟨((a,(1,[])),k),by
    have v:valI (1,[])=1:=rfl
    refine⟨?_, ?_,a.2.length+1,1,by omega,by omega,okN_len h, ?_,hk⟩
    ·show((1,[]):NI)=mkI (valI (1,[]))
     rw [v];unfold mkI;rw [if_pos (by decide)]
    ·show valI (1,[])*valI a^k=valI a^k
     rw [v,Int.one_mul]
    ·exact(okN_sm (n:=1) (a:=(1,[])) rfl).trans (by decide)⟩ (fun _=>rfl) ?_
 rintro⟨⟨⟨x,o⟩,m⟩,ho,hv,p,q,hp,hq,ox,oo,hm⟩
 have ho:o=mkI (valI o):=ho
 have hv:valI o*valI x^m=valI a^k:=hv
 have ox:okN p x=true:=ox
 have oo:okN q o=true:=oo
 have hm:q+p*m≤100000:=hm
 have hmp:m≤p*m:=Nat.le_mul_of_pos_left m hp
 by_cases hz:m=0
 ·subst hz
  refine GoalL.all (s:=SPw x o (0:Nat)) known mixed hS _ (pw_end x o (0:Nat) (by decide)) (by kernel_rfl) ?_
  refine onN_exit (inB_exit ?_)
  have e:valI o=valI a^k:=by rw [←hv];simp
  rw [←e,←ho]
  exact GoalL.allRet (s:=SPw x o (0:Nat)) known mixed hS _ (pw_ret x o _) fun T H h=>h
 ·have hpm:p≤p*m:=Nat.le_mul_of_pos_right p (by omega)
  have iX:=okN_mono (show p≤100000 by omega) ox
  have iO:=okN_mono (show q≤100000 by omega) oo
  have hlt:m/2<m:=by omega
  have hpos:(m:Int)>0:=by omega
  have vm:=val_mul
  by_cases hodd:m%2=1
  ·have hb:IntKind.i64.wrap ↑(BitVec.ofInt 64 (m:Int) &&& BitVec.ofInt 64 1).toNat=1:=by rw [and1 (by omega),hodd];rfl
   by_cases h1:m=1
   ·subst h1
    refine GoalL.all (s:=SPw x o (1:Nat)) known mixed hS _ (pw_10 x o (1:Nat) (0:Nat) hpos hb (and_ok iO iX) (by decide) (half 1)) (by kernel_rfl) ?_
    refine⟨⟨((x,iMul o x),0), ?_, ?_,p,q+p,hp,by omega,ox,ok_iMul oo ox hq hp,by omega⟩,hlt,rfl,rfl⟩
    ·show iMul o x=mkI (valI (iMul o x))
     rw [val_mul];rfl
    ·show valI (iMul o x)*valI x^0=_
     rw [val_mul,←hv,Int.pow_zero,Int.mul_one,Int.pow_succ,Int.pow_zero,Int.one_mul]
   ·refine GoalL.all (s:=SPw x o (m:Nat)) known mixed hS _ (pw_11 x o (m:Nat) (m/2:Nat) hpos hb (and_ok iO iX) (by omega) (and_ok iX iX) (half m)) (by kernel_rfl) ?_
    refine⟨⟨((iMul x x,iMul o x),m/2), ?_, ?_,p+p,q+p,by omega,by omega,ok_iMul ox ox hp hp,ok_iMul oo ox hq hp, ?_⟩,hlt,rfl,rfl⟩
    ·show iMul o x=mkI (valI (iMul o x))
     rw [val_mul];rfl
    ·show valI (iMul o x)*valI (iMul x x)^(m/2)=_
     rw [val_mul,val_mul,←hv,←pow_odd hodd,Int.mul_assoc]
    ·show q+p+(p+p)*(m/2)≤100000
     obtain⟨j,rfl⟩:∃j,m=2*j+1:=⟨m/2,by omega⟩
     rw [show(2*j+1)/2=j by omega]
     have:p*(2*j+1)=(p+p)*j+p:=by grind
     omega
  ·have h0:m%2=0:=by omega
   have hb:¬IntKind.i64.wrap ↑(BitVec.ofInt 64 (m:Int) &&& BitVec.ofInt 64 1).toNat=1:=by rw [and1 (by omega),h0];decide
   refine GoalL.all (s:=SPw x o (m:Nat)) known mixed hS _ (pw_01 x o (m:Nat) (m/2:Nat) hpos hb (by omega) (and_ok iX iX) (half m)) (by kernel_rfl) ?_
   refine⟨⟨((iMul x x,o),m/2),ho, ?_,p+p,q,by omega,hq,ok_iMul ox ox hp hp,oo, ?_⟩,hlt,rfl,rfl⟩
   ·show valI o*valI (iMul x x)^(m/2)=_
    rw [val_mul,←hv,pow_even h0]
   ·show q+(p+p)*(m/2)≤100000
    obtain⟨j,rfl⟩:∃j,m=2*j:=⟨m/2,by omega⟩
    rw [show(2*j)/2=j by omega]
    have:p*(2*j)=(p+p)*j:=by grind
    omega
theorem cPow_ok:cPow.Ok Tryz.prog:=fun⟨a,k,_⟩ h=>by
 have h:okPw a k=true:=h
 unfold okPw at h
 simp only [Bool.and_eq_true,decide_eq_true_eq]at h
 obtain⟨h1,h2,h3⟩:=h
 obtain⟨n,rfl⟩:∃n:Nat,k=(n:Int):=⟨k.toNat,(Int.toNat_of_nonneg h2).symm⟩
 exact pow_holds a n h1 h3
end
end Go.Proofs.YtccmlbinkgbpgaaGreatDoor
/- Package strings, strconv: HasPrefix, TrimPrefix, Atoi as known functions. -/
namespace Go.Proofs.YtccmlbinkgbpgaaGreatDoor
open Go.RowKit Sv
set_option maxRecDepth 100000
set_option linter.unusedVariables false
noncomputable section
def hasPre (s p:ByteArray):Bool:=Lib.hasPrefix s.data.toList p.data.toList
def trimPre (s p:ByteArray):ByteArray:=⟨(Lib.trimPrefix s.data.toList p.data.toList).toArray⟩
def okAtoi (s:ByteArray):Bool:=decide (s.size≤18)&&(Lib.atoi s.data.toList).isSome
def atoiI (s:ByteArray):Int:=(Lib.atoi s.data.toList).getD 0
noncomputable def cHasPre:Ctr:={f:=129,ps:=[.str, .str],rs:=[.bool],fresh:=true,pre:=fun d=>true,fn:=fun d=>(hasPre d.1 d.2.1,())}
noncomputable def cTrimPre:Ctr:={f:=130,ps:=[.str, .str],rs:=[.str],fresh:=true,pre:=fun d=>true,fn:=fun d=>(trimPre d.1 d.2.1,())}
noncomputable def atoiRes (args:List AV):Tst (Option AV):=match args with |[.raw (.string s)]=> .must (okAtoi s) (.ret (some (.tuple [iv (atoiI s), .raw .nilIface])))|_=> .ret none
noncomputable def rAtoi:RCtr:={f:=131,res:=atoiRes}
--{
theorem cHasPre_ok:cHasPre.Ok Tryz.prog:=fun⟨s,p,_⟩ h w F xs hF hG hd=>by
 cases hd with
 |cons d1 d2=>
  cases d2 with
  |cons d2 d3=>
  cases d3
  rw [d1.raw_eq,d2.raw_eq]
  refine(Tryz.strings_HasPrefix s p w).mono fun e w' ⟨h1,h2⟩=> ?_
  subst h2
  exact⟨_,⟨F.at',fun _=>none⟩,h1, .raw _,⟨hF.glob,hF.all,fun b A h=>by cases h⟩,(fun b A h=>by cases h),Below.refl _ _⟩
theorem cTrimPre_ok:cTrimPre.Ok Tryz.prog:=fun⟨s,p,_⟩ h w F xs hF hG hd=>by
 cases hd with
 |cons d1 d2=>
  cases d2 with
  |cons d2 d3=>
  cases d3
  rw [d1.raw_eq,d2.raw_eq]
  refine(Tryz.strings_TrimPrefix s p w).mono fun e w' ⟨h1,h2⟩=> ?_
  subst h2
  exact⟨_,⟨F.at',fun _=>none⟩,h1, .raw _,⟨hF.glob,hF.all,fun b A h=>by cases h⟩,(fun b A h=>by cases h),Below.refl _ _⟩
theorem rAtoi_ok:rAtoi.Ok Tryz.prog:=by
 intro args v hv w F xs hF hG hd
 change (atoiRes args).gr=_ at hv
 unfold atoiRes at hv
 split at hv
 ·rename_i s
  unfold Tst.gr at hv
  cases ho:okAtoi s with
  |false=>rw [ho]at hv;cases hv
  |true=>
   rw [ho]at hv
   cases hv
   unfold okAtoi at ho
   rw [Bool.and_eq_true,decide_eq_true_eq]at ho
   obtain⟨n,hn⟩:=Option.isSome_iff_exists.1 ho.2
   cases hd with
   |cons d1 d2=>
   cases d2
   rw [d1.raw_eq]
   refine(Tryz.strconv_Atoi s n ho.1 hn w).mono ?_
   rintro e w' ⟨rfl,t,rfl⟩
   refine⟨_,rfl, ?_,Joins.below_bytesWorld _ _ _ _ (Nat.le_refl _)⟩
   have e:atoiI s=n:=by unfold atoiI;rw [hn];rfl
   rw [e]
   exact .tuple (.cons (.raw _) (.cons (.raw _) .nil))
 ·cases hv
--}
noncomputable def BRead:Code:=(Tryz.f69.body).getD .skip
noncomputable def rdCs:VCaller:=rctrs [rAtoi] (ctrs [cHasPre,cTrimPre,cOf,cPow,cIMul,cIAdd,cINeg])
abbrev rdL:List Nat:=[1,1,1,1,0,0,0]
def SRd (s:ByteArray) (o:NI) (neg:Bool):St:={n:=41,sl:=[(0,sv s),(2, .ptr 64 0),(3,bv neg),(4, .ptr 65 0)],en:=[(64,b0),(65,bI o)],next:=66}
end
end Go.Proofs.YtccmlbinkgbpgaaGreatDoor
/- Package num: integers read from their decimal notation. -/
namespace Go.Proofs.YtccmlbinkgbpgaaGreatDoor
open Go.RowKit Sv
set_option maxRecDepth 100000
set_option linter.unusedVariables false
set_option pp.structureInstances false
noncomputable section
abbrev mns:ByteArray:=⟨#[45]⟩
abbrev s2:Sv.Ren:=[(64,64,none),(65,65,none)]
theorem rd_start (s:ByteArray):
  Tst.path (vrun0 Tryz.prog rdCs (fl BRead []) 4 41 [sv s]) [] (toSt Tryz.prog 41 .normal s2 (SRd (trimPre s mns) (0,[]) (hasPre s mns))):=
 mp (an rt (an rt (an (rr (trimPre s (ByteArray.mk #[(45:UInt8)]))) (an (rr ((0:Nat))) (an (rr (hasPre s (ByteArray.mk #[(45:UInt8)]))) (an (rr ((0:Nat))) (an (an (rr ((0:Int))) (an (rr (Value.slice none (0:Nat) (0:Nat))) trivial)) (an (an (rr ((0:Int))) (an (rr nilI) trivial)) trivial))))))))
theorem rd_go (s s':ByteArray) (o o':NI) (neg:Bool) (h1:(↑s.size:Int)>0) (h2:(okAtoi (ByteArray.extract s (0:Nat) (Int.toNat (if(↑s.size:Int)<18 then(↑s.size:Int)else(18:Int)))))=true) (h3:(okPw ((iOf (10:Int)).1,(iOf (10:Int)).2) (if(↑s.size:Int)<18 then(↑s.size:Int)else(18:Int)))=true) (h4:(okI (o.1,o.2)&&okI ((iPow ((iOf (10:Int)).1,(iOf (10:Int)).2) (if(↑s.size:Int)<18 then(↑s.size:Int)else(18:Int))).1,(iPow ((iOf (10:Int)).1,(iOf (10:Int)).2) (if(↑s.size:Int)<18 then(↑s.size:Int)else(18:Int))).2))=true) (h5:(okI ((iMul (o.1,o.2) ((iPow ((iOf (10:Int)).1,(iOf (10:Int)).2) (if(↑s.size:Int)<18 then(↑s.size:Int)else(18:Int))).1,(iPow ((iOf (10:Int)).1,(iOf (10:Int)).2) (if(↑s.size:Int)<18 then(↑s.size:Int)else(18:Int))).2)).1,(iMul (o.1,o.2) ((iPow ((iOf (10:Int)).1,(iOf (10:Int)).2) (if(↑s.size:Int)<18 then(↑s.size:Int)else(18:Int))).1,(iPow ((iOf (10:Int)).1,(iOf (10:Int)).2) (if(↑s.size:Int)<18 then(↑s.size:Int)else(18:Int))).2)).2)&&okI ((iOf (atoiI (ByteArray.extract s (0:Nat) (Int.toNat (if(↑s.size:Int)<18 then(↑s.size:Int)else(18:Int)))))).1,(iOf (atoiI (ByteArray.extract s (0:Nat) (Int.toNat (if(↑s.size:Int)<18 then(↑s.size:Int)else(18:Int)))))).2))=true) (h6:(ByteArray.extract s (Int.toNat (if(↑s.size:Int)<18 then(↑s.size:Int)else(18:Int))) s.size)=(s')) (h7:(iAdd ((iMul (o.1,o.2) ((iPow ((iOf (10:Int)).1,(iOf (10:Int)).2) (if(↑s.size:Int)<18 then(↑s.size:Int)else(18:Int))).1,(iPow ((iOf (10:Int)).1,(iOf (10:Int)).2) (if(↑s.size:Int)<18 then(↑s.size:Int)else(18:Int))).2)).1,(iMul (o.1,o.2) ((iPow ((iOf (10:Int)).1,(iOf (10:Int)).2) (if(↑s.size:Int)<18 then(↑s.size:Int)else(18:Int))).1,(iPow ((iOf (10:Int)).1,(iOf (10:Int)).2) (if(↑s.size:Int)<18 then(↑s.size:Int)else(18:Int))).2)).2) ((iOf (atoiI (ByteArray.extract s (0:Nat) (Int.toNat (if(↑s.size:Int)<18 then(↑s.size:Int)else(18:Int)))))).1,(iOf (atoiI (ByteArray.extract s (0:Nat) (Int.toNat (if(↑s.size:Int)<18 then(↑s.size:Int)else(18:Int)))))).2)).1=o'.1) (h8:(iAdd ((iMul (o.1,o.2) ((iPow ((iOf (10:Int)).1,(iOf (10:Int)).2) (if(↑s.size:Int)<18 then(↑s.size:Int)else(18:Int))).1,(iPow ((iOf (10:Int)).1,(iOf (10:Int)).2) (if(↑s.size:Int)<18 then(↑s.size:Int)else(18:Int))).2)).1,(iMul (o.1,o.2) ((iPow ((iOf (10:Int)).1,(iOf (10:Int)).2) (if(↑s.size:Int)<18 then(↑s.size:Int)else(18:Int))).1,(iPow ((iOf (10:Int)).1,(iOf (10:Int)).2) (if(↑s.size:Int)<18 then(↑s.size:Int)else(18:Int))).2)).2) ((iOf (atoiI (ByteArray.extract s (0:Nat) (Int.toNat (if(↑s.size:Int)<18 then(↑s.size:Int)else(18:Int)))))).1,(iOf (atoiI (ByteArray.extract s (0:Nat) (Int.toNat (if(↑s.size:Int)<18 then(↑s.size:Int)else(18:Int)))))).2)).2=o'.2):
  Tst.path (vall Tryz.prog rdCs (fl BRead rdL) (SRd s o neg)) [true] (toSt Tryz.prog 41 .normal s2 (SRd s' o' neg)):=
 mp (an (decide_eq_true h1) (an (show(decide ((0:Int)≤if(↑s.size:Int)<18 then(↑s.size:Int)else(18:Int)))=true from decide_eq_true (by omega)) (an (show(decide ((0:Nat)≤Int.toNat (if(↑s.size:Int)<18 then(↑s.size:Int)else(18:Int))))=true from decide_eq_true (by omega)) (an (show(decide (Int.toNat (if(↑s.size:Int)<18 then(↑s.size:Int)else(18:Int))≤s.size))=true from decide_eq_true (by omega)) (an h2 (an (sr (AV.agg [iv o.1,AV.lst true (.int .u64) o.2])) (an rt (an (sr (AV.agg [iv o.1,AV.lst true (.int .u64) o.2])) (an h3 (an (sr (AV.agg [iv o.1,AV.lst true (.int .u64) o.2])) (an h4 (an rt (an h5 (an (show(decide ((0:Int)≤if(↑s.size:Int)<18 then(↑s.size:Int)else(18:Int)))=true from decide_eq_true (by omega)) (an (show(decide (Int.toNat (if(↑s.size:Int)<18 then(↑s.size:Int)else(18:Int))≤s.size))=true from decide_eq_true (by omega)) (an (show(decide (s.size≤s.size))=true from decide_eq_true (by omega)) (an h6 (an (rr ((0:Nat))) (an (rr neg) (an (rr ((0:Nat))) (an (an (rr ((0:Int))) (an (rr (Value.slice none (0:Nat) (0:Nat))) trivial)) (an (an h7 (an h8 trivial)) trivial))))))))))))))))))))))
theorem rd_end (s:ByteArray) (o:NI) (neg:Bool) (h1:¬(↑s.size:Int)>0):
  Tst.path (vall Tryz.prog rdCs (fl BRead rdL) (SRd s o neg)) [false] (toSt Tryz.prog 41 (.exit 0) s2 (SRd s o neg)):=
 mp (an (decide_eq_false h1) (an (rr s) (an (rr ((0:Nat))) (an (rr neg) (an (rr ((0:Nat))) (an (an (rr ((0:Int))) (an (rr (Value.slice none (0:Nat) (0:Nat))) trivial)) (an (an (rr o.1) (an (rr o.2) trivial)) trivial)))))))
theorem rd_neg (s:ByteArray) (o:NI) (neg:Bool) (h1:(neg)=true) (h2:(okI (o.1,o.2))=true):
  Tst.path (vall Tryz.prog rdCs (List.drop 5 (fl BRead [])) (SRd s o neg)) [true] (toRet Tryz.prog Tryz.f69 false (nv (iNeg o))):=
 mp (an h1 (an h2 (an (rr (iNeg (o.1,o.2)).1) (an (rr (iNeg (o.1,o.2)).2) trivial))))
theorem rd_pos (s:ByteArray) (o:NI) (neg:Bool) (h1:(neg)=false):
  Tst.path (vall Tryz.prog rdCs (List.drop 5 (fl BRead [])) (SRd s o neg)) [false] (toRet Tryz.prog Tryz.f69 false (nv o)):=
 mp (an h1 (an (rr o.1) (an (rr o.2) trivial)))
open Lib in
theorem decFrom_add (e:Nat):∀(l:List UInt8) (a x:Nat),decFrom a l=some x→decFrom (a+e) l=some (x+e*10^l.length)
 |[],a,x,h=>by cases h;simp [decFrom]
 |b::r,a,x,h=>by
  unfold decFrom at h ⊢
  cases hd:digitVal b with
  |none=>rw [hd]at h;cases h
  |some d=>
   rw [hd]at h
   have ih:=decFrom_add (e*10) r _ _ h
   show decFrom ((a+e)*10+d) r=_
   rw [show(a+e)*10+d=a*10+d+e*10 by omega]
   rw [ih,List.length_cons,Nat.pow_succ]
   congr 1
   have:e*10*10^r.length=e*(10^r.length*10):=by grind
   omega
open Lib in
theorem decFrom_le:∀(l:List UInt8) (a x:Nat),decFrom a l=some x→a≤x
 |[],a,x,h=>by cases h;omega
 |b::r,a,x,h=>by
  unfold decFrom at h
  cases hd:digitVal b with
  |none=>rw [hd]at h;cases h
  |some d=>rw [hd]at h;have:=decFrom_le r _ _ h;omega
open Lib in
theorem decFrom_split:∀(C:Nat) (l:List UInt8) (a x:Nat),decFrom a l=some x→C≤l.length→∃v,decFrom 0 (l.take C)=some v∧decFrom (a*10^C+v) (l.drop C)=some x
 |0,l,a,x,h,_=>⟨0,rfl,by simpa using h⟩
 |C+1,[],a,x,h,hc=>by simp at hc
 |C+1,b::r,a,x,h,hc=>by
  unfold decFrom at h
  cases hd:digitVal b with
  |none=>rw [hd]at h;cases h
  |some d=>
   rw [hd]at h
   obtain⟨v,h1,h2⟩:=decFrom_split C r _ x h (by simpa using hc)
   refine⟨v+d*10^C, ?_, ?_⟩
   ·rw [List.take_succ_cons]
    unfold decFrom
    rw [hd]
    have:=decFrom_add d _ _ _ h1
    rw [List.length_take,Nat.min_eq_left (by simpa using hc),Nat.zero_add]at this
    show decFrom (0*10+d) _=_
    rw [Nat.zero_mul,Nat.zero_add];exact this
   ·rw [List.drop_succ_cons,←h2]
    congr 1
    rw [Nat.pow_succ]
    have:(a*10+d)*10^C=a*(10^C*10)+d*10^C:=by grind
    omega
open Lib in
theorem atoi_of {l:List UInt8} {v:Nat} (h:decFrom 0 l=some v) (hl:l≠[]):atoi l=some (v:Int):=by
 cases l with
 |nil=>exact absurd rfl hl
 |cons b r=>
  have hb:48≤b.toNat:=by
   unfold decFrom at h
   cases hd:digitVal b with
   |none=>rw [hd]at h;cases h
   |some d=>unfold digitVal at hd;split at hd
            ·omega
            ·cases hd
  have n1:(b==45)=false:=by
   rw [beq_eq_false_iff_ne];intro e;subst e;exact absurd hb (by decide)
  have n2:(b==43)=false:=by
   rw [beq_eq_false_iff_ne];intro e;subst e;exact absurd hb (by decide)
  rw [show atoi (b::r)=if(b==45)=true then(decNat r).map (fun(m:Nat)=> -(m:Int))else if(b==43)=true then(decNat r).map (fun(m:Nat)=>(m:Int))else(decNat (b::r)).map (fun(m:Nat)=>(m:Int))from rfl,n1,n2]
  show(decNat (b::r)).map _=_
  unfold decNat
  rw [show(b::r).isEmpty=false from rfl]
  simp [h]
theorem ok_le {n x y:Nat} (h:okN n (mkI (y:Int))=true) (hn:1≤n) (hxy:x≤y):okN n (mkI (x:Int))=true:=by
 have h1:=val_lt h hn
 rw [val_mk]at h1
 exact(mkI_law (by omega)).1
theorem iAdd_mk {n:Nat} {x v:Nat} (h:okN n (iAdd (mkI (x:Int)) (iOf v))=true):iAdd (mkI (x:Int)) (iOf v)=mkI ((x+v:Nat):Int):=by
 have e:valI (iAdd (mkI (x:Int)) (iOf v))=((x+v:Nat):Int):=by
  rw [val_iAdd,val_mk];show(x:Int)+v=_;omega
 have:=ok_mk h (by rw [e];omega)
 rw [e]at this;exact this
end
end Go.Proofs.YtccmlbinkgbpgaaGreatDoor
/- Package num: Read as a known function. -/
namespace Go.Proofs.YtccmlbinkgbpgaaGreatDoor
open Go.RowKit Sv
set_option maxRecDepth 100000
set_option linter.unusedVariables false
noncomputable section
theorem rd_ok:CallOk Tryz.prog (gS rdCs):=rctrs_ok (fun c hc=>by rw [List.mem_singleton.1 hc];exact rAtoi_ok) (ctrs_ok fun c hc=>by
 simp only [List.mem_cons,List.not_mem_nil,or_false]at hc
 rcases hc with rfl |rfl |rfl |rfl |rfl |rfl |rfl
 ·exact cHasPre_ok
 ·exact cTrimPre_ok
 ·exact cOf_ok
 ·exact cPow_ok
 ·exact cIMul_ok
 ·exact cIAdd_ok
 ·exact cINeg_ok)
theorem ext_take (s:ByteArray) (n:Nat):(s.extract 0 n).data.toList=s.data.toList.take n:=by
 rw [ByteArray.data_extract,Array.toList_extract];simp [List.extract]
theorem ext_drop (s:ByteArray) (n:Nat):(s.extract n s.size).data.toList=s.data.toList.drop n:=by
 rw [ByteArray.data_extract,Array.toList_extract]
 simp only [List.extract]
 rw [List.take_of_length_le]
 rw [List.length_drop,Array.length_toList];exact Nat.le_refl _
theorem size_list (s:ByteArray):s.size=s.data.toList.length:=by rw [Array.length_toList];rfl
open Lib in
theorem decFrom_lt:∀(l:List UInt8) (a x:Nat),decFrom a l=some x→x<(a+1)*10^l.length
 |[],a,x,h=>by cases h;simp
 |b::r,a,x,h=>by
  unfold decFrom at h
  cases hd:digitVal b with
  |none=>rw [hd]at h;cases h
  |some d=>
   rw [hd]at h
   have ih:=decFrom_lt r _ _ h
   have hd9:d≤9:=by
    unfold digitVal at hd
    split at hd
    ·cases hd;omega
    ·cases hd
   have h1:=Nat.mul_le_mul_right (10^r.length) (show a*10+d+1≤(a+1)*10 by omega)
   rw [List.length_cons,Nat.pow_succ]
   have:(a+1)*(10^r.length*10)=(a+1)*10*10^r.length:=by grind
   omega
theorem ok_add_of {n x v:Nat} (h:okN n (mkI ((x+v:Nat):Int))=true) (hn:1≤n):okN n (iAdd (mkI (x:Int)) (iOf v))=true:=ok_iAdd (by
 have h1:=val_lt h hn
 rw [val_mk]at h1
 rw [val_mk]
 show((((x:Int)+(v:Int)).natAbs:Nat):Int)<_
 rw [←Int.natCast_add];exact h1)
theorem read_holds (s:ByteArray) (N:Nat) (hd:Lib.decFrom 0 (trimPre s mns).data.toList=some N) (hN:okI (mkI (N:Int))=true):
  Holds Tryz.prog false 69 [sv s] (nv (mkI (if hasPre s mns=true then-(N:Int)else N))):=by
 have hS:=rd_ok
 have e0:((0,[]):NI)=mkI ((0:Nat):Int):=by unfold mkI;rw [if_pos (by decide)];rfl
 have hst:=rd_start s
 rw [show SRd (trimPre s mns) (0,[]) (hasPre s mns)=SRd (trimPre s mns) (mkI ((0:Nat):Int)) (hasPre s mns) by rw [←e0]]at hst
 refine holds_fl (c:=BRead) Tryz.func69 rfl rfl fun w F=> ?_
 refine GoalL.to known mixed hS 4 _ hst (by kernel_rfl) ?_
 generalize hasPre s mns=neg
 refine GoalL.loop (ι:={x:ByteArray×Nat//Lib.decFrom x.2 x.1.data.toList=some N}) (id:=0) (b:=cat BRead rdL) (rest:=List.drop 5 (fl BRead [])) (by kernel_rfl) (fun x=>SRd x.1.1 (mkI (x.1.2:Int)) neg) (fun x=>x.1.1.size)
  ⟨(trimPre s mns,0),hd⟩ (fun _=>rfl) ?_
 rintro⟨⟨t,m⟩,hx⟩
 have hx:Lib.decFrom m t.data.toList=some N:=hx
 have hm:=decFrom_le _ _ _ hx
 by_cases hz:t.size=0
 ·have e:m=N:=by
   have:t.data.toList=[]:=List.eq_nil_of_length_eq_zero (by rw [←size_list];exact hz)
   rw [this]at hx;cases hx;rfl
  subst e
  refine GoalL.all (s:=SRd t (mkI (m:Int)) neg) known mixed hS _ (rd_end t (mkI (m:Int)) neg (by rw [hz];decide)) (by kernel_rfl) ?_
  refine onN_exit (inB_exit ?_)
  cases neg with
  |true=>
   have e:iNeg (mkI (m:Int))=mkI (-(m:Int)):=by unfold iNeg;rw [val_mk]
   rw [if_pos rfl,←e]
   exact GoalL.allRet (s:=SRd t (mkI (m:Int)) true) known mixed hS _ (rd_neg t (mkI (m:Int)) true rfl hN) fun T H h=>h
  |false=>
   rw [if_neg (by decide)]
   exact GoalL.allRet (s:=SRd t (mkI (m:Int)) false) known mixed hS _ (rd_pos t (mkI (m:Int)) false rfl) fun T H h=>h
 ·obtain⟨C,hC⟩:∃C,C=min t.size 18:=⟨_,rfl⟩
  have hE:(if(t.size:Int)<18 then(t.size:Int)else 18)=(C:Int):=by split<;>omega
  have hC1:1≤C:=by omega
  have hC2:C≤18:=by omega
  have hC3:C≤t.size:=by omega
  obtain⟨v,hv,hv2⟩:=decFrom_split C _ _ _ hx (by rw [←size_list];exact hC3)
  have hm2:=decFrom_le _ _ _ hv2
  have hne:(t.extract 0 C).data.toList≠[]:=by
   rw [ext_take];intro e
   have:=congrArg List.length e
   rw [List.length_take,←size_list,List.length_nil]at this
   omega
  have ha:Lib.atoi (t.extract 0 C).data.toList=some (v:Int):=atoi_of (by rw [ext_take];exact hv) hne
  have hok:okAtoi (t.extract 0 C)=true:=by
   unfold okAtoi
   rw [ha,size_list,ext_take,List.length_take,decide_eq_true (by omega)];rfl
  have hat:atoiI (t.extract 0 C)=v:=by unfold atoiI;rw [ha];rfl
  have key:=rd_go t (t.extract C t.size) (mkI (m:Int)) (mkI ((m*10^C+v:Nat):Int)) neg
  rw [hE,Int.toNat_natCast,hat]at key
  have hP:iPow (iOf 10) (C:Int)=mkI ((10^C:Nat):Int):=by
   unfold iPow
   rw [Int.toNat_natCast,Int.natCast_pow];rfl
  have hpw:okPw (iOf 10) (C:Int)=true:=by
   unfold okPw
   rw [show okI (iOf 10)=true from(okN_sm (n:=100000) (a:=(10,[])) rfl).trans (by decide),decide_eq_true (show(0:Int)≤C by omega),decide_eq_true (by rw [Int.toNat_natCast];show 1+(0+1)*C≤100000;omega)];rfl
  have hMul:iMul (mkI (m:Int)) (mkI ((10^C:Nat):Int))=mkI ((m*10^C:Nat):Int):=by
   unfold iMul;rw [val_mk,val_mk,←Int.natCast_mul]
  have o1:okI (mkI (m:Int))=true:=ok_le hN (by decide) hm
  have o3:okI (mkI ((m*10^C:Nat):Int))=true:=ok_le hN (by decide) (by omega)
  have p18:10^C≤10^18:=Nat.pow_le_pow_right (by decide) hC2
  have o2:okI (mkI ((10^C:Nat):Int))=true:=ok_le (y:=10^18) (okN_mono (show 1≤100000 by decide) (mkI_law (by decide)).1) (by decide) p18
  have hvC:v<10^C:=by
   have:=decFrom_lt _ _ _ hv
   rw [List.length_take,←size_list,Nat.min_eq_left hC3,Nat.zero_add,Nat.one_mul]at this
   exact this
  have o5:okI (iOf v)=true:=(okN_sm (n:=100000) (a:=(v,[])) rfl).trans (i64B_iff.2 ⟨by show _≤(v:Int);omega,by show(v:Int)≤_;omega⟩)
  have o4:okI (mkI ((m*10^C+v:Nat):Int))=true:=ok_le hN (by decide) hm2
  have hAdd:iAdd (iMul (mkI (m:Int)) (iPow (iOf 10) (C:Int))) (iOf v)=mkI ((m*10^C+v:Nat):Int):=by
   rw [hP,hMul];exact iAdd_mk (ok_add_of o4 (by decide))
  refine GoalL.all (s:=SRd t (mkI (m:Int)) neg) known mixed hS _ (key (by omega) hok hpw (and_ok o1 (by show okI (iPow (iOf 10) (C:Int))=true;rw [hP];exact o2)) (and_ok (by show okI (iMul (mkI (m:Int)) (iPow (iOf 10) (C:Int)))=true;rw [hP,hMul];exact o3) o5) rfl (congrArg Prod.fst hAdd) (congrArg Prod.snd hAdd)) (by kernel_rfl) ?_
  refine⟨⟨(t.extract C t.size,m*10^C+v), ?_⟩, ?_,rfl,rfl⟩
  ·show Lib.decFrom (m*10^C+v) (t.extract C t.size).data.toList=some N
   rw [ext_drop];exact hv2
  ·show(t.extract C t.size).size<t.size
   rw [size_list (t.extract C t.size),ext_drop,List.length_drop,←size_list];omega
def readN (s:ByteArray):Int:=match Lib.decFrom 0 (trimPre s mns).data.toList with |some n=>n|none=>0
def readZ (s:ByteArray):Int:=if hasPre s mns=true then-readN s else readN s
noncomputable def iRead (s:ByteArray):Int×List Int:=mkI (readZ s)
noncomputable def okRead (s:ByteArray):Bool:=(Lib.decFrom 0 (trimPre s mns).data.toList).isSome&&okI (mkI (readN s))
noncomputable def cRead:Ctr:={f:=69,ps:=[.str],rs:=[tI],fresh:=false,pre:=fun d=>okRead d.1,fn:=fun d=>(iRead d.1,())}
theorem cRead_ok:cRead.Ok Tryz.prog:=fun⟨s,_⟩ h=>by
 have h:okRead s=true:=h
 unfold okRead at h
 rw [Bool.and_eq_true]at h
 obtain⟨N,hN⟩:=Option.isSome_iff_exists.1 h.1
 have e:readN s=N:=by unfold readN;rw [hN]
 have e2:iRead s=mkI (if hasPre s mns=true then-(N:Int)else N):=by unfold iRead readZ;rw [e]
 show Holds Tryz.prog false 69 [sv s] (nv (iRead s))
 rw [e2]
 exact read_holds s N hN (by rw [←e];exact h.2)
end
end Go.Proofs.YtccmlbinkgbpgaaGreatDoor
/- Package strings, strconv: Cut, Itoa as known functions (they read package-level variables). -/
namespace Go.Proofs.YtccmlbinkgbpgaaGreatDoor
open Go.RowKit Sv
set_option maxRecDepth 100000
set_option linter.unusedVariables false
noncomputable section
def cutA (s p:ByteArray):ByteArray:=⟨(Lib.cut s.data.toList p.data.toList).1.toArray⟩
def cutB (s p:ByteArray):ByteArray:=⟨(Lib.cut s.data.toList p.data.toList).2.1.toArray⟩
def cutIs (s p:ByteArray):Bool:=(Lib.cut s.data.toList p.data.toList).2.2
def okCut (s:ByteArray):Bool:=decide (s.size<4294967281)
def itoaS (n:Int):ByteArray:=⟨(Lib.itoa n).toArray⟩
noncomputable def cCut:Ctr:={f:=65,ps:=[.str, .str],rs:=[.str, .str, .bool],fresh:=true,pre:=fun d=>okCut d.1,fn:=fun d=>(cutA d.1 d.2.1,cutB d.1 d.2.1,cutIs d.1 d.2.1,())}
noncomputable def cItoa:Ctr:={f:=101,ps:=[.int .i64],rs:=[.str],fresh:=true,pre:=fun d=>i64B d.1,fn:=fun d=>(itoaS d.1,())}
theorem below_drew2 {B:Nat} {w w':World} (h:Below B w w') (n:Nat):Below B w (w'.drewN n):=⟨h.os,h.tape,h.output,h.size,h.block⟩
theorem below_grow2 (B:Nat) (w:World) (hB:B≤w.heap.size) (k:Nat) (os:Array Obj):Below B w (Sort.grow (w.drewN k) os):=
 ⟨rfl,rfl,rfl,by show w.heap.size≤(w.heap++os).size;rw [Array.size_append];omega,fun j hj=>by
   show(w.heap++os)[j]? =_
   rw [Array.getElem?_append_left (by omega)]⟩
theorem gnd_max {F:Sv.Env} {w:World} (hF:OkF w F) (hG:Grd F):∃m,w.cell? ⟨2,0,none⟩=some (.int .i64 m):=by
 obtain⟨A,h1,m,h2⟩:=hG 2 _ rfl
 obtain⟨e,fr,h3⟩:=hF.fz _ _ h1
 subst h2
 exact⟨m,by simp [World.cell?,h3]⟩
theorem gnd_tab {F:Sv.Env} {w:World} (hF:OkF w F) (hG:Grd F):Lib.TabIs Tryz.prog w "internal/strconv.uint64pow10" .u64 Lib.pow10Tab:=by
 obtain⟨A,h1,h2⟩:=hG 3 _ rfl
 obtain⟨e,fr,h3⟩:=hF.fz _ _ h1
 subst h2
 unfold Lib.TabIs World.var?
 rw [show Tryz.prog.globalNamed "internal/strconv.uint64pow10" =some 3 by kernel_rfl]
 show(match w.heap[3]? with |some (.cells cs _ _)=>some cs|_=>none)=_
 rw [h3]
theorem cCut_ok:cCut.Ok Tryz.prog:=fun⟨s,p,_⟩ h w F xs hF hG hd=>by
 have h:okCut s=true:=h
 unfold okCut at h
 rw [decide_eq_true_eq]at h
 obtain⟨m,hm⟩:=gnd_max hF hG
 cases hd with
 |cons d1 d2=>
  cases d2 with
  |cons d2 d3=>
  cases d3
  rw [d1.raw_eq,d2.raw_eq]
  refine(Tryz.strings_Cut s p m w h hm).mono ?_
  rintro e w' ⟨rfl,n,rfl⟩
  have hb:Below w.heap.size w (w.drewN n):=below_drew2 (Below.refl _ _) _
  exact⟨_,⟨F.at',fun _=>none⟩,rfl, .tuple (.cons (.raw _) (.cons (.raw _) (.cons (.raw _) .nil))),⟨hF.glob,hF.all,fun b A h=>by cases h⟩,(fun b A h=>by cases h),hb⟩
theorem cItoa_ok:cItoa.Ok Tryz.prog:=fun⟨n,_⟩ h w F xs hF hG hd=>by
 have h:=i64B_iff.1 (show i64B n=true from h)
 cases hd with
 |cons d1 d2=>
  cases d2
  rw [d1.raw_eq]
  refine(Tryz.strconv_Itoa n h.1 h.2 w (gnd_tab hF hG)).mono ?_
  rintro e w' ⟨rfl,k,os,rfl⟩
  exact⟨_,⟨F.at',fun _=>none⟩,rfl, .raw _,⟨hF.glob,hF.all,fun b A h=>by cases h⟩,(fun b A h=>by cases h),below_grow2 _ _ (Nat.le_refl _) _ _⟩
end
end Go.Proofs.YtccmlbinkgbpgaaGreatDoor
/- Package num: a fraction read from its notation. -/
namespace Go.Proofs.YtccmlbinkgbpgaaGreatDoor
open Go.RowKit Sv
set_option maxRecDepth 100000
set_option linter.unusedVariables false
set_option pp.structureInstances false
noncomputable section
noncomputable def BFrom:Code:=(Tryz.f32.body).getD .skip
abbrev slsh:ByteArray:=⟨#[47]⟩
noncomputable def frCs:VCaller:=ctrs [cCut,cRead,cWh]
def okFrom (s:ByteArray):Bool:=okCut s&&(okRead (cutA s slsh)&&(!cutIs s slsh||okRead (cutB s slsh)))
noncomputable def qFrom (s:ByteArray):(Int×List Int)×(Int×List Int):=if cutIs s slsh=true then(iRead (cutA s slsh),iRead (cutB s slsh))else qOf (iRead (cutA s slsh))
noncomputable def cFrom:Ctr:={f:=32,ps:=[.str],rs:=[tQ],fresh:=false,pre:=fun d=>okFrom d.1,fn:=fun d=>(qFrom d.1,())}
theorem fr_no (s:ByteArray) (h1:(okCut s)=true) (h2:(cutIs s (ByteArray.mk #[(47:UInt8)]))=false) (h3:(okRead (cutA s (ByteArray.mk #[(47:UInt8)])))=true):
  Tst.path (vrun0 Tryz.prog frCs (fl BFrom []) 9 (Tryz.f32.ntmps) [sv s]) [true] (toRet Tryz.prog Tryz.f32 false (qv (qOf (iRead (cutA s slsh))))):=
 mp (an h1 (an (bN h2) (an h3 (an rt (an (rr (qOf ((iRead (cutA s (ByteArray.mk #[(47:UInt8)]))).1,(iRead (cutA s (ByteArray.mk #[(47:UInt8)]))).2)).1.1) (an (rr (qOf ((iRead (cutA s (ByteArray.mk #[(47:UInt8)]))).1,(iRead (cutA s (ByteArray.mk #[(47:UInt8)]))).2)).1.2) (an (rr (qOf ((iRead (cutA s (ByteArray.mk #[(47:UInt8)]))).1,(iRead (cutA s (ByteArray.mk #[(47:UInt8)]))).2)).2.1) (an (rr (qOf ((iRead (cutA s (ByteArray.mk #[(47:UInt8)]))).1,(iRead (cutA s (ByteArray.mk #[(47:UInt8)]))).2)).2.2) trivial))))))))
theorem fr_is (s:ByteArray) (h1:(okCut s)=true) (h2:(cutIs s (ByteArray.mk #[(47:UInt8)]))=true) (h3:(okRead (cutA s (ByteArray.mk #[(47:UInt8)])))=true) (h4:(okRead (cutB s (ByteArray.mk #[(47:UInt8)])))=true):
  Tst.path (vrun0 Tryz.prog frCs (fl BFrom []) 9 (Tryz.f32.ntmps) [sv s]) [false] (toRet Tryz.prog Tryz.f32 false (qv (iRead (cutA s slsh),iRead (cutB s slsh)))):=
 mp (an h1 (an (bN h2) (an h3 (an h4 (an (rr (iRead (cutA s (ByteArray.mk #[(47:UInt8)]))).1) (an (rr (iRead (cutA s (ByteArray.mk #[(47:UInt8)]))).2) (an (rr (iRead (cutB s (ByteArray.mk #[(47:UInt8)]))).1) (an (rr (iRead (cutB s (ByteArray.mk #[(47:UInt8)]))).2) trivial))))))))
theorem fr_ok:CallOk Tryz.prog (gS frCs):=ctrs_ok fun c hc=>by
 simp only [List.mem_cons,List.not_mem_nil,or_false]at hc
 rcases hc with rfl |rfl |rfl
 ·exact cCut_ok
 ·exact cRead_ok
 ·exact cWh_ok
theorem from_holds (s:ByteArray) (h:okFrom s=true):Holds Tryz.prog false 32 [sv s] (qv (qFrom s)):=by
 unfold okFrom at h
 rw [Bool.and_eq_true,Bool.and_eq_true]at h
 obtain⟨h1,h2,h3⟩:=h
 refine holds_fl (c:=BFrom) Tryz.func32 rfl rfl fun w F=> ?_
 unfold qFrom
 cases hc:cutIs s slsh with
 |true=>
  rw [if_pos rfl]
  rw [hc]at h3
  exact GoalL.ret known mixed fr_ok 9 _ (fr_is s h1 hc h2 h3) fun T H h=>h
 |false=>
  rw [if_neg (by decide)]
  exact GoalL.ret known mixed fr_ok 9 _ (fr_no s h1 hc h2) fun T H h=>h
theorem cFrom_ok:cFrom.Ok Tryz.prog:=fun⟨s,_⟩ h=>from_holds s h
end
end Go.Proofs.YtccmlbinkgbpgaaGreatDoor
/- Closed calls of package gear: the runner with package num known. -/
namespace Go.Proofs.YtccmlbinkgbpgaaGreatDoor
open Go.RowKit Sv
set_option linter.unusedSectionVars false
noncomputable section
def rawB:Value→Value→Bool
 | .int k a, .int k' b=>decide (k=k')&&decide (a=b)
 | .bool a, .bool b=>a==b
 | .string a, .string b=>decide (a=b)
 |_,_=>false
def sliceB (fresh:Bool) (H:AHeap) (i off n:Nat) (z:Bool) (u:Ty) (ys:List u.den):Bool:=match H.get i with
 |some (.cells _ cs _ _ false)=>(!fresh||u.noList)&&(match u.readL n (cut cs off (n*u.size))with
  |some ds=>Ty.beq (.list false u) ds ys&&(Nat.ble (off+n*u.size) cs.length&&(!z||Nat.ble 1 n))
  |none=>false)
 |_=>false
def frzB1 (fresh:Bool) (H:AHeap):AV→AV→Bool
 | .raw (.slice none 0 0), .lst _ _ ys=>ys.isEmpty
 | .raw a, .raw b=>rawB a b
 | .slice i off n _, .lst z u ys=>sliceB fresh H i off n z u ys
 |_,_=>false
def frzBs (fresh:Bool) (H:AHeap):List AV→List AV→Bool
 |[],[]=>true
 |v::l,v'::l'=>frzB1 fresh H v v'&&frzBs fresh H l l'
 |_,_=>false
def frzB2 (fresh:Bool) (H:AHeap):AV→AV→Bool
 | .agg l, .agg l'=>frzBs fresh H l l'
 | .tuple l, .tuple l'=>frzBs fresh H l l'
 |v,v'=>frzB1 fresh H v v'
def frzBs2 (fresh:Bool) (H:AHeap):List AV→List AV→Bool
 |[],[]=>true
 |v::l,v'::l'=>frzB2 fresh H v v'&&frzBs2 fresh H l l'
 |_,_=>false
def frzB (fresh:Bool) (H:AHeap):AV→AV→Bool
 | .agg l, .agg l'=>frzBs2 fresh H l l'
 | .tuple l, .tuple l'=>frzBs2 fresh H l l'
 |v,v'=>frzB1 fresh H v v'
theorem rawB_ok {fresh:Bool} {H:AHeap} {a b:Value} (h:rawB a b=true):frz fresh H (.raw a) (.raw b):=by
 unfold rawB at h
 split at h
 ·rename_i k x k' y
  rw [Bool.and_eq_true]at h
  have h1:=h.1
  have h2:x=y:=of_decide_eq_true h.2
  unfold frz
  show chk (decide (k=k')) (x=y)
  rw [h1];exact h2
 ·rename_i x y
  unfold frz
  exact eq_of_beq h
 ·rename_i x y
  have h2:x=y:=of_decide_eq_true h
  unfold frz
  exact h2
 ·cases h
theorem frzB1_ok {fresh:Bool} {H:AHeap} {v v':AV} (h:frzB1 fresh H v v'=true):frz fresh H v v':=by
 unfold frzB1 at h
 split at h
 ·rename_i z t ys
  unfold frz
  exact List.isEmpty_iff.1 h
 ·exact rawB_ok h
 ·rename_i i off n cap z u ys
  unfold frz
  unfold sliceB at h
  split at h
  ·rename_i e cs ex fz hg
   rw [Bool.and_eq_true]at h
   rw [hg]
   simp only
   rw [show(!fresh||u.noList)=true from h.1]
   show(match u.readL n (cut cs off (n*u.size))with |some ds=>ds=ys∧_|none=>False)
   cases hr:u.readL n (cut cs off (n*u.size))with
   |none=>rw [hr]at h;cases h.2
   |some ds=>
    rw [hr]at h
    have h2:=h.2
    simp only [Bool.and_eq_true]at h2
    refine⟨Ty.beq_ok (.list false u) h2.1, ?_⟩
    rw [Bool.and_eq_true]
    exact h2.2
  ·cases h
 ·cases h
theorem frzBs_ok {fresh:Bool} {H:AHeap}:∀{l l':List AV},frzBs fresh H l l'=true→frzs fresh H l l'
 |[],[],_=>trivial
 |[],_::_,h=>by cases h
 |_::_,[],h=>by cases h
 |v::l,v'::l',h=>by
  unfold frzBs at h
  rw [Bool.and_eq_true]at h
  exact⟨frzB1_ok h.1,frzBs_ok h.2⟩
theorem frzB2_ok {fresh:Bool} {H:AHeap} {v v':AV} (h:frzB2 fresh H v v'=true):frz fresh H v v':=by
 unfold frzB2 at h
 split at h
 ·unfold frz;exact frzBs_ok h
 ·unfold frz;exact frzBs_ok h
 ·exact frzB1_ok h
theorem frzBs2_ok {fresh:Bool} {H:AHeap}:∀{l l':List AV},frzBs2 fresh H l l'=true→frzs fresh H l l'
 |[],[],_=>trivial
 |[],_::_,h=>by cases h
 |_::_,[],h=>by cases h
 |v::l,v'::l',h=>by
  unfold frzBs2 at h
  rw [Bool.and_eq_true]at h
  exact⟨frzB2_ok h.1,frzBs2_ok h.2⟩
theorem frzB_ok {fresh:Bool} {H:AHeap} {v v':AV} (h:frzB fresh H v v'=true):frz fresh H v v':=by
 unfold frzB at h
 split at h
 ·unfold frz;exact frzBs2_ok h
 ·unfold frz;exact frzBs2_ok h
 ·exact frzB1_ok h
theorem holds_call {P:Program} {call:Caller} (hc:CallOk P call) {f:FuncId} {args:List AV} {v:AV} {H':AHeap} {fresh:Bool} {res:AV} (h:call f args H0= .ok v H') (hr:frz fresh H' v res):Holds P fresh f args res:=by
 intro w F xs hF hG hd
 have hH:HDen P w.heap.size F H0 w:=⟨fun i k h=>(by rw [show H0.get i=none from Tr.get_nil i]at h;cases h),fun i j ki kj b ci cj h=>(by rw [show H0.get i=none from Tr.get_nil i]at h;cases h),fun i k h=>(by rw [show H0.get i=none from Tr.get_nil i]at h;cases h),Nat.le_refl _,
  fun b A h=>⟨hF.fz b A h,fun i k c hi=>(by rw [show H0.get i=none from Tr.get_nil i]at hi;cases hi)⟩⟩
 refine(callsIn_wide.1 (hc.sim f args H0 v H' h w.heap.size F xs w 0 hH ⟨hF.all,hG⟩ hd fun i h1 _=> ?_)).mono ?_
 ·have h1:64≤i:=h1
  cases hfi:F i with
  |none=>rfl
  |some x=>exact absurd (hF.glob i x hfi) (by omega)
 ·rintro e w2 ⟨x,ρ,rfl,r1,r2,r3⟩
  have hb:=r3.below hH
  have hfz:∀b A,ρ.fz b=some A→F.fz b=some A∨w.heap.size≤b:=fun b A hb=>by
   rcases r3.fzn b A hb with h|h|⟨i,k,c,h,_⟩
   ·exact .inl h
   ·exact .inr h
   ·rw [show H0.get i=none from Tr.get_nil i]at h;cases h
  refine⟨x,outF fresh w.heap.size w2 F,rfl,frz_den r2 hfz hr r1,⟨hF.glob,hF.all,fun b A hb'=> ?_⟩,fun b A hb'=> ?_,hb⟩
  ·have hb':(if w.heap.size≤b then cellsOf? w2 b else if fresh then none else F.fz b)=some A:=hb'
   by_cases h0:w.heap.size≤b
   ·rw [if_pos h0]at hb';exact cellsOf?_some.1 hb'
   ·rw [if_neg h0]at hb'
    cases hfr:fresh with
    |true=>rw [hfr]at hb';cases hb'
    |false=>
     rw [hfr]at hb'
     obtain⟨e,fr,h3⟩:=hF.fz b A hb'
     exact⟨e,fr,(hb.block b (by omega)).trans h3⟩
  ·have hb':(if w.heap.size≤b then cellsOf? w2 b else if fresh then none else F.fz b)=some A:=hb'
   by_cases h0:w.heap.size≤b
   ·exact .inr h0
   ·rw [if_neg h0]at hb'
    cases hfr:fresh with
    |true=>rw [hfr]at hb';cases hb'
    |false=>rw [hfr]at hb';exact .inl ⟨rfl,hb'⟩
end
end Go.Proofs.YtccmlbinkgbpgaaGreatDoor
/- Package gear: the calls of the examples. -/
namespace Go.Proofs.YtccmlbinkgbpgaaGreatDoor
open Go.RowKit Sv
set_option linter.unusedSectionVars false
noncomputable section
abbrev tP:Ty:= .pair (.int .i64) (.int .i64)
abbrev ps (l:List (Int×Int)):AV:= .lst false tP l
abbrev tx (l:List UInt8):AV:= .raw (.string ⟨l.toArray⟩)
end
end Go.Proofs.YtccmlbinkgbpgaaGreatDoor
