/- Numbers of few digits: Large, exact.Mul, exact.Add, gear.Ratio as known functions. -/
import Derived.Test.YtccmlbinkgbpgaaGreatDoorZtA25
import Derived.Test.YtccmlbinkgbpgaaGreatDoorZtGAw1
import Derived.Test.YtccmlbinkgbpgaaGreatDoorZtDig
import Derived.Test.YtccmlbinkgbpgaaGreatDoorZtGNo
namespace Go.Proofs.YtccmlbinkgbpgaaGreatDoor
open Go.RowKit Sv
set_option maxRecDepth 100000
set_option maxHeartbeats 4000000
set_option linter.unusedVariables false
set_option linter.unusedSimpArgs false
noncomputable section
noncomputable def BLong:Code:=(Tryz.f73.body).getD .skip
noncomputable def BLa:Code:=(Tryz.f35.body).getD .skip
noncomputable def BEa:Code:=(Tryz.f119.body).getD .skip
noncomputable def BChk:Code:=(Tryz.f61.body).getD .skip
noncomputable def BMu:Code:=(Tryz.f9.body).getD .skip
noncomputable def BXad:Code:=(Tryz.f11.body).getD .skip
noncomputable def BGrr2:Code:=(Tryz.f7.body).getD .skip
def lenI (x:Int):Int:=(Lib.bitLen x.toNat:Int)
noncomputable def cL64:Ctr:={f:=118,ps:=[tU],rs:=[.int .i64],fresh:=true,pre:=fun d=>okU d.1,fn:=fun d=>(lenI d.1,())}
noncomputable def loCs:VCaller:=ctrs [cParts,cL64]
abbrev smN (x:Int):NI:=(x,[])
theorem long_0 (x:Int) (h1:(okI (x,[]))=true) (h2:(↑(prW (x,[])).length:Int)=0):
  Tst.path (vrun0 Tryz.prog loCs (fl BLong []) 3 13 [nv (smN x)]) [true,false,false,false,false,false,false] (toRet Tryz.prog Tryz.f73 true (bv false)):=
 mp (an h1 (an (beq_iff_eq.mpr h2) (an rf (an rf (an rf (an rf (an rf (an rf rf))))))))
theorem long_1 (x:Int) (h1:(okI (x,[]))=true) (h2:¬(↑(prW (x,[])).length:Int)=0) (h3: -9223372036854775808≤(↑(prW (x,[])).length:Int)-1∧(↑(prW (x,[])).length:Int)-1≤9223372036854775807) (h4: -9223372036854775808≤64*((↑(prW (x,[])).length:Int)-1)∧(64:Int)*((↑(prW (x,[])).length:Int)-1)≤9223372036854775807) (h5:(0:Int)≤(↑(prW (x,[])).length:Int)-1) (h6:Int.toNat ((↑(prW (x,[])).length:Int)-1)<(prW (x,[])).length) (h7:(okU (List.getD (prW (x,[])) (Int.toNat ((↑(prW (x,[])).length:Int)-1)) (0:Int)))=true) (h8: -9223372036854775808≤64*((↑(prW (x,[])).length:Int)-1)+lenI (List.getD (prW (x,[])) (Int.toNat ((↑(prW (x,[])).length:Int)-1)) (0:Int))∧(64:Int)*((↑(prW (x,[])).length:Int)-1)+lenI (List.getD (prW (x,[])) (Int.toNat ((↑(prW (x,[])).length:Int)-1)) (0:Int))≤9223372036854775807) (h9:¬(64:Int)*((↑(prW (x,[])).length:Int)-1)+lenI (List.getD (prW (x,[])) (Int.toNat ((↑(prW (x,[])).length:Int)-1)) (0:Int))>1800):
  Tst.path (vrun0 Tryz.prog loCs (fl BLong []) 3 13 [nv (smN x)]) [false,false,false,false,false,false,false] (toRet Tryz.prog Tryz.f73 true (bv false)):=
 mp (an h1 (an (beq_eq_false_iff_ne.mpr h2) (an (fits_i64 h3) (an (fits_i64 h4) (an (fits_i64 h3) (an (decide_eq_true h5) (an (decide_eq_true h6) (an h7 (an (fits_i64 h8) (an (bT (decide_eq_false h9)) (an (bT (decide_eq_false h9)) (an (bT (decide_eq_false h9)) (an (bT (decide_eq_false h9)) (an (bT (decide_eq_false h9)) (an (decide_eq_false h9) rf)))))))))))))))
def smI2 (a:NI):Bool:=List.isEmpty (α:=Int) a.2&&i64B a.1
noncomputable def cLong:Ctr:={f:=73,ps:=[tI],rs:=[.bool],fresh:=true,pre:=fun d=>smI2 d.1,fn:=fun d=>(false,())}
noncomputable def laCs:VCaller:=ctrs [cLong]
theorem la_all (q:NQ) (h1:(smI2 (q.1.1,q.1.2))=true) (h2:(smI2 (q.2.1,q.2.2))=true):
  Tst.path (vrun0 Tryz.prog laCs (fl BLa []) 3 11 [qv q]) [true,true,true,false] (toRet Tryz.prog Tryz.f35 true (bv false)):=
 mp (an h1 (an rt (an rt (an rt (an h2 (an rf rf))))))
noncomputable def cLa:Ctr:={f:=35,ps:=[tQ],rs:=[.bool],fresh:=true,pre:=fun d=>smI2 d.1.1&&smI2 d.1.2,fn:=fun d=>(false,())}
abbrev sl (l:List ByteArray):AV:= .lst false .str l
abbrev fnC (f:FuncId):AV:= .raw (.func (.func f) #[] #[])
def SEa (l:List ByteArray) (k:Nat):St:={n:=21,sl:=[(0,sl l),(1,fnC 31),(8,sl l),(9,iv l.length),(10,iv k)],en:=[],next:=64}
noncomputable def eaCs:VCaller:=ctrs [cEck]
theorem ea_start (l:List ByteArray):
  Tst.path (vrun0 Tryz.prog eaCs (fl BEa []) 2 21 [sl l,fnC 31]) [] (toSt Tryz.prog 21 .normal [] (SEa l 0)):=
 mp (an (rr l) (an (rr (Value.func (Fn.func (31:FuncId)) #[] #[])) (an (rr l) (an (rr ((↑l.length:Int))) (an (rr ((0:Int))) trivial)))))
theorem ea_go (l:List ByteArray) (k:Nat) (h1:(↑k:Int)<(↑l.length:Int)) (h2:k<l.length) (h3:(List.getD l k ByteArray.empty).size≤(1000000000:Nat)) (h4:ckR (List.getD l k ByteArray.empty)=0) (h5: -9223372036854775808≤(↑k:Int)+1∧(↑k:Int)+1≤9223372036854775807):
  Tst.path (vall Tryz.prog eaCs (fl BEa [1,0,1,0,0]) (SEa l k)) [true,false] (toSt Tryz.prog 21 .normal [] (SEa l (k+1))):=
 mp (an (decide_eq_true h1) (an (show(decide ((0:Int)≤(↑k:Int)))=true from decide_eq_true (by omega)) (an (decide_eq_true h2) (an (decide_eq_true h3) (an (bne_eq_false_iff_eq.mpr h4) (an (fits_i64 h5) (an (rr l) (an (rr (Value.func (Fn.func (31:FuncId)) #[] #[])) (an (rr l) (an (rr ((↑l.length:Int))) (an (show((↑k:Int)+1)=((↑(k+(1:Nat)):Int))from(by omega)) trivial)))))))))))
theorem ea_end (l:List ByteArray) (k:Nat) (h1:¬(↑k:Int)<(↑l.length:Int)):
  Tst.path (vall Tryz.prog eaCs (fl BEa [1,0,1,0,0]) (SEa l k)) [false] (toSt Tryz.prog 21 (.exit 0) [] (SEa l k)):=
 mp (an (decide_eq_false h1) (an (rr l) (an (rr (Value.func (Fn.func (31:FuncId)) #[] #[])) (an (rr l) (an (rr ((↑l.length:Int))) (an (rr ((↑k:Int))) trivial))))))
theorem ea_fin (l:List ByteArray) (k:Nat):
  Tst.path (vall Tryz.prog eaCs (List.drop 3 (fl BEa [])) (SEa l k)) [] (toRet Tryz.prog Tryz.f119 true (iv 0)):=
 mp (rr ((0:Int)))
def okCks (l:List ByteArray):Bool:=decide (l.length≤1000)&&l.all fun s=>decide (s.size≤1000000000)&&decide (ckR s=0)
def eaRes (args:List AV):Tst (Option AV):=match args with
 |[.lst false .str l, .raw (.func (.func g) ⟨[]⟩ ⟨[]⟩)]=> .must (Nat.beq g 31&&okCks l) (.ret (some (iv 0)))
 |_=> .ret none
noncomputable def rEa:RCtr:={f:=119,res:=eaRes}
noncomputable def chkCs:VCaller:=rctrs [rEa] (ctrs [])
theorem chk_all (l:List ByteArray) (h1:(Nat.beq (31:Nat) (31:Nat)&&okCks l)=true):
  Tst.path (vrun0 Tryz.prog chkCs (fl BChk []) 3 5 [sl l]) [] (toRet Tryz.prog Tryz.f61 true (iv 0)):=
 mp (an h1 (rr ((0:Int))))
noncomputable def cChk:Ctr:={f:=61,ps:=[.list false .str],rs:=[.int .i64],fresh:=true,pre:=fun d=>okCks d.1,fn:=fun d=>(0,())}
noncomputable def BGv:Code:=(Tryz.f62.body).getD .skip
noncomputable def gvCs:VCaller:=ctrs [cLa,cTx]
theorem gv_all (q:NQ) (h1:(smI2 (q.1.1,q.1.2)&&smI2 (q.2.1,q.2.2))=true) (h2:(okTx ((q.1.1,q.1.2),q.2.1,q.2.2))=true):
  Tst.path (vrun0 Tryz.prog gvCs (fl BGv []) 5 8 [qv q]) [false] (toRet Tryz.prog Tryz.f62 true (.tuple [sv (txS q),iv 0])):=
 mp (an h1 (an rf (an h2 (an (rr (txS ((q.1.1,q.1.2),q.2.1,q.2.2))) (an (rr ((0:Int))) trivial)))))
noncomputable def cGv:Ctr:={f:=62,ps:=[tQ],rs:=[.str, .int .i64],fresh:=true,pre:=fun d=>(smI2 d.1.1&&smI2 d.1.2)&&okTx d.1,fn:=fun d=>(txS d.1,(0:Int),())}
noncomputable def muCs:VCaller:=ctrs [cChk,cFrom,cQMul,cQAdd,cGv]
theorem mu_all (a b:ByteArray) (h1:(okCks [a,b])=true) (h2:(okFrom a)=true) (h3:(okFrom b)=true) (h4:(okQ (20000:Nat) (((qFrom a).1.1,(qFrom a).1.2),(qFrom a).2.1,(qFrom a).2.2)&&okQ (20000:Nat) (((qFrom b).1.1,(qFrom b).1.2),(qFrom b).2.1,(qFrom b).2.2))=true) (h5:(smI2 ((qMul (((qFrom a).1.1,(qFrom a).1.2),(qFrom a).2.1,(qFrom a).2.2) (((qFrom b).1.1,(qFrom b).1.2),(qFrom b).2.1,(qFrom b).2.2)).1.1,(qMul (((qFrom a).1.1,(qFrom a).1.2),(qFrom a).2.1,(qFrom a).2.2) (((qFrom b).1.1,(qFrom b).1.2),(qFrom b).2.1,(qFrom b).2.2)).1.2)&&smI2 ((qMul (((qFrom a).1.1,(qFrom a).1.2),(qFrom a).2.1,(qFrom a).2.2) (((qFrom b).1.1,(qFrom b).1.2),(qFrom b).2.1,(qFrom b).2.2)).2.1,(qMul (((qFrom a).1.1,(qFrom a).1.2),(qFrom a).2.1,(qFrom a).2.2) (((qFrom b).1.1,(qFrom b).1.2),(qFrom b).2.1,(qFrom b).2.2)).2.2)&&okTx (((qMul (((qFrom a).1.1,(qFrom a).1.2),(qFrom a).2.1,(qFrom a).2.2) (((qFrom b).1.1,(qFrom b).1.2),(qFrom b).2.1,(qFrom b).2.2)).1.1,(qMul (((qFrom a).1.1,(qFrom a).1.2),(qFrom a).2.1,(qFrom a).2.2) (((qFrom b).1.1,(qFrom b).1.2),(qFrom b).2.1,(qFrom b).2.2)).1.2),(qMul (((qFrom a).1.1,(qFrom a).1.2),(qFrom a).2.1,(qFrom a).2.2) (((qFrom b).1.1,(qFrom b).1.2),(qFrom b).2.1,(qFrom b).2.2)).2.1,(qMul (((qFrom a).1.1,(qFrom a).1.2),(qFrom a).2.1,(qFrom a).2.2) (((qFrom b).1.1,(qFrom b).1.2),(qFrom b).2.1,(qFrom b).2.2)).2.2))=true):
  Tst.path (vrun0 Tryz.prog muCs (fl BMu []) 5 11 [sv a,sv b]) [false] (toRet Tryz.prog Tryz.f9 true (.tuple [sv (txS (qMul (qFrom a) (qFrom b))),iv 0])):=
 mp (an h1 (an rf (an h2 (an h3 (an h4 (an h5 (an (rr (txS (((qMul (((qFrom a).1.1,(qFrom a).1.2),(qFrom a).2.1,(qFrom a).2.2) (((qFrom b).1.1,(qFrom b).1.2),(qFrom b).2.1,(qFrom b).2.2)).1.1,(qMul (((qFrom a).1.1,(qFrom a).1.2),(qFrom a).2.1,(qFrom a).2.2) (((qFrom b).1.1,(qFrom b).1.2),(qFrom b).2.1,(qFrom b).2.2)).1.2),(qMul (((qFrom a).1.1,(qFrom a).1.2),(qFrom a).2.1,(qFrom a).2.2) (((qFrom b).1.1,(qFrom b).1.2),(qFrom b).2.1,(qFrom b).2.2)).2.1,(qMul (((qFrom a).1.1,(qFrom a).1.2),(qFrom a).2.1,(qFrom a).2.2) (((qFrom b).1.1,(qFrom b).1.2),(qFrom b).2.1,(qFrom b).2.2)).2.2))) (an (rr ((0:Int))) trivial))))))))
theorem ad_all (a b:ByteArray) (h1:(okCks [a,b])=true) (h2:(okFrom a)=true) (h3:(okFrom b)=true) (h4:(okQ (20000:Nat) (((qFrom a).1.1,(qFrom a).1.2),(qFrom a).2.1,(qFrom a).2.2)&&okQ (20000:Nat) (((qFrom b).1.1,(qFrom b).1.2),(qFrom b).2.1,(qFrom b).2.2))=true) (h5:(smI2 ((qAdd (((qFrom a).1.1,(qFrom a).1.2),(qFrom a).2.1,(qFrom a).2.2) (((qFrom b).1.1,(qFrom b).1.2),(qFrom b).2.1,(qFrom b).2.2)).1.1,(qAdd (((qFrom a).1.1,(qFrom a).1.2),(qFrom a).2.1,(qFrom a).2.2) (((qFrom b).1.1,(qFrom b).1.2),(qFrom b).2.1,(qFrom b).2.2)).1.2)&&smI2 ((qAdd (((qFrom a).1.1,(qFrom a).1.2),(qFrom a).2.1,(qFrom a).2.2) (((qFrom b).1.1,(qFrom b).1.2),(qFrom b).2.1,(qFrom b).2.2)).2.1,(qAdd (((qFrom a).1.1,(qFrom a).1.2),(qFrom a).2.1,(qFrom a).2.2) (((qFrom b).1.1,(qFrom b).1.2),(qFrom b).2.1,(qFrom b).2.2)).2.2)&&okTx (((qAdd (((qFrom a).1.1,(qFrom a).1.2),(qFrom a).2.1,(qFrom a).2.2) (((qFrom b).1.1,(qFrom b).1.2),(qFrom b).2.1,(qFrom b).2.2)).1.1,(qAdd (((qFrom a).1.1,(qFrom a).1.2),(qFrom a).2.1,(qFrom a).2.2) (((qFrom b).1.1,(qFrom b).1.2),(qFrom b).2.1,(qFrom b).2.2)).1.2),(qAdd (((qFrom a).1.1,(qFrom a).1.2),(qFrom a).2.1,(qFrom a).2.2) (((qFrom b).1.1,(qFrom b).1.2),(qFrom b).2.1,(qFrom b).2.2)).2.1,(qAdd (((qFrom a).1.1,(qFrom a).1.2),(qFrom a).2.1,(qFrom a).2.2) (((qFrom b).1.1,(qFrom b).1.2),(qFrom b).2.1,(qFrom b).2.2)).2.2))=true):
  Tst.path (vrun0 Tryz.prog muCs (fl BXad []) 5 11 [sv a,sv b]) [false] (toRet Tryz.prog Tryz.f11 true (.tuple [sv (txS (qAdd (qFrom a) (qFrom b))),iv 0])):=
 mp (an h1 (an rf (an h2 (an h3 (an h4 (an h5 (an (rr (txS (((qAdd (((qFrom a).1.1,(qFrom a).1.2),(qFrom a).2.1,(qFrom a).2.2) (((qFrom b).1.1,(qFrom b).1.2),(qFrom b).2.1,(qFrom b).2.2)).1.1,(qAdd (((qFrom a).1.1,(qFrom a).1.2),(qFrom a).2.1,(qFrom a).2.2) (((qFrom b).1.1,(qFrom b).1.2),(qFrom b).2.1,(qFrom b).2.2)).1.2),(qAdd (((qFrom a).1.1,(qFrom a).1.2),(qFrom a).2.1,(qFrom a).2.2) (((qFrom b).1.1,(qFrom b).1.2),(qFrom b).2.1,(qFrom b).2.2)).2.1,(qAdd (((qFrom a).1.1,(qFrom a).1.2),(qFrom a).2.1,(qFrom a).2.2) (((qFrom b).1.1,(qFrom b).1.2),(qFrom b).2.1,(qFrom b).2.2)).2.2))) (an (rr ((0:Int))) trivial))))))))
def okT2 (t:List (Int×Int)):Bool:=decide (trnErr t=0)
noncomputable def ratF2 (t:List (Int×Int)):(Int×List Int)×(Int×List Int):=ratQ t t.length
noncomputable def cGrq:Ctr:={f:=22,ps:=[.list false tP2],rs:=[tQ],fresh:=false,pre:=fun d=>okT2 d.1,fn:=fun d=>(ratF2 d.1,())}
noncomputable def gr2Cs:VCaller:=ctrs [cGt,cGrq,cTx]
theorem gr2_ok (t:List (Int×Int)) (h1:trnErr t=0) (h2:(okT2 t)=true) (h3:(okTx (((ratF2 t).1.1,(ratF2 t).1.2),(ratF2 t).2.1,(ratF2 t).2.2))=true):
  Tst.path (vrun0 Tryz.prog gr2Cs (fl BGrr2 []) 9 13 [pl t]) [false] (toRet Tryz.prog Tryz.f7 true (.tuple [sv (txS (ratF2 t)),iv 0])):=
 mp (an rt (an (bne_eq_false_iff_eq.mpr h1) (an h2 (an h3 (an (rr (txS (((ratF2 t).1.1,(ratF2 t).1.2),(ratF2 t).2.1,(ratF2 t).2.2))) (an (rr ((0:Int))) trivial))))))
def isS (s:ByteArray):Prop:=∃r,smQ r∧s=textQ r
noncomputable def mulB (a b:ByteArray):Bool:= @decide (isS a∧isS b∧smQ (toQ a*toQ b)) (Classical.propDecidable _)
noncomputable def addB (a b:ByteArray):Bool:= @decide (isS a∧isS b∧smQ (toQ a+toQ b)) (Classical.propDecidable _)
noncomputable def cXm:Ctr:={f:=9,ps:=[.str, .str],rs:=[.str, .int .i64],fresh:=true,pre:=fun d=>mulB d.1 d.2.1,fn:=fun d=>(textQ (toQ d.1*toQ d.2.1),(0:Int),())}
noncomputable def cXa:Ctr:={f:=11,ps:=[.str, .str],rs:=[.str, .int .i64],fresh:=true,pre:=fun d=>addB d.1 d.2.1,fn:=fun d=>(textQ (toQ d.1+toQ d.2.1),(0:Int),())}
noncomputable def cGr2:Ctr:={f:=7,ps:=[.list false tP2],rs:=[.str, .int .i64],fresh:=true,pre:=fun d=>okT2 d.1,fn:=fun d=>(textQ (rR d.1),(0:Int),())}
theorem cL64_ok:cL64.Ok Tryz.prog:=fun⟨x,_⟩ h w F xs hF hG hd=>by
 have h:=okU_iff.1 h
 cases hd with
 |cons d1 d2=>
  cases d2
  rw [d1.raw_eq]
  refine(Tryz.bits_Len64 x w h.1 (by omega)).mono fun e w' ⟨h1,h2⟩=> ?_
  subst h2
  exact⟨_,⟨F.at',fun _=>none⟩,h1, .raw _,⟨hF.glob,hF.all,fun b A h=>by cases h⟩,(fun b A h=>by cases h),Below.refl _ _⟩
theorem loCs_ok:CallOk Tryz.prog (gS loCs):=ctrs_ok fun c hc=>by
 simp only [List.mem_cons,List.not_mem_nil,or_false]at hc
 rcases hc with rfl |rfl
 ·exact cParts_ok
 ·exact cL64_ok
theorem long_holds (x:Int) (h:i64B x=true):Holds Tryz.prog true 73 [nv (smN x)] (bv false):=by
 refine holds_fl (c:=BLong) Tryz.func73 rfl rfl fun w F=> ?_
 have hx:=i64B_iff.1 h
 have hok:okI (x,[])=true:=h
 have ep:prW (x,[])=if x=0 then []else [absI x]:=if_pos rfl
 by_cases h0:x=0
 ·exact GoalL.ret known mixed loCs_ok 3 _ (long_0 x hok (by rw [ep,if_pos h0];rfl)) fun T H h=>h
 ·rw [if_neg h0]at ep
  have hb:0<absI x∧absI x<18446744073709551616:=by unfold absI;omega
  obtain⟨s,l1,l2,_,_⟩:=lz_spec hb
  have l3:lenI (absI x)=64-(s:Int):=by unfold lzI at l1;unfold lenI;omega
  have key:=long_1 x hok
  rw [ep]at key
  have e1:((List.length [absI x]:Nat):Int)=1:=rfl
  have e2:List.getD [absI x] (Int.toNat (1-1)) 0=absI x:=rfl
  rw [e1,e2,l3]at key
  exact GoalL.ret known mixed loCs_ok 3 _ (key (by decide) (by decide) (by decide) (by decide) (show 0<1 by decide) (okU_iff.2 (by omega)) (by omega) (by omega)) fun T H h=>h
theorem cLong_ok:cLong.Ok Tryz.prog:=fun⟨⟨x,w⟩,_⟩ h=>by
 have h:(List.isEmpty (α:=Int) w&&i64B x)=true:=h
 rw [Bool.and_eq_true]at h
 obtain rfl:w=[]:=List.isEmpty_iff.1 h.1
 exact long_holds x h.2
theorem laCs_ok:CallOk Tryz.prog (gS laCs):=one_ok cLong_ok
theorem cLa_ok:cLa.Ok Tryz.prog:=fun⟨q,_⟩ h=>by
 have h:(smI2 q.1&&smI2 q.2)=true:=h
 rw [Bool.and_eq_true]at h
 show Holds Tryz.prog true 35 [qv q] (bv false)
 refine holds_fl (c:=BLa) Tryz.func35 rfl rfl fun w F=> ?_
 exact GoalL.ret known mixed laCs_ok 3 _ (la_all q h.1 h.2) fun T H h=>h
theorem okCks_at {l:List ByteArray} (h:okCks l=true):l.length≤1000∧∀k,k<l.length→(l.getD k ByteArray.empty).size≤1000000000∧ckR (l.getD k ByteArray.empty)=0:=by
 unfold okCks at h
 rw [Bool.and_eq_true,decide_eq_true_eq,List.all_eq_true]at h
 refine⟨h.1,fun k hk=> ?_⟩
 have:=h.2 _ (List.getElem_mem hk)
 rw [Bool.and_eq_true,decide_eq_true_eq,decide_eq_true_eq]at this
 rw [List.getD_eq_getElem?_getD,List.getElem?_eq_getElem hk]
 exact this
theorem ea_holds (l:List ByteArray) (h:okCks l=true):Holds Tryz.prog true 119 [sl l,fnC 31] (iv 0):=by
 have hS:CallOk Tryz.prog (gS eaCs):=one_ok cEck_ok
 obtain⟨hl,hx⟩:=okCks_at h
 refine holds_fl (c:=BEa) Tryz.func119 rfl rfl fun w F=> ?_
 refine GoalL.to known mixed hS 2 _ (ea_start l) (by kernel_rfl) ?_
 refine GoalL.loop (ι:={k:Nat//k≤l.length}) (id:=0) (b:=cat BEa [1,0,1,0,0]) (rest:=List.drop 3 (fl BEa [])) (by kernel_rfl) (fun k=>SEa l k.1) (fun k=>l.length-k.1) ⟨0,Nat.zero_le _⟩ (fun _=>rfl) ?_
 rintro⟨k,hk⟩
 by_cases hlt:k<l.length
 ·refine GoalL.all (s:=SEa l k) known mixed hS _ (ea_go l k (by omega) hlt (hx k hlt).1 (hx k hlt).2 (by omega)) (by kernel_rfl) ?_
  exact⟨⟨k+1,hlt⟩,by simp;omega,rfl,rfl⟩
 ·refine GoalL.all (s:=SEa l k) known mixed hS _ (ea_end l k (by omega)) (by kernel_rfl) ?_
  refine onN_exit (inB_exit ?_)
  exact GoalL.allRet (s:=SEa l k) known mixed hS _ (ea_fin l k) fun T H h=>h
theorem rEa_ok:rEa.Ok Tryz.prog:=by
 intro args v hv w F xs hF hG hd
 change (eaRes args).gr=_ at hv
 unfold eaRes at hv
 split at hv
 ·rename_i l g
  have hv:(match(Nat.beq g 31&&okCks l)with |true=>some (some (iv 0))|false=>none)=some (some v):=hv
  cases hm:(Nat.beq g 31&&okCks l)with
  |false=>rw [hm]at hv;cases hv
  |true=>
  rw [hm]at hv
  cases hv
  rw [Bool.and_eq_true]at hm
  obtain rfl:=Nat.eq_of_beq_eq_true hm.1
  have hd2:Dens (⟨fun i=>if i<64 then some (i,0)else none,F.fz⟩:Env) [sl l,fnC 31] xs:=by
   cases hd with
   |cons d1 d2=>
    cases d2 with
    |cons d2 d3=>
     cases d3
     have h1:=cells_fz (ρ:=F) (ρ':=(⟨fun i=>if i<64 then some (i,0)else none,F.fz⟩:Env)) (fun b A h=>h) (.list false .str) l [_] (.cons d1 .nil)
     cases h1 with
     |cons h1 _=>exact .cons h1 (.cons (by rw [d2.raw_eq];exact .raw _) .nil)
  refine(ea_holds l hm.2 w ⟨fun i=>if i<64 then some (i,0)else none,F.fz⟩ xs ⟨fun i x h=> ?_,fun g hg=>⟨0,if_pos hg⟩,hF⟩ hG hd2).mono fun e w' ⟨x,F',h1,h2,_,_,h5⟩=> ?_
  ·have h:(if i<64 then some (i,0)else none)=some x:=h
   split at h
   ·assumption
   ·cases h
  ·refine⟨x,h1, ?_,h5⟩
   rw [h2.raw_eq];exact .raw _
 ·cases hv
theorem chkCs_ok:CallOk Tryz.prog (gS chkCs):=rctrs_ok (fun c hc=>by
 simp only [List.mem_cons,List.not_mem_nil,or_false]at hc
 rcases hc with rfl
 exact rEa_ok) none_ok
theorem cChk_ok:cChk.Ok Tryz.prog:=fun⟨l,_⟩ h=>by
 have h:okCks l=true:=h
 show Holds Tryz.prog true 61 [sl l] (iv 0)
 refine holds_fl (c:=BChk) Tryz.func61 rfl rfl fun w F=> ?_
 exact GoalL.ret known mixed chkCs_ok 3 _ (chk_all l (by rw [h];rfl)) fun T H h=>h
theorem gvCs_ok:CallOk Tryz.prog (gS gvCs):=ctrs_ok fun c hc=>by
 simp only [List.mem_cons,List.not_mem_nil,or_false]at hc
 rcases hc with rfl |rfl
 ·exact cLa_ok
 ·exact cTx_ok
theorem cGv_ok:cGv.Ok Tryz.prog:=fun⟨q,_⟩ h=>by
 have h:((smI2 q.1&&smI2 q.2)&&okTx q)=true:=h
 rw [Bool.and_eq_true]at h
 show Holds Tryz.prog true 62 [qv q] (.tuple [sv (txS q),iv 0])
 refine holds_fl (c:=BGv) Tryz.func62 rfl rfl fun w F=> ?_
 exact GoalL.ret known mixed gvCs_ok 5 _ (gv_all q h.1 h.2) fun T H h=>h
theorem muCs_ok:CallOk Tryz.prog (gS muCs):=ctrs_ok fun c hc=>by
 simp only [List.mem_cons,List.not_mem_nil,or_false]at hc
 rcases hc with rfl |rfl |rfl |rfl |rfl
 ·exact cChk_ok
 ·exact cFrom_ok
 ·exact cQMul_ok
 ·exact cQAdd_ok
 ·exact cGv_ok
theorem isS_of {r:Rat} (h:smQ r):isS (textQ r):=⟨r,h,rfl⟩
theorem toQ_sm {r:Rat} (h:smQ r):toQ (textQ r)=r:=toQ_text (k:=2) (by decide) ⟨by have:=h.1;show(r.num.natAbs:Int)<1000000000000000000;omega,by have:=h.2;show(r.den:Int)<1000000000000000000;omega⟩
theorem mulB_iff {a b:ByteArray}:mulB a b=true↔isS a∧isS b∧smQ (toQ a*toQ b):= @decide_eq_true_iff _ (Classical.propDecidable _)
theorem addB_iff {a b:ByteArray}:addB a b=true↔isS a∧isS b∧smQ (toQ a+toQ b):= @decide_eq_true_iff _ (Classical.propDecidable _)
theorem qr_gv {n:Nat} {q:NQ} {r:Rat} (h:QR n q r) (s:smQ r):((smI2 q.1&&smI2 q.2)&&okTx q)=true:=by
 have e:=qr_sm h s
 have s1:=s.1
 have s2:=s.2
 have t:=(qr_tx h s).1
 rw [t,e]
 have h1:smI2 (r.num,[])=true:=i64B_iff.2 (show-9223372036854775808≤r.num∧r.num≤9223372036854775807 by omega)
 have h2:smI2 ((r.den:Int),[])=true:=i64B_iff.2 (show-9223372036854775808≤(r.den:Int)∧(r.den:Int)≤9223372036854775807 by omega)
 show((smI2 (r.num,[])&&smI2 ((r.den:Int),[]))&&true)=true
 rw [h1,h2];rfl
theorem cks_two {r s:Rat} (h:smQ r) (g:smQ s):okCks [textQ r,textQ s]=true:=by
 have z1:=smQ_size h
 have z2:=smQ_size g
 unfold okCks
 show(true&&((decide ((textQ r).size≤1000000000)&&decide (ckR (textQ r)=0))&&((decide ((textQ s).size≤1000000000)&&decide (ckR (textQ s)=0))&&true)))=true
 rw [smQ_ck h,smQ_ck g,decide_eq_true (by omega),decide_eq_true (show(textQ s).size≤1000000000 by omega)];rfl
attribute [local irreducible] qMul qAdd qFrom txS okTx smI2 textQ toQ okFrom okCks okQ
theorem cXm_ok:cXm.Ok Tryz.prog:=fun⟨a,b,_⟩ h=>by
 obtain⟨⟨r,hr,rfl⟩,⟨s,hs,rfl⟩,hm⟩:=mulB_iff.1 h
 show Holds Tryz.prog true 9 [sv (textQ r),sv (textQ s)] (.tuple [sv (textQ (toQ (textQ r)*toQ (textQ s))),iv 0])
 have hm:smQ (toQ (textQ r)*toQ (textQ s)):=hm
 rw [toQ_sm hr,toQ_sm hs]at hm ⊢
 obtain⟨f1,q1⟩:=smQ_from hr
 obtain⟨f2,q2⟩:=smQ_from hs
 have q:=qMul_qr q1 q2 (by decide) (by decide)
 have key:=mu_all (textQ r) (textQ s) (cks_two hr hs) f1 f2 (by rw [Bool.and_eq_true];exact⟨(q1.mono (by decide)).ok,(q2.mono (by decide)).ok⟩) (qr_gv q hm)
 rw [(qr_tx q hm).2]at key
 refine holds_fl (c:=BMu) Tryz.func9 rfl rfl fun w F=> ?_
 exact GoalL.ret known mixed muCs_ok 5 _ key fun T H h=>h
theorem cXa_ok:cXa.Ok Tryz.prog:=fun⟨a,b,_⟩ h=>by
 obtain⟨⟨r,hr,rfl⟩,⟨s,hs,rfl⟩,hm⟩:=addB_iff.1 h
 show Holds Tryz.prog true 11 [sv (textQ r),sv (textQ s)] (.tuple [sv (textQ (toQ (textQ r)+toQ (textQ s))),iv 0])
 have hm:smQ (toQ (textQ r)+toQ (textQ s)):=hm
 rw [toQ_sm hr,toQ_sm hs]at hm ⊢
 obtain⟨f1,q1⟩:=smQ_from hr
 obtain⟨f2,q2⟩:=smQ_from hs
 have q:=qAdd_qr q1 q2 (by decide)
 have key:=ad_all (textQ r) (textQ s) (cks_two hr hs) f1 f2 (by rw [Bool.and_eq_true];exact⟨(q1.mono (by decide)).ok,(q2.mono (by decide)).ok⟩) (qr_gv q hm)
 rw [(qr_tx q hm).2]at key
 refine holds_fl (c:=BXad) Tryz.func11 rfl rfl fun w F=> ?_
 exact GoalL.ret known mixed muCs_ok 5 _ key fun T H h=>h
attribute [local semireducible] qMul qAdd qFrom txS okTx smI2 textQ toQ okFrom okCks okQ
theorem cGrq_ok:cGrq.Ok Tryz.prog:=fun⟨t,_⟩ h=>by
 obtain⟨h1,h2⟩:=trn_in (of_decide_eq_true h)
 exact gr_holds t h1 h2
theorem gr2Cs_ok:CallOk Tryz.prog (gS gr2Cs):=ctrs_ok fun c hc=>by
 simp only [List.mem_cons,List.not_mem_nil,or_false]at hc
 rcases hc with rfl |rfl |rfl
 ·exact cGt_ok
 ·exact cGrq_ok
 ·exact cTx_ok
theorem ratF_qr {t:List (Int×Int)} (h:trnErr t=0):QR 5 (ratF2 t) (rR t)∧goodT t∧t.length≤4:=by
 obtain⟨h1,h2⟩:=trn_in h
 have q:=ratQ_qr h2 t.length (Nat.le_refl _)
 rw [ratR_rR]at q
 exact⟨q.mono (by omega),goodT_at.2 h2,h1⟩
theorem cGr2_ok:cGr2.Ok Tryz.prog:=fun⟨t,_⟩ h=>by
 have h0:trnErr t=0:=of_decide_eq_true h
 obtain⟨q,hg,h4⟩:=ratF_qr h0
 obtain⟨t1,t2⟩:=qr_tx q (smQ_rR hg h4)
 have key:=gr2_ok t h0 h t1
 rw [t2]at key
 show Holds Tryz.prog true 7 [pl t] (.tuple [sv (textQ (rR t)),iv 0])
 refine holds_fl (c:=BGrr2) Tryz.func7 rfl rfl fun w F=> ?_
 exact GoalL.ret known mixed gr2Cs_ok 9 _ key fun T H h=>h
end
end Go.Proofs.YtccmlbinkgbpgaaGreatDoor
/- Lost motions in plain words: sums step by step; parts of 360. -/
namespace Go.Proofs.YtccmlbinkgbpgaaGreatDoor
open Go.RowKit Sv
set_option maxRecDepth 100000
set_option linter.unusedVariables false
theorem trnFrom_zero {s:List (Int×Int)} (h:goodT s):∀(n k:Nat),k+n≤s.length→trnFrom s n k=0
 |0,_,_=>rfl
 |n+1,k,hk=>by
  have h1:=goodT_at.1 h k (by omega)
  unfold trnFrom
  rw [if_neg (by
   unfold pOut
   rw [decide_eq_false (show¬(g0 s k).1<1 by omega),decide_eq_false (show¬(g0 s k).1>400 by omega),decide_eq_false (show¬(g0 s k).2<1 by omega),decide_eq_false (show¬(g0 s k).2>400 by omega)]
   decide)]
  exact trnFrom_zero h n (k+1) (by omega)
theorem trn_of {s:List (Int×Int)} (h4:s.length≤4) (h:goodT s):trnErr s=0:=by
 unfold trnErr
 rw [if_neg (by omega)]
 exact trnFrom_zero h _ _ (by omega)
def tL (ks:List Int):List ByteArray:=ks.map fun k=>textQ (Rat.divInt k 360)
theorem smQ_360 {k:Int} (h:0≤k∧k≤255):smQ (Rat.divInt k 360):=smQ_div (by decide) (by omega) (by decide)
theorem nn_360 {k:Int} (h:0≤k∧k≤255):¬Rat.divInt k 360<0:=Rat.not_lt.2 (Rat.divInt_nonneg h.1 (by decide))
theorem tL_toQ {ks:List Int} (h:lsOk ks):(tL ks).map toQ=lsR ks:=by
 unfold tL lsR
 rw [List.map_map]
 exact List.map_congr_left fun k hk=>toQ_sm (smQ_360 (h k hk))
def losK (t:List (Int×Int)) (l:List Rat):Nat→Rat
 |0=>0
 |k+1=>losK t l k+l.getD k 0*rR (t.drop (k+1))
theorem losR_step (t:List (Int×Int)) (l:List Rat) (hl:t.length=l.length):∀k,k≤t.length→losR t l=losK t l k+losR (t.drop k) (l.drop k)
 |0,_=>by show _=0+losR (t.drop 0) (l.drop 0);rw [Rat.zero_add,List.drop_zero,List.drop_zero]
 |k+1,hk=>by
  rw [losR_step t l hl k (by omega),List.drop_eq_getElem_cons (show k<t.length by omega),List.drop_eq_getElem_cons (show k<l.length by omega)]
  show losK t l k+(l[k]*rR (t.drop (k+1))+losR (t.drop (k+1)) (l.drop (k+1)))=losK t l k+l.getD k 0*rR (t.drop (k+1))+losR (t.drop (k+1)) (l.drop (k+1))
  rw [List.getD_eq_getElem?_getD,List.getElem?_eq_getElem (show k<l.length by omega),Option.getD_some,Rat.add_assoc]
theorem losK_all (t:List (Int×Int)) (l:List Rat) (hl:t.length=l.length):losK t l t.length=losR t l:=by
 rw [losR_step t l hl t.length (Nat.le_refl _),List.drop_length]
 have e:∀m,losR [] m=0:=fun m=>by cases m<;>rfl
 rw [e,Rat.add_zero]
theorem tqS_text {p q:Int} (hp:0≤p) (hp2:p<100000000000000000000) (hq:1≤q) (hq2:q<100000000000000000000) (c:Int.gcd p q=1):tqS p q=textQ (Rat.divInt p q):=by
 obtain⟨n1,n2⟩:=cop_num hq c
 apply ba_ext
 have e:=textQ_bytes (Rat.divInt p q)
 rw [n1]at e
 show decF 20 p 1 []++(if q>1 then 47::decF 20 q 1 []else [])=bsL (textQ (Rat.divInt p q))
 rw [e,decF_itoa hp hp2,decF_itoa (by omega) hq2]
 by_cases h1:q=1
 ·rw [if_neg (by omega),if_pos (by omega)]
 ·rw [if_pos (by omega),if_neg (by omega),←Dec.itoa_nat,n2]
theorem tq_360 {k:Int} (h:0≤k∧k≤255):tqS (k/Int.gcd k 360) (360/Int.gcd k 360)=textQ (Rat.divInt k 360):=by
 have hg:0<Int.gcd k 360:=Int.gcd_pos_of_ne_zero_right _ (by decide)
 have b1:k/(Int.gcd k 360:Int)≤k:=Int.ediv_le_self _ h.1
 have b0:0≤k/(Int.gcd k 360:Int):=Int.ediv_nonneg h.1 (by omega)
 have b2:360/(Int.gcd k 360:Int)≤360:=Int.ediv_le_self _ (by decide)
 have b3:1≤360/(Int.gcd k 360:Int):=by
  have hm:=Int.ediv_mul_cancel (show(Int.gcd k 360:Int)∣360 from Int.gcd_dvd_right ..)
  have h0:0≤360/(Int.gcd k 360:Int):=Int.ediv_nonneg (by decide) (by omega)
  rcases Int.lt_or_le 0 (360/(Int.gcd k 360:Int))with h|h
  ·omega
  ·exfalso
   have e0:360/(Int.gcd k 360:Int)=0:=by omega
   rw [e0,Int.zero_mul]at hm
   omega
 rw [tqS_text b0 (by omega) b3 (by omega) (red_cop (by decide))]
 exact congrArg textQ (red_div (by decide))
noncomputable section
noncomputable def cOf3:Ctr:={f:=6,ps:=[.int .i64, .int .i64],rs:=[.str],fresh:=true,pre:=fun d=>decide (0≤d.1)&&(decide (d.1≤255)&&decide (d.2.1=360)),fn:=fun d=>(textQ (Rat.divInt d.1 360),())}
theorem of3_holds (k:Int) (h1:0≤k) (h2:k≤255):Holds Tryz.prog true 6 [iv k,iv 360] (sv (textQ (Rat.divInt k 360))):=by
 have:=rof_holds k 360 h1 (by omega) (by decide) (by decide)
 rw [tq_360 ⟨h1,h2⟩]at this
 exact this
theorem cOf3_ok:cOf3.Ok Tryz.prog:=fun⟨k,m,_⟩ h=>by
 have h:(decide (0≤k)&&(decide (k≤255)&&decide (m=360)))=true:=h
 rw [Bool.and_eq_true,Bool.and_eq_true,decide_eq_true_eq,decide_eq_true_eq,decide_eq_true_eq]at h
 obtain⟨h1,h2,rfl⟩:=h
 exact of3_holds k h1 h2
noncomputable def loB (t:List (Int×Int)) (l:List ByteArray):Bool:= @decide (trnErr t=0∧∃ks,lsOk ks∧l=tL ks∧t.length=ks.length) (Classical.propDecidable _)
theorem loB_iff {t:List (Int×Int)} {l:List ByteArray}:loB t l=true↔trnErr t=0∧∃ks,lsOk ks∧l=tL ks∧t.length=ks.length:= @decide_eq_true_iff _ (Classical.propDecidable _)
end
end Go.Proofs.YtccmlbinkgbpgaaGreatDoor
/- gear.Lost for numbers of few digits; integraphtop.toothTrains; integraphref01.Of of parts of 360. -/
namespace Go.Proofs.YtccmlbinkgbpgaaGreatDoor
open Go.RowKit Sv
set_option maxRecDepth 100000
set_option maxHeartbeats 4000000
set_option linter.unusedVariables false
set_option linter.unusedSimpArgs false
noncomputable section
noncomputable def BLo:Code:=(Tryz.f10.body).getD .skip
noncomputable def BTt:Code:=(Tryz.f4.body).getD .skip
noncomputable def lostCs:VCaller:=ctrs [cGt,cEck,cFrom,cQSign,cGrq,cQMul,cQAdd,cF,cLa,cTx]
abbrev r1L:Sv.Ren:=[(64,64,none)]
def SLo (t:List (Int×Int)) (l:List ByteArray) (q:NQ) (k:Nat):St:={n:=53,sl:=[(0,pl t),(1,sl l),(7, .ptr 64 0),(22,sl l),(23,iv l.length),(24,iv k)],en:=[(64,bQ q)],next:=65}
abbrev nthB (l:List ByteArray) (k:Nat):ByteArray:=l.getD k ByteArray.empty
abbrev dropT (t:List (Int×Int)) (k:Nat):List (Int×Int):=List.drop (Int.toNat ((k:Int)+1)) (List.take t.length t)
noncomputable def stepQ (t:List (Int×Int)) (l:List ByteArray) (q:NQ) (k:Nat):(Int×List Int)×(Int×List Int):=qAdd q (qMul (qFrom (nthB l k)) (ratF2 (dropT t k)))
theorem lo_start (t:List (Int×Int)) (l:List ByteArray) (h1:trnErr t=0) (h2:(↑l.length:Int)=(↑t.length:Int)):
  Tst.path (vrun0 Tryz.prog lostCs (fl BLo []) 8 53 [pl t,sl l]) [false,false] (toSt Tryz.prog 53 .normal r1L (SLo t l (qOf (iOf 0)) 0)):=
 mp (an rt (an (bne_eq_false_iff_eq.mpr h1) (an (bne_eq_false_iff_eq.mpr h2) (an rt (an (rr t) (an (rr l) (an (rr ((0:Nat))) (an (rr l) (an (rr ((↑l.length:Int))) (an (rr ((0:Int))) (an (an (rr (qOf (iOf (0:Int))).1.1) (an (rr (qOf (iOf (0:Int))).1.2) (an (rr (qOf (iOf (0:Int))).2.1) (an (rr (qOf (iOf (0:Int))).2.2) trivial)))) trivial)))))))))))
theorem lo_go (t:List (Int×Int)) (l:List ByteArray) (q:NQ) (k:Nat) (h1:(↑k:Int)<(↑l.length:Int)) (h2:k<l.length) (h3:(List.getD l k ByteArray.empty).size≤(1000000000:Nat)) (h4:ckR (List.getD l k ByteArray.empty)=0) (h5:(okFrom (List.getD l k ByteArray.empty))=true) (h6:(okI ((qFrom (List.getD l k ByteArray.empty)).1.1,(qFrom (List.getD l k ByteArray.empty)).1.2))=true) (h7:¬iSign ((qFrom (List.getD l k ByteArray.empty)).1.1,(qFrom (List.getD l k ByteArray.empty)).1.2)<0) (h8: -9223372036854775808≤(↑k:Int)+1∧(↑k:Int)+1≤9223372036854775807) (h9:Int.toNat ((↑k:Int)+1)≤t.length) (h10:(okT2 (List.drop (Int.toNat ((↑k:Int)+1)) (List.take t.length t)))=true) (h11:(okQ (20000:Nat) (((qFrom (List.getD l k ByteArray.empty)).1.1,(qFrom (List.getD l k ByteArray.empty)).1.2),(qFrom (List.getD l k ByteArray.empty)).2.1,(qFrom (List.getD l k ByteArray.empty)).2.2)&&okQ (20000:Nat) (((ratF2 (List.drop (Int.toNat ((↑k:Int)+1)) (List.take t.length t))).1.1,(ratF2 (List.drop (Int.toNat ((↑k:Int)+1)) (List.take t.length t))).1.2),(ratF2 (List.drop (Int.toNat ((↑k:Int)+1)) (List.take t.length t))).2.1,(ratF2 (List.drop (Int.toNat ((↑k:Int)+1)) (List.take t.length t))).2.2))=true) (h12:(okQ (20000:Nat) ((q.1.1,q.1.2),q.2.1,q.2.2)&&okQ (20000:Nat) (((qMul (((qFrom (List.getD l k ByteArray.empty)).1.1,(qFrom (List.getD l k ByteArray.empty)).1.2),(qFrom (List.getD l k ByteArray.empty)).2.1,(qFrom (List.getD l k ByteArray.empty)).2.2) (((ratF2 (List.drop (Int.toNat ((↑k:Int)+1)) (List.take t.length t))).1.1,(ratF2 (List.drop (Int.toNat ((↑k:Int)+1)) (List.take t.length t))).1.2),(ratF2 (List.drop (Int.toNat ((↑k:Int)+1)) (List.take t.length t))).2.1,(ratF2 (List.drop (Int.toNat ((↑k:Int)+1)) (List.take t.length t))).2.2)).1.1,(qMul (((qFrom (List.getD l k ByteArray.empty)).1.1,(qFrom (List.getD l k ByteArray.empty)).1.2),(qFrom (List.getD l k ByteArray.empty)).2.1,(qFrom (List.getD l k ByteArray.empty)).2.2) (((ratF2 (List.drop (Int.toNat ((↑k:Int)+1)) (List.take t.length t))).1.1,(ratF2 (List.drop (Int.toNat ((↑k:Int)+1)) (List.take t.length t))).1.2),(ratF2 (List.drop (Int.toNat ((↑k:Int)+1)) (List.take t.length t))).2.1,(ratF2 (List.drop (Int.toNat ((↑k:Int)+1)) (List.take t.length t))).2.2)).1.2),(qMul (((qFrom (List.getD l k ByteArray.empty)).1.1,(qFrom (List.getD l k ByteArray.empty)).1.2),(qFrom (List.getD l k ByteArray.empty)).2.1,(qFrom (List.getD l k ByteArray.empty)).2.2) (((ratF2 (List.drop (Int.toNat ((↑k:Int)+1)) (List.take t.length t))).1.1,(ratF2 (List.drop (Int.toNat ((↑k:Int)+1)) (List.take t.length t))).1.2),(ratF2 (List.drop (Int.toNat ((↑k:Int)+1)) (List.take t.length t))).2.1,(ratF2 (List.drop (Int.toNat ((↑k:Int)+1)) (List.take t.length t))).2.2)).2.1,(qMul (((qFrom (List.getD l k ByteArray.empty)).1.1,(qFrom (List.getD l k ByteArray.empty)).1.2),(qFrom (List.getD l k ByteArray.empty)).2.1,(qFrom (List.getD l k ByteArray.empty)).2.2) (((ratF2 (List.drop (Int.toNat ((↑k:Int)+1)) (List.take t.length t))).1.1,(ratF2 (List.drop (Int.toNat ((↑k:Int)+1)) (List.take t.length t))).1.2),(ratF2 (List.drop (Int.toNat ((↑k:Int)+1)) (List.take t.length t))).2.1,(ratF2 (List.drop (Int.toNat ((↑k:Int)+1)) (List.take t.length t))).2.2)).2.2))=true) (h13:(qAdd ((q.1.1,q.1.2),q.2.1,q.2.2) (((qMul (((qFrom (List.getD l k ByteArray.empty)).1.1,(qFrom (List.getD l k ByteArray.empty)).1.2),(qFrom (List.getD l k ByteArray.empty)).2.1,(qFrom (List.getD l k ByteArray.empty)).2.2) (((ratF2 (List.drop (Int.toNat ((↑k:Int)+1)) (List.take t.length t))).1.1,(ratF2 (List.drop (Int.toNat ((↑k:Int)+1)) (List.take t.length t))).1.2),(ratF2 (List.drop (Int.toNat ((↑k:Int)+1)) (List.take t.length t))).2.1,(ratF2 (List.drop (Int.toNat ((↑k:Int)+1)) (List.take t.length t))).2.2)).1.1,(qMul (((qFrom (List.getD l k ByteArray.empty)).1.1,(qFrom (List.getD l k ByteArray.empty)).1.2),(qFrom (List.getD l k ByteArray.empty)).2.1,(qFrom (List.getD l k ByteArray.empty)).2.2) (((ratF2 (List.drop (Int.toNat ((↑k:Int)+1)) (List.take t.length t))).1.1,(ratF2 (List.drop (Int.toNat ((↑k:Int)+1)) (List.take t.length t))).1.2),(ratF2 (List.drop (Int.toNat ((↑k:Int)+1)) (List.take t.length t))).2.1,(ratF2 (List.drop (Int.toNat ((↑k:Int)+1)) (List.take t.length t))).2.2)).1.2),(qMul (((qFrom (List.getD l k ByteArray.empty)).1.1,(qFrom (List.getD l k ByteArray.empty)).1.2),(qFrom (List.getD l k ByteArray.empty)).2.1,(qFrom (List.getD l k ByteArray.empty)).2.2) (((ratF2 (List.drop (Int.toNat ((↑k:Int)+1)) (List.take t.length t))).1.1,(ratF2 (List.drop (Int.toNat ((↑k:Int)+1)) (List.take t.length t))).1.2),(ratF2 (List.drop (Int.toNat ((↑k:Int)+1)) (List.take t.length t))).2.1,(ratF2 (List.drop (Int.toNat ((↑k:Int)+1)) (List.take t.length t))).2.2)).2.1,(qMul (((qFrom (List.getD l k ByteArray.empty)).1.1,(qFrom (List.getD l k ByteArray.empty)).1.2),(qFrom (List.getD l k ByteArray.empty)).2.1,(qFrom (List.getD l k ByteArray.empty)).2.2) (((ratF2 (List.drop (Int.toNat ((↑k:Int)+1)) (List.take t.length t))).1.1,(ratF2 (List.drop (Int.toNat ((↑k:Int)+1)) (List.take t.length t))).1.2),(ratF2 (List.drop (Int.toNat ((↑k:Int)+1)) (List.take t.length t))).2.1,(ratF2 (List.drop (Int.toNat ((↑k:Int)+1)) (List.take t.length t))).2.2)).2.2)).1.1=(stepQ t l q k).1.1) (h14:(qAdd ((q.1.1,q.1.2),q.2.1,q.2.2) (((qMul (((qFrom (List.getD l k ByteArray.empty)).1.1,(qFrom (List.getD l k ByteArray.empty)).1.2),(qFrom (List.getD l k ByteArray.empty)).2.1,(qFrom (List.getD l k ByteArray.empty)).2.2) (((ratF2 (List.drop (Int.toNat ((↑k:Int)+1)) (List.take t.length t))).1.1,(ratF2 (List.drop (Int.toNat ((↑k:Int)+1)) (List.take t.length t))).1.2),(ratF2 (List.drop (Int.toNat ((↑k:Int)+1)) (List.take t.length t))).2.1,(ratF2 (List.drop (Int.toNat ((↑k:Int)+1)) (List.take t.length t))).2.2)).1.1,(qMul (((qFrom (List.getD l k ByteArray.empty)).1.1,(qFrom (List.getD l k ByteArray.empty)).1.2),(qFrom (List.getD l k ByteArray.empty)).2.1,(qFrom (List.getD l k ByteArray.empty)).2.2) (((ratF2 (List.drop (Int.toNat ((↑k:Int)+1)) (List.take t.length t))).1.1,(ratF2 (List.drop (Int.toNat ((↑k:Int)+1)) (List.take t.length t))).1.2),(ratF2 (List.drop (Int.toNat ((↑k:Int)+1)) (List.take t.length t))).2.1,(ratF2 (List.drop (Int.toNat ((↑k:Int)+1)) (List.take t.length t))).2.2)).1.2),(qMul (((qFrom (List.getD l k ByteArray.empty)).1.1,(qFrom (List.getD l k ByteArray.empty)).1.2),(qFrom (List.getD l k ByteArray.empty)).2.1,(qFrom (List.getD l k ByteArray.empty)).2.2) (((ratF2 (List.drop (Int.toNat ((↑k:Int)+1)) (List.take t.length t))).1.1,(ratF2 (List.drop (Int.toNat ((↑k:Int)+1)) (List.take t.length t))).1.2),(ratF2 (List.drop (Int.toNat ((↑k:Int)+1)) (List.take t.length t))).2.1,(ratF2 (List.drop (Int.toNat ((↑k:Int)+1)) (List.take t.length t))).2.2)).2.1,(qMul (((qFrom (List.getD l k ByteArray.empty)).1.1,(qFrom (List.getD l k ByteArray.empty)).1.2),(qFrom (List.getD l k ByteArray.empty)).2.1,(qFrom (List.getD l k ByteArray.empty)).2.2) (((ratF2 (List.drop (Int.toNat ((↑k:Int)+1)) (List.take t.length t))).1.1,(ratF2 (List.drop (Int.toNat ((↑k:Int)+1)) (List.take t.length t))).1.2),(ratF2 (List.drop (Int.toNat ((↑k:Int)+1)) (List.take t.length t))).2.1,(ratF2 (List.drop (Int.toNat ((↑k:Int)+1)) (List.take t.length t))).2.2)).2.2)).1.2=(stepQ t l q k).1.2) (h15:(qAdd ((q.1.1,q.1.2),q.2.1,q.2.2) (((qMul (((qFrom (List.getD l k ByteArray.empty)).1.1,(qFrom (List.getD l k ByteArray.empty)).1.2),(qFrom (List.getD l k ByteArray.empty)).2.1,(qFrom (List.getD l k ByteArray.empty)).2.2) (((ratF2 (List.drop (Int.toNat ((↑k:Int)+1)) (List.take t.length t))).1.1,(ratF2 (List.drop (Int.toNat ((↑k:Int)+1)) (List.take t.length t))).1.2),(ratF2 (List.drop (Int.toNat ((↑k:Int)+1)) (List.take t.length t))).2.1,(ratF2 (List.drop (Int.toNat ((↑k:Int)+1)) (List.take t.length t))).2.2)).1.1,(qMul (((qFrom (List.getD l k ByteArray.empty)).1.1,(qFrom (List.getD l k ByteArray.empty)).1.2),(qFrom (List.getD l k ByteArray.empty)).2.1,(qFrom (List.getD l k ByteArray.empty)).2.2) (((ratF2 (List.drop (Int.toNat ((↑k:Int)+1)) (List.take t.length t))).1.1,(ratF2 (List.drop (Int.toNat ((↑k:Int)+1)) (List.take t.length t))).1.2),(ratF2 (List.drop (Int.toNat ((↑k:Int)+1)) (List.take t.length t))).2.1,(ratF2 (List.drop (Int.toNat ((↑k:Int)+1)) (List.take t.length t))).2.2)).1.2),(qMul (((qFrom (List.getD l k ByteArray.empty)).1.1,(qFrom (List.getD l k ByteArray.empty)).1.2),(qFrom (List.getD l k ByteArray.empty)).2.1,(qFrom (List.getD l k ByteArray.empty)).2.2) (((ratF2 (List.drop (Int.toNat ((↑k:Int)+1)) (List.take t.length t))).1.1,(ratF2 (List.drop (Int.toNat ((↑k:Int)+1)) (List.take t.length t))).1.2),(ratF2 (List.drop (Int.toNat ((↑k:Int)+1)) (List.take t.length t))).2.1,(ratF2 (List.drop (Int.toNat ((↑k:Int)+1)) (List.take t.length t))).2.2)).2.1,(qMul (((qFrom (List.getD l k ByteArray.empty)).1.1,(qFrom (List.getD l k ByteArray.empty)).1.2),(qFrom (List.getD l k ByteArray.empty)).2.1,(qFrom (List.getD l k ByteArray.empty)).2.2) (((ratF2 (List.drop (Int.toNat ((↑k:Int)+1)) (List.take t.length t))).1.1,(ratF2 (List.drop (Int.toNat ((↑k:Int)+1)) (List.take t.length t))).1.2),(ratF2 (List.drop (Int.toNat ((↑k:Int)+1)) (List.take t.length t))).2.1,(ratF2 (List.drop (Int.toNat ((↑k:Int)+1)) (List.take t.length t))).2.2)).2.2)).2.1=(stepQ t l q k).2.1) (h16:(qAdd ((q.1.1,q.1.2),q.2.1,q.2.2) (((qMul (((qFrom (List.getD l k ByteArray.empty)).1.1,(qFrom (List.getD l k ByteArray.empty)).1.2),(qFrom (List.getD l k ByteArray.empty)).2.1,(qFrom (List.getD l k ByteArray.empty)).2.2) (((ratF2 (List.drop (Int.toNat ((↑k:Int)+1)) (List.take t.length t))).1.1,(ratF2 (List.drop (Int.toNat ((↑k:Int)+1)) (List.take t.length t))).1.2),(ratF2 (List.drop (Int.toNat ((↑k:Int)+1)) (List.take t.length t))).2.1,(ratF2 (List.drop (Int.toNat ((↑k:Int)+1)) (List.take t.length t))).2.2)).1.1,(qMul (((qFrom (List.getD l k ByteArray.empty)).1.1,(qFrom (List.getD l k ByteArray.empty)).1.2),(qFrom (List.getD l k ByteArray.empty)).2.1,(qFrom (List.getD l k ByteArray.empty)).2.2) (((ratF2 (List.drop (Int.toNat ((↑k:Int)+1)) (List.take t.length t))).1.1,(ratF2 (List.drop (Int.toNat ((↑k:Int)+1)) (List.take t.length t))).1.2),(ratF2 (List.drop (Int.toNat ((↑k:Int)+1)) (List.take t.length t))).2.1,(ratF2 (List.drop (Int.toNat ((↑k:Int)+1)) (List.take t.length t))).2.2)).1.2),(qMul (((qFrom (List.getD l k ByteArray.empty)).1.1,(qFrom (List.getD l k ByteArray.empty)).1.2),(qFrom (List.getD l k ByteArray.empty)).2.1,(qFrom (List.getD l k ByteArray.empty)).2.2) (((ratF2 (List.drop (Int.toNat ((↑k:Int)+1)) (List.take t.length t))).1.1,(ratF2 (List.drop (Int.toNat ((↑k:Int)+1)) (List.take t.length t))).1.2),(ratF2 (List.drop (Int.toNat ((↑k:Int)+1)) (List.take t.length t))).2.1,(ratF2 (List.drop (Int.toNat ((↑k:Int)+1)) (List.take t.length t))).2.2)).2.1,(qMul (((qFrom (List.getD l k ByteArray.empty)).1.1,(qFrom (List.getD l k ByteArray.empty)).1.2),(qFrom (List.getD l k ByteArray.empty)).2.1,(qFrom (List.getD l k ByteArray.empty)).2.2) (((ratF2 (List.drop (Int.toNat ((↑k:Int)+1)) (List.take t.length t))).1.1,(ratF2 (List.drop (Int.toNat ((↑k:Int)+1)) (List.take t.length t))).1.2),(ratF2 (List.drop (Int.toNat ((↑k:Int)+1)) (List.take t.length t))).2.1,(ratF2 (List.drop (Int.toNat ((↑k:Int)+1)) (List.take t.length t))).2.2)).2.2)).2.2=(stepQ t l q k).2.2):
  Tst.path (vall Tryz.prog lostCs (fl BLo [1,1,1,1,0,1,0,0]) (SLo t l q k)) [true,false,false] (toSt Tryz.prog 53 .normal r1L (SLo t l (stepQ t l q k) (k+1))):=
 mp (an (decide_eq_true h1) (an (show(decide ((0:Int)≤(↑k:Int)))=true from decide_eq_true (by omega)) (an (decide_eq_true h2) (an (decide_eq_true h3) (an (bne_eq_false_iff_eq.mpr h4) (an h5 (an h6 (an (decide_eq_false h7) (an (sr (AV.agg [iv q.1.1,AV.lst true (.int .u64) q.1.2,iv q.2.1,AV.lst true (.int .u64) q.2.2])) (an h5 (an (sr (AV.agg [iv q.1.1,AV.lst true (.int .u64) q.1.2,iv q.2.1,AV.lst true (.int .u64) q.2.2])) (an (fits_i64 h8) (an (show(decide ((0:Int)≤(↑k:Int)+1))=true from decide_eq_true (by omega)) (an (decide_eq_true h9) (an (show(decide (t.length≤t.length))=true from decide_eq_true (by omega)) (an h10 (an (sr (AV.agg [iv q.1.1,AV.lst true (.int .u64) q.1.2,iv q.2.1,AV.lst true (.int .u64) q.2.2])) (an h11 (an (sr (AV.agg [iv q.1.1,AV.lst true (.int .u64) q.1.2,iv q.2.1,AV.lst true (.int .u64) q.2.2])) (an h12 (an (fits_i64 h8) (an (rr t) (an (rr l) (an (rr ((0:Nat))) (an (rr l) (an (rr ((↑l.length:Int))) (an (show((↑k:Int)+1)=((↑(k+(1:Nat)):Int))from(by omega)) (an (an h13 (an h14 (an h15 (an h16 trivial)))) trivial))))))))))))))))))))))))))))
theorem lo_end (t:List (Int×Int)) (l:List ByteArray) (q:NQ) (k:Nat) (h1:¬(↑k:Int)<(↑l.length:Int)):
  Tst.path (vall Tryz.prog lostCs (fl BLo [1,1,1,1,0,1,0,0]) (SLo t l q k)) [false] (toSt Tryz.prog 53 (.exit 0) r1L (SLo t l q k)):=
 mp (an (decide_eq_false h1) (an (rr t) (an (rr l) (an (rr ((0:Nat))) (an (rr l) (an (rr ((↑l.length:Int))) (an (rr ((↑k:Int))) (an (an (rr q.1.1) (an (rr q.1.2) (an (rr q.2.1) (an (rr q.2.2) trivial)))) trivial))))))))
theorem lo_fin (t:List (Int×Int)) (l:List ByteArray) (q:NQ) (k:Nat) (h1:(smI2 (q.1.1,q.1.2)&&smI2 (q.2.1,q.2.2))=true) (h2:(okTx ((q.1.1,q.1.2),q.2.1,q.2.2))=true):
  Tst.path (vall Tryz.prog lostCs (List.drop 9 (fl BLo [])) (SLo t l q k)) [false] (toRet Tryz.prog Tryz.f10 true (.tuple [sv (txS q),iv 0])):=
 mp (an h1 (an rf (an h2 (an (rr (txS ((q.1.1,q.1.2),q.2.1,q.2.2))) (an (rr ((0:Int))) trivial)))))
abbrev tLL2:Ty:= .list false tP2
abbrev pll (l:List (List (Int×Int))):AV:= .lst false tLL2 l
def STt (l:List (List (Int×Int))) (k:Nat):St:={n:=19,sl:=[(0,pll l),(8,iv l.length),(9,iv k)],en:=[],next:=64}
noncomputable def ttCs:VCaller:=ctrs [cRt]
theorem tt_start (l:List (List (Int×Int))) (h1:¬(↑l.length:Int)>12):
  Tst.path (vrun0 Tryz.prog ttCs (fl BTt []) 4 19 [pll l]) [false] (toSt Tryz.prog 19 .normal [] (STt l 0)):=
 mp (an (decide_eq_false h1) (an (rr l) (an (rr ((↑l.length:Int))) (an (rr ((0:Int))) trivial))))
theorem tt_big (l:List (List (Int×Int))) (h1:(↑l.length:Int)>12):
  Tst.path (vrun0 Tryz.prog ttCs (fl BTt []) 4 19 [pll l]) [true] (toRet Tryz.prog Tryz.f4 true (bv false)):=
 mp (an (decide_eq_true h1) rf)
theorem tt_go (l:List (List (Int×Int))) (k:Nat) (h1:(↑k:Int)<(↑l.length:Int)) (h2:k<l.length) (h3:trnErr (List.getD l k [])=0) (h4: -9223372036854775808≤(↑k:Int)+1∧(↑k:Int)+1≤9223372036854775807):
  Tst.path (vall Tryz.prog ttCs (fl BTt [1,1,0,1,0,0]) (STt l k)) [true,false] (toSt Tryz.prog 19 .normal [] (STt l (k+1))):=
 mp (an (decide_eq_true h1) (an (show(decide ((0:Int)≤(↑k:Int)))=true from decide_eq_true (by omega)) (an (decide_eq_true h2) (an rt (an (bne_eq_false_iff_eq.mpr h3) (an (fits_i64 h4) (an (rr l) (an (rr ((↑l.length:Int))) (an (show((↑k:Int)+1)=((↑(k+(1:Nat)):Int))from(by omega)) trivial)))))))))
theorem tt_bad (l:List (List (Int×Int))) (k:Nat) (h1:(↑k:Int)<(↑l.length:Int)) (h2:k<l.length) (h3:¬trnErr (List.getD l k [])=0):
  Tst.path (vall Tryz.prog ttCs (fl BTt [1,1,0,1,0,0]) (STt l k)) [true,true] (toRet Tryz.prog Tryz.f4 true (bv false)):=
 mp (an (decide_eq_true h1) (an (show(decide ((0:Int)≤(↑k:Int)))=true from decide_eq_true (by omega)) (an (decide_eq_true h2) (an rt (an (bne_iff_ne.mpr h3) rf)))))
theorem tt_end (l:List (List (Int×Int))) (k:Nat) (h1:¬(↑k:Int)<(↑l.length:Int)):
  Tst.path (vall Tryz.prog ttCs (fl BTt [1,1,0,1,0,0]) (STt l k)) [false] (toSt Tryz.prog 19 (.exit 0) [] (STt l k)):=
 mp (an (decide_eq_false h1) (an (rr l) (an (rr ((↑l.length:Int))) (an (rr ((↑k:Int))) trivial))))
theorem tt_fin (l:List (List (Int×Int))) (k:Nat):
  Tst.path (vall Tryz.prog ttCs (List.drop 5 (fl BTt [])) (STt l k)) [] (toRet Tryz.prog Tryz.f4 true (bv true)):=
 mp rt
def okTT (l:List (List (Int×Int))):Bool:=decide (l.length≤12)&&l.all fun t=>decide (trnErr t=0)
noncomputable def cTt:Ctr:={f:=4,ps:=[.list false tLL2],rs:=[.bool],fresh:=true,pre:=fun d=>true,fn:=fun d=>(okTT d.1,())}
noncomputable def cLo:Ctr:={f:=10,ps:=[.list false tP2, .list false .str],rs:=[.str, .int .i64],fresh:=true,pre:=fun d=>loB d.1 d.2.1,fn:=fun d=>(textQ (losR d.1 (List.map toQ d.2.1)),(0:Int),())}
theorem lostCs_ok:CallOk Tryz.prog (gS lostCs):=ctrs_ok fun c hc=>by
 simp only [List.mem_cons,List.not_mem_nil,or_false]at hc
 rcases hc with rfl |rfl |rfl |rfl |rfl |rfl |rfl |rfl |rfl |rfl
 ·exact cGt_ok
 ·exact cEck_ok
 ·exact cFrom_ok
 ·exact cQSign_ok
 ·exact cGrq_ok
 ·exact cQMul_ok
 ·exact cQAdd_ok
 ·exact cF_ok
 ·exact cLa_ok
 ·exact cTx_ok
noncomputable def losQ (t:List (Int×Int)) (l:List ByteArray):Nat→NQ
 |0=>qOf (iOf 0)
 |k+1=>stepQ t l (losQ t l k) k
theorem tL_at {ks:List Int} {k:Nat} (h:k<ks.length):nthB (tL ks) k=textQ (Rat.divInt (ks.getD k 0) 360)∧(lsR ks).getD k 0=Rat.divInt (ks.getD k 0) 360:=by
 unfold nthB tL lsR
 simp only [List.getD_eq_getElem?_getD,List.getElem?_map,List.getElem?_eq_getElem h]
 exact⟨rfl,rfl⟩
theorem dropT_eq (t:List (Int×Int)) (k:Nat):dropT t k=t.drop (k+1):=by
 unfold dropT
 rw [show Int.toNat ((k:Int)+1)=k+1 by omega,List.take_length]
theorem drop_ok {t:List (Int×Int)} (hg:goodT t) (h4:t.length≤4) (k:Nat):trnErr (dropT t k)=0:=by
 rw [dropT_eq]
 exact trn_of (by rw [List.length_drop];omega) fun p hp=>hg p (List.mem_of_mem_drop hp)
structure LoAt (t:List (Int×Int)) (ks:List Int) (k:Nat):Prop where
 sm:smQ (Rat.divInt (ks.getD k 0) 360)
 tx:nthB (tL ks) k=textQ (Rat.divInt (ks.getD k 0) 360)
 fr:okFrom (nthB (tL ks) k)=true
 q1:QR 1 (qFrom (nthB (tL ks) k)) ((lsR ks).getD k 0)
 nn:¬(lsR ks).getD k 0<0
 q2:QR 5 (ratF2 (dropT t k)) (rR (t.drop (k+1)))
theorem lo_at {t:List (Int×Int)} {ks:List Int} (hg:goodT t) (h4:t.length≤4) (hk:lsOk ks) (hl:t.length=ks.length) {k:Nat} (hlt:k<t.length):LoAt t ks k:=by
 have hb:=hk (ks.getD k 0) (by rw [List.getD_eq_getElem?_getD,List.getElem?_eq_getElem (by omega)];exact List.getElem_mem _)
 obtain⟨t1,t2⟩:=tL_at (ks:=ks) (k:=k) (by omega)
 have s:=smQ_360 hb
 obtain⟨f1,f2⟩:=smQ_from s
 have q2:=(ratF_qr (drop_ok hg h4 k)).1
 rw [dropT_eq t k]at q2
 refine⟨s,t1,by rw [t1];exact f1,by rw [t1,t2];exact f2,by rw [t2];exact nn_360 hb, ?_⟩
 rw [dropT_eq];exact q2
theorem pow3 {k:Nat} (h:k≤4):(3:Nat)^k≤81:=by
 have:k=0∨k=1∨k=2∨k=3∨k=4:=by omega
 rcases this with e|e|e|e|e<;>rw [e]<;>decide
theorem losQ_qr {t:List (Int×Int)} {ks:List Int} (hg:goodT t) (h4:t.length≤4) (hk:lsOk ks) (hl:t.length=ks.length):∀k,k≤t.length→QR (7*3^k) (losQ t (tL ks) k) (losK t (lsR ks) k)
 |0,_=>by
  have:=qOf_qr (n:=1) (a:=iOf 0) (ok_iOf (by decide))
  rw [val_iOf]at this
  exact this.mono (by decide)
 |k+1,hk1=>by
  have ih:=losQ_qr hg h4 hk hl k (by omega)
  have f:=lo_at hg h4 hk hl (k:=k) (by omega)
  have hp:1≤3^k:=Nat.one_le_pow _ _ (by decide)
  have m:=(qMul_qr f.q1 f.q2 (by decide) (by decide)).mono (show 1+5≤7*3^k by omega)
  exact(qAdd_qr ih m (by omega)).mono (by rw [Nat.pow_succ];omega)
theorem lo_holds {t:List (Int×Int)} {ks:List Int} (h0:trnErr t=0) (hk:lsOk ks) (hl:t.length=ks.length):Holds Tryz.prog true 10 [pl t,sl (tL ks)] (.tuple [sv (textQ (losR t (lsR ks))),iv 0]):=by
 have hS:=lostCs_ok
 obtain⟨_,hg,h4⟩:=ratF_qr h0
 have ll:(tL ks).length=t.length:=by unfold tL;rw [List.length_map,hl]
 refine holds_fl (c:=BLo) Tryz.func10 rfl rfl fun w F=> ?_
 refine GoalL.to known mixed hS 8 _ (lo_start t (tL ks) h0 (by omega)) (by kernel_rfl) ?_
 refine GoalL.loop (ι:={k:Nat//k≤t.length}) (id:=0) (b:=cat BLo [1,1,1,1,0,1,0,0]) (rest:=List.drop 9 (fl BLo [])) (by kernel_rfl) (fun k=>SLo t (tL ks) (losQ t (tL ks) k.1) k.1) (fun k=>t.length-k.1) ⟨0,Nat.zero_le _⟩ (fun _=>rfl) ?_
 rintro⟨k,hk1⟩
 have ih:=losQ_qr hg h4 hk hl k hk1
 have hp:=pow3 (show k≤4 by omega)
 by_cases hlt:k<t.length
 ·have f:=lo_at hg h4 hk hl hlt
  have m:=(qMul_qr f.q1 f.q2 (by decide) (by decide)).mono (show 1+5≤20000 by decide)
  have hz:=smQ_size f.sm
  have hs:=qSign_qr f.q1
  rw [if_neg f.nn]at hs
  refine GoalL.all (s:=SLo t (tL ks) (losQ t (tL ks) k) k) known mixed hS _ (lo_go t (tL ks) (losQ t (tL ks) k) k (by omega) (by omega) (by rw [show(tL ks).getD k ByteArray.empty=_ from f.tx];omega) (by rw [show(tL ks).getD k ByteArray.empty=_ from f.tx];exact smQ_ck f.sm) f.fr (okN_mono (by decide) f.q1.o1) (by
    have hs:iSign (qFrom ((tL ks).getD k ByteArray.empty)).1=_:=hs
    show¬iSign (qFrom ((tL ks).getD k ByteArray.empty)).1<0
    rw [hs];split<;>omega) (by omega) (by omega) (decide_eq_true (drop_ok hg h4 k)) (by rw [Bool.and_eq_true];exact⟨(f.q1.mono (by decide)).ok,(f.q2.mono (by decide)).ok⟩) (by rw [Bool.and_eq_true];exact⟨(ih.mono (by omega)).ok,m.ok⟩) rfl rfl rfl rfl) (by kernel_rfl) ?_
  exact⟨⟨k+1,hlt⟩,by simp;omega,rfl,rfl⟩
 ·refine GoalL.all (s:=SLo t (tL ks) (losQ t (tL ks) k) k) known mixed hS _ (lo_end t (tL ks) _ k (by omega)) (by kernel_rfl) ?_
  refine onN_exit (inB_exit ?_)
  obtain rfl:k=t.length:=by omega
  rw [losK_all t (lsR ks) (by unfold lsR;rw [List.length_map,hl])]at ih
  obtain⟨s1,_⟩:=smQ_los hg hk hl h4
  have g:=qr_gv ih s1
  rw [Bool.and_eq_true]at g
  have key:=lo_fin t (tL ks) (losQ t (tL ks) t.length) t.length g.1 g.2
  rw [(qr_tx ih s1).2]at key
  exact GoalL.allRet (s:=SLo t (tL ks) (losQ t (tL ks) t.length) t.length) known mixed hS _ key fun T H h=>h
theorem cLo_ok:cLo.Ok Tryz.prog:=fun⟨t,l,_⟩ h=>by
 obtain⟨h0,ks,hk,rfl,hl⟩:=loB_iff.1 h
 show Holds Tryz.prog true 10 [pl t,sl (tL ks)] (.tuple [sv (textQ (losR t (List.map toQ (tL ks)))),iv 0])
 rw [tL_toQ hk]
 exact lo_holds h0 hk hl
theorem tt_holds (l:List (List (Int×Int))):Holds Tryz.prog true 4 [pll l] (bv (okTT l)):=by
 have hS:CallOk Tryz.prog (gS ttCs):=one_ok cRt_ok
 refine holds_fl (c:=BTt) Tryz.func4 rfl rfl fun w F=> ?_
 by_cases h12:12<l.length
 ·have e:okTT l=false:=by unfold okTT;rw [decide_eq_false (by omega)];rfl
  rw [e]
  exact GoalL.ret known mixed hS 4 _ (tt_big l (by omega)) fun T H h=>h
 ·refine GoalL.to known mixed hS 4 _ (tt_start l (by omega)) (by kernel_rfl) ?_
  refine GoalL.loop (ι:={k:Nat//k≤l.length∧∀j,j<k→trnErr (l.getD j [])=0}) (id:=0) (b:=cat BTt [1,1,0,1,0,0]) (rest:=List.drop 5 (fl BTt [])) (by kernel_rfl) (fun k=>STt l k.1) (fun k=>l.length-k.1) ⟨0,Nat.zero_le _,fun j hj=>absurd hj (Nat.not_lt_zero _)⟩ (fun _=>rfl) ?_
  rintro⟨k,hk,hx⟩
  have hk:k≤l.length:=hk
  have hx:∀j,j<k→trnErr (l.getD j [])=0:=hx
  by_cases hlt:k<l.length
  ·by_cases hc:trnErr (l.getD k [])=0
   ·refine GoalL.all (s:=STt l k) known mixed hS _ (tt_go l k (by omega) hlt hc (by omega)) (by kernel_rfl) ?_
    refine⟨⟨k+1,hlt,fun j hj=> ?_⟩,by show l.length-(k+1)<l.length-k;omega,rfl,rfl⟩
    by_cases hjk:j=k
    ·rw [hjk];exact hc
    ·exact hx j (by omega)
   ·have e:okTT l=false:=by
     unfold okTT
     rw [Bool.and_eq_false_iff]
     right
     rw [List.all_eq_false]
     refine⟨l[k],List.getElem_mem _, ?_⟩
     rw [List.getD_eq_getElem?_getD,List.getElem?_eq_getElem hlt]at hc
     rw [decide_eq_true_eq];exact hc
    rw [e]
    exact GoalL.allRet (s:=STt l k) known mixed hS _ (tt_bad l k (by omega) hlt hc) fun T H h=>h
  ·refine GoalL.all (s:=STt l k) known mixed hS _ (tt_end l k (by omega)) (by kernel_rfl) ?_
   refine onN_exit (inB_exit ?_)
   obtain rfl:k=l.length:=by omega
   have e:okTT l=true:=by
    unfold okTT
    rw [decide_eq_true (by omega),Bool.true_and,List.all_eq_true]
    intro x hxm
    obtain⟨j,hj,rfl⟩:=List.getElem_of_mem hxm
    have:=hx j hj
    rw [List.getD_eq_getElem?_getD,List.getElem?_eq_getElem hj]at this
    exact decide_eq_true this
   rw [e]
   exact GoalL.allRet (s:=STt l l.length) known mixed hS _ (tt_fin l _) fun T H h=>h
theorem cTt_ok:cTt.Ok Tryz.prog:=fun⟨l,_⟩ _=>tt_holds l
end
end Go.Proofs.YtccmlbinkgbpgaaGreatDoor
