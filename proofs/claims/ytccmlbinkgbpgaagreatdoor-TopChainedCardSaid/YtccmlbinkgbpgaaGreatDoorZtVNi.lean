/- Package num: lists of words: trim, the sum. -/
import Derived.Test.YtccmlbinkgbpgaaGreatDoorZtDig
import Derived.Test.YtccmlbinkgbpgaaGreatDoorZtVBas
namespace Go.Proofs.YtccmlbinkgbpgaaGreatDoor
open Go.RowKit Sv
set_option maxRecDepth 100000
set_option linter.unusedVariables false
noncomputable section
abbrev tU:Ty:= .int .u64
abbrev uv (x:Int):AV:= .raw (.int .u64 x)
abbrev lu (l:List Int):AV:= .lst false tU l
abbrev obU (j:Nat) (l:List Int):AV:= .osl 179 tU j 0 l.length (capOf l.length)
abbrev oeU (l:List Int):Ent:= .opt 179 tU l
def dgB (l:List Int):Bool:=l.all fun x=>decide (0≤x)&&decide (x<18446744073709551616)
def tmB (l:List Int):Bool:=Nat.beq (trimL l l.length).length l.length
def vw (l:List Int):Int:=vl 18446744073709551616 l
noncomputable def BTrim:Code:=(Tryz.f159.body).getD .skip
def trW (l:List Int):List Int:=trimL l l.length
def STrim (w:List Int) (n:Nat):St:={n:=21,sl:=[(0,lu w),(3,iv n)],en:=[],next:=64}
def STrim1 (w:List Int) (n:Nat):St:={n:=21,sl:=[(0,lu w),(3,iv ((n:Int)-1))],en:=[],next:=64}
theorem tw_start (w:List Int):
  Tst.path (vrun0 Tryz.prog (ctrs []) (fl BTrim []) 2 21 [lu w]) [] (toSt Tryz.prog 21 .normal [] (STrim w w.length)):=
 mp (an (rr w) (an (rr ((↑w.length:Int))) trivial))
theorem tw_go (w:List Int) (n:Nat) (h1:(↑n:Int)>0) (h2: -9223372036854775808≤(↑n:Int)-1∧(↑n:Int)-1≤9223372036854775807) (h3:(0:Int)≤(↑n:Int)-1) (h4:Int.toNat ((↑n:Int)-1)<w.length) (h5:List.getD w (Int.toNat ((↑n:Int)-1)) (0:Int)=0):
  Tst.path (vall Tryz.prog (ctrs []) (fl BTrim [1,1,0,0,0]) (STrim w n)) [true,true,true,true,true,true,true,true] (toSt Tryz.prog 21 .normal [] (STrim1 w n)):=
 mp (an (bT (decide_eq_true h1)) (an (bT (decide_eq_true h1)) (an (bT (decide_eq_true h1)) (an (fits_i64 h2) (an (bT (decide_eq_true h1)) (an (decide_eq_true h3) (an (decide_eq_true h4) (an (bT (decide_eq_true h1)) (an (bT (decide_eq_true h1)) (an (decide_eq_true h1) (an (beq_iff_eq.mpr h5) (an (fits_i64 h2) (an (rr w) (an (rr ((↑n:Int)-1)) trivial))))))))))))))
theorem tw_hit (w:List Int) (n:Nat) (h1:(↑n:Int)>0) (h2: -9223372036854775808≤(↑n:Int)-1∧(↑n:Int)-1≤9223372036854775807) (h3:(0:Int)≤(↑n:Int)-1) (h4:Int.toNat ((↑n:Int)-1)<w.length) (h5:¬List.getD w (Int.toNat ((↑n:Int)-1)) (0:Int)=0):
  Tst.path (vall Tryz.prog (ctrs []) (fl BTrim [1,1,0,0,0]) (STrim w n)) [true,true,true,true,true,true,true,false] (toSt Tryz.prog 21 (.exit 0) [] (STrim w n)):=
 mp (an (bT (decide_eq_true h1)) (an (bT (decide_eq_true h1)) (an (bT (decide_eq_true h1)) (an (fits_i64 h2) (an (bT (decide_eq_true h1)) (an (decide_eq_true h3) (an (decide_eq_true h4) (an (bT (decide_eq_true h1)) (an (bT (decide_eq_true h1)) (an (decide_eq_true h1) (an (beq_eq_false_iff_ne.mpr h5) (an (rr w) (an (rr ((↑n:Int))) trivial)))))))))))))
theorem tw_end (w:List Int) (n:Nat) (h1:¬(↑n:Int)>0):
  Tst.path (vall Tryz.prog (ctrs []) (fl BTrim [1,1,0,0,0]) (STrim w n)) [false,false,false,false,false,false,false,false] (toSt Tryz.prog 21 (.exit 0) [] (STrim w n)):=
 mp (an (bT (decide_eq_false h1)) (an (bT (decide_eq_false h1)) (an (bT (decide_eq_false h1)) (an (bT (decide_eq_false h1)) (an (bT (decide_eq_false h1)) (an (bT (decide_eq_false h1)) (an (decide_eq_false h1) (an rf (an (rr w) (an (rr ((↑n:Int))) trivial))))))))))
theorem tw_ret (w:List Int) (n:Nat) (h1:n≤w.length) (h2:(List.drop (0:Nat) (List.take n w))=(List.take n w)):
  Tst.path (vall Tryz.prog (ctrs []) (List.drop 3 (fl BTrim [])) (STrim w n)) [] (toRet Tryz.prog Tryz.f159 false (lu (w.take n))):=
 mp (an (show(decide ((0:Int)≤(↑n:Int)))=true from decide_eq_true (by omega)) (an (show(decide ((0:Nat)≤n))=true from decide_eq_true (by omega)) (an (decide_eq_true h1) h2)))
noncomputable def cTrim:Ctr:={f:=159,ps:=[.list false tU],rs:=[.list false tU],fresh:=false,pre:=fun d=>decide (List.length (α:=Int) d.1≤1000000),fn:=fun d=>(trW d.1,())}
theorem trim_holds (w:List Int) (hl:w.length≤1000000):Holds Tryz.prog false 159 [lu w] (lu (trW w)):=by
 refine holds_fl (c:=BTrim) Tryz.func159 rfl rfl fun w0 F=> ?_
 refine GoalL.to known mixed none_ok 2 _ (tw_start w) (by kernel_rfl) ?_
 refine GoalL.loop (ι:={n:Nat//n≤w.length∧trimL w n=trW w}) (id:=0) (b:=cat BTrim [1,1,0,0,0]) (rest:=List.drop 3 (fl BTrim [])) (by kernel_rfl) (fun n=>STrim w n.1) (fun n=>n.1) ⟨w.length,Nat.le_refl _,rfl⟩ (fun _=>rfl) ?_
 rintro⟨n,hn,hv⟩
 cases n with
 |zero=>
  refine GoalL.all (s:=STrim w 0) known mixed none_ok _ (tw_end w 0 (by omega)) (by kernel_rfl) ?_
  refine onN_exit (inB_exit ?_)
  have e:trW w=w.take 0:=by rw [←hv];rfl
  rw [e]
  exact GoalL.allRet (s:=STrim w 0) known mixed none_ok _ (tw_ret w 0 (by omega) rfl) fun T H h=>h
 |succ k=>
  have e0:(((k+1:Nat):Int)-1).toNat=k:=by omega
  have e1:STrim1 w (k+1)=STrim w k:=by
   unfold STrim1 STrim
   rw [show(((k+1:Nat):Int)-1)=(k:Int) by omega]
  by_cases hz:w.getD k 0=0
  ·refine GoalL.all (s:=STrim w (k+1)) (s':=STrim1 w (k+1)) known mixed none_ok _ (tw_go w (k+1) (by omega) (by omega) (by omega) (by omega) (by rw [e0];exact hz)) (by kernel_rfl) ?_
   have hv2:trimL w k=trW w:=by rw [←hv,trimL,if_pos hz]
   rw [e1]
   exact⟨⟨k,by omega,hv2⟩,by simp,rfl,rfl⟩
  ·refine GoalL.all (s:=STrim w (k+1)) known mixed none_ok _ (tw_hit w (k+1) (by omega) (by omega) (by omega) (by omega) (by rw [e0];exact hz)) (by kernel_rfl) ?_
   refine onN_exit (inB_exit ?_)
   have e:trW w=w.take (k+1):=by rw [←hv,trimL,if_neg hz]
   rw [e]
   exact GoalL.allRet (s:=STrim w (k+1)) known mixed none_ok _ (tw_ret w (k+1) (by omega) rfl) fun T H h=>h
theorem cTrim_ok:cTrim.Ok Tryz.prog:=fun⟨w,_⟩ h=>trim_holds w (of_decide_eq_true h)
end
end Go.Proofs.YtccmlbinkgbpgaaGreatDoor
/- Numbers as lists of digits: the list of a number; sums and differences digit by digit. -/
namespace Go.Proofs.YtccmlbinkgbpgaaGreatDoor
theorem Tm.cons {x:Int} {l:List Int} (h:Tm l) (hx:l=[]→x≠0):Tm (x::l):=fun k hk=>by
 cases l with
 |nil=>
  simp at hk
  subst hk
  exact hx rfl
 |cons y r=>
  cases k with
  |zero=>simp at hk
  |succ k=>
   have:=h k (by simpa using hk)
   simpa using this
theorem dg_ex {b:Int} (hb:1<b):∀n:Nat,∃l,Dg b l∧Tm l∧vl b l=(n:Int):=fun n=>by
 induction n using Nat.strongRecOn with
 |_ n ih=>
  by_cases h0:n=0
  ·subst h0;exact⟨[],Dg.nil,Tm.nil,rfl⟩
  ·have hlt:((n:Int)/b).toNat<n:=by
    have h1:(n:Int)/b<n:=Int.ediv_lt_of_lt_mul (by omega) (by
     have:(n:Int)*1<n*b:=Int.mul_lt_mul_of_pos_left hb (by omega)
     omega)
    have h2:0≤(n:Int)/b:=Int.ediv_nonneg (by omega) (by omega)
    omega
   obtain⟨l,h1,h2,h3⟩:=ih _ hlt
   have h4:0≤(n:Int)/b:=Int.ediv_nonneg (by omega) (by omega)
   rw [Int.toNat_of_nonneg h4]at h3
   have h5:=Int.emod_nonneg (n:Int) (show b≠0 by omega)
   have h6:=Int.emod_lt_of_pos (n:Int) (show 0<b by omega)
   have h7:=Int.emod_add_mul_ediv (n:Int) b
   refine⟨(n:Int)%b::l,Dg.cons ⟨h5,h6⟩ h1,Tm.cons h2 fun e hz=> ?_, ?_⟩
   ·subst e
    have h3:(0:Int)=(n:Int)/b:=h3
    rw [hz,←h3]at h7
    simp at h7
    omega
   ·show(n:Int)%b+b*vl b l=n
    rw [h3];exact h7
noncomputable def dgN (b z:Int):List Int:=if h:1<b∧0≤z then Classical.choose (dg_ex h.1 z.toNat)else []
theorem dgN_spec {b z:Int} (hb:1<b) (hz:0≤z):Dg b (dgN b z)∧Tm (dgN b z)∧vl b (dgN b z)=z:=by
 unfold dgN
 rw [dif_pos ⟨hb,hz⟩]
 obtain⟨h1,h2,h3⟩:=Classical.choose_spec (dg_ex hb z.toNat)
 exact⟨h1,h2,by rw [h3];omega⟩
theorem dgN_uniq {b z:Int} {l:List Int} (hb:1<b) (h1:Dg b l) (h2:Tm l) (h3:vl b l=z):l=dgN b z:=by
 have hz:0≤z:=by rw [←h3];exact vl_nn (by omega) h1
 obtain⟨g1,g2,g3⟩:=dgN_spec hb hz
 exact vl_unique hb h1 g1 h2 g2 (by rw [h3,g3])
theorem set_take {l:List Int} {i:Nat} {d:Int}:(l.set i d).take i=l.take i:=by
 refine List.ext_getElem? fun j=> ?_
 rw [List.getElem?_take,List.getElem?_take]
 split
 ·rw [List.getElem?_set_ne (by omega)]
 ·rfl
theorem set_at {l:List Int} {i:Nat} {d:Int} (h:i<l.length):(l.set i d).getD i 0=d:=by
 rw [List.getD_eq_getElem?_getD,List.getElem?_set_self h];rfl
theorem vl_set_next {b:Int} {l:List Int} {i:Nat} {d:Int} (h:i<l.length):vl b ((l.set i d).take (i+1))=vl b (l.take i)+b^i*d:=by
 rw [vl_take',set_take,set_at h]
theorem vl_long {b:Int} (hb:0<b) {l:List Int} (h:Dg b l) (k:Nat):vl b (l.take k)≤vl b l:=by
 by_cases hk:k≤l.length
 ·rw [vl_split b l k hk]
  have:=mul_nn (Int.le_of_lt (pow_pos' hb k)) (vl_nn hb (h.drop k))
  omega
 ·rw [List.take_of_length_le (by omega)];exact Int.le_refl _
theorem vl_low {b:Int} (hb:0<b) {l:List Int} (h:Dg b l) {k:Nat} (hlt:vl b l<b^k):vl b (l.take k)=vl b l:=by
 by_cases hk:k≤l.length
 ·have hs:=vl_split b l k hk
  have h1:=vl_nn hb (h.drop k)
  have h2:=vl_nn hb (h.take k)
  have hz:vl b (l.drop k)=0:=by
   by_cases hz:vl b (l.drop k)=0
   ·exact hz
   ·have h3:b^k*1≤b^k*vl b (l.drop k):=Int.mul_le_mul_of_nonneg_left (by omega) (Int.le_of_lt (pow_pos' hb k))
    omega
  rw [hz]at hs
  omega
 ·rw [List.take_of_length_le (by omega)]
theorem add_next {P b s c' a e c X Y O:Int} (h:s+b*c'=a+e+c) (hi:O+P*c=X+Y):O+P*s+P*b*c'=X+P*a+(Y+P*e):=by
 have h1:P*(s+b*c')=P*(a+e+c):=by rw [h]
 rw [Int.mul_add,Int.mul_add,Int.mul_add,←Int.mul_assoc]at h1
 omega
theorem sub_next {P b s c' a e c X Y O:Int} (h:s-b*c'=a-e-c) (hi:O-P*c=X-Y):O+P*s-P*b*c'=X+P*a-(Y+P*e):=by
 have h1:P*(s-b*c')=P*(a-e-c):=by rw [h]
 rw [Int.mul_sub,Int.mul_sub,Int.mul_sub,←Int.mul_assoc]at h1
 omega
end Go.Proofs.YtccmlbinkgbpgaaGreatDoor
/- Package num: the sum and the difference of lists of words. -/
namespace Go.Proofs.YtccmlbinkgbpgaaGreatDoor
open Go.RowKit Sv
set_option maxRecDepth 100000
set_option linter.unusedVariables false
noncomputable section
noncomputable def nwCs:VCaller:=ctrs [cTrim]
def sumD (a b c:Int):Int:=(((a.toNat+b.toNat+c.toNat)%2^64:Nat):Int)
def carD (a b c:Int):Int:=(((a.toNat+b.toNat+c.toNat)/2^64:Nat):Int)
def difD (a b c:Int):Int:=(((a.toNat+2^64-b.toNat-c.toNat)%2^64:Nat):Int)
def borD (a b c:Int):Int:=((if a.toNat<b.toNat+c.toNat then 1 else 0:Nat):Int)
def zerW (n:Nat):List Int:=List.replicate n 0
noncomputable def BAdd:Code:=(Tryz.f133.body).getD .skip
noncomputable def BSub:Code:=(Tryz.f135.body).getD .skip
abbrev adL:List Nat:=[1,1,1,1,0,1,0,0]
def SAd (x y out:List Int) (c:Int) (i:Nat):St:={n:=54,sl:=[(0,lu x),(1,lu y),(5,obU 64 out),(6,uv c),(21,iv x.length),(22,iv i)],en:=[(64,oeU out)],next:=65}
def SAe (out:List Int):St:={n:=54,sl:=[(5,obU 64 out)],en:=[(64,oeU out)],next:=65}
def SAg (out:List Int):St:={n:=54,sl:=[(5,lu out)],en:=[],next:=64}
theorem ad_start (x y:List Int) (h1:¬(↑x.length:Int)<(↑y.length:Int)) (h2: -9223372036854775808≤(↑x.length:Int)+1∧(↑x.length:Int)+1≤9223372036854775807) (h3:Int.toNat ((↑x.length:Int)+1)≤1000000) (h4:(Int.toNat ((↑x.length:Int)+1))=(zerW (x.length+(1:Nat))).length) (h5:(Cap.known (Int.toNat ((↑x.length:Int)+1)))=(Cap.known (x.length+(1:Nat)))) (h6:(capOf (zerW (x.length+(1:Nat))).length)=(capOf (x.length+(1:Nat)))) (h7:(List.flatten (List.replicate (Int.toNat ((↑x.length:Int)+1)) (List.map AV.raw (Array.toList #[Value.int .u64 (0:Int)]))))=(List.flatMap (fun x=>[AV.raw (Value.int .u64 x)]) (zerW (x.length+(1:Nat))))) (h8:(x.length+(1:Nat))=(zerW (x.length+(1:Nat))).length):
  Tst.path (vrun0 Tryz.prog nwCs (fl BAdd []) 6 54 [lu x,lu y]) [false] (toSt Tryz.prog 54 .normal [(64,64,some (x.length+1))] (SAd x y (zerW (x.length+1)) 0 0)):=
 mp (an (decide_eq_false h1) (an (fits_i64 h2) (an (show(decide ((0:Int)≤(↑x.length:Int)+1))=true from decide_eq_true (by omega)) (an (show(decide ((0:Int)≤(↑x.length:Int)+1))=true from decide_eq_true (by omega)) (an (show(decide (Int.toNat ((↑x.length:Int)+1)≤Int.toNat ((↑x.length:Int)+1)))=true from decide_eq_true (by omega)) (an (show(bounded (Int.toNat ((↑x.length:Int)+1)) (8:Nat))=true from bounded_of h3 (by omega)) (an (rr x) (an (rr y) (an (an h4 (an h5 h6)) (an (rr ((0:Int))) (an (rr ((↑x.length:Int))) (an (rr ((0:Int))) (an (an h7 h8) trivial)))))))))))))
theorem ad_swap (x y:List Int) (h1:(↑x.length:Int)<(↑y.length:Int)) (h2: -9223372036854775808≤(↑y.length:Int)+1∧(↑y.length:Int)+1≤9223372036854775807) (h3:Int.toNat ((↑y.length:Int)+1)≤1000000) (h4:(Int.toNat ((↑y.length:Int)+1))=(zerW (y.length+(1:Nat))).length) (h5:(Cap.known (Int.toNat ((↑y.length:Int)+1)))=(Cap.known (y.length+(1:Nat)))) (h6:(capOf (zerW (y.length+(1:Nat))).length)=(capOf (y.length+(1:Nat)))) (h7:(List.flatten (List.replicate (Int.toNat ((↑y.length:Int)+1)) (List.map AV.raw (Array.toList #[Value.int .u64 (0:Int)]))))=(List.flatMap (fun x=>[AV.raw (Value.int .u64 x)]) (zerW (y.length+(1:Nat))))) (h8:(y.length+(1:Nat))=(zerW (y.length+(1:Nat))).length):
  Tst.path (vrun0 Tryz.prog nwCs (fl BAdd []) 6 54 [lu x,lu y]) [true] (toSt Tryz.prog 54 .normal [(64,64,some (y.length+1))] (SAd y x (zerW (y.length+1)) 0 0)):=
 mp (an (decide_eq_true h1) (an (fits_i64 h2) (an (show(decide ((0:Int)≤(↑y.length:Int)+1))=true from decide_eq_true (by omega)) (an (show(decide ((0:Int)≤(↑y.length:Int)+1))=true from decide_eq_true (by omega)) (an (show(decide (Int.toNat ((↑y.length:Int)+1)≤Int.toNat ((↑y.length:Int)+1)))=true from decide_eq_true (by omega)) (an (show(bounded (Int.toNat ((↑y.length:Int)+1)) (8:Nat))=true from bounded_of h3 (by omega)) (an (rr y) (an (rr x) (an (an h4 (an h5 h6)) (an (rr ((0:Int))) (an (rr ((↑y.length:Int))) (an (rr ((0:Int))) (an (an h7 h8) trivial)))))))))))))
theorem ad_in0 (x y out:List Int) (i:Nat) (h1:(↑i:Int)<(↑x.length:Int)) (h2:(↑i:Int)<(↑y.length:Int)) (h3:i<y.length) (h4:i<x.length) (h5:i<out.length) (h6: -9223372036854775808≤(↑i:Int)+1∧(↑i:Int)+1≤9223372036854775807) (h7:out.length=(List.set out i (sumD (List.getD x i (0:Int)) (List.getD y i (0:Int)) (0:Int))).length) (h8:(capOf out.length)=(capOf (List.set out i (sumD (List.getD x i (0:Int)) (List.getD y i (0:Int)) (0:Int))).length)) (h9:((↑((Int.toNat (List.getD x i (0:Int))+Int.toNat (List.getD y i (0:Int))+Int.toNat (0:Int))/(2:Nat)^(64:Nat)):Int))=(carD (List.getD x i (0:Int)) (List.getD y i (0:Int)) (0:Int))) (h10:(List.set out i (↑((Int.toNat (List.getD x i (0:Int))+Int.toNat (List.getD y i (0:Int))+Int.toNat (0:Int))%(2:Nat)^(64:Nat)):Int))=(List.set out i (sumD (List.getD x i (0:Int)) (List.getD y i (0:Int)) (0:Int)))):
  Tst.path (vall Tryz.prog nwCs (fl BAdd adL) (SAd x y out 0 i)) [true,true] (toSt Tryz.prog 54 .normal [(64,64,none)] (SAd x y (out.set i (sumD (x.getD i 0) (y.getD i 0) 0)) (carD (x.getD i 0) (y.getD i 0) 0) (i+1))):=
 mp (an (decide_eq_true h1) (an (decide_eq_true h2) (an (show(decide ((0:Int)≤(↑i:Int)))=true from decide_eq_true (by omega)) (an (decide_eq_true h3) (an (show(decide ((0:Int)≤(↑i:Int)))=true from decide_eq_true (by omega)) (an (decide_eq_true h4) (an (show(decide ((0:Int)≤(↑i:Int)))=true from decide_eq_true (by omega)) (an (decide_eq_true h5) (an (show(ownHas 179 tU (optOwn (nat_lit 179) tU out) ((0:Nat)+i))=true from(by simp only [Nat.zero_add]<;>exact(show(ownHas 179 tU (optOwn (nat_lit 179) tU out) i)=true from(by rw [ownHas_optOwn];exact decide_eq_true h5)))) (an (fits_i64 h6) (an (rr x) (an (rr y) (an (an (rr ((0:Nat))) (an h7 h8)) (an h9 (an (rr ((↑x.length:Int))) (an (show((↑i:Int)+1)=((↑(i+(1:Nat)):Int))from(by omega)) (an (show(List.set (blkXs tU (optOwn (nat_lit 179) tU out)) ((0:Nat)+i) (↑((Int.toNat (List.getD x i (0:Int))+Int.toNat (List.getD y i (0:Int))+Int.toNat (0:Int))%(2:Nat)^(64:Nat)):Int))=(List.set out i (sumD (List.getD x i (0:Int)) (List.getD y i (0:Int)) (0:Int)))from(by simp only [blkXs_optOwn,Nat.zero_add]<;>exact h10)) trivial)))))))))))))))))
theorem ad_out0 (x y out:List Int) (i:Nat) (h1:(↑i:Int)<(↑x.length:Int)) (h2:¬(↑i:Int)<(↑y.length:Int)) (h3:i<x.length) (h4:i<out.length) (h5: -9223372036854775808≤(↑i:Int)+1∧(↑i:Int)+1≤9223372036854775807) (h6:out.length=(List.set out i (sumD (List.getD x i (0:Int)) (0:Int) (0:Int))).length) (h7:(capOf out.length)=(capOf (List.set out i (sumD (List.getD x i (0:Int)) (0:Int) (0:Int))).length)) (h8:((↑((Int.toNat (List.getD x i (0:Int))+Int.toNat (0:Int)+Int.toNat (0:Int))/(2:Nat)^(64:Nat)):Int))=(carD (List.getD x i (0:Int)) (0:Int) (0:Int))) (h9:(List.set out i (↑((Int.toNat (List.getD x i (0:Int))+Int.toNat (0:Int)+Int.toNat (0:Int))%(2:Nat)^(64:Nat)):Int))=(List.set out i (sumD (List.getD x i (0:Int)) (0:Int) (0:Int)))):
  Tst.path (vall Tryz.prog nwCs (fl BAdd adL) (SAd x y out 0 i)) [true,false] (toSt Tryz.prog 54 .normal [(64,64,none)] (SAd x y (out.set i (sumD (x.getD i 0) 0 0)) (carD (x.getD i 0) 0 0) (i+1))):=
 mp (an (decide_eq_true h1) (an (decide_eq_false h2) (an (show(decide ((0:Int)≤(↑i:Int)))=true from decide_eq_true (by omega)) (an (decide_eq_true h3) (an (show(decide ((0:Int)≤(↑i:Int)))=true from decide_eq_true (by omega)) (an (decide_eq_true h4) (an (show(ownHas 179 tU (optOwn (nat_lit 179) tU out) ((0:Nat)+i))=true from(by simp only [Nat.zero_add]<;>exact(show(ownHas 179 tU (optOwn (nat_lit 179) tU out) i)=true from(by rw [ownHas_optOwn];exact decide_eq_true h4)))) (an (fits_i64 h5) (an (rr x) (an (rr y) (an (an (rr ((0:Nat))) (an h6 h7)) (an h8 (an (rr ((↑x.length:Int))) (an (show((↑i:Int)+1)=((↑(i+(1:Nat)):Int))from(by omega)) (an (show(List.set (blkXs tU (optOwn (nat_lit 179) tU out)) ((0:Nat)+i) (↑((Int.toNat (List.getD x i (0:Int))+Int.toNat (0:Int)+Int.toNat (0:Int))%(2:Nat)^(64:Nat)):Int))=(List.set out i (sumD (List.getD x i (0:Int)) (0:Int) (0:Int)))from(by simp only [blkXs_optOwn,Nat.zero_add]<;>exact h9)) trivial)))))))))))))))
theorem ad_in1 (x y out:List Int) (i:Nat) (h1:(↑i:Int)<(↑x.length:Int)) (h2:(↑i:Int)<(↑y.length:Int)) (h3:i<y.length) (h4:i<x.length) (h5:i<out.length) (h6: -9223372036854775808≤(↑i:Int)+1∧(↑i:Int)+1≤9223372036854775807) (h7:out.length=(List.set out i (sumD (List.getD x i (0:Int)) (List.getD y i (0:Int)) (1:Int))).length) (h8:(capOf out.length)=(capOf (List.set out i (sumD (List.getD x i (0:Int)) (List.getD y i (0:Int)) (1:Int))).length)) (h9:((↑((Int.toNat (List.getD x i (0:Int))+Int.toNat (List.getD y i (0:Int))+Int.toNat (1:Int))/(2:Nat)^(64:Nat)):Int))=(carD (List.getD x i (0:Int)) (List.getD y i (0:Int)) (1:Int))) (h10:(List.set out i (↑((Int.toNat (List.getD x i (0:Int))+Int.toNat (List.getD y i (0:Int))+Int.toNat (1:Int))%(2:Nat)^(64:Nat)):Int))=(List.set out i (sumD (List.getD x i (0:Int)) (List.getD y i (0:Int)) (1:Int)))):
  Tst.path (vall Tryz.prog nwCs (fl BAdd adL) (SAd x y out 1 i)) [true,true] (toSt Tryz.prog 54 .normal [(64,64,none)] (SAd x y (out.set i (sumD (x.getD i 0) (y.getD i 0) 1)) (carD (x.getD i 0) (y.getD i 0) 1) (i+1))):=
 mp (an (decide_eq_true h1) (an (decide_eq_true h2) (an (show(decide ((0:Int)≤(↑i:Int)))=true from decide_eq_true (by omega)) (an (decide_eq_true h3) (an (show(decide ((0:Int)≤(↑i:Int)))=true from decide_eq_true (by omega)) (an (decide_eq_true h4) (an (show(decide ((0:Int)≤(↑i:Int)))=true from decide_eq_true (by omega)) (an (decide_eq_true h5) (an (show(ownHas 179 tU (optOwn (nat_lit 179) tU out) ((0:Nat)+i))=true from(by simp only [Nat.zero_add]<;>exact(show(ownHas 179 tU (optOwn (nat_lit 179) tU out) i)=true from(by rw [ownHas_optOwn];exact decide_eq_true h5)))) (an (fits_i64 h6) (an (rr x) (an (rr y) (an (an (rr ((0:Nat))) (an h7 h8)) (an h9 (an (rr ((↑x.length:Int))) (an (show((↑i:Int)+1)=((↑(i+(1:Nat)):Int))from(by omega)) (an (show(List.set (blkXs tU (optOwn (nat_lit 179) tU out)) ((0:Nat)+i) (↑((Int.toNat (List.getD x i (0:Int))+Int.toNat (List.getD y i (0:Int))+Int.toNat (1:Int))%(2:Nat)^(64:Nat)):Int))=(List.set out i (sumD (List.getD x i (0:Int)) (List.getD y i (0:Int)) (1:Int)))from(by simp only [blkXs_optOwn,Nat.zero_add]<;>exact h10)) trivial)))))))))))))))))
theorem ad_out1 (x y out:List Int) (i:Nat) (h1:(↑i:Int)<(↑x.length:Int)) (h2:¬(↑i:Int)<(↑y.length:Int)) (h3:i<x.length) (h4:i<out.length) (h5: -9223372036854775808≤(↑i:Int)+1∧(↑i:Int)+1≤9223372036854775807) (h6:out.length=(List.set out i (sumD (List.getD x i (0:Int)) (0:Int) (1:Int))).length) (h7:(capOf out.length)=(capOf (List.set out i (sumD (List.getD x i (0:Int)) (0:Int) (1:Int))).length)) (h8:((↑((Int.toNat (List.getD x i (0:Int))+Int.toNat (0:Int)+Int.toNat (1:Int))/(2:Nat)^(64:Nat)):Int))=(carD (List.getD x i (0:Int)) (0:Int) (1:Int))) (h9:(List.set out i (↑((Int.toNat (List.getD x i (0:Int))+Int.toNat (0:Int)+Int.toNat (1:Int))%(2:Nat)^(64:Nat)):Int))=(List.set out i (sumD (List.getD x i (0:Int)) (0:Int) (1:Int)))):
  Tst.path (vall Tryz.prog nwCs (fl BAdd adL) (SAd x y out 1 i)) [true,false] (toSt Tryz.prog 54 .normal [(64,64,none)] (SAd x y (out.set i (sumD (x.getD i 0) 0 1)) (carD (x.getD i 0) 0 1) (i+1))):=
 mp (an (decide_eq_true h1) (an (decide_eq_false h2) (an (show(decide ((0:Int)≤(↑i:Int)))=true from decide_eq_true (by omega)) (an (decide_eq_true h3) (an (show(decide ((0:Int)≤(↑i:Int)))=true from decide_eq_true (by omega)) (an (decide_eq_true h4) (an (show(ownHas 179 tU (optOwn (nat_lit 179) tU out) ((0:Nat)+i))=true from(by simp only [Nat.zero_add]<;>exact(show(ownHas 179 tU (optOwn (nat_lit 179) tU out) i)=true from(by rw [ownHas_optOwn];exact decide_eq_true h4)))) (an (fits_i64 h5) (an (rr x) (an (rr y) (an (an (rr ((0:Nat))) (an h6 h7)) (an h8 (an (rr ((↑x.length:Int))) (an (show((↑i:Int)+1)=((↑(i+(1:Nat)):Int))from(by omega)) (an (show(List.set (blkXs tU (optOwn (nat_lit 179) tU out)) ((0:Nat)+i) (↑((Int.toNat (List.getD x i (0:Int))+Int.toNat (0:Int)+Int.toNat (1:Int))%(2:Nat)^(64:Nat)):Int))=(List.set out i (sumD (List.getD x i (0:Int)) (0:Int) (1:Int)))from(by simp only [blkXs_optOwn,Nat.zero_add]<;>exact h9)) trivial)))))))))))))))
theorem ad_end (x y out:List Int) (c:Int) (i:Nat) (h1:¬(↑i:Int)<(↑x.length:Int)):
  Tst.path (vall Tryz.prog nwCs (fl BAdd adL) (SAd x y out c i)) [false] (toSt Tryz.prog 54 (.exit 0) [(64,64,none)] (SAd x y out c i)):=
 mp (an (decide_eq_false h1) (an (rr x) (an (rr y) (an (an (rr ((0:Nat))) (an (rr out.length) (rr (capOf out.length)))) (an (rr c) (an (rr ((↑x.length:Int))) (an (rr ((↑i:Int))) (an (show(fitOpt Tryz.prog none (optOwn (nat_lit 179) tU out) (nat_lit 179) tU out)from(fitOpt_refl _ _ _ _)) trivial))))))))
theorem ad_fin (x y out:List Int) (c:Int) (i:Nat) (h1:x.length<out.length) (h2:out.length=(List.set out x.length c).length) (h3:(capOf out.length)=(capOf (List.set out x.length c).length)):
  Tst.path (vrun Tryz.prog nwCs (List.drop 7 (fl BAdd [])) 1 (SAd x y out c i)) [] (toSt Tryz.prog 54 .normal [(64,64,none)] (SAe (out.set x.length c))):=
 mp (an (show(decide ((0:Int)≤(↑x.length:Int)))=true from decide_eq_true (by omega)) (an (decide_eq_true h1) (an (show(ownHas 179 tU (optOwn (nat_lit 179) tU out) ((0:Nat)+x.length))=true from(by simp only [Nat.zero_add]<;>exact(show(ownHas 179 tU (optOwn (nat_lit 179) tU out) x.length)=true from(by rw [ownHas_optOwn];exact decide_eq_true h1)))) (an (an (rr ((0:Nat))) (an h2 h3)) (an (show(List.set (blkXs tU (optOwn (nat_lit 179) tU out)) ((0:Nat)+x.length) c)=(List.set out x.length c)from(by simp only [blkXs_optOwn,Nat.zero_add]<;>rfl)) trivial)))))
theorem ad_fit (out:List Int):
  Tst.path ((Tst.ret (R.normal ((SAe out).T.set 5 (some (lu out))) ((SAe out).H.drop 64) []):Tst R)) [] (toSt Tryz.prog 54 .normal [] (SAg out)):=
 mp (an (rr out) trivial)
theorem ad_ret (out:List Int) (h1:out.length≤(1000000:Nat)):
  Tst.path (vall Tryz.prog nwCs (List.drop 8 (fl BAdd [])) (SAg out)) [] (toRet Tryz.prog Tryz.f133 false (lu (trW out))):=
 mp (an (decide_eq_true h1) (rr (trW out)))
abbrev sbL:List Nat:=[1,1,1,0,1,0,0]
def SSb (x y out:List Int) (c:Int) (i:Nat):St:={n:=41,sl:=[(0,lu x),(1,lu y),(5,obU 64 out),(6,uv c),(13,iv x.length),(14,iv i)],en:=[(64,oeU out)],next:=65}
def SSg (out:List Int):St:={n:=41,sl:=[(5,lu out)],en:=[],next:=64}
theorem sb_start (x y:List Int) (h1:x.length≤1000000) (h2:x.length=(zerW x.length).length) (h3:(capOf (zerW x.length).length)=(capOf x.length)) (h4:(List.flatten (List.replicate x.length (List.map AV.raw (Array.toList #[Value.int .u64 (0:Int)]))))=(List.flatMap (fun x=>[AV.raw (Value.int .u64 x)]) (zerW x.length))):
  Tst.path (vrun0 Tryz.prog nwCs (fl BSub []) 4 41 [lu x,lu y]) [] (toSt Tryz.prog 41 .normal [(64,64,some x.length)] (SSb x y (zerW x.length) 0 0)):=
 mp (an (show(decide ((0:Int)≤(↑x.length:Int)))=true from decide_eq_true (by omega)) (an (show(decide ((0:Int)≤(↑x.length:Int)))=true from decide_eq_true (by omega)) (an (show(decide (x.length≤x.length))=true from decide_eq_true (by omega)) (an (show(bounded x.length (8:Nat))=true from bounded_of h1 (by omega)) (an (rr x) (an (rr y) (an (an h2 (an (rr (Cap.known x.length)) h3)) (an (rr ((0:Int))) (an (rr ((↑x.length:Int))) (an (rr ((0:Int))) (an (an h4 h2) trivial)))))))))))
theorem sb_in0 (x y out:List Int) (i:Nat) (h1:(↑i:Int)<(↑x.length:Int)) (h2:(↑i:Int)<(↑y.length:Int)) (h3:i<y.length) (h4:i<x.length) (h5:i<out.length) (h6: -9223372036854775808≤(↑i:Int)+1∧(↑i:Int)+1≤9223372036854775807) (h7:out.length=(List.set out i (difD (List.getD x i (0:Int)) (List.getD y i (0:Int)) (0:Int))).length) (h8:(capOf out.length)=(capOf (List.set out i (difD (List.getD x i (0:Int)) (List.getD y i (0:Int)) (0:Int))).length)) (h9:((↑(if Int.toNat (List.getD x i (0:Int))<Int.toNat (List.getD y i (0:Int))+Int.toNat (0:Int)then(1:Nat)else(0:Nat)):Int))=(borD (List.getD x i (0:Int)) (List.getD y i (0:Int)) (0:Int))) (h10:(List.set out i (↑((Int.toNat (List.getD x i (0:Int))+(2:Nat)^(64:Nat)-Int.toNat (List.getD y i (0:Int))-Int.toNat (0:Int))%(2:Nat)^(64:Nat)):Int))=(List.set out i (difD (List.getD x i (0:Int)) (List.getD y i (0:Int)) (0:Int)))):
  Tst.path (vall Tryz.prog nwCs (fl BSub sbL) (SSb x y out 0 i)) [true,true] (toSt Tryz.prog 41 .normal [(64,64,none)] (SSb x y (out.set i (difD (x.getD i 0) (y.getD i 0) 0)) (borD (x.getD i 0) (y.getD i 0) 0) (i+1))):=
 mp (an (decide_eq_true h1) (an (decide_eq_true h2) (an (show(decide ((0:Int)≤(↑i:Int)))=true from decide_eq_true (by omega)) (an (decide_eq_true h3) (an (show(decide ((0:Int)≤(↑i:Int)))=true from decide_eq_true (by omega)) (an (decide_eq_true h4) (an (show(decide ((0:Int)≤(↑i:Int)))=true from decide_eq_true (by omega)) (an (decide_eq_true h5) (an (show(ownHas 179 tU (optOwn (nat_lit 179) tU out) ((0:Nat)+i))=true from(by simp only [Nat.zero_add]<;>exact(show(ownHas 179 tU (optOwn (nat_lit 179) tU out) i)=true from(by rw [ownHas_optOwn];exact decide_eq_true h5)))) (an (fits_i64 h6) (an (rr x) (an (rr y) (an (an (rr ((0:Nat))) (an h7 h8)) (an h9 (an (rr ((↑x.length:Int))) (an (show((↑i:Int)+1)=((↑(i+(1:Nat)):Int))from(by omega)) (an (show(List.set (blkXs tU (optOwn (nat_lit 179) tU out)) ((0:Nat)+i) (↑((Int.toNat (List.getD x i (0:Int))+(2:Nat)^(64:Nat)-Int.toNat (List.getD y i (0:Int))-Int.toNat (0:Int))%(2:Nat)^(64:Nat)):Int))=(List.set out i (difD (List.getD x i (0:Int)) (List.getD y i (0:Int)) (0:Int)))from(by simp only [blkXs_optOwn,Nat.zero_add]<;>exact h10)) trivial)))))))))))))))))
theorem sb_out0 (x y out:List Int) (i:Nat) (h1:(↑i:Int)<(↑x.length:Int)) (h2:¬(↑i:Int)<(↑y.length:Int)) (h3:i<x.length) (h4:i<out.length) (h5: -9223372036854775808≤(↑i:Int)+1∧(↑i:Int)+1≤9223372036854775807) (h6:out.length=(List.set out i (difD (List.getD x i (0:Int)) (0:Int) (0:Int))).length) (h7:(capOf out.length)=(capOf (List.set out i (difD (List.getD x i (0:Int)) (0:Int) (0:Int))).length)) (h8:((↑(if Int.toNat (List.getD x i (0:Int))<Int.toNat (0:Int)+Int.toNat (0:Int)then(1:Nat)else(0:Nat)):Int))=(borD (List.getD x i (0:Int)) (0:Int) (0:Int))) (h9:(List.set out i (↑((Int.toNat (List.getD x i (0:Int))+(2:Nat)^(64:Nat)-Int.toNat (0:Int)-Int.toNat (0:Int))%(2:Nat)^(64:Nat)):Int))=(List.set out i (difD (List.getD x i (0:Int)) (0:Int) (0:Int)))):
  Tst.path (vall Tryz.prog nwCs (fl BSub sbL) (SSb x y out 0 i)) [true,false] (toSt Tryz.prog 41 .normal [(64,64,none)] (SSb x y (out.set i (difD (x.getD i 0) 0 0)) (borD (x.getD i 0) 0 0) (i+1))):=
 mp (an (decide_eq_true h1) (an (decide_eq_false h2) (an (show(decide ((0:Int)≤(↑i:Int)))=true from decide_eq_true (by omega)) (an (decide_eq_true h3) (an (show(decide ((0:Int)≤(↑i:Int)))=true from decide_eq_true (by omega)) (an (decide_eq_true h4) (an (show(ownHas 179 tU (optOwn (nat_lit 179) tU out) ((0:Nat)+i))=true from(by simp only [Nat.zero_add]<;>exact(show(ownHas 179 tU (optOwn (nat_lit 179) tU out) i)=true from(by rw [ownHas_optOwn];exact decide_eq_true h4)))) (an (fits_i64 h5) (an (rr x) (an (rr y) (an (an (rr ((0:Nat))) (an h6 h7)) (an h8 (an (rr ((↑x.length:Int))) (an (show((↑i:Int)+1)=((↑(i+(1:Nat)):Int))from(by omega)) (an (show(List.set (blkXs tU (optOwn (nat_lit 179) tU out)) ((0:Nat)+i) (↑((Int.toNat (List.getD x i (0:Int))+(2:Nat)^(64:Nat)-Int.toNat (0:Int)-Int.toNat (0:Int))%(2:Nat)^(64:Nat)):Int))=(List.set out i (difD (List.getD x i (0:Int)) (0:Int) (0:Int)))from(by simp only [blkXs_optOwn,Nat.zero_add]<;>exact h9)) trivial)))))))))))))))
theorem sb_in1 (x y out:List Int) (i:Nat) (h1:(↑i:Int)<(↑x.length:Int)) (h2:(↑i:Int)<(↑y.length:Int)) (h3:i<y.length) (h4:i<x.length) (h5:i<out.length) (h6: -9223372036854775808≤(↑i:Int)+1∧(↑i:Int)+1≤9223372036854775807) (h7:out.length=(List.set out i (difD (List.getD x i (0:Int)) (List.getD y i (0:Int)) (1:Int))).length) (h8:(capOf out.length)=(capOf (List.set out i (difD (List.getD x i (0:Int)) (List.getD y i (0:Int)) (1:Int))).length)) (h9:((↑(if Int.toNat (List.getD x i (0:Int))<Int.toNat (List.getD y i (0:Int))+Int.toNat (1:Int)then(1:Nat)else(0:Nat)):Int))=(borD (List.getD x i (0:Int)) (List.getD y i (0:Int)) (1:Int))) (h10:(List.set out i (↑((Int.toNat (List.getD x i (0:Int))+(2:Nat)^(64:Nat)-Int.toNat (List.getD y i (0:Int))-Int.toNat (1:Int))%(2:Nat)^(64:Nat)):Int))=(List.set out i (difD (List.getD x i (0:Int)) (List.getD y i (0:Int)) (1:Int)))):
  Tst.path (vall Tryz.prog nwCs (fl BSub sbL) (SSb x y out 1 i)) [true,true] (toSt Tryz.prog 41 .normal [(64,64,none)] (SSb x y (out.set i (difD (x.getD i 0) (y.getD i 0) 1)) (borD (x.getD i 0) (y.getD i 0) 1) (i+1))):=
 mp (an (decide_eq_true h1) (an (decide_eq_true h2) (an (show(decide ((0:Int)≤(↑i:Int)))=true from decide_eq_true (by omega)) (an (decide_eq_true h3) (an (show(decide ((0:Int)≤(↑i:Int)))=true from decide_eq_true (by omega)) (an (decide_eq_true h4) (an (show(decide ((0:Int)≤(↑i:Int)))=true from decide_eq_true (by omega)) (an (decide_eq_true h5) (an (show(ownHas 179 tU (optOwn (nat_lit 179) tU out) ((0:Nat)+i))=true from(by simp only [Nat.zero_add]<;>exact(show(ownHas 179 tU (optOwn (nat_lit 179) tU out) i)=true from(by rw [ownHas_optOwn];exact decide_eq_true h5)))) (an (fits_i64 h6) (an (rr x) (an (rr y) (an (an (rr ((0:Nat))) (an h7 h8)) (an h9 (an (rr ((↑x.length:Int))) (an (show((↑i:Int)+1)=((↑(i+(1:Nat)):Int))from(by omega)) (an (show(List.set (blkXs tU (optOwn (nat_lit 179) tU out)) ((0:Nat)+i) (↑((Int.toNat (List.getD x i (0:Int))+(2:Nat)^(64:Nat)-Int.toNat (List.getD y i (0:Int))-Int.toNat (1:Int))%(2:Nat)^(64:Nat)):Int))=(List.set out i (difD (List.getD x i (0:Int)) (List.getD y i (0:Int)) (1:Int)))from(by simp only [blkXs_optOwn,Nat.zero_add]<;>exact h10)) trivial)))))))))))))))))
theorem sb_out1 (x y out:List Int) (i:Nat) (h1:(↑i:Int)<(↑x.length:Int)) (h2:¬(↑i:Int)<(↑y.length:Int)) (h3:i<x.length) (h4:i<out.length) (h5: -9223372036854775808≤(↑i:Int)+1∧(↑i:Int)+1≤9223372036854775807) (h6:out.length=(List.set out i (difD (List.getD x i (0:Int)) (0:Int) (1:Int))).length) (h7:(capOf out.length)=(capOf (List.set out i (difD (List.getD x i (0:Int)) (0:Int) (1:Int))).length)) (h8:((↑(if Int.toNat (List.getD x i (0:Int))<Int.toNat (0:Int)+Int.toNat (1:Int)then(1:Nat)else(0:Nat)):Int))=(borD (List.getD x i (0:Int)) (0:Int) (1:Int))) (h9:(List.set out i (↑((Int.toNat (List.getD x i (0:Int))+(2:Nat)^(64:Nat)-Int.toNat (0:Int)-Int.toNat (1:Int))%(2:Nat)^(64:Nat)):Int))=(List.set out i (difD (List.getD x i (0:Int)) (0:Int) (1:Int)))):
  Tst.path (vall Tryz.prog nwCs (fl BSub sbL) (SSb x y out 1 i)) [true,false] (toSt Tryz.prog 41 .normal [(64,64,none)] (SSb x y (out.set i (difD (x.getD i 0) 0 1)) (borD (x.getD i 0) 0 1) (i+1))):=
 mp (an (decide_eq_true h1) (an (decide_eq_false h2) (an (show(decide ((0:Int)≤(↑i:Int)))=true from decide_eq_true (by omega)) (an (decide_eq_true h3) (an (show(decide ((0:Int)≤(↑i:Int)))=true from decide_eq_true (by omega)) (an (decide_eq_true h4) (an (show(ownHas 179 tU (optOwn (nat_lit 179) tU out) ((0:Nat)+i))=true from(by simp only [Nat.zero_add]<;>exact(show(ownHas 179 tU (optOwn (nat_lit 179) tU out) i)=true from(by rw [ownHas_optOwn];exact decide_eq_true h4)))) (an (fits_i64 h5) (an (rr x) (an (rr y) (an (an (rr ((0:Nat))) (an h6 h7)) (an h8 (an (rr ((↑x.length:Int))) (an (show((↑i:Int)+1)=((↑(i+(1:Nat)):Int))from(by omega)) (an (show(List.set (blkXs tU (optOwn (nat_lit 179) tU out)) ((0:Nat)+i) (↑((Int.toNat (List.getD x i (0:Int))+(2:Nat)^(64:Nat)-Int.toNat (0:Int)-Int.toNat (1:Int))%(2:Nat)^(64:Nat)):Int))=(List.set out i (difD (List.getD x i (0:Int)) (0:Int) (1:Int)))from(by simp only [blkXs_optOwn,Nat.zero_add]<;>exact h9)) trivial)))))))))))))))
theorem sb_end (x y out:List Int) (c:Int) (i:Nat) (h1:¬(↑i:Int)<(↑x.length:Int)):
  Tst.path (vall Tryz.prog nwCs (fl BSub sbL) (SSb x y out c i)) [false] (toSt Tryz.prog 41 (.exit 0) [(64,64,none)] (SSb x y out c i)):=
 mp (an (decide_eq_false h1) (an (rr x) (an (rr y) (an (an (rr ((0:Nat))) (an (rr out.length) (rr (capOf out.length)))) (an (rr c) (an (rr ((↑x.length:Int))) (an (rr ((↑i:Int))) (an (show(fitOpt Tryz.prog none (optOwn (nat_lit 179) tU out) (nat_lit 179) tU out)from(fitOpt_refl _ _ _ _)) trivial))))))))
theorem sb_fit (x y out:List Int) (c:Int) (i:Nat):
  Tst.path ((Tst.ret (R.normal ((SSb x y out c i).T.set 5 (some (lu out))) ((SSb x y out c i).H.drop 64) []):Tst R)) [] (toSt Tryz.prog 41 .normal [] (SSg out)):=
 mp (an (rr out) trivial)
theorem sb_ret (out:List Int) (h1:out.length≤(1000000:Nat)):
  Tst.path (vall Tryz.prog nwCs (List.drop 5 (fl BSub [])) (SSg out)) [] (toRet Tryz.prog Tryz.f135 false (lu (trW out))):=
 mp (an (decide_eq_true h1) (rr (trW out)))
def okW2 (x y:List Int):Bool:=dgB x&&(dgB y&&(decide (x.length≤400000)&&decide (y.length≤400000)))
def addW (x y:List Int):List Int:=dgN 18446744073709551616 (vw x+vw y)
def subW (x y:List Int):List Int:=dgN 18446744073709551616 (vw x-vw y)
noncomputable def cAddW:Ctr:={f:=133,ps:=[.list false tU, .list false tU],rs:=[.list false tU],fresh:=false,pre:=fun d=>okW2 d.1 d.2.1,fn:=fun d=>(addW d.1 d.2.1,())}
noncomputable def cSubW:Ctr:={f:=135,ps:=[.list false tU, .list false tU],rs:=[.list false tU],fresh:=false,pre:=fun d=>okW2 d.1 d.2.1&&decide (vw d.2.1≤vw d.1),fn:=fun d=>(subW d.1 d.2.1,())}
theorem nw_ok:CallOk Tryz.prog (gS nwCs):=one_ok cTrim_ok
theorem dgB_iff {l:List Int}:dgB l=true↔Dg 18446744073709551616 l:=by
 unfold dgB Dg
 simp only [List.all_eq_true,Bool.and_eq_true,decide_eq_true_eq]
theorem b64_pos:(1:Int)<18446744073709551616:=by decide
theorem sum_car {a b c:Int} (ha:0≤a∧a<18446744073709551616) (hb:0≤b∧b<18446744073709551616) (hc:c=0∨c=1):
  sumD a b c+18446744073709551616*carD a b c=a+b+c∧(0≤sumD a b c∧sumD a b c<18446744073709551616)∧(carD a b c=0∨carD a b c=1):=by
 unfold sumD carD
 rw [show(2:Nat)^64=18446744073709551616 from rfl]
 rcases hc with rfl |rfl<;>omega
theorem dif_bor {a b c:Int} (ha:0≤a∧a<18446744073709551616) (hb:0≤b∧b<18446744073709551616) (hc:c=0∨c=1):
  difD a b c-18446744073709551616*borD a b c=a-b-c∧(0≤difD a b c∧difD a b c<18446744073709551616)∧(borD a b c=0∨borD a b c=1):=by
 unfold difD borD
 rw [show(2:Nat)^64=18446744073709551616 from rfl]
 rcases hc with rfl |rfl<;>split<;>omega
theorem zer_len (n:Nat):(zerW n).length=n:=List.length_replicate
theorem zer_dg (n:Nat):Dg 18446744073709551616 (zerW n):=Dg.rep (by decide) n
theorem zer_cells (n:Nat):(List.replicate n (List.map AV.raw (Array.toList #[Value.int IntKind.u64 (0:Int)]))).flatten=(zerW n).flatMap (fun x=>[AV.raw (Value.int IntKind.u64 x)]):=by
 unfold zerW
 induction n with
 |zero=>rfl
 |succ n ih=>rw [List.replicate_succ,List.replicate_succ,List.flatten_cons,List.flatMap_cons,ih];rfl
theorem trW_dg {l:List Int} (h:Dg 18446744073709551616 l):trW l=dgN 18446744073709551616 (vw l):=by
 refine dgN_uniq b64_pos (trim_dg h _ (Nat.le_refl _)) (trim_tm l _ (Nat.le_refl _)) ?_
 unfold trW vw
 rw [trim_vl l _ (Nat.le_refl _),List.take_length]
theorem get_far {l:List Int} {i:Nat} (h:¬i<l.length):l.getD i 0=0:=by
 rw [List.getD_eq_getElem?_getD,List.getElem?_eq_none (by omega)];rfl
theorem ad_e0:List.drop 8 (fl BAdd [])≠[]:=fun h=>by
 have:(List.drop 8 (fl BAdd [])).isEmpty=false:=by kernel_rfl
 rw [h]at this;cases this
theorem sb_e0:List.drop 5 (fl BSub [])≠[]:=fun h=>by
 have:(List.drop 5 (fl BSub [])).isEmpty=false:=by kernel_rfl
 rw [h]at this;cases this
theorem add_loop {x y:List Int} (hx:Dg 18446744073709551616 x) (hy:Dg 18446744073709551616 y) (hxy:y.length≤x.length) (hl:x.length≤400000) (w0:World) (F:Env):
  GoalL Tryz.prog w0 F 54 (List.drop 6 (fl BAdd [])) (SAd x y (zerW (x.length+1)) 0 0).T (SAd x y (zerW (x.length+1)) 0 0).H (retQ Tryz.prog false Tryz.f133 (lu (dgN 18446744073709551616 (vw x+vw y)))):=by
 have hS:=nw_ok
 refine GoalL.loop (ι:={s:List Int×Int×Nat//s.2.2≤x.length∧s.1.length=x.length+1∧Dg 18446744073709551616 s.1∧(s.2.1=0∨s.2.1=1)∧vw (s.1.take s.2.2)+18446744073709551616^s.2.2*s.2.1=vw (x.take s.2.2)+vw (y.take s.2.2)}) (id:=0) (b:=cat BAdd adL) (rest:=List.drop 7 (fl BAdd [])) (by kernel_rfl) (fun s=>SAd x y s.1.1 s.1.2.1 s.1.2.2) (fun s=>x.length-s.1.2.2)
  ⟨(zerW (x.length+1),0,0),Nat.zero_le _,zer_len _,zer_dg _, .inl rfl,by simp [vw,vl]⟩ (fun _=>rfl) ?_
 rintro⟨⟨out,c,i⟩,hi,ho,hdg,hc,hinv⟩
 have hi:i≤x.length:=hi
 have ho:out.length=x.length+1:=ho
 have hdg:Dg 18446744073709551616 out:=hdg
 have hc:c=0∨c=1:=hc
 have hinv:vw (out.take i)+18446744073709551616^i*c=vw (x.take i)+vw (y.take i):=hinv
 by_cases hlt:i<x.length
 ·have hxi:=hx.get (by decide) i
  have hyi:=hy.get (by decide) i
  obtain⟨g1,g2,g3⟩:=sum_car hxi hyi hc
  have hnext:vw ((out.set i (sumD (x.getD i 0) (y.getD i 0) c)).take (i+1))+18446744073709551616^(i+1)*carD (x.getD i 0) (y.getD i 0) c=vw (x.take (i+1))+vw (y.take (i+1)):=by
   unfold vw at hinv ⊢
   rw [vl_set_next (by omega),vl_take' x i,vl_take' y i,Int.pow_succ]
   exact add_next g1 hinv
  have hfin:∃j:{s:List Int×Int×Nat//s.2.2≤x.length∧s.1.length=x.length+1∧Dg 18446744073709551616 s.1∧(s.2.1=0∨s.2.1=1)∧vw (s.1.take s.2.2)+18446744073709551616^s.2.2*s.2.1=vw (x.take s.2.2)+vw (y.take s.2.2)},x.length-j.1.2.2<x.length-i∧(SAd x y (out.set i (sumD (x.getD i 0) (y.getD i 0) c)) (carD (x.getD i 0) (y.getD i 0) c) (i+1)).T=(SAd x y j.1.1 j.1.2.1 j.1.2.2).T∧(SAd x y (out.set i (sumD (x.getD i 0) (y.getD i 0) c)) (carD (x.getD i 0) (y.getD i 0) c) (i+1)).H=(SAd x y j.1.1 j.1.2.1 j.1.2.2).H:=
   ⟨⟨(out.set i (sumD (x.getD i 0) (y.getD i 0) c),carD (x.getD i 0) (y.getD i 0) c,i+1),hlt,by rw [List.length_set];exact ho,hdg.set g2,g3,hnext⟩,by simp;omega,rfl,rfl⟩
  by_cases hyl:i<y.length
  ·rcases hc with rfl |rfl
   ·exact GoalL.all (s:=SAd x y out 0 i) (s':=SAd x y (out.set i (sumD (x.getD i 0) (y.getD i 0) 0)) (carD (x.getD i 0) (y.getD i 0) 0) (i+1)) known mixed hS _ (ad_in0 x y out i (by omega) (by omega) hyl hlt (by omega) (by omega) (by rw [List.length_set]) (by rw [List.length_set]) rfl rfl) (by kernel_rfl) hfin
   ·exact GoalL.all (s:=SAd x y out 1 i) (s':=SAd x y (out.set i (sumD (x.getD i 0) (y.getD i 0) 1)) (carD (x.getD i 0) (y.getD i 0) 1) (i+1)) known mixed hS _ (ad_in1 x y out i (by omega) (by omega) hyl hlt (by omega) (by omega) (by rw [List.length_set]) (by rw [List.length_set]) rfl rfl) (by kernel_rfl) hfin
  ·rw [get_far hyl]at hfin
   rcases hc with rfl |rfl
   ·exact GoalL.all (s:=SAd x y out 0 i) (s':=SAd x y (out.set i (sumD (x.getD i 0) 0 0)) (carD (x.getD i 0) 0 0) (i+1)) known mixed hS _ (ad_out0 x y out i (by omega) (by omega) hlt (by omega) (by omega) (by rw [List.length_set]) (by rw [List.length_set]) rfl rfl) (by kernel_rfl) hfin
   ·exact GoalL.all (s:=SAd x y out 1 i) (s':=SAd x y (out.set i (sumD (x.getD i 0) 0 1)) (carD (x.getD i 0) 0 1) (i+1)) known mixed hS _ (ad_out1 x y out i (by omega) (by omega) hlt (by omega) (by omega) (by rw [List.length_set]) (by rw [List.length_set]) rfl rfl) (by kernel_rfl) hfin
 ·refine GoalL.all (s:=SAd x y out c i) known mixed hS _ (ad_end x y out c i (by omega)) (by kernel_rfl) ?_
  refine onN_exit (inB_exit ?_)
  obtain rfl:i=x.length:=by omega
  have hcd:0≤c∧c<18446744073709551616:=by rcases hc with rfl |rfl<;>decide
  refine GoalL.st (s:=SAd x y out c x.length) (s':=SAe (out.set x.length c)) known mixed hS 1 _ (ad_fin x y out c x.length (by omega) (by rw [List.length_set]) (by rw [List.length_set])) (by kernel_rfl) ?_
  have hval:vw (out.set x.length c)=vw x+vw y:=by
   rw [List.take_length,List.take_of_length_le hxy]at hinv
   rw [←hinv]
   have:=vl_set_next (b:=18446744073709551616) (l:=out) (i:=x.length) (d:=c) (by omega)
   rw [List.take_of_length_le (by rw [List.length_set];omega)]at this
   exact this
  have hd2:=hdg.set (k:=x.length) hcd
  rw [←hval,←trW_dg hd2]
  have hlen:(out.set x.length c).length≤1000000:=by rw [List.length_set];omega
  generalize out.set x.length c=o2 at*
  refine GoalL.freezeSlot ad_e0 (i:=64) (s:=5) (e2:=179) (t:=tU) (xs:=o2) (cap:=capOf o2.length) (by kernel_rfl) (by kernel_rfl) ?_
  refine GoalL.refit ad_e0 (σ:=[]) (s:=SAg o2) (ad_fit o2) ?_
  exact GoalL.allRet (s:=SAg o2) known mixed hS _ (ad_ret o2 hlen) fun T H h=>h
theorem addW_holds (x y:List Int) (h:okW2 x y=true):Holds Tryz.prog false 133 [lu x,lu y] (lu (addW x y)):=by
 unfold okW2 at h
 simp only [Bool.and_eq_true,decide_eq_true_eq]at h
 obtain⟨hx,hy,lx,ly⟩:=h
 have hx:=dgB_iff.1 hx
 have hy:=dgB_iff.1 hy
 have hS:=nw_ok
 refine holds_fl (c:=BAdd) Tryz.func133 rfl rfl fun w0 F=> ?_
 by_cases hxy:x.length<y.length
 ·have e1:((y.length:Int)+1).toNat=y.length+1:=by omega
  refine GoalL.to known mixed hS 6 _ (ad_swap x y (by omega) (by omega) (by omega) (by rw [zer_len,e1]) (by rw [e1]) (by rw [zer_len]) (by rw [e1];exact zer_cells _) (by rw [zer_len])) (by kernel_rfl) ?_
  have:=add_loop hy hx (by omega) ly w0 F
  unfold addW
  rw [Int.add_comm]
  exact this
 ·have e1:((x.length:Int)+1).toNat=x.length+1:=by omega
  refine GoalL.to known mixed hS 6 _ (ad_start x y (by omega) (by omega) (by omega) (by rw [zer_len,e1]) (by rw [e1]) (by rw [zer_len]) (by rw [e1];exact zer_cells _) (by rw [zer_len])) (by kernel_rfl) ?_
  exact add_loop hx hy (by omega) lx w0 F
theorem cAddW_ok:cAddW.Ok Tryz.prog:=fun⟨x,y,_⟩ h=>addW_holds x y h
theorem sub_loop {x y:List Int} (hx:Dg 18446744073709551616 x) (hy:Dg 18446744073709551616 y) (hle:vw y≤vw x) (hl:x.length≤400000) (w0:World) (F:Env):
  GoalL Tryz.prog w0 F 41 (List.drop 4 (fl BSub [])) (SSb x y (zerW x.length) 0 0).T (SSb x y (zerW x.length) 0 0).H (retQ Tryz.prog false Tryz.f135 (lu (dgN 18446744073709551616 (vw x-vw y)))):=by
 have hS:=nw_ok
 refine GoalL.loop (ι:={s:List Int×Int×Nat//s.2.2≤x.length∧s.1.length=x.length∧Dg 18446744073709551616 s.1∧(s.2.1=0∨s.2.1=1)∧vw (s.1.take s.2.2)-18446744073709551616^s.2.2*s.2.1=vw (x.take s.2.2)-vw (y.take s.2.2)}) (id:=0) (b:=cat BSub sbL) (rest:=List.drop 5 (fl BSub [])) (by kernel_rfl) (fun s=>SSb x y s.1.1 s.1.2.1 s.1.2.2) (fun s=>x.length-s.1.2.2)
  ⟨(zerW x.length,0,0),Nat.zero_le _,zer_len _,zer_dg _, .inl rfl,by simp [vw,vl]⟩ (fun _=>rfl) ?_
 rintro⟨⟨out,c,i⟩,hi,ho,hdg,hc,hinv⟩
 have hi:i≤x.length:=hi
 have ho:out.length=x.length:=ho
 have hdg:Dg 18446744073709551616 out:=hdg
 have hc:c=0∨c=1:=hc
 have hinv:vw (out.take i)-18446744073709551616^i*c=vw (x.take i)-vw (y.take i):=hinv
 by_cases hlt:i<x.length
 ·have hxi:=hx.get (by decide) i
  have hyi:=hy.get (by decide) i
  obtain⟨g1,g2,g3⟩:=dif_bor hxi hyi hc
  have hnext:vw ((out.set i (difD (x.getD i 0) (y.getD i 0) c)).take (i+1))-18446744073709551616^(i+1)*borD (x.getD i 0) (y.getD i 0) c=vw (x.take (i+1))-vw (y.take (i+1)):=by
   unfold vw at hinv ⊢
   rw [vl_set_next (by omega),vl_take' x i,vl_take' y i,Int.pow_succ]
   exact sub_next g1 hinv
  have hfin:∃j:{s:List Int×Int×Nat//s.2.2≤x.length∧s.1.length=x.length∧Dg 18446744073709551616 s.1∧(s.2.1=0∨s.2.1=1)∧vw (s.1.take s.2.2)-18446744073709551616^s.2.2*s.2.1=vw (x.take s.2.2)-vw (y.take s.2.2)},x.length-j.1.2.2<x.length-i∧(SSb x y (out.set i (difD (x.getD i 0) (y.getD i 0) c)) (borD (x.getD i 0) (y.getD i 0) c) (i+1)).T=(SSb x y j.1.1 j.1.2.1 j.1.2.2).T∧(SSb x y (out.set i (difD (x.getD i 0) (y.getD i 0) c)) (borD (x.getD i 0) (y.getD i 0) c) (i+1)).H=(SSb x y j.1.1 j.1.2.1 j.1.2.2).H:=
   ⟨⟨(out.set i (difD (x.getD i 0) (y.getD i 0) c),borD (x.getD i 0) (y.getD i 0) c,i+1),hlt,by rw [List.length_set];exact ho,hdg.set g2,g3,hnext⟩,by simp;omega,rfl,rfl⟩
  by_cases hyl:i<y.length
  ·rcases hc with rfl |rfl
   ·exact GoalL.all (s:=SSb x y out 0 i) (s':=SSb x y (out.set i (difD (x.getD i 0) (y.getD i 0) 0)) (borD (x.getD i 0) (y.getD i 0) 0) (i+1)) known mixed hS _ (sb_in0 x y out i (by omega) (by omega) hyl hlt (by omega) (by omega) (by rw [List.length_set]) (by rw [List.length_set]) rfl rfl) (by kernel_rfl) hfin
   ·exact GoalL.all (s:=SSb x y out 1 i) (s':=SSb x y (out.set i (difD (x.getD i 0) (y.getD i 0) 1)) (borD (x.getD i 0) (y.getD i 0) 1) (i+1)) known mixed hS _ (sb_in1 x y out i (by omega) (by omega) hyl hlt (by omega) (by omega) (by rw [List.length_set]) (by rw [List.length_set]) rfl rfl) (by kernel_rfl) hfin
  ·rw [get_far hyl]at hfin
   rcases hc with rfl |rfl
   ·exact GoalL.all (s:=SSb x y out 0 i) (s':=SSb x y (out.set i (difD (x.getD i 0) 0 0)) (borD (x.getD i 0) 0 0) (i+1)) known mixed hS _ (sb_out0 x y out i (by omega) (by omega) hlt (by omega) (by omega) (by rw [List.length_set]) (by rw [List.length_set]) rfl rfl) (by kernel_rfl) hfin
   ·exact GoalL.all (s:=SSb x y out 1 i) (s':=SSb x y (out.set i (difD (x.getD i 0) 0 1)) (borD (x.getD i 0) 0 1) (i+1)) known mixed hS _ (sb_out1 x y out i (by omega) (by omega) hlt (by omega) (by omega) (by rw [List.length_set]) (by rw [List.length_set]) rfl rfl) (by kernel_rfl) hfin
 ·refine GoalL.all (s:=SSb x y out c i) known mixed hS _ (sb_end x y out c i (by omega)) (by kernel_rfl) ?_
  refine onN_exit (inB_exit ?_)
  obtain rfl:i=x.length:=by omega
  have hxl:vw x<18446744073709551616^x.length:=vl_lt (by decide) hx
  have hyl:vw (y.take x.length)=vw y:=vl_low (by decide) hy (show vw y<_ by omega)
  have hval:vw out=vw x-vw y:=by
   have ho1:=vl_lt (by decide) hdg
   rw [ho]at ho1
   have ho1:vw out<18446744073709551616^x.length:=ho1
   rw [List.take_length,hyl,List.take_of_length_le (by omega)]at hinv
   rcases hc with rfl |rfl
   ·omega
   ·omega
  rw [←hval,←trW_dg hdg]
  refine GoalL.freezeSlot sb_e0 (i:=64) (s:=5) (e2:=179) (t:=tU) (xs:=out) (cap:=capOf out.length) (by kernel_rfl) (by kernel_rfl) ?_
  refine GoalL.refit sb_e0 (σ:=[]) (s:=SSg out) (sb_fit x y out c x.length) ?_
  exact GoalL.allRet (s:=SSg out) known mixed hS _ (sb_ret out (by omega)) fun T H h=>h
theorem subW_holds (x y:List Int) (h:(okW2 x y&&decide (vw y≤vw x))=true):Holds Tryz.prog false 135 [lu x,lu y] (lu (subW x y)):=by
 unfold okW2 at h
 simp only [Bool.and_eq_true,decide_eq_true_eq]at h
 obtain⟨⟨hx,hy,lx,ly⟩,hle⟩:=h
 have hx:=dgB_iff.1 hx
 have hy:=dgB_iff.1 hy
 have hS:=nw_ok
 refine holds_fl (c:=BSub) Tryz.func135 rfl rfl fun w0 F=> ?_
 have e1:((x.length:Int)).toNat=x.length:=by omega
 refine GoalL.to known mixed hS 4 _ (sb_start x y (by omega) (by rw [zer_len]) (by rw [zer_len]) (zer_cells _)) (by kernel_rfl) ?_
 exact sub_loop hx hy hle lx w0 F
theorem cSubW_ok:cSubW.Ok Tryz.prog:=fun⟨x,y,_⟩ h=>subW_holds x y h
end
end Go.Proofs.YtccmlbinkgbpgaaGreatDoor
/- Package num: lists of words compared. -/
namespace Go.Proofs.YtccmlbinkgbpgaaGreatDoor
open Go.RowKit Sv
set_option maxRecDepth 100000
set_option linter.unusedVariables false
noncomputable section
noncomputable def BCmp:Code:=(Tryz.f134.body).getD .skip
abbrev cwL:List Nat:=[1,1,0,1,0,0]
def SCw (a b:List Int) (k:Nat):St:={n:=41,sl:=[(0,lu a),(1,lu b),(5,iv ((k:Int)-1))],en:=[],next:=64}
def SCw1 (a b:List Int) (k:Nat):St:={n:=41,sl:=[(0,lu a),(1,lu b),(5,iv ((k:Int)-1-1))],en:=[],next:=64}
theorem cw_low (a b:List Int) (h1:¬(↑a.length:Int)=(↑b.length:Int)) (h2:(↑a.length:Int)<(↑b.length:Int)):
  Tst.path (vrun0 Tryz.prog (ctrs []) (fl BCmp []) 3 41 [lu a,lu b]) [true,true] (toRet Tryz.prog Tryz.f134 true (iv (-1))):=
 mp (an (bne_iff_ne.mpr h1) (an (decide_eq_true h2) (rr ((-1:Int)))))
theorem cw_high (a b:List Int) (h1:¬(↑a.length:Int)=(↑b.length:Int)) (h2:¬(↑a.length:Int)<(↑b.length:Int)):
  Tst.path (vrun0 Tryz.prog (ctrs []) (fl BCmp []) 3 41 [lu a,lu b]) [true,false] (toRet Tryz.prog Tryz.f134 true (iv 1)):=
 mp (an (bne_iff_ne.mpr h1) (an (decide_eq_false h2) (rr ((1:Int)))))
theorem cw_start (a b:List Int) (h1:(↑a.length:Int)=(↑b.length:Int)) (h2: -9223372036854775808≤(↑a.length:Int)-1∧(↑a.length:Int)-1≤9223372036854775807):
  Tst.path (vrun0 Tryz.prog (ctrs []) (fl BCmp []) 4 41 [lu a,lu b]) [false] (toSt Tryz.prog 41 .normal [] (SCw a b a.length)):=
 mp (an (bne_eq_false_iff_eq.mpr h1) (an (fits_i64 h2) (an (rr a) (an (rr b) (an (rr ((↑a.length:Int)-1)) trivial)))))
theorem cw_lt (a b:List Int) (k:Nat) (h1:(↑k:Int)-1≥0) (h2:(0:Int)≤(↑k:Int)-1) (h3:Int.toNat ((↑k:Int)-1)<a.length) (h4:Int.toNat ((↑k:Int)-1)<b.length) (h5:¬List.getD a (Int.toNat ((↑k:Int)-1)) (0:Int)=List.getD b (Int.toNat ((↑k:Int)-1)) (0:Int)) (h6:List.getD a (Int.toNat ((↑k:Int)-1)) (0:Int)<List.getD b (Int.toNat ((↑k:Int)-1)) (0:Int)):
  Tst.path (vall Tryz.prog (ctrs []) (fl BCmp cwL) (SCw a b k)) [true,true,true] (toRet Tryz.prog Tryz.f134 true (iv (-1))):=
 mp (an (decide_eq_true h1) (an (decide_eq_true h2) (an (decide_eq_true h3) (an (sr (AV.raw (Value.int .u64 (List.getD a (Int.toNat ((↑k:Int)-1)) (0:Int))))) (an (decide_eq_true h2) (an (decide_eq_true h4) (an (sr (AV.raw (Value.int .u64 (List.getD b (Int.toNat ((↑k:Int)-1)) (0:Int))))) (an (bne_iff_ne.mpr h5) (an (decide_eq_true h2) (an (decide_eq_true h3) (an (sr (AV.raw (Value.int .u64 (List.getD a (Int.toNat ((↑k:Int)-1)) (0:Int))))) (an (decide_eq_true h2) (an (decide_eq_true h4) (an (sr (AV.raw (Value.int .u64 (List.getD b (Int.toNat ((↑k:Int)-1)) (0:Int))))) (an (decide_eq_true h6) (rr ((-1:Int))))))))))))))))))
theorem cw_gt (a b:List Int) (k:Nat) (h1:(↑k:Int)-1≥0) (h2:(0:Int)≤(↑k:Int)-1) (h3:Int.toNat ((↑k:Int)-1)<a.length) (h4:Int.toNat ((↑k:Int)-1)<b.length) (h5:¬List.getD a (Int.toNat ((↑k:Int)-1)) (0:Int)=List.getD b (Int.toNat ((↑k:Int)-1)) (0:Int)) (h6:¬List.getD a (Int.toNat ((↑k:Int)-1)) (0:Int)<List.getD b (Int.toNat ((↑k:Int)-1)) (0:Int)):
  Tst.path (vall Tryz.prog (ctrs []) (fl BCmp cwL) (SCw a b k)) [true,true,false] (toRet Tryz.prog Tryz.f134 true (iv 1)):=
 mp (an (decide_eq_true h1) (an (decide_eq_true h2) (an (decide_eq_true h3) (an (sr (AV.raw (Value.int .u64 (List.getD a (Int.toNat ((↑k:Int)-1)) (0:Int))))) (an (decide_eq_true h2) (an (decide_eq_true h4) (an (sr (AV.raw (Value.int .u64 (List.getD b (Int.toNat ((↑k:Int)-1)) (0:Int))))) (an (bne_iff_ne.mpr h5) (an (decide_eq_true h2) (an (decide_eq_true h3) (an (sr (AV.raw (Value.int .u64 (List.getD a (Int.toNat ((↑k:Int)-1)) (0:Int))))) (an (decide_eq_true h2) (an (decide_eq_true h4) (an (sr (AV.raw (Value.int .u64 (List.getD b (Int.toNat ((↑k:Int)-1)) (0:Int))))) (an (decide_eq_false h6) (rr ((1:Int))))))))))))))))))
theorem cw_eq (a b:List Int) (k:Nat) (h1:(↑k:Int)-1≥0) (h2:(0:Int)≤(↑k:Int)-1) (h3:Int.toNat ((↑k:Int)-1)<a.length) (h4:Int.toNat ((↑k:Int)-1)<b.length) (h5:List.getD a (Int.toNat ((↑k:Int)-1)) (0:Int)=List.getD b (Int.toNat ((↑k:Int)-1)) (0:Int)) (h6: -9223372036854775808≤(↑k:Int)-1-1∧(↑k:Int)-1-1≤9223372036854775807):
  Tst.path (vall Tryz.prog (ctrs []) (fl BCmp cwL) (SCw a b k)) [true,false] (toSt Tryz.prog 41 .normal [] (SCw1 a b k)):=
 mp (an (decide_eq_true h1) (an (decide_eq_true h2) (an (decide_eq_true h3) (an (sr (AV.raw (Value.int .u64 (List.getD a (Int.toNat ((↑k:Int)-1)) (0:Int))))) (an (decide_eq_true h2) (an (decide_eq_true h4) (an (sr (AV.raw (Value.int .u64 (List.getD b (Int.toNat ((↑k:Int)-1)) (0:Int))))) (an (bne_eq_false_iff_eq.mpr h5) (an (fits_i64 h6) (an (rr a) (an (rr b) (an (rr ((↑k:Int)-1-1)) trivial))))))))))))
theorem cw_end (a b:List Int) (k:Nat) (h1:¬(↑k:Int)-1≥0):
  Tst.path (vall Tryz.prog (ctrs []) (fl BCmp cwL) (SCw a b k)) [false] (toSt Tryz.prog 41 (.exit 0) [] (SCw a b k)):=
 mp (an (decide_eq_false h1) (an (rr a) (an (rr b) (an (rr ((↑k:Int)-1)) trivial))))
theorem cw_ret (a b:List Int) (k:Nat):
  Tst.path (vall Tryz.prog (ctrs []) (List.drop 5 (fl BCmp [])) (SCw a b k)) [] (toRet Tryz.prog Tryz.f134 true (iv 0)):=
 mp (rr ((0:Int)))
def cmpV (x y:Int):Int:=if x<y then-1 else if y<x then 1 else 0
def okC2 (a b:List Int):Bool:=(dgB a&&tmB a)&&((dgB b&&tmB b)&&decide (a.length≤1000000))
noncomputable def cCmpW:Ctr:={f:=134,ps:=[.list false tU, .list false tU],rs:=[.int .i64],fresh:=true,pre:=fun d=>okC2 d.1 d.2.1,fn:=fun d=>(cmpV (vw d.1) (vw d.2.1),())}
theorem tmB_iff {l:List Int}:tmB l=true↔Tm l:=by
 unfold tmB
 constructor
 ·intro h
  have h:=Nat.eq_of_beq_eq_true h
  have:=trim_tm l l.length (Nat.le_refl _)
  obtain⟨m,h1,h2,_⟩:=trimL_eq l l.length (Nat.le_refl _)
  rw [h2,List.length_take]at h
  have hm:m=l.length:=by omega
  rw [h2,hm,List.take_length]at this
  exact this
 ·intro h
  rw [trim_id h]
  exact Nat.beq_refl _
theorem cmpV_lt {x y:Int} (h:x<y):cmpV x y= -1:=by unfold cmpV;rw [if_pos h]
theorem cmpV_gt {x y:Int} (h:y<x):cmpV x y=1:=by unfold cmpV;rw [if_neg (by omega),if_pos h]
theorem cmpV_eq {x y:Int} (h:x=y):cmpV x y=0:=by unfold cmpV;rw [if_neg (by omega),if_neg (by omega)]
theorem cmpW_holds (a b:List Int) (h:okC2 a b=true):Holds Tryz.prog true 134 [lu a,lu b] (iv (cmpV (vw a) (vw b))):=by
 unfold okC2 at h
 simp only [Bool.and_eq_true,decide_eq_true_eq]at h
 obtain⟨⟨ha,ta⟩,⟨hb,tb⟩,hl⟩:=h
 have ha:=dgB_iff.1 ha
 have hb:=dgB_iff.1 hb
 have ta:=tmB_iff.1 ta
 have tb:=tmB_iff.1 tb
 refine holds_fl (c:=BCmp) Tryz.func134 rfl rfl fun w0 F=> ?_
 by_cases hab:a.length=b.length
 ·refine GoalL.to known mixed none_ok 4 _ (cw_start a b (by omega) (by omega)) (by kernel_rfl) ?_
  refine GoalL.loop (ι:={k:Nat//k≤a.length∧∀j,k≤j→j<a.length→a.getD j 0=b.getD j 0}) (id:=0) (b:=cat BCmp cwL) (rest:=List.drop 5 (fl BCmp [])) (by kernel_rfl) (fun k=>SCw a b k.1) (fun k=>k.1) ⟨a.length,Nat.le_refl _,fun j h1 h2=>by omega⟩ (fun _=>rfl) ?_
  rintro⟨k,hk,heq⟩
  cases k with
  |zero=>
   refine GoalL.all (s:=SCw a b 0) known mixed none_ok _ (cw_end a b 0 (by omega)) (by kernel_rfl) ?_
   refine onN_exit (inB_exit ?_)
   have e:a=b:=by
    refine List.ext_getElem hab fun j h1 h2=> ?_
    have:=heq j (Nat.zero_le _) h1
    rwa [dg_getD h1,dg_getD h2]at this
   rw [cmpV_eq (show vw a=vw b by rw [e])]
   exact GoalL.allRet (s:=SCw a b 0) known mixed none_ok _ (cw_ret a b 0) fun T H h=>h
  |succ k=>
   have e0:(((k+1:Nat):Int)-1).toNat=k:=by omega
   have e1:SCw1 a b (k+1)=SCw a b k:=by
    unfold SCw1 SCw
    rw [show(((k+1:Nat):Int)-1-1)=(k:Int)-1 by omega]
   have hka:k<a.length:=by omega
   by_cases h1:a.getD k 0=b.getD k 0
   ·refine GoalL.all (s:=SCw a b (k+1)) (s':=SCw1 a b (k+1)) known mixed none_ok _ (cw_eq a b (k+1) (by omega) (by omega) (by omega) (by omega) (by rw [e0];exact h1) (by omega)) (by kernel_rfl) ?_
    rw [e1]
    exact⟨⟨k,by omega,fun j g1 g2=>by
     by_cases hj:j=k
     ·rw [hj];exact h1
     ·exact heq j (by omega) g2⟩,by simp,rfl,rfl⟩
   ·by_cases h2:a.getD k 0<b.getD k 0
    ·rw [cmpV_lt (show vw a<vw b from vl_cmp b64_pos ha hb hab hka h2 fun j g1 g2=>heq j (by omega) g2)]
     exact GoalL.allRet (s:=SCw a b (k+1)) known mixed none_ok _ (cw_lt a b (k+1) (by omega) (by omega) (by omega) (by omega) (by rw [e0];exact h1) (by rw [e0];exact h2)) fun T H h=>h
    ·rw [cmpV_gt (show vw b<vw a from vl_cmp b64_pos hb ha hab.symm (by omega) (show b.getD k 0<a.getD k 0 by omega) fun j g1 g2=>(heq j (by omega) (by omega)).symm)]
     exact GoalL.allRet (s:=SCw a b (k+1)) known mixed none_ok _ (cw_gt a b (k+1) (by omega) (by omega) (by omega) (by omega) (by rw [e0];exact h1) (by rw [e0];exact h2)) fun T H h=>h
 ·by_cases hlt:a.length<b.length
  ·rw [cmpV_lt (show vw a<vw b from vl_short b64_pos ha hb tb hlt)]
   exact GoalL.ret known mixed none_ok 3 _ (cw_low a b (by omega) (by omega)) fun T H h=>h
  ·rw [cmpV_gt (show vw b<vw a from vl_short b64_pos hb ha ta (by omega))]
   exact GoalL.ret known mixed none_ok 3 _ (cw_high a b (by omega) (by omega)) fun T H h=>h
theorem cCmpW_ok:cCmpW.Ok Tryz.prog:=fun⟨a,b,_⟩ h=>cmpW_holds a b h
end
end Go.Proofs.YtccmlbinkgbpgaaGreatDoor
/- Package num: the product of lists of words. -/
namespace Go.Proofs.YtccmlbinkgbpgaaGreatDoor
open Go.RowKit Sv
set_option maxRecDepth 100000
set_option linter.unusedVariables false
noncomputable section
def mlHi (x y:Int):Int:=x*y/18446744073709551616
def mlLo (x y:Int):Int:=x*y%18446744073709551616
def okM (x y:Int):Bool:=(decide (0≤x)&&decide (x<18446744073709551616))&&(decide (0≤y)&&decide (y<18446744073709551616))
noncomputable def cMul64:Ctr:={f:=120,ps:=[tU,tU],rs:=[tU,tU],fresh:=true,pre:=fun d=>okM d.1 d.2.1,fn:=fun d=>(mlHi d.1 d.2.1,(mlLo d.1 d.2.1,()))}
noncomputable def mwCs:VCaller:=ctrs [cTrim,cMul64]
noncomputable def BMul:Code:=(Tryz.f123.body).getD .skip
abbrev mwO:List Nat:=[1,1,0,1,0,0]
abbrev mwB:List Nat:=[1,1,0,1,0,0,1,1,0,0]
abbrev mwI:List Nat:=[1,1,0,1,0,0,1,1,0,0,1,1,0,1,0,0]
def SMo (a b out:List Int) (i:Nat):St:={n:=80,sl:=[(1,lu b),(5,obU 64 out),(20,lu a),(21,iv a.length),(22,iv i)],en:=[(64,oeU out)],next:=65}
def SMi (a b out:List Int) (i:Nat) (x c:Int) (j:Nat):St:={n:=80,sl:=[(1,lu b),(5,obU 64 out),(6,iv i),(7,uv x),(8,uv c),(20,lu a),(21,iv a.length),(22,iv i),(27,lu b),(28,iv b.length),(29,iv j)],en:=[(64,oeU out)],next:=65}
def mwLo (x y o c:Int):Int:=(((((mlLo x y).toNat+o.toNat+Int.toNat 0)%2^64)+c.toNat+Int.toNat 0)%2^64:Nat)
def mwHi (x y o c:Int):Int:=IntKind.u64.wrap (IntKind.u64.wrap (mlHi x y+(((((mlLo x y).toNat+o.toNat+Int.toNat 0)/2^64):Nat):Int))+(((((((mlLo x y).toNat+o.toNat+Int.toNat 0)%2^64)+c.toNat+Int.toNat 0)/2^64):Nat):Int))
def SMg (out:List Int):St:={n:=80,sl:=[(5,lu out)],en:=[],next:=64}
theorem mw_start (a b:List Int) (h1: -9223372036854775808≤(↑a.length:Int)+(↑b.length:Int)∧(↑a.length:Int)+(↑b.length:Int)≤9223372036854775807) (h2:Int.toNat ((↑a.length:Int)+(↑b.length:Int))≤1000000) (h3:(Int.toNat ((↑a.length:Int)+(↑b.length:Int)))=(zerW (a.length+b.length)).length) (h4:(Cap.known (Int.toNat ((↑a.length:Int)+(↑b.length:Int))))=(Cap.known (a.length+b.length))) (h5:(capOf (zerW (a.length+b.length)).length)=(capOf (a.length+b.length))) (h6:(List.flatten (List.replicate (Int.toNat ((↑a.length:Int)+(↑b.length:Int))) (List.map AV.raw (Array.toList #[Value.int .u64 (0:Int)]))))=(List.flatMap (fun x=>[AV.raw (Value.int .u64 x)]) (zerW (a.length+b.length)))) (h7:(a.length+b.length)=(zerW (a.length+b.length)).length):
  Tst.path (vrun0 Tryz.prog mwCs (fl BMul []) 3 80 [lu a,lu b]) [] (toSt Tryz.prog 80 .normal [(64,64,some (a.length+b.length))] (SMo a b (zerW (a.length+b.length)) 0)):=
 mp (an (fits_i64 h1) (an (show(decide ((0:Int)≤(↑a.length:Int)+(↑b.length:Int)))=true from decide_eq_true (by omega)) (an (show(decide ((0:Int)≤(↑a.length:Int)+(↑b.length:Int)))=true from decide_eq_true (by omega)) (an (show(decide (Int.toNat ((↑a.length:Int)+(↑b.length:Int))≤Int.toNat ((↑a.length:Int)+(↑b.length:Int))))=true from decide_eq_true (by omega)) (an (show(bounded (Int.toNat ((↑a.length:Int)+(↑b.length:Int))) (8:Nat))=true from bounded_of h2 (by omega)) (an (rr b) (an (an h3 (an h4 h5)) (an (rr a) (an (rr ((↑a.length:Int))) (an (rr ((0:Int))) (an (an h6 h7) trivial)))))))))))
theorem mw_go (a b out:List Int) (i:Nat) (h1:(↑i:Int)<(↑a.length:Int)):
  Tst.path (vrun Tryz.prog mwCs (fl BMul mwO) 2 (SMo a b out i)) [true] (toSt Tryz.prog 80 .normal [(64,64,none)] (SMo a b out i)):=
 mp (an (decide_eq_true h1) (an (rr b) (an (an (rr ((0:Nat))) (an (rr out.length) (rr (capOf out.length)))) (an (rr a) (an (rr ((↑a.length:Int))) (an (rr ((↑i:Int))) (an (show(fitOpt Tryz.prog none (optOwn (nat_lit 179) tU out) (nat_lit 179) tU out)from(fitOpt_refl _ _ _ _)) trivial)))))))
theorem mw_stop (a b out:List Int) (i:Nat) (h1:¬(↑i:Int)<(↑a.length:Int)):
  Tst.path (vrun Tryz.prog mwCs (fl BMul mwO) 2 (SMo a b out i)) [false] (toSt Tryz.prog 80 (.exit 0) [(64,64,none)] (SMo a b out i)):=
 mp (an (decide_eq_false h1) (an (rr b) (an (an (rr ((0:Nat))) (an (rr out.length) (rr (capOf out.length)))) (an (rr a) (an (rr ((↑a.length:Int))) (an (rr ((↑i:Int))) (an (show(fitOpt Tryz.prog none (optOwn (nat_lit 179) tU out) (nat_lit 179) tU out)from(fitOpt_refl _ _ _ _)) trivial)))))))
theorem mw_in (a b out:List Int) (i:Nat) (h1:i<a.length):
  Tst.path (vrun Tryz.prog mwCs (fl BMul mwB) 3 (SMo a b out i)) [] (toSt Tryz.prog 80 .normal [(64,64,none)] (SMi a b out i (a.getD i 0) 0 0)):=
 mp (an (show(decide ((0:Int)≤(↑i:Int)))=true from decide_eq_true (by omega)) (an (decide_eq_true h1) (an (rr b) (an (an (rr ((0:Nat))) (an (rr out.length) (rr (capOf out.length)))) (an (rr ((↑i:Int))) (an (rr (List.getD a i (0:Int))) (an (rr ((0:Int))) (an (rr a) (an (rr ((↑a.length:Int))) (an (rr ((↑i:Int))) (an (rr b) (an (rr ((↑b.length:Int))) (an (rr ((0:Int))) (an (show(fitOpt Tryz.prog none (optOwn (nat_lit 179) tU out) (nat_lit 179) tU out)from(fitOpt_refl _ _ _ _)) trivial))))))))))))))
theorem mw_jgo (a b out:List Int) (i:Nat) (x c:Int) (j:Nat) (h1:(↑j:Int)<(↑b.length:Int)) (h2:j<b.length) (h3:(okM x (List.getD b j (0:Int)))=true) (h4: -9223372036854775808≤(↑i:Int)+(↑j:Int)∧(↑i:Int)+(↑j:Int)≤9223372036854775807) (h5:Int.toNat ((↑i:Int)+(↑j:Int))<out.length) (h6: -9223372036854775808≤(↑j:Int)+1∧(↑j:Int)+1≤9223372036854775807) (h7:out.length=(List.set out (Int.toNat ((↑i:Int)+(↑j:Int))) (mwLo x (List.getD b j (0:Int)) (List.getD out (Int.toNat ((↑i:Int)+(↑j:Int))) (0:Int)) c)).length) (h8:(capOf out.length)=(capOf (List.set out (Int.toNat ((↑i:Int)+(↑j:Int))) (mwLo x (List.getD b j (0:Int)) (List.getD out (Int.toNat ((↑i:Int)+(↑j:Int))) (0:Int)) c)).length)) (h9:(IntKind.wrap IntKind.u64 (IntKind.wrap IntKind.u64 (mlHi x (List.getD b j (0:Int))+(↑((Int.toNat (mlLo x (List.getD b j (0:Int)))+Int.toNat (List.getD out (Int.toNat ((↑i:Int)+(↑j:Int))) (0:Int))+Int.toNat (0:Int))/(2:Nat)^(64:Nat)):Int))+(↑(((Int.toNat (mlLo x (List.getD b j (0:Int)))+Int.toNat (List.getD out (Int.toNat ((↑i:Int)+(↑j:Int))) (0:Int))+Int.toNat (0:Int))%(2:Nat)^(64:Nat)+Int.toNat c+Int.toNat (0:Int))/(2:Nat)^(64:Nat)):Int)))=(mwHi x (List.getD b j (0:Int)) (List.getD out (Int.toNat ((↑i:Int)+(↑j:Int))) (0:Int)) c)) (h10:(List.set out (Int.toNat ((↑i:Int)+(↑j:Int))) (↑(((Int.toNat (mlLo x (List.getD b j (0:Int)))+Int.toNat (List.getD out (Int.toNat ((↑i:Int)+(↑j:Int))) (0:Int))+Int.toNat (0:Int))%(2:Nat)^(64:Nat)+Int.toNat c+Int.toNat (0:Int))%(2:Nat)^(64:Nat)):Int))=(List.set out (Int.toNat ((↑i:Int)+(↑j:Int))) (mwLo x (List.getD b j (0:Int)) (List.getD out (Int.toNat ((↑i:Int)+(↑j:Int))) (0:Int)) c))):
  Tst.path (vall Tryz.prog mwCs (fl BMul mwI) (SMi a b out i x c j)) [true] (toSt Tryz.prog 80 .normal [(64,64,none)] (SMi a b (out.set ((i:Int)+(j:Int)).toNat (mwLo x (b.getD j 0) (out.getD ((i:Int)+(j:Int)).toNat 0) c)) i x (mwHi x (b.getD j 0) (out.getD ((i:Int)+(j:Int)).toNat 0) c) (j+1))):=
 mp (an (decide_eq_true h1) (an (show(decide ((0:Int)≤(↑j:Int)))=true from decide_eq_true (by omega)) (an (decide_eq_true h2) (an h3 (an (fits_i64 h4) (an (show(decide ((0:Int)≤(↑i:Int)+(↑j:Int)))=true from decide_eq_true (by omega)) (an (decide_eq_true h5) (an (show(ownHas 179 tU (optOwn (nat_lit 179) tU out) ((0:Nat)+Int.toNat ((↑i:Int)+(↑j:Int))))=true from(by simp only [Nat.zero_add]<;>exact(show(ownHas 179 tU (optOwn (nat_lit 179) tU out) (Int.toNat ((↑i:Int)+(↑j:Int))))=true from(by rw [ownHas_optOwn];exact decide_eq_true h5)))) (an (fits_i64 h4) (an (show(decide ((0:Int)≤(↑i:Int)+(↑j:Int)))=true from decide_eq_true (by omega)) (an (decide_eq_true h5) (an (show(ownHas 179 tU (optOwn (nat_lit 179) tU out) ((0:Nat)+Int.toNat ((↑i:Int)+(↑j:Int))))=true from(by simp only [Nat.zero_add]<;>exact(show(ownHas 179 tU (optOwn (nat_lit 179) tU out) (Int.toNat ((↑i:Int)+(↑j:Int))))=true from(by rw [ownHas_optOwn];exact decide_eq_true h5)))) (an (fits_i64 h6) (an (rr b) (an (an (rr ((0:Nat))) (an h7 h8)) (an (rr ((↑i:Int))) (an (rr x) (an (show(IntKind.wrap IntKind.u64 (IntKind.wrap IntKind.u64 (mlHi x (List.getD b j (0:Int))+(↑((Int.toNat (mlLo x (List.getD b j (0:Int)))+Int.toNat (List.getD (blkXs tU (optOwn (nat_lit 179) tU out)) ((0:Nat)+Int.toNat ((↑i:Int)+(↑j:Int))) (0:Int))+Int.toNat (0:Int))/(2:Nat)^(64:Nat)):Int))+(↑(((Int.toNat (mlLo x (List.getD b j (0:Int)))+Int.toNat (List.getD (blkXs tU (optOwn (nat_lit 179) tU out)) ((0:Nat)+Int.toNat ((↑i:Int)+(↑j:Int))) (0:Int))+Int.toNat (0:Int))%(2:Nat)^(64:Nat)+Int.toNat c+Int.toNat (0:Int))/(2:Nat)^(64:Nat)):Int)))=(mwHi x (List.getD b j (0:Int)) (List.getD out (Int.toNat ((↑i:Int)+(↑j:Int))) (0:Int)) c)from(by simp only [blkXs_optOwn,Nat.zero_add]<;>exact h9)) (an (rr a) (an (rr ((↑a.length:Int))) (an (rr ((↑i:Int))) (an (rr b) (an (rr ((↑b.length:Int))) (an (show((↑j:Int)+1)=((↑(j+(1:Nat)):Int))from(by omega)) (an (show(List.set (blkXs tU (optOwn (nat_lit 179) tU out)) ((0:Nat)+Int.toNat ((↑i:Int)+(↑j:Int))) (↑(((Int.toNat (mlLo x (List.getD b j (0:Int)))+Int.toNat (List.getD (blkXs tU (optOwn (nat_lit 179) tU out)) ((0:Nat)+Int.toNat ((↑i:Int)+(↑j:Int))) (0:Int))+Int.toNat (0:Int))%(2:Nat)^(64:Nat)+Int.toNat c+Int.toNat (0:Int))%(2:Nat)^(64:Nat)):Int))=(List.set out (Int.toNat ((↑i:Int)+(↑j:Int))) (mwLo x (List.getD b j (0:Int)) (List.getD out (Int.toNat ((↑i:Int)+(↑j:Int))) (0:Int)) c))from(by simp only [blkXs_optOwn,Nat.zero_add]<;>exact h10)) trivial)))))))))))))))))))))))))
theorem mw_jend (a b out:List Int) (i:Nat) (x c:Int) (j:Nat) (h1:¬(↑j:Int)<(↑b.length:Int)):
  Tst.path (vall Tryz.prog mwCs (fl BMul mwI) (SMi a b out i x c j)) [false] (toSt Tryz.prog 80 (.exit 2) [(64,64,none)] (SMi a b out i x c j)):=
 mp (an (decide_eq_false h1) (an (rr b) (an (an (rr ((0:Nat))) (an (rr out.length) (rr (capOf out.length)))) (an (rr ((↑i:Int))) (an (rr x) (an (rr c) (an (rr a) (an (rr ((↑a.length:Int))) (an (rr ((↑i:Int))) (an (rr b) (an (rr ((↑b.length:Int))) (an (rr ((↑j:Int))) (an (show(fitOpt Tryz.prog none (optOwn (nat_lit 179) tU out) (nat_lit 179) tU out)from(fitOpt_refl _ _ _ _)) trivial)))))))))))))
theorem mw_row (a b out:List Int) (i:Nat) (x c:Int) (j:Nat) (h1: -9223372036854775808≤(↑i:Int)+(↑b.length:Int)∧(↑i:Int)+(↑b.length:Int)≤9223372036854775807) (h2:Int.toNat ((↑i:Int)+(↑b.length:Int))<out.length) (h3:out.length=(List.set out (Int.toNat ((↑i:Int)+(↑b.length:Int))) c).length) (h4:(capOf out.length)=(capOf (List.set out (Int.toNat ((↑i:Int)+(↑b.length:Int))) c).length)):
  Tst.path (vall Tryz.prog mwCs (List.drop 4 (fl BMul mwB)) (SMi a b out i x c j)) [] (toSt Tryz.prog 80 .normal [(64,64,none)] (SMo a b (out.set ((i:Int)+(b.length:Int)).toNat c) i)):=
 mp (an (fits_i64 h1) (an (show(decide ((0:Int)≤(↑i:Int)+(↑b.length:Int)))=true from decide_eq_true (by omega)) (an (decide_eq_true h2) (an (show(ownHas 179 tU (optOwn (nat_lit 179) tU out) ((0:Nat)+Int.toNat ((↑i:Int)+(↑b.length:Int))))=true from(by simp only [Nat.zero_add]<;>exact(show(ownHas 179 tU (optOwn (nat_lit 179) tU out) (Int.toNat ((↑i:Int)+(↑b.length:Int))))=true from(by rw [ownHas_optOwn];exact decide_eq_true h2)))) (an (rr b) (an (an (rr ((0:Nat))) (an h3 h4)) (an (rr a) (an (rr ((↑a.length:Int))) (an (rr ((↑i:Int))) (an (show(List.set (blkXs tU (optOwn (nat_lit 179) tU out)) ((0:Nat)+Int.toNat ((↑i:Int)+(↑b.length:Int))) c)=(List.set out (Int.toNat ((↑i:Int)+(↑b.length:Int))) c)from(by simp only [blkXs_optOwn,Nat.zero_add]<;>rfl)) trivial))))))))))
theorem mw_next (a b out:List Int) (i:Nat) (h1: -9223372036854775808≤(↑i:Int)+1∧(↑i:Int)+1≤9223372036854775807):
  Tst.path (vall Tryz.prog mwCs (List.drop 3 (fl BMul mwO)) (SMo a b out i)) [] (toSt Tryz.prog 80 .normal [(64,64,none)] (SMo a b out (i+1))):=
 mp (an (fits_i64 h1) (an (rr b) (an (an (rr ((0:Nat))) (an (rr out.length) (rr (capOf out.length)))) (an (rr a) (an (rr ((↑a.length:Int))) (an (show((↑i:Int)+1)=((↑(i+(1:Nat)):Int))from(by omega)) (an (show(fitOpt Tryz.prog none (optOwn (nat_lit 179) tU out) (nat_lit 179) tU out)from(fitOpt_refl _ _ _ _)) trivial)))))))
theorem mw_fit (a b out:List Int) (i:Nat):
  Tst.path ((Tst.ret (R.normal ((SMo a b out i).T.set 5 (some (lu out))) ((SMo a b out i).H.drop 64) []):Tst R)) [] (toSt Tryz.prog 80 .normal [] (SMg out)):=
 mp (an (rr out) trivial)
theorem mw_ret (out:List Int) (h1:out.length≤(1000000:Nat)):
  Tst.path (vall Tryz.prog mwCs (List.drop 4 (fl BMul [])) (SMg out)) [] (toRet Tryz.prog Tryz.f123 false (lu (trW out))):=
 mp (an (decide_eq_true h1) (rr (trW out)))
def mulW (x y:List Int):List Int:=dgN 18446744073709551616 (vw x*vw y)
noncomputable def cMulW:Ctr:={f:=123,ps:=[.list false tU, .list false tU],rs:=[.list false tU],fresh:=false,pre:=fun d=>okW2 d.1 d.2.1,fn:=fun d=>(mulW d.1 d.2.1,())}
theorem holds_pairU {f:FuncId} {args:List AV} {a b:Int} {fresh:Bool} (h:∀(w:World) (F:Env) (xs:List Value),OkF w F→Sv.Grd F→Dens F args xs→Calls Tryz.prog f xs.toArray w fun e w'=>e= .returned (.tuple #[.int .u64 a, .int .u64 b])∧Below w.heap.size w w'):
  Holds Tryz.prog fresh f args (.tuple [uv a,uv b]):=fun w F xs hF hG hd=>
 (h w F xs hF hG hd).mono fun e w' ⟨g1,g2⟩=>⟨_,⟨F.at',fun _=>none⟩,g1, .tuple (.cons (.raw _) (.cons (.raw _) .nil)),⟨hF.glob,hF.all,fun b A h=>by cases h⟩,(fun b A h=>by cases h),g2⟩
theorem okM_iff {x y:Int}:okM x y=true↔(0≤x∧x<18446744073709551616)∧(0≤y∧y<18446744073709551616):=by
 unfold okM
 simp only [Bool.and_eq_true,decide_eq_true_eq]
theorem mul64_holds (X Y:Nat) (hx:X<18446744073709551616) (hy:Y<18446744073709551616):Holds Tryz.prog true 120 [uv X,uv Y] (.tuple [uv (mlHi X Y),uv (mlLo X Y)]):=
 holds_pairU fun w F xs hF hG hd=>by
  cases hd with
  |cons d1 d2=>
   cases d2 with
   |cons d2 d3=>
    cases d3
    rw [d1.raw_eq,d2.raw_eq]
    exact(Tryz.bits_Mul64 X Y hx hy w).mono fun e w' ⟨h1,h2⟩=>⟨h1,by subst h2;exact Below.refl _ _⟩
theorem mul64_int (x y:Int) (h:okM x y=true):Holds Tryz.prog true 120 [uv x,uv y] (.tuple [uv (mlHi x y),uv (mlLo x y)]):=by
 obtain⟨⟨x0,x1⟩,y0,y1⟩:=okM_iff.1 h
 have:=mul64_holds x.toNat y.toNat (by omega) (by omega)
 rw [Int.toNat_of_nonneg x0,Int.toNat_of_nonneg y0]at this
 exact this
theorem cMul64_ok:cMul64.Ok Tryz.prog:=fun⟨x,y,_⟩ h=>mul64_int x y h
theorem mw_ok:CallOk Tryz.prog (gS mwCs):=ctrs_ok fun c hc=>by
 simp only [List.mem_cons,List.not_mem_nil,or_false]at hc
 rcases hc with rfl |rfl
 ·exact cTrim_ok
 ·exact cMul64_ok
theorem wrapU {x:Int} (h:0≤x∧x<18446744073709551616):IntKind.wrap .u64 x=x:=by
 unfold IntKind.wrap
 have e:IntKind.signed .u64=false:=rfl
 have e2:IntKind.bits .u64=64:=rfl
 simp only [e,e2,Bool.false_and,Bool.false_eq_true,if_false]
 rw [show(2:Int)^64=18446744073709551616 from rfl]
 omega
theorem mul_law {x y o c:Int} (hx:0≤x∧x<18446744073709551616) (hy:0≤y∧y<18446744073709551616) (ho:0≤o∧o<18446744073709551616) (hc:0≤c∧c<18446744073709551616):
  mwLo x y o c+18446744073709551616*mwHi x y o c=x*y+o+c∧(0≤mwLo x y o c∧mwLo x y o c<18446744073709551616)∧(0≤mwHi x y o c∧mwHi x y o c<18446744073709551616):=by
 have hp0:0≤x*y:=Int.mul_nonneg hx.1 hy.1
 have hp1:x*y≤18446744073709551615*18446744073709551615:=Int.mul_le_mul (by omega) (by omega) hy.1 (by decide)
 unfold mwLo mwHi mlHi mlLo
 generalize x*y=p at*
 rw [show(2:Nat)^64=18446744073709551616 from rfl]
 have e0:Int.toNat 0=0:=rfl
 rw [e0]
 have hr:=Int.emod_nonneg p (show(18446744073709551616:Int)≠0 by decide)
 have hr2:=Int.emod_lt_of_pos p (show(0:Int)<18446744073709551616 by decide)
 have hq:=Int.emod_add_mul_ediv p 18446744073709551616
 generalize p%18446744073709551616=r at*
 generalize p/18446744073709551616=q at*
 have hq0:0≤q∧q≤18446744073709551614:=by omega
 obtain⟨R,rfl⟩:∃R:Nat,r=(R:Int):=⟨r.toNat,by omega⟩
 obtain⟨O,rfl⟩:∃O:Nat,o=(O:Int):=⟨o.toNat,by omega⟩
 obtain⟨C,rfl⟩:∃C:Nat,c=(C:Int):=⟨c.toNat,by omega⟩
 simp only [Int.toNat_natCast,Nat.add_zero]
 have k1:(R+O)/18446744073709551616≤1:=by omega
 have k3:=Nat.mod_add_div (R+O) 18446744073709551616
 have k4:=Nat.mod_lt (R+O) (show 18446744073709551616>0 by decide)
 generalize (R+O)/18446744073709551616=c1 at*
 generalize (R+O)%18446744073709551616=l1 at*
 have k5:=Nat.mod_add_div (l1+C) 18446744073709551616
 have k6:=Nat.mod_lt (l1+C) (show 18446744073709551616>0 by decide)
 have k7:(l1+C)/18446744073709551616≤1:=by omega
 generalize (l1+C)/18446744073709551616=c2 at*
 generalize (l1+C)%18446744073709551616=l2 at*
 rw [wrapU (x:=q+(c1:Int)) (by omega),wrapU (x:=q+(c1:Int)+(c2:Int)) (by omega)]
 omega
theorem mw_e0:List.drop 4 (fl BMul [])≠[]:=fun h=>by
 have:(List.drop 4 (fl BMul [])).isEmpty=false:=by kernel_rfl
 rw [h]at this;cases this
theorem row_next {P b lo hi x y o c V W M:Int} (h:lo+b*hi=x*y+o+c) (hv:V+P*c=M):V+P*(lo-o)+P*b*hi=M+P*(x*y):=by
 have h1:P*(lo+b*hi)=P*(x*y+o+c):=by rw [h]
 rw [Int.mul_add,Int.mul_add,Int.mul_add,←Int.mul_assoc]at h1
 rw [Int.mul_sub]
 omega
theorem mulW_holds (x y:List Int) (h:okW2 x y=true):Holds Tryz.prog false 123 [lu x,lu y] (lu (mulW x y)):=by
 unfold okW2 at h
 simp only [Bool.and_eq_true,decide_eq_true_eq]at h
 obtain⟨hx,hy,lx,ly⟩:=h
 have hx:=dgB_iff.1 hx
 have hy:=dgB_iff.1 hy
 have hS:=mw_ok
 have e1:((x.length:Int)+(y.length:Int)).toNat=x.length+y.length:=by omega
 refine holds_fl (c:=BMul) Tryz.func123 rfl rfl fun w0 F=> ?_
 refine GoalL.to known mixed hS 3 _ (mw_start x y (by omega) (by omega) (by rw [zer_len,e1]) (by rw [e1]) (by rw [zer_len]) (by rw [e1];exact zer_cells _) (by rw [zer_len])) (by kernel_rfl) ?_
 refine GoalL.loop (ι:={s:List Int×Nat//s.2≤x.length∧s.1.length=x.length+y.length∧Dg 18446744073709551616 s.1∧vw s.1=vw (x.take s.2)*vw y∧∀k,s.2+y.length≤k→s.1.getD k 0=0}) (id:=0) (b:=cat BMul mwO) (rest:=List.drop 4 (fl BMul [])) (by kernel_rfl) (fun s=>SMo x y s.1.1 s.1.2) (fun s=>x.length-s.1.2)
  ⟨(zerW (x.length+y.length),0),Nat.zero_le _,zer_len _,zer_dg _,by
    show vl _ (List.replicate _ 0)=vl _ (x.take 0)*_
    rw [vl_rep];simp [vl],fun k _=>by
    show(List.replicate _ (0:Int)).getD k 0=0
    rw [List.getD_eq_getElem?_getD,List.getElem?_replicate];split<;>rfl⟩ (fun _=>rfl) ?_
 rintro⟨⟨out,i⟩,hi,ho,hdg,hval,hz⟩
 have hi:i≤x.length:=hi
 have ho:out.length=x.length+y.length:=ho
 have hdg:Dg 18446744073709551616 out:=hdg
 have hval:vw out=vw (x.take i)*vw y:=hval
 have hz:∀k,i+y.length≤k→out.getD k 0=0:=hz
 by_cases hlt:i<x.length
 ·have hxi:=hx.get (by decide) i
  refine GoalL.st (s:=SMo x y out i) known mixed hS 2 _ (mw_go x y out i (by omega)) (by kernel_rfl) ?_
  refine goalL_blk (id:=1) (c:=cat BMul mwB) (rest:=List.drop 3 (fl BMul mwO)) (by kernel_rfl) ?_
  refine GoalL.st (s:=SMo x y out i) known mixed hS 3 _ (mw_in x y out i hlt) (by kernel_rfl) ?_
  refine GoalL.loop (ι:={s:List Int×Int×Nat//s.2.2≤y.length∧s.1.length=x.length+y.length∧Dg 18446744073709551616 s.1∧(0≤s.2.1∧s.2.1<18446744073709551616)∧vw s.1+18446744073709551616^(i+s.2.2)*s.2.1=vw out+18446744073709551616^i*(x.getD i 0*vw (y.take s.2.2))∧∀k,i+y.length≤k→s.1.getD k 0=0}) (id:=2) (b:=cat BMul mwI) (rest:=List.drop 4 (fl BMul mwB)) (by kernel_rfl) (fun s=>SMi x y s.1.1 i (x.getD i 0) s.1.2.1 s.1.2.2) (fun s=>y.length-s.1.2.2)
   ⟨(out,0,0),Nat.zero_le _,ho,hdg,⟨Int.le_refl 0,show(0:Int)<18446744073709551616 by decide⟩,by simp [vw,vl],hz⟩ (fun _=>rfl) ?_
  rintro⟨⟨ou,c,j⟩,hj,ho2,hdg2,hc,hinv,hz2⟩
  have hj:j≤y.length:=hj
  have ho2:ou.length=x.length+y.length:=ho2
  have hdg2:Dg 18446744073709551616 ou:=hdg2
  have hc:0≤c∧c<18446744073709551616:=hc
  have hinv:vw ou+18446744073709551616^(i+j)*c=vw out+18446744073709551616^i*(x.getD i 0*vw (y.take j)):=hinv
  have hz2:∀k,i+y.length≤k→ou.getD k 0=0:=hz2
  have e2:((i:Int)+(j:Int)).toNat=i+j:=by omega
  have e3:((i:Int)+(y.length:Int)).toNat=i+y.length:=by omega
  by_cases hlj:j<y.length
  ·have hyj:=hy.get (by decide) j
   have hoj:=hdg2.get (by decide) (i+j)
   obtain⟨g1,g2,g3⟩:=mul_law hxi hyj hoj hc
   refine GoalL.all (s:=SMi x y ou i (x.getD i 0) c j) (s':=SMi x y (ou.set ((i:Int)+(j:Int)).toNat (mwLo (x.getD i 0) (y.getD j 0) (ou.getD ((i:Int)+(j:Int)).toNat 0) c)) i (x.getD i 0) (mwHi (x.getD i 0) (y.getD j 0) (ou.getD ((i:Int)+(j:Int)).toNat 0) c) (j+1)) known mixed hS _ (mw_jgo x y ou i (x.getD i 0) c j (by omega) hlj (okM_iff.2 ⟨hxi,hyj⟩) (by omega) (by omega) (by omega) (by rw [List.length_set]) (by rw [List.length_set]) rfl rfl) (by kernel_rfl) ?_
   rw [e2]
   refine⟨⟨(ou.set (i+j) (mwLo (x.getD i 0) (y.getD j 0) (ou.getD (i+j) 0) c),mwHi (x.getD i 0) (y.getD j 0) (ou.getD (i+j) 0) c,j+1),hlj,by rw [List.length_set];exact ho2,hdg2.set g2,g3, ?_,fun k hk=> ?_⟩,by simp;omega,rfl,rfl⟩
   ·show vl 18446744073709551616 (ou.set (i+j) (mwLo (x.getD i 0) (y.getD j 0) (ou.getD (i+j) 0) c))+18446744073709551616^(i+(j+1))*mwHi (x.getD i 0) (y.getD j 0) (ou.getD (i+j) 0) c=vl 18446744073709551616 out+18446744073709551616^i*(x.getD i 0*vl 18446744073709551616 (y.take (j+1)))
    rw [vl_set _ _ _ _ (by omega),←Nat.add_assoc,Int.pow_succ,vl_take',Int.mul_add,Int.mul_add]
    have:=row_next (W:=0) g1 hinv
    unfold vw at this
    rw [this,Int.add_assoc,Int.pow_add]
    congr 2
    rw [Int.mul_assoc,Int.mul_left_comm (x.getD i 0)]
   ·rw [List.getD_eq_getElem?_getD,List.getElem?_set_ne (by omega),←List.getD_eq_getElem?_getD]
    exact hz2 k hk
  ·refine GoalL.all (s:=SMi x y ou i (x.getD i 0) c j) known mixed hS _ (mw_jend x y ou i (x.getD i 0) c j (by omega)) (by kernel_rfl) ?_
   refine onN_exit (inB_exit ?_)
   obtain rfl:j=y.length:=by omega
   refine GoalL.all (s:=SMi x y ou i (x.getD i 0) c y.length) (s':=SMo x y (ou.set ((i:Int)+(y.length:Int)).toNat c) i) known mixed hS _ (mw_row x y ou i (x.getD i 0) c y.length (by omega) (by omega) (by rw [List.length_set]) (by rw [List.length_set])) (by kernel_rfl) ?_
   rw [e3]
   refine GoalL.all (s:=SMo x y (ou.set (i+y.length) c) i) known mixed hS _ (mw_next x y (ou.set (i+y.length) c) i (by omega)) (by kernel_rfl) ?_
   refine⟨⟨(ou.set (i+y.length) c,i+1),hlt,by rw [List.length_set];exact ho2,hdg2.set hc, ?_,fun k hk=> ?_⟩,by simp;omega,rfl,rfl⟩
   ·have hk0:=hz2 (i+y.length) (Nat.le_refl _)
    show vl _ (ou.set (i+y.length) c)=vl _ (x.take (i+1))*_
    rw [vl_set _ _ _ _ (by omega),hk0,Int.sub_zero,vl_take',Int.add_mul,Int.mul_assoc]
    rw [List.take_length,hval]at hinv
    exact hinv
   ·rw [List.getD_eq_getElem?_getD,List.getElem?_set_ne (by omega),←List.getD_eq_getElem?_getD]
    exact hz2 k (by omega)
 ·refine GoalL.st (s:=SMo x y out i) known mixed hS 2 _ (mw_stop x y out i (by omega)) (by kernel_rfl) ?_
  refine onN_exit (onN_exit (inB_exit ?_))
  obtain rfl:i=x.length:=by omega
  rw [List.take_length]at hval
  unfold mulW
  rw [←hval,←trW_dg hdg]
  refine GoalL.freezeSlot mw_e0 (i:=64) (s:=5) (e2:=179) (t:=tU) (xs:=out) (cap:=capOf out.length) (by kernel_rfl) (by kernel_rfl) ?_
  refine GoalL.refit mw_e0 (σ:=[]) (s:=SMg out) (mw_fit x y out x.length) ?_
  exact GoalL.allRet (s:=SMg out) known mixed hS _ (mw_ret out (by omega)) fun T H h=>h
theorem cMulW_ok:cMulW.Ok Tryz.prog:=fun⟨x,y,_⟩ h=>mulW_holds x y h
end
end Go.Proofs.YtccmlbinkgbpgaaGreatDoor
/- Package num: integers as a machine integer with words behind it: what they stand for; plain facts. -/
namespace Go.Proofs.YtccmlbinkgbpgaaGreatDoor
open Go.RowKit Sv
set_option maxRecDepth 100000
abbrev NI:=Int×List Int
def valI (a:NI):Int:=if a.2=[]then a.1 else a.1*vw a.2
noncomputable def mkI (z:Int):Int×List Int:=if-9223372036854775807≤z∧z≤9223372036854775807 then(z,[])else(if z<0 then-1 else 1,dgN 18446744073709551616 z.natAbs)
def i64B (z:Int):Bool:=decide (-9223372036854775808≤z)&&decide (z≤9223372036854775807)
def smI (a:NI):Bool:=List.isEmpty (α:=Int) a.2
def okN (n:Nat) (a:NI):Bool:=match a.2 with
 |[]=>i64B a.1
 |x::l=>(a.1==1||a.1== -1)&&(dgB (x::l)&&(tmB (x::l)&&(decide (9223372036854775807<vw (x::l))&&decide ((x::l).length≤n))))
def okI (a:NI):Bool:=okN 100000 a
def absI (n:Int):Int:=n.natAbs
def prW (a:NI):List Int:=if a.2=[]then(if a.1=0 then []else [absI a.1])else a.2
def negI (a:NI):Bool:=decide (a.1<0)
noncomputable def iAdd (a b:NI):Int×List Int:=if smI a&&(smI b&&i64B (a.1+b.1))then(a.1+b.1,[])else mkI (valI a+valI b)
noncomputable def iMul (a b:NI):Int×List Int:=mkI (valI a*valI b)
noncomputable def iNeg (a:NI):Int×List Int:=mkI (-valI a)
noncomputable def iAbs (a:NI):Int×List Int:=mkI (valI a).natAbs
noncomputable def iSub (a b:NI):Int×List Int:=iAdd a (iNeg b)
def sgn (z:Int):Int:=if z<0 then-1 else if z=0 then 0 else 1
def iSign (a:NI):Int:=sgn (valI a)
def iCmp (a b:NI):Int:=sgn (valI a-valI b)
theorem dg1 {x:Int} (h:0≤x∧x<18446744073709551616):Dg 18446744073709551616 [x]:= .cons h .nil
theorem tm1 {x:Int} (h:x≠0):Tm [x]:=Tm.cons .nil fun _=>h
theorem vw_one (x:Int):vw [x]=x:=vl_one _ _
theorem i64B_iff {z:Int}:i64B z=true↔ -9223372036854775808≤z∧z≤9223372036854775807:=by
 unfold i64B
 rw [Bool.and_eq_true,decide_eq_true_eq,decide_eq_true_eq]
theorem smI_iff {a:NI}:smI a=true↔a.2=[]:=by unfold smI;exact List.isEmpty_iff
theorem smI_not {a:NI}:smI a=false↔a.2≠[]:=by
 constructor
 ·intro h e;rw [smI_iff.2 e]at h;cases h
 ·intro h
  cases hs:smI a with
  |false=>rfl
  |true=>exact absurd (smI_iff.1 hs) h
theorem valI_sm {a:NI} (h:a.2=[]):valI a=a.1:=by unfold valI;rw [if_pos h]
theorem okN_sm {n:Nat} {a:NI} (h:a.2=[]):okN n a=i64B a.1:=by unfold okN;rw [h]
theorem okN_big {n:Nat} {a:NI} (h:a.2≠[]):okN n a=true↔(a.1=1∨a.1= -1)∧Dg 18446744073709551616 a.2∧Tm a.2∧9223372036854775807<vw a.2∧a.2.length≤n:=by
 obtain⟨s,w⟩:=a
 cases w with
 |nil=>exact absurd rfl h
 |cons x l=>
  unfold okN
  simp only [Bool.and_eq_true,Bool.or_eq_true,decide_eq_true_eq,beq_iff_eq,dgB_iff,tmB_iff]
theorem parts_law {n:Nat} {a:NI} (h:okN n a=true):Dg 18446744073709551616 (prW a)∧Tm (prW a)∧vw (prW a)=(valI a).natAbs∧(negI a=true↔valI a<0)∧(prW a).length≤max n 1:=by
 by_cases hs:a.2=[]
 ·rw [okN_sm hs]at h
  have h:=i64B_iff.1 h
  have hv:=valI_sm hs
  have hn:negI a=true↔valI a<0:=by unfold negI;rw [hv,decide_eq_true_eq]
  unfold prW
  rw [if_pos hs,hv]
  by_cases h0:a.1=0
  ·rw [if_pos h0,h0]
   exact⟨.nil, .nil,rfl,by rw [←hv]at h0;rw [hn,h0],by simp⟩
  ·rw [if_neg h0]
   refine⟨dg1 (by unfold absI;omega),tm1 (by unfold absI;omega),by rw [vw_one];rfl,by rw [hn,hv],by simp;omega⟩
 ·obtain⟨h1,h2,h3,h4,h5⟩:=(okN_big hs).1 h
  unfold prW negI
  rw [if_neg hs]
  have hv:valI a=a.1*vw a.2:=by unfold valI;rw [if_neg hs]
  refine⟨h2,h3, ?_, ?_,by omega⟩
  ·rw [hv];rcases h1 with h1|h1<;>rw [h1]<;>omega
  ·rw [hv,decide_eq_true_eq];rcases h1 with h1|h1<;>rw [h1]<;>omega
theorem val_lt {n:Nat} {a:NI} (h:okN n a=true) (hn:1≤n):((valI a).natAbs:Int)<18446744073709551616^n:=by
 obtain⟨h1,_,h3,_,h5⟩:=parts_law h
 have h6:=vl_lt (b:=18446744073709551616) (by decide) h1
 have h7:=pow_le_pow' (b:=18446744073709551616) (by decide) (show(prW a).length≤n by omega)
 unfold vw at h3
 omega
theorem dgN_len {b z:Int} {n:Nat} (hb:1<b) (h0:0≤z) (h:z<b^n):(dgN b z).length≤n:=by
 obtain⟨h1,h2,h3⟩:=dgN_spec hb h0
 cases hl:(dgN b z).length with
 |zero=>omega
 |succ k=>
  have h4:=vl_ge (by omega) h1 h2 hl
  rw [h3]at h4
  by_cases hk:k+1≤n
  ·exact hk
  ·have:=pow_le_pow' (show 1≤b by omega) (show n≤k by omega)
   omega
theorem dgN_zero {b:Int} (hb:1<b):dgN b 0=[]:=(dgN_uniq hb .nil .nil rfl).symm
theorem dgN_ne {b z:Int} (hb:1<b) (h:0<z):dgN b z≠[]:=fun e=>by
 obtain⟨_,_,h3⟩:=dgN_spec hb (Int.le_of_lt h)
 rw [e]at h3
 simp [vl]at h3
 omega
theorem mkI_law {n:Nat} {z:Int} (h:(z.natAbs:Int)<18446744073709551616^n):okN n (mkI z)=true∧valI (mkI z)=z:=by
 unfold mkI
 split
 ·rename_i hz
  exact⟨by rw [okN_sm rfl];exact i64B_iff.2 ⟨by omega,hz.2⟩,valI_sm rfl⟩
 ·rename_i hz
  have h0:0<(z.natAbs:Int):=by omega
  obtain⟨h1,h2,h3⟩:=dgN_spec (b:=18446744073709551616) (by decide) (Int.le_of_lt h0)
  have hne:=dgN_ne (b:=18446744073709551616) (by decide) h0
  refine⟨(okN_big hne).2 ⟨?_,h1,h2, ?_,dgN_len (by decide) (Int.le_of_lt h0) h⟩, ?_⟩
  ·show(if z<0 then(-1:Int)else 1)=1∨_
   split
   ·exact .inr rfl
   ·exact .inl rfl
  ·show 9223372036854775807<vl _ _
   rw [h3];omega
  ·unfold valI
   rw [if_neg hne]
   show(if z<0 then(-1:Int)else 1)*vl _ _=z
   rw [h3]
   split<;>omega
theorem val_mk (z:Int):valI (mkI z)=z:=by
 have:(z.natAbs:Int)<18446744073709551616^(z.natAbs+1):=by
  have:∀n:Nat,(n:Int)<18446744073709551616^(n+1):=fun n=>by
   induction n with
   |zero=>decide
   |succ n ih=>rw [Int.pow_succ];omega
  exact this _
 exact(mkI_law this).2
theorem ok_mk {n:Nat} {a:NI} (h:okN n a=true) (hv:valI a≠ -9223372036854775808):a=mkI (valI a):=by
 obtain⟨s,w⟩:=a
 by_cases hs:w=[]
 ·subst hs
  have h:i64B s=true:=h
  have h:=i64B_iff.1 h
  have hv:s≠ -9223372036854775808:=hv
  show(s,[])=mkI s
  unfold mkI
  rw [if_pos ⟨by omega,h.2⟩]
 ·obtain⟨h1,h2,h3,h4,h5⟩:=(okN_big (a:=(s,w)) hs).1 h
  have e:valI (s,w)=s*vw w:=by unfold valI;rw [if_neg hs]
  rw [e]at hv ⊢
  have h1:s=1∨s= -1:=h1
  have h4:9223372036854775807<vw w:=h4
  have hd:w=dgN 18446744073709551616 (vw w):=dgN_uniq (by decide) h2 h3 rfl
  unfold mkI
  rcases h1 with rfl |rfl
  ·rw [if_neg (by omega),if_neg (by omega),show((1*vw w).natAbs:Int)=vw w by omega,←hd]
  ·rw [if_neg (by omega),if_pos (by omega),show((-1*vw w).natAbs:Int)=vw w by omega,←hd]
theorem val_iAdd (a b:NI):valI (iAdd a b)=valI a+valI b:=by
 unfold iAdd
 split
 ·rename_i h
  simp only [Bool.and_eq_true]at h
  rw [valI_sm rfl,valI_sm (smI_iff.1 h.1),valI_sm (smI_iff.1 h.2.1)]
 ·exact val_mk _
theorem ok_iAdd {n:Nat} {a b:NI} (h:((valI a+valI b).natAbs:Int)<18446744073709551616^n):okN n (iAdd a b)=true:=by
 unfold iAdd
 split
 ·rename_i h
  simp only [Bool.and_eq_true]at h
  rw [okN_sm rfl];exact h.2.2
 ·exact(mkI_law h).1
theorem sgn_pos {z:Int} (h:0<z):sgn z=1:=by unfold sgn;rw [if_neg (by omega),if_neg (by omega)]
theorem sgn_neg {z:Int} (h:z<0):sgn z= -1:=by unfold sgn;rw [if_pos h]
theorem sgn_zero:sgn 0=0:=by decide
end Go.Proofs.YtccmlbinkgbpgaaGreatDoor
/- Package num: integers. -/
namespace Go.Proofs.YtccmlbinkgbpgaaGreatDoor
open Go.RowKit Sv
set_option maxRecDepth 100000
set_option linter.unusedVariables false
noncomputable section
abbrev tI:Ty:= .pair (.int .i64) (.list true tU)
abbrev nv (a:NI):AV:= .agg [iv a.1, .lst true tU a.2]
noncomputable def BMade:Code:=(Tryz.f122.body).getD .skip
noncomputable def BParts:Code:=(Tryz.f102.body).getD .skip
noncomputable def BSize:Code:=(Tryz.f121.body).getD .skip
noncomputable def cSize:Ctr:={f:=121,ps:=[.int .i64],rs:=[tU],fresh:=true,pre:=fun d=>i64B d.1,fn:=fun d=>(absI d.1,())}
noncomputable def sizeCs:VCaller:=ctrs [cSize]
theorem sz_neg (n:Int) (h1:n<0) (h2:(IntKind.wrap IntKind.u64 (IntKind.wrap IntKind.i64 ((0:Int)-n)))=(absI n)):
  Tst.path (vrun0 Tryz.prog (ctrs []) (fl BSize []) 9 10 [iv n]) [true] (toRet Tryz.prog Tryz.f121 true (uv (absI n))):=
 mp (an (decide_eq_true h1) h2)
theorem sz_pos (n:Int) (h1:¬n<0) (h2:(IntKind.wrap IntKind.u64 n)=(absI n)):
  Tst.path (vrun0 Tryz.prog (ctrs []) (fl BSize []) 9 10 [iv n]) [false] (toRet Tryz.prog Tryz.f121 true (uv (absI n))):=
 mp (an (decide_eq_false h1) h2)
theorem pa_big (a:NI) (h1:a.2.isEmpty=false) (h2:(decide (a.1<0))=(negI a)) (h3:a.2=(prW a)):
  Tst.path (vrun0 Tryz.prog sizeCs (fl BParts []) 9 24 [nv a]) [true] (toRet Tryz.prog Tryz.f102 false (.tuple [bv (negI a),lu (prW a)])):=
 mp (an (bF h1) (an (sr (iv a.1)) (an (sr (AV.lst true (.int .u64) a.2)) (an h2 (an h3 trivial)))))
theorem pa_zero (a:NI) (h1:a.2.isEmpty=true) (h2:a.1=0) (h3:(false)=(negI a)) (h4:(prW a)=([])):
  Tst.path (vrun0 Tryz.prog sizeCs (fl BParts []) 9 24 [nv a]) [false,true] (toRet Tryz.prog Tryz.f102 false (.tuple [bv (negI a),lu (prW a)])):=
 mp (an (bF h1) (an (beq_iff_eq.mpr h2) (an h3 (an h4 trivial))))
theorem pa_one (a:NI) (h1:a.2.isEmpty=true) (h2:¬a.1=0) (h3:(i64B a.1)=true) (h4:(decide (a.1<0))=(negI a)) (h5:([absI a.1])=(prW a)) (h6:(Nat.ble ((1:Nat)*(1:Nat)) (AV.raw (Value.int .u64 (absI a.1))::List.append._f [] PUnit.unit (List.flatten._f [] PUnit.unit)).length&&(!false||Nat.ble (1:Nat) (1:Nat)))=true):
  Tst.path (vrun0 Tryz.prog sizeCs (fl BParts []) 9 24 [nv a]) [false,false] (toRet Tryz.prog Tryz.f102 false (.tuple [bv (negI a),lu (prW a)])):=
 mp (an (bF h1) (an (beq_eq_false_iff_ne.mpr h2) (an (sr (iv a.1)) (an (sr (iv a.1)) (an h3 (an (sr (iv a.1)) (an (sr (iv a.1)) (an h4 (an (an h5 (show(Nat.ble ((0:Nat)+(1:Nat)*(1:Nat)) (AV.raw (Value.int .u64 (absI a.1))::List.append._f [] PUnit.unit (List.flatten._f [] PUnit.unit)).length&&(!false||Nat.ble (1:Nat) (1:Nat)))=true from(by simp only [Nat.zero_add]<;>exact(show(Nat.ble ((1:Nat)*(1:Nat)) (AV.raw (Value.int .u64 (absI a.1))::List.append._f [] PUnit.unit (List.flatten._f [] PUnit.unit)).length&&(!false||Nat.ble (1:Nat) (1:Nat)))=true from h6)))) trivial)))))))))
def madeZ (neg:Bool) (w:List Int):Int:=match neg with |true=> -vw w|false=>vw w
theorem md_nil (neg:Bool) (w:List Int) (h1:(↑w.length:Int)=0) (h2:((0:Int))=(mkI (madeZ neg w)).1) (h3:(mkI (madeZ neg w)).2=([])):
  Tst.path (vrun0 Tryz.prog (ctrs []) (fl BMade []) 9 50 [bv neg,lu w]) [true] (toRet Tryz.prog Tryz.f122 false (nv (mkI (madeZ neg w)))):=
 mp (an (beq_iff_eq.mpr h1) (an h2 (an h3 trivial)))
theorem md_sneg (neg:Bool) (w:List Int) (h1:¬(↑w.length:Int)=0) (h2:(↑w.length:Int)=1) (h3:Int.toNat (0:Int)<w.length) (h4:List.getD w (Int.toNat (0:Int)) (0:Int)≤9223372036854775807) (h5:(neg)=true) (h6:(IntKind.wrap IntKind.i64 ((0:Int)-IntKind.wrap IntKind.i64 (List.getD w (Int.toNat (0:Int)) (0:Int))))=(mkI (madeZ neg w)).1) (h7:(mkI (madeZ neg w)).2=([])):
  Tst.path (vrun0 Tryz.prog (ctrs []) (fl BMade []) 9 50 [bv neg,lu w]) [false,true,true,true,true,true,true,true,true] (toRet Tryz.prog Tryz.f122 false (nv (mkI (madeZ neg w)))):=
 mp (an (beq_eq_false_iff_ne.mpr h1) (an (bT (beq_iff_eq.mpr h2)) (an (bT (beq_iff_eq.mpr h2)) (an rt (an (decide_eq_true h3) (an (bT (beq_iff_eq.mpr h2)) (an (bT (beq_iff_eq.mpr h2)) (an (beq_iff_eq.mpr h2) (an (bT (decide_eq_true h4)) (an (decide_eq_true h4) (an h5 (an rt (an (decide_eq_true h3) (an h6 (an h7 trivial)))))))))))))))
theorem md_spos (neg:Bool) (w:List Int) (h1:¬(↑w.length:Int)=0) (h2:(↑w.length:Int)=1) (h3:Int.toNat (0:Int)<w.length) (h4:List.getD w (Int.toNat (0:Int)) (0:Int)≤9223372036854775807) (h5:(neg)=false) (h6:(IntKind.wrap IntKind.i64 (List.getD w (Int.toNat (0:Int)) (0:Int)))=(mkI (madeZ neg w)).1) (h7:(mkI (madeZ neg w)).2=([])):
  Tst.path (vrun0 Tryz.prog (ctrs []) (fl BMade []) 9 50 [bv neg,lu w]) [false,true,true,true,true,true,true,true,false,true,true,true,true,true,true] (toRet Tryz.prog Tryz.f122 false (nv (mkI (madeZ neg w)))):=
 mp (an (beq_eq_false_iff_ne.mpr h1) (an (bT (beq_iff_eq.mpr h2)) (an (bT (beq_iff_eq.mpr h2)) (an rt (an (decide_eq_true h3) (an (bT (beq_iff_eq.mpr h2)) (an (bT (beq_iff_eq.mpr h2)) (an (beq_iff_eq.mpr h2) (an (bT (decide_eq_true h4)) (an (decide_eq_true h4) (an h5 (an (bT (beq_iff_eq.mpr h2)) (an (bT (beq_iff_eq.mpr h2)) (an rt (an (decide_eq_true h3) (an (bT (beq_iff_eq.mpr h2)) (an (bT (beq_iff_eq.mpr h2)) (an (beq_iff_eq.mpr h2) (an (decide_eq_true h4) (an rt (an (decide_eq_true h3) (an h6 (an h7 trivial)))))))))))))))))))))))
theorem md_bneg (neg:Bool) (w:List Int) (h1:¬(↑w.length:Int)=0) (h2:(↑w.length:Int)=1) (h3:Int.toNat (0:Int)<w.length) (h4:¬List.getD w (Int.toNat (0:Int)) (0:Int)≤9223372036854775807) (h5:(neg)=true) (h6:((-1:Int))=(mkI (madeZ neg w)).1) (h7:(w)=(mkI (madeZ neg w)).2) (h8:(1:Nat)≤(mkI (madeZ neg w)).2.length):
  Tst.path (vrun0 Tryz.prog (ctrs []) (fl BMade []) 9 50 [bv neg,lu w]) [false,true,true,true,true,true,false,false,false,true,true,true,true,true,false,true] (toRet Tryz.prog Tryz.f122 false (nv (mkI (madeZ neg w)))):=
 mp (an (beq_eq_false_iff_ne.mpr h1) (an (bT (beq_iff_eq.mpr h2)) (an (bT (beq_iff_eq.mpr h2)) (an rt (an (decide_eq_true h3) (an (bT (beq_iff_eq.mpr h2)) (an (bT (beq_iff_eq.mpr h2)) (an (beq_iff_eq.mpr h2) (an (bT (decide_eq_false h4)) (an (decide_eq_false h4) (an rf (an (bT (beq_iff_eq.mpr h2)) (an (bT (beq_iff_eq.mpr h2)) (an rt (an (decide_eq_true h3) (an (bT (beq_iff_eq.mpr h2)) (an (bT (beq_iff_eq.mpr h2)) (an (beq_iff_eq.mpr h2) (an (decide_eq_false h4) (an h5 (an h6 (an (an h7 (Nat.ble_eq_true_of_le h8)) trivial))))))))))))))))))))))
theorem md_bpos (neg:Bool) (w:List Int) (h1:¬(↑w.length:Int)=0) (h2:(↑w.length:Int)=1) (h3:Int.toNat (0:Int)<w.length) (h4:¬List.getD w (Int.toNat (0:Int)) (0:Int)≤9223372036854775807) (h5:(neg)=false) (h6:((1:Int))=(mkI (madeZ neg w)).1) (h7:(w)=(mkI (madeZ neg w)).2) (h8:(1:Nat)≤(mkI (madeZ neg w)).2.length):
  Tst.path (vrun0 Tryz.prog (ctrs []) (fl BMade []) 9 50 [bv neg,lu w]) [false,true,true,true,true,true,false,false,false,true,true,true,true,true,false,false] (toRet Tryz.prog Tryz.f122 false (nv (mkI (madeZ neg w)))):=
 mp (an (beq_eq_false_iff_ne.mpr h1) (an (bT (beq_iff_eq.mpr h2)) (an (bT (beq_iff_eq.mpr h2)) (an rt (an (decide_eq_true h3) (an (bT (beq_iff_eq.mpr h2)) (an (bT (beq_iff_eq.mpr h2)) (an (beq_iff_eq.mpr h2) (an (bT (decide_eq_false h4)) (an (decide_eq_false h4) (an rf (an (bT (beq_iff_eq.mpr h2)) (an (bT (beq_iff_eq.mpr h2)) (an rt (an (decide_eq_true h3) (an (bT (beq_iff_eq.mpr h2)) (an (bT (beq_iff_eq.mpr h2)) (an (beq_iff_eq.mpr h2) (an (decide_eq_false h4) (an h5 (an h6 (an (an h7 (Nat.ble_eq_true_of_le h8)) trivial))))))))))))))))))))))
theorem md_mneg (neg:Bool) (w:List Int) (h1:¬(↑w.length:Int)=0) (h2:¬(↑w.length:Int)=1) (h3:(neg)=true) (h4:((-1:Int))=(mkI (madeZ neg w)).1) (h5:(w)=(mkI (madeZ neg w)).2) (h6:(1:Nat)≤(mkI (madeZ neg w)).2.length):
  Tst.path (vrun0 Tryz.prog (ctrs []) (fl BMade []) 9 50 [bv neg,lu w]) [false,false,false,false,false,false,false,false,false,false,false,false,false,false,false,true] (toRet Tryz.prog Tryz.f122 false (nv (mkI (madeZ neg w)))):=
 mp (an (beq_eq_false_iff_ne.mpr h1) (an (bT (beq_eq_false_iff_ne.mpr h2)) (an (bT (beq_eq_false_iff_ne.mpr h2)) (an (bT (beq_eq_false_iff_ne.mpr h2)) (an (bT (beq_eq_false_iff_ne.mpr h2)) (an (beq_eq_false_iff_ne.mpr h2) (an rf (an rf (an rf (an (bT (beq_eq_false_iff_ne.mpr h2)) (an (bT (beq_eq_false_iff_ne.mpr h2)) (an (bT (beq_eq_false_iff_ne.mpr h2)) (an (bT (beq_eq_false_iff_ne.mpr h2)) (an (beq_eq_false_iff_ne.mpr h2) (an rf (an h3 (an h4 (an (an h5 (Nat.ble_eq_true_of_le h6)) trivial))))))))))))))))))
theorem md_mpos (neg:Bool) (w:List Int) (h1:¬(↑w.length:Int)=0) (h2:¬(↑w.length:Int)=1) (h3:(neg)=false) (h4:((1:Int))=(mkI (madeZ neg w)).1) (h5:(w)=(mkI (madeZ neg w)).2) (h6:(1:Nat)≤(mkI (madeZ neg w)).2.length):
  Tst.path (vrun0 Tryz.prog (ctrs []) (fl BMade []) 9 50 [bv neg,lu w]) [false,false,false,false,false,false,false,false,false,false,false,false,false,false,false,false] (toRet Tryz.prog Tryz.f122 false (nv (mkI (madeZ neg w)))):=
 mp (an (beq_eq_false_iff_ne.mpr h1) (an (bT (beq_eq_false_iff_ne.mpr h2)) (an (bT (beq_eq_false_iff_ne.mpr h2)) (an (bT (beq_eq_false_iff_ne.mpr h2)) (an (bT (beq_eq_false_iff_ne.mpr h2)) (an (beq_eq_false_iff_ne.mpr h2) (an rf (an rf (an rf (an (bT (beq_eq_false_iff_ne.mpr h2)) (an (bT (beq_eq_false_iff_ne.mpr h2)) (an (bT (beq_eq_false_iff_ne.mpr h2)) (an (bT (beq_eq_false_iff_ne.mpr h2)) (an (beq_eq_false_iff_ne.mpr h2) (an rf (an h3 (an h4 (an (an h5 (Nat.ble_eq_true_of_le h6)) trivial))))))))))))))))))
noncomputable def cParts:Ctr:={f:=102,ps:=[tI],rs:=[.bool, .list false tU],fresh:=false,pre:=fun d=>okI d.1,fn:=fun d=>(negI d.1,prW d.1,())}
noncomputable def cMade:Ctr:={f:=122,ps:=[.bool, .list false tU],rs:=[tI],fresh:=false,pre:=fun d=>dgB d.2.1&&tmB d.2.1,fn:=fun d=>(mkI (madeZ d.1 d.2.1),())}
theorem wrapI {x:Int} (h: -9223372036854775808≤x∧x≤9223372036854775807):IntKind.wrap .i64 x=x:=wrap_fits (fits_i64 h)
theorem size_holds (n:Int) (h:i64B n=true):Holds Tryz.prog true 121 [iv n] (uv (absI n)):=by
 have h:=i64B_iff.1 h
 refine holds_fl (c:=BSize) Tryz.func121 rfl rfl fun w F=> ?_
 by_cases hn:n<0
 ·refine GoalL.ret known mixed none_ok 9 _ (sz_neg n hn ?_) fun T H h=>h
  unfold absI
  by_cases hm:n= -9223372036854775808
  ·subst hm;rfl
  ·rw [wrapI (by omega),wrapU (by omega)];omega
 ·refine GoalL.ret known mixed none_ok 9 _ (sz_pos n hn ?_) fun T H h=>h
  unfold absI
  rw [wrapU (by omega)];omega
theorem cSize_ok:cSize.Ok Tryz.prog:=fun⟨n,_⟩ h=>size_holds n h
theorem sizeCs_ok:CallOk Tryz.prog (gS sizeCs):=one_ok cSize_ok
theorem parts_holds (a:NI) (h:okI a=true):Holds Tryz.prog false 102 [nv a] (.tuple [bv (negI a),lu (prW a)]):=by
 refine holds_fl (c:=BParts) Tryz.func102 rfl rfl fun w F=> ?_
 by_cases hs:a.2=[]
 ·have h:=(okN_sm hs).symm.trans h
  by_cases h0:a.1=0
  ·refine GoalL.ret known mixed sizeCs_ok 9 _ (pa_zero a (smI_iff.2 hs) h0 ?_ ?_) fun T H h=>h
   ·unfold negI;rw [h0];rfl
   ·unfold prW;rw [if_pos hs,if_pos h0]
  ·refine GoalL.ret known mixed sizeCs_ok 9 _ (pa_one a (smI_iff.2 hs) h0 h rfl ?_ rfl) fun T H h=>h
   unfold prW;rw [if_pos hs,if_neg h0]
 ·refine GoalL.ret known mixed sizeCs_ok 9 _ (pa_big a (smI_not.2 hs) rfl ?_) fun T H h=>h
  unfold prW;rw [if_neg hs]
theorem cParts_ok:cParts.Ok Tryz.prog:=fun⟨a,_⟩ h=>parts_holds a h
theorem madeZ_abs (neg:Bool) {w:List Int} (hw:Dg 18446744073709551616 w):((madeZ neg w).natAbs:Int)=vw w:=by
 have:=vl_nn (b:=18446744073709551616) (by decide) hw
 unfold madeZ vw
 cases neg<;>simp only<;>omega
theorem made_big {neg:Bool} {w:List Int} (hw:Dg 18446744073709551616 w) (ht:Tm w) (h:9223372036854775807<vw w):mkI (madeZ neg w)=(if neg then-1 else 1,w):=by
 have ha:=madeZ_abs neg hw
 have hd:dgN 18446744073709551616 ((madeZ neg w).natAbs:Int)=w:=by rw [ha];exact(dgN_uniq (by decide) hw ht rfl).symm
 unfold mkI
 rw [hd]
 unfold madeZ at ha ⊢
 cases neg
 ·simp only at ha ⊢
  rw [if_neg (by omega),if_neg (by omega)];rfl
 ·simp only at ha ⊢
  rw [if_neg (by omega),if_pos (by omega)];rfl
theorem mkI_small {z:Int} (h: -9223372036854775807≤z∧z≤9223372036854775807):mkI z=(z,[]):=by unfold mkI;rw [if_pos h]
theorem made_holds (neg:Bool) (w:List Int) (h1:Dg 18446744073709551616 w) (h2:Tm w):Holds Tryz.prog false 122 [bv neg,lu w] (nv (mkI (madeZ neg w))):=by
 refine holds_fl (c:=BMade) Tryz.func122 rfl rfl fun w0 F=> ?_
 cases w with
 |nil=>
  have e:mkI (madeZ neg [])=(0,[]):=by
   have:madeZ neg []=0:=by cases neg<;>rfl
   rw [this];exact mkI_small (by decide)
  exact GoalL.ret known mixed none_ok 9 _ (md_nil neg [] rfl (by rw [e]) (by rw [e])) fun T H h=>h
 |cons x l=>
  have hx:=h1.head
  have hne:¬((x::l).length:Int)=0:=by simp;omega
  cases l with
  |nil=>
   have hv:vw [x]=x:=vw_one x
   by_cases hs:x≤9223372036854775807
   ·cases neg with
    |true=>
     have e:mkI (madeZ true [x])=(-x,[]):=by
      show mkI (-vw [x])=_
      rw [hv];exact mkI_small (by omega)
     refine GoalL.ret known mixed none_ok 9 _ (md_sneg true [x] hne rfl (by simp) hs rfl ?_ (by rw [e])) fun T H h=>h
     rw [e]
     show IntKind.wrap .i64 (0-IntKind.wrap .i64 x)= -x
     rw [wrapI (x:=x) (by omega),wrapI (by omega)];omega
    |false=>
     have e:mkI (madeZ false [x])=(x,[]):=by
      show mkI (vw [x])=_
      rw [hv];exact mkI_small (by omega)
     refine GoalL.ret known mixed none_ok 9 _ (md_spos false [x] hne rfl (by simp) hs rfl ?_ (by rw [e])) fun T H h=>h
     rw [e]
     exact wrapI (x:=x) (by omega)
   ·have e:=made_big (neg:=neg) h1 h2 (by omega)
    cases neg with
    |true=>exact GoalL.ret known mixed none_ok 9 _ (md_bneg true [x] hne rfl (by simp) hs rfl (by rw [e];rfl) (by rw [e]) (by rw [e];simp)) fun T H h=>h
    |false=>exact GoalL.ret known mixed none_ok 9 _ (md_bpos false [x] hne rfl (by simp) hs rfl (by rw [e];rfl) (by rw [e]) (by rw [e];simp)) fun T H h=>h
  |cons y l=>
   have hbig:9223372036854775807<vw (x::y::l):=by
    have h3:=vl_ge (b:=18446744073709551616) (by decide) h1 h2 (k:=l.length+1) (by simp)
    have h4:=pow_le_pow' (b:=18446744073709551616) (by decide) (show 1≤l.length+1 by omega)
    rw [Int.pow_one]at h4
    unfold vw;omega
   have e:=made_big (neg:=neg) h1 h2 hbig
   have hn1:¬((x::y::l).length:Int)=1:=by simp;omega
   cases neg with
   |true=>exact GoalL.ret known mixed none_ok 9 _ (md_mneg true _ hne hn1 rfl (by rw [e];rfl) (by rw [e]) (by rw [e];simp)) fun T H h=>h
   |false=>exact GoalL.ret known mixed none_ok 9 _ (md_mpos false _ hne hn1 rfl (by rw [e];rfl) (by rw [e]) (by rw [e];simp)) fun T H h=>h
theorem cMade_ok:cMade.Ok Tryz.prog:=fun⟨neg,w,_⟩ h=>by
 have h:(dgB w&&tmB w)=true:=h
 rw [Bool.and_eq_true]at h
 exact made_holds neg w (dgB_iff.1 h.1) (tmB_iff.1 h.2)
end
end Go.Proofs.YtccmlbinkgbpgaaGreatDoor
