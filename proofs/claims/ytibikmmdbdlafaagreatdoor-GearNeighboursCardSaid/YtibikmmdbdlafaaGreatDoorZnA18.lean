import Derived.Test.YtibikmmdbdlafaaGreatDoorZnA15
import Derived.WalkLawsBesides
import Derived.WalkSpells
set_option linter.defProp false
set_option linter.unusedSectionVars false
set_option linter.unusedSimpArgs false
set_option linter.unusedVariables false
set_option maxRecDepth 100000
namespace Go.Proofs.YtibikmmdbdlafaaGreatDoor
open Go.RowKit Sv Go.Proofs.Tryz
noncomputable section
def sY (s:AT):Prop:=∃(r:Rat) (k:Nat),s=aU r/\k<=10000/\fR k r
noncomputable def isQ (s:AT):Bool:= @decide (sY s) (Classical.propDecidable _)
def toQ (s:AT):Rat:=Rat.divInt (ptN s) (ptD s)
def WK:=IN 15 [.str, .str] [.str] true (fun d=>isQ d.1&&isQ d.2.1) fun d=>(aU (toQ d.1*toQ d.2.1),())
def WL:=IN 14 [.str, .str] [.str] true (fun d=>isQ d.1&&isQ d.2.1) fun d=>(aU (toQ d.1+toQ d.2.1),())
def WM:=IN 72 [.str] [.str] true (fun d=>isQ d.1&& !(ptN d.1==0)) fun d=>(aU (toQ d.1)⁻¹,())
def anK:=IN 16 [.int .i64] [.str] true (fun d=>decide (-9223372036854775808<=d.1)&&decide (d.1<=9223372036854775807)) fun d=>(aU (d.1:Int),())
--{
def fj {s:AT}:isQ s=true↔sY s:= @decide_eq_true_iff _ (Classical.propDecidable _)
def wK {s:AT} {r:Rat} (F:WI s r):toQ s=r:=by
 unfold toQ;rw [F.n,F.d];exact Rat.num_divInt_den r
def cf {r:Rat} {k:Nat} (hk:k<=10000) (h:fR k r):isQ (aU r)=true:=fj.2 ⟨r,k,rfl,hk,h⟩
def iL {r:Rat} {k:Nat} (hk:k<=10000) (h:fR k r):toQ (aU r)=r:=wK (uR hk h)
def io:bD prog (bF uQ):=uj (fun c hc=>by
 simp only [ew,jU,or_false]at hc;rcases hc with rfl |rfl
 .exact ajS
 .exact ajT) (cN fun c hc=>by
 simp only [ew,jU,or_false]at hc;rcases hc with rfl |rfl |rfl |rfl |rfl |rfl
 .exact P1
 .exact P2
 .exact Og
 .exact ank
 .exact Ta
 .exact N9)
def bZ {a b:Bool} (h:a=true) (g:b=true):(a&&b)=true:=by rw [h,g];rfl
section
variable {x y:Int} {i j:Nat} (hx:(x.natAbs:Int)<1000000000^i) (hy:(y.natAbs:Int)<1000000000^j)
def yZ:((x*y).natAbs:Int)<1000000000^(i+j):=by
 rw [Int.natAbs_mul,Int.natCast_mul];exact UE (Int.natCast_nonneg _) (Int.natCast_nonneg _) hx hy
def anL:((x+y).natAbs:Int)<1000000000^(max i j+1):=by
 have:=add_lt hx hy;have h2:(x+y).natAbs<=x.natAbs+y.natAbs:=Int.natAbs_add_le x y;omega
end
def DS {x y:Int} (hx:(x.natAbs:Int)<1000000000) (hy:(y.natAbs:Int)<1000000000): -1000000000000000000<=x*y/\x*y<=1000000000000000000:=by
 have h1:x.natAbs*y.natAbs<=999999999*999999999:=Nat.mul_le_mul (by omega) (by omega);have h2:(x*y).natAbs=x.natAbs*y.natAbs:=Int.natAbs_mul x y;rw [<-h2]at h1;omega
def Ow {z:Int} (h:z≠0):(!(Nat.beq (mkR z).2.length 0))=true:=by
 rw [Bool.not_eq_true'];cases hb:Nat.beq (mkR z).2.length 0 with
 |false=>rfl
 |true=>
  have e:aH (z.natAbs:Int)=[]:=List.eq_nil_of_length_eq_zero (ac hb);have:=(Ay (Int.natCast_nonneg _)).1 e;omega
def y4 (d:Nat):((d:Int).natAbs:Int)=(d:Int):=by omega
def anM (n:Int) (h1: -9223372036854775808<=n) (h2:n<=9223372036854775807):Holds prog true 16 [iv n] (sv (aU (n:Int))):=by
 have e:aU (n:Int)=cm (vZ (mkR n)):=by
  unfold aU;rw [if_pos (Rat.den_intCast n),Rat.num_intCast,dw]
 refine bL (c:=WD) func16 rfl rfl fun w0 Ox=> ?_
 rw [e];exact aY io 30 (anJ n (bZ (az h1) (az h2)) (iq (k:=3) (by have:(1000000000:Int)^3=1000000000000000000000000000:=rfl;omega) (by decide)))
def anN:anK.Ok prog:=fun⟨n,_⟩ h=>by
 have h:(decide (-9223372036854775808<=n)&&decide (n<=9223372036854775807))=true:=h;rw [ae,bE,bE]at h;exact anM n h.1 h.2
attribute [local irreducible] mkR vZ okZ aU jn kp qB ptN ptD okA
def anO (a b:AT) (ha:sY a) (hb:sY b):Holds prog true 15 [sv a,sv b] (sv (aU (toQ a*toQ b))):=by
 obtain⟨r,i,rfl,hi,hr⟩:=ha;obtain⟨s,j,rfl,hj,hs⟩:=hb;have F:=uR hi hr;have G:=uR hj hs;obtain⟨r1,r2⟩:=hr;obtain⟨s1,s2⟩:=hs;rw [wK F,wK G];have hrd:0<r.den:=r.den_pos;have anP:0<s.den:=s.den_pos;have hD:0<(r.den:Int)*(s.den:Int):=Int.mul_pos (by omega) (by omega);have ev:r*s=Rat.divInt (r.num*s.num) (r.den*s.den):=by rw [<-Rat.divInt_mul_divInt,Rat.num_divInt_den,Rat.num_divInt_den]
 have uS:okZ (mkR (ptN (aU r)))=true:=by rw [F.n];exact iq r1 (by omega)
 have y5:okZ (mkR (ptN (aU s)))=true:=by rw [G.n];exact iq s1 (by omega)
 have uT:okZ (mkR (ptD (aU r)))=true:=by rw [F.d];exact iq (k:=i) (by rw [y4];exact r2) (by omega)
 have y6:okZ (mkR (ptD (aU s)))=true:=by rw [G.d];exact iq (k:=j) (by rw [y4];exact s2) (by omega)
 have DT:okZ (mkR (vZ (mkR (ptN (aU r)))*vZ (mkR (ptN (aU s)))))=true:=by rw [dw,dw,F.n,G.n];exact iq (yZ r1 s1) (by omega)
 have DU:okZ (mkR (vZ (mkR (ptD (aU r)))*vZ (mkR (ptD (aU s)))))=true:=by rw [dw,dw,F.d,G.d];exact iq (yZ (i:=i) (j:=j) (by rw [y4];exact r2) (by rw [y4];exact s2)) (by omega)
 have DV:(!(Nat.beq (mkR (vZ (mkR (ptD (aU r)))*vZ (mkR (ptD (aU s))))).2.length 0))=true:=by rw [dw,dw,F.d,G.d];exact Ow (by omega)
 have e:Rat.divInt (vZ (mkR (vZ (lz (aU r))*vZ (lz (aU s))))) (vZ (mkR (vZ (iK (aU r))*vZ (iK (aU s)))))=r*s:=by
  unfold lz iK;rw [dw,dw,dw,dw,dw,dw,F.n,F.d,G.n,G.d,ev]
 refine bL (c:=HA) func15 rfl rfl fun w0 Ox=> ?_
 cases uU:qB (aU r)with
 |false=>
  rw [<-e];exact aY io 30 (anD (aU r) (aU s) F.jg G.jg uU F.pt G.pt (bZ uS y5) (bZ uT y6) (bZ DT (bZ DU DV)))
 |true=>
  cases gb:qB (aU s)with
  |false=>
   rw [<-e];exact aY io 30 (anE (aU r) (aU s) F.jg G.jg uU gb F.pt G.pt (bZ uS y5) (bZ uT y6) (bZ DT (bZ DU DV)))
  |true=>
   obtain⟨f1,f2,f3,f4⟩:=F.q uU;obtain⟨g1,g2,g3,g4⟩:=G.q gb;have m1:=DS f3 g3;have m2:=DS (x:=r.den) (y:=s.den) (by omega) (by omega);have key:=anC (aU r) (aU s) F.jg G.jg uU gb;rw [f1,f2,g1,g2,<-ev]at key;exact aY io 30 (key (by omega) (by omega) (bZ (bZ (az (show(-4000000000000000000:Int)<=r.num*s.num by omega)) (az (show r.num*s.num<=(4000000000000000000:Int) by omega))) (bZ (az hD) (az (show(r.den:Int)*(s.den:Int)<=(4000000000000000000:Int) by omega)))))
def WN:WK.Ok prog:=fun⟨a,b,_⟩ h=>by
 have h:(isQ a&&isQ b)=true:=h;rw [ae]at h;exact anO a b (fj.1 h.1) (fj.1 h.2)
def IH (a b:AT) (ha:sY a) (hb:sY b):Holds prog true 14 [sv a,sv b] (sv (aU (toQ a+toQ b))):=by
 obtain⟨r,i,rfl,hi,hr⟩:=ha;obtain⟨s,j,rfl,hj,hs⟩:=hb;have F:=uR hi hr;have G:=uR hj hs;obtain⟨r1,r2⟩:=hr;obtain⟨s1,s2⟩:=hs;rw [wK F,wK G];have hrd:0<r.den:=r.den_pos;have anP:0<s.den:=s.den_pos;have hD:0<(r.den:Int)*(s.den:Int):=Int.mul_pos (by omega) (by omega);have Bs:((r.den:Int).natAbs:Int)<1000000000^i:=by rw [y4];exact r2
 have s2':((s.den:Int).natAbs:Int)<1000000000^j:=by rw [y4];exact s2
 have ev:r+s=Rat.divInt (r.num*s.den+s.num*r.den) (r.den*s.den):=by rw [<-Rat.divInt_add_divInt _ _ (by omega) (by omega),Rat.num_divInt_den,Rat.num_divInt_den]
 have uS:okZ (mkR (ptN (aU r)))=true:=by rw [F.n];exact iq r1 (by omega)
 have y5:okZ (mkR (ptN (aU s)))=true:=by rw [G.n];exact iq s1 (by omega)
 have uT:okZ (mkR (ptD (aU r)))=true:=by rw [F.d];exact iq Bs (by omega)
 have y6:okZ (mkR (ptD (aU s)))=true:=by rw [G.d];exact iq s2' (by omega)
 have WO:okZ (mkR (vZ (mkR (ptN (aU r)))*vZ (mkR (ptD (aU s)))))=true:=by rw [dw,dw,F.n,G.d];exact iq (yZ r1 s2') (by omega)
 have eG:okZ (mkR (vZ (mkR (ptN (aU s)))*vZ (mkR (ptD (aU r)))))=true:=by rw [dw,dw,G.n,F.d];exact iq (yZ s1 Bs) (by omega)
 have DT:okZ (mkR (vZ (mkR (vZ (mkR (ptN (aU r)))*vZ (mkR (ptD (aU s)))))+vZ (mkR (vZ (mkR (ptN (aU s)))*vZ (mkR (ptD (aU r)))))))=true:=by
  rw [dw,dw,dw,dw,dw,dw,F.n,G.d,G.n,F.d];exact iq (anL (yZ r1 s2') (yZ s1 Bs)) (by omega)
 have DU:okZ (mkR (vZ (mkR (ptD (aU r)))*vZ (mkR (ptD (aU s)))))=true:=by rw [dw,dw,F.d,G.d];exact iq (yZ Bs s2') (by omega)
 have DV:(!(Nat.beq (mkR (vZ (mkR (ptD (aU r)))*vZ (mkR (ptD (aU s))))).2.length 0))=true:=by rw [dw,dw,F.d,G.d];exact Ow (by omega)
 have e:Rat.divInt (vZ (mkR (vZ (mkR (vZ (lz (aU r))*vZ (iK (aU s))))+vZ (mkR (vZ (lz (aU s))*vZ (iK (aU r))))))) (vZ (mkR (vZ (iK (aU r))*vZ (iK (aU s)))))=r+s:=by
  unfold lz iK;rw [dw,dw,dw,dw,dw,dw,dw,dw,F.n,F.d,G.n,G.d,ev]
 refine bL (c:=HB) func14 rfl rfl fun w0 Ox=> ?_
 cases uU:qB (aU r)with
 |false=>
  rw [<-e];exact aY io 30 (anG (aU r) (aU s) F.jg G.jg uU F.pt G.pt (bZ uS y6) (bZ y5 uT) (bZ WO eG) (bZ uT y6) (bZ DT (bZ DU DV)))
 |true=>
  cases gb:qB (aU s)with
  |false=>
   rw [<-e];exact aY io 30 (anH (aU r) (aU s) F.jg G.jg uU gb F.pt G.pt (bZ uS y6) (bZ y5 uT) (bZ WO eG) (bZ uT y6) (bZ DT (bZ DU DV)))
  |true=>
   obtain⟨f1,f2,f3,f4⟩:=F.q uU;obtain⟨g1,g2,g3,g4⟩:=G.q gb;have m1:=DS (y:=(s.den:Int)) f3 (by omega);have m3:=DS (y:=(r.den:Int)) g3 (by omega);have m2:=DS (x:=r.den) (y:=s.den) (by omega) (by omega);have key:=anF (aU r) (aU s) F.jg G.jg uU gb;rw [f1,f2,g1,g2,<-ev]at key;exact aY io 30 (key (by omega) (by omega) (by omega) (by omega) (bZ (bZ (az (show(-4000000000000000000:Int)<=r.num*(s.den:Int)+s.num*(r.den:Int) by omega)) (az (show r.num*(s.den:Int)+s.num*(r.den:Int)<=(4000000000000000000:Int) by omega))) (bZ (az hD) (az (show(r.den:Int)*(s.den:Int)<=(4000000000000000000:Int) by omega)))))
def anQ:WL.Ok prog:=fun⟨a,b,_⟩ h=>by
 have h:(isQ a&&isQ b)=true:=h;rw [ae]at h;exact IH a b (fj.1 h.1) (fj.1 h.2)
def anR (a:AT) (ha:sY a) (h0:ptN a≠0):Holds prog true 72 [sv a] (sv (aU (toQ a)⁻¹)):=by
 obtain⟨r,i,rfl,hi,hr⟩:=ha;have F:=uR hi hr;obtain⟨r1,r2⟩:=hr;rw [wK F];have Bs:((r.den:Int).natAbs:Int)<1000000000^i:=by rw [y4];exact r2
 have ev:r⁻¹ =Rat.divInt r.den r.num:=by
  have:=Rat.inv_divInt r.num r.den;rw [Rat.num_divInt_den]at this;exact this
 have uS:okZ (mkR (ptN (aU r)))=true:=by rw [F.n];exact iq r1 (by omega)
 have uT:okZ (mkR (ptD (aU r)))=true:=by rw [F.d];exact iq Bs (by omega)
 have e:Rat.divInt (vZ (iK (aU r))) (vZ (lz (aU r)))=r⁻¹ :=by
  unfold lz iK;rw [dw,dw,F.n,F.d,ev]
 refine bL (c:=WC) func72 rfl rfl fun w0 Ox=> ?_
 rw [<-e];exact aY io 30 (anI (aU r) F.pt (bZ uT (bZ uS (Ow h0))))
def anS:WM.Ok prog:=fun⟨a,_⟩ h=>by
 have h:(isQ a&& !(ptN a==0))=true:=h;rw [ae,Bool.not_eq_true',eB]at h;exact anR a (fj.1 h.1) h.2
--}
end
noncomputable section
def WQ:=k_a f17
def uV:=k_a f137
def DW:=k_a f75
def WR:=a7 [WK,WM]
def anT (a b:AT) (h1:(isQ b&& !ptN b==0)=true) (h2:(isQ a&&isQ (aU (Rat.divInt (ptN b) (ptD b))⁻¹))=true):
  aV WR (fl WQ []) 9 9 [sv a,sv b] 1 f17 true (sv (aU (toQ a*toQ (aU (toQ b)⁻¹)))):=
 wy [aa h1,aa h2] 129
def nQ (s:AT) (k:Nat):bI:={n:=20,sl:=[(0,sv s),(3,iv k)],bH:=[],next:=64}
abbrev DX:List Nat:=[1,0,1,0,0]
def anU (s:AT):
  c7 (a7 []) (fl uV []) 2 20 [sv s] 1 .normal [] (nQ s 0):=
 wy [] 0
section
variable (s:AT) (k:Nat) (h1:(k:Int)<(s.size:Int)) (h2:k<s.size)
def anV (h3:(↑(UInt8.toNat (s.data.toList.getD k (0:UInt8))):Int)<48):
  bS (a7 []) (fl uV DX) (nQ s k) 225 f137 true (bv false):=
 wy [ah h1,ah h2,aa (bg (az h3)),ah h3] 17801616826369
def anW (h3:¬(↑(UInt8.toNat (s.data.toList.getD k (0:UInt8))):Int)<48) (h4:(↑(UInt8.toNat (s.data.toList.getD k (0:UInt8))):Int)>57):
  bS (a7 []) (fl uV DX) (nQ s k) 223 f137 true (bv false):=
 wy [ah h1,ah h2,aa (bg (ab h3)),aF h3,ah h4] 5837518341367668737
def anX (h3:¬(↑(UInt8.toNat (s.data.toList.getD k (0:UInt8))):Int)<48) (h4:¬(↑(UInt8.toNat (s.data.toList.getD k (0:UInt8))):Int)>57) (h5:i6 ((k:Int)+1)):
  bz (a7 []) (fl uV DX) (nQ s k) 159 .normal [] (nQ s (k+1)):=
 wy [ah h1,ah h2,aa (bg (ab h3)),aF h3,aF h4,yi h5] 448559376110396907521
end
def anY (s:AT) (k:Nat) (h1:¬(k:Int)<(s.size:Int)):
  bz (a7 []) (fl uV DX) (nQ s k) 2 (.exit 0) [] (nQ s k):=
 wy [aF h1] 1
def anZ (s:AT) (k:Nat):
  bS (a7 []) ((fl uV []).drop 3) (nQ s k) 1 f137 true (bv true):=
 wy [] 0
def WS:=IN 137 [.str] [.bool] true (fun d=>decide (d.1.size<=1000000000)) fun d=>(b6 (aq d.1),())
def DY:=a7 [WS]
def an0 (s:AT) (h1:(s.size:Int)=0):
  aV DY (fl DW []) 9 18 [sv s] 224 f75 true (bv false):=
 wy [aa (bg (fW.mpr h1)),cM h1] 2164527169
section
variable (s:AT) (h1:¬(s.size:Int)=0) (h2:(s.size:Int)>1) (h3:Int.toNat 0<s.size)
def an1 (h4:(↑(UInt8.toNat (s.data.toList.getD (Int.toNat 0) (0:UInt8))):Int)=48):
  aV DY (fl DW []) 9 18 [sv s] 3583 f75 true (bv false):=
 wy [aa (bg (eB.mpr h1)),aa (aL (az h2)),ah h3,ah h2,yn h1,cM h4] 28707764055255273443393
def an2 (h4:¬(↑(UInt8.toNat (s.data.toList.getD (Int.toNat 0) (0:UInt8))):Int)=48) (h5:s.size<=1000000000):
  aV DY (fl DW []) 9 18 [sv s] 2559 f75 true (bv (b6 (aq s))):=
 wy [aa (bg (eB.mpr h1)),aa (aL (az h2)),ah h3,ah h2,yn h1,yn h4,ah h5] 2144327948380856329179201
end
def an3 (s:AT) (h1:¬(s.size:Int)=0) (h2:¬(s.size:Int)>1) (h3:s.size<=1000000000):
  aV DY (fl DW []) 9 18 [sv s] 2191 f75 true (bv (b6 (aq s))):=
 wy [aa (bg (eB.mpr h1)),aa (aL (ab h2)),aF h2,yn h1,ah h3] 369007788030825861185
def cE (s:AT):Bool:=decide (0<s.size)&&((decide (s.size<=1)|| !(decide ((ck s 0).toNat=48)))&&b6 (aq s))
def WT:=IN 75 [.str] [.bool] true (fun d=>decide (d.1.size<=1000000000)) fun d=>(cE d.1,())
def an4:=IN 17 [.str, .str] [.str] true (fun d=>isQ d.1&&(isQ d.2.1&& !(ptN d.2.1==0))) fun d=>(aU (toQ d.1/toQ d.2.1),())
def an5:bD prog (bF WR):=cN (aQ WN (aQ anS dW))
def an6 {k:Nat} {r:Rat} (h:fR k r) (h0:r.num≠0):fR k r⁻¹ :=by
 obtain⟨h1,h2⟩:=h;have hd:0<r.den:=r.den_pos;have ev:r⁻¹ =Rat.divInt r.den r.num:=by
  have:=Rat.inv_divInt r.num r.den;rw [Rat.num_divInt_den]at this;exact this
 rw [ev];have hdn:(0:Int)<=r.den:=by omega
 by_cases hn:0<r.num
 .obtain⟨g1,g2⟩:=Hy (n:=false) (x:=r.den) (y:=r.num) hn;have e0:bp false (r.den:Int)=r.den:=rfl;rw [e0]at g1 g2;have q1:=Int.ediv_le_self (Int.gcd r.den r.num) hdn;have aP:=Int.ediv_le_self (Int.gcd r.den r.num) (show 0<=r.num by omega);have b8:0<=(r.den:Int)/Int.gcd r.den r.num:=Int.ediv_nonneg hdn (Int.natCast_nonneg _);refine⟨?_, ?_⟩
  .rw [g1];show(((r.den:Int)/Int.gcd r.den r.num).natAbs:Int)<_;omega
  .rw [g2];omega
 .obtain⟨g1,g2⟩:=Hy (n:=true) (x:=r.den) (y:= -r.num) (by omega);have e0:Rat.divInt (bp true (r.den:Int)) (-r.num)=Rat.divInt r.den r.num:=Rat.neg_divInt_neg _ _;rw [e0]at g1 g2;have q1:=Int.ediv_le_self (Int.gcd r.den (-r.num)) hdn;have aP:=Int.ediv_le_self (Int.gcd r.den (-r.num)) (show 0<= -r.num by omega);have b8:0<=(r.den:Int)/Int.gcd r.den (-r.num):=Int.ediv_nonneg hdn (Int.natCast_nonneg _);refine⟨?_, ?_⟩
  .rw [g1];show((-((r.den:Int)/Int.gcd r.den (-r.num))).natAbs:Int)<_;omega
  .rw [g2];omega
def an7 (a b:AT) (ha:sY a) (hb:sY b) (h0:ptN b≠0):Holds prog true 17 [sv a,sv b] (sv (aU (toQ a/toQ b))):=by
 obtain⟨s,j,rfl,hj,hs⟩:=hb;have G:=uR hj hs;have hn:s.num≠0:=by rw [<-G.n];exact h0
 have hi:=an6 hs hn;have e:aU (toQ a/toQ (aU s))=aU (toQ a*toQ (aU (toQ (aU s))⁻¹)):=by rw [wK G,iL hj hi,Rat.div_def]
 have hz:(!(ptN (aU s)==(0:Int)))=true:=by rw [Bool.not_eq_true',eB];exact h0
 have hi2:isQ (aU (toQ (aU s))⁻¹)=true:=by rw [wK G];exact cf hj hi
 refine bL (c:=WQ) func17 rfl rfl fun w F=> ?_
 rw [e];exact aY an5 9 (anT a (aU s) (bZ (cf hj hs) hz) (bZ (fj.2 ha) hi2))
def an8:an4.Ok prog:=fun⟨a,b,_⟩ h=>by
 have h:(isQ a&&(isQ b&& !(ptN b==0)))=true:=h;rw [ae,ae,Bool.not_eq_true',eB]at h;exact an7 a b (fj.1 h.1) (fj.1 h.2.1) h.2.2
def an9 (s:AT) (hl:s.size<=1000000000):Holds prog true 137 [sv s] (bv (b6 (aq s))):=by
 have hS:=cC;have hz:=c6 s;refine bL (c:=uV) func137 rfl rfl fun w F=> ?_
 refine cR hS 2 (anU s) ?_;refine aW.loop (ι:={k:Nat//k<=s.size/\b6 ((aq s).take k)=true}) (id:=0) (b:=cat uV DX) (rest:=(fl uV []).drop 3) (by kernel_rfl) (fun k=>nQ s k.1) (fun k=>s.size-k.1) ⟨0,Nat.zero_le _,by rw [List.take_zero];rfl⟩ (fun _=>rfl) ?_;rintro⟨k,hk,hd⟩;by_cases hlt:k<s.size
 .have hmem:ck s k∈aq s:=by rw [yN (by omega)];exact List.getElem_mem _
  have hno:¬(48<=(ck s k).toNat/\(ck s k).toNat<=57)->b6 (aq s)=false:=fun hn=>by
   rw [Bool.eq_false_iff];intro h;have:=List.all_eq_true.1 h _ hmem;rw [ae,bE,bE]at this;exact hn this
  by_cases h1:(ck s k).toNat<48
  .rw [hno (by omega)];exact bY (s:=nQ s k) hS (anV s k (by omega) hlt (by show((ck s k).toNat:Int)<48;omega))
  .by_cases h2:57<(ck s k).toNat
   .rw [hno (by omega)];exact bY (s:=nQ s k) hS (anW s k (by omega) hlt (by show¬((ck s k).toNat:Int)<48;omega) (by show((ck s k).toNat:Int)>57;omega))
   .refine bC (s:=nQ s k) hS (anX s k (by omega) hlt (by show¬((ck s k).toNat:Int)<48;omega) (by show¬((ck s k).toNat:Int)>57;omega) (by omega)) ?_;refine⟨⟨k+1,hlt, ?_⟩,by show s.size-(k+1)<s.size-k;omega,rfl,rfl⟩;rw [GZ (by omega),Hv];refine⟨hd, ?_⟩;show b6 [ck s k]=true;rw [A7,az (by omega),az (by omega)];rfl
 .refine bC (s:=nQ s k) hS (anY s k (by omega)) ?_;refine cI (cQ ?_);rw [eZ (by omega)]at hd;rw [hd];exact bY (s:=nQ s k) hS (anZ s k)
def aoa:WS.Ok prog:=fun⟨s,_⟩ h=>an9 s (ap h)
def aob:bD prog (bF DY):=cN (aQ aoa dW)
def aoc (s:AT) (hl:s.size<=1000000000):Holds prog true 75 [sv s] (bv (cE s)):=by
 have hS:=aob;refine bL (c:=DW) func75 rfl rfl fun w F=> ?_
 unfold cE;by_cases h0:s.size=0
 .rw [ab (show¬0<s.size by omega),Bool.false_and];exact aY hS 9 (an0 s (by omega))
 .rw [az (show 0<s.size by omega),Bool.true_and];by_cases h1:s.size<=1
  .rw [az h1,Bool.true_or,Bool.true_and];exact aY hS 9 (an3 s (by omega) (by omega) hl)
  .rw [ab h1,Bool.false_or];by_cases h2:(ck s 0).toNat=48
   .rw [az h2,Bool.not_true,Bool.false_and];exact aY hS 9 (an1 s (by omega) (by omega) (by show 0<s.size;omega) (by show((ck s 0).toNat:Int)=48;omega))
   .rw [ab h2,Bool.not_false,Bool.true_and];exact aY hS 9 (an2 s (by omega) (by omega) (by show 0<s.size;omega) (by show¬((ck s 0).toNat:Int)=48;omega) hl)
def aod:WT.Ok prog:=fun⟨s,_⟩ h=>aoc s (ap h)
def DZ:=k_a f21
def WU:=k_a f30
def Oy:=k_a f31
def Oz:=k_a f32
def HF:=k_a f73
abbrev aoe:AT:=ByteArray.mk #[49]
def aof (s:AT) (h1:(s.data).toList=((ByteArray.mk #[48]).data).toList):
  aV (a7 []) (fl DZ []) 9 13 [sv s] 3 f21 true (iv 0):=
 wy [ah h1] 1
section
variable (s:AT) (h1:¬(s.data).toList=((ByteArray.mk #[48]).data).toList)
def aog (h2:(s.size:Int)>0) (h3:Int.toNat 0<s.size) (h4:(↑(UInt8.toNat (s.data.toList.getD (Int.toNat 0) (0:UInt8))):Int)=45):
  aV (a7 []) (fl DZ []) 9 13 [sv s] 126 f21 true (iv (-1)):=
 wy [aF h1,aa (aL (az h2)),ah h3,ah h2,cM h4] 22267308286081
def aoh (h2:(s.size:Int)>0) (h3:Int.toNat 0<s.size) (h4:¬(↑(UInt8.toNat (s.data.toList.getD (Int.toNat 0) (0:UInt8))):Int)=45):
  aV (a7 []) (fl DZ []) 9 13 [sv s] 94 f21 true (iv 1):=
 wy [aF h1,aa (aL (az h2)),ah h3,ah h2,yn h4] 22267308286081
def aoi (h2:¬(s.size:Int)>0):
  aV (a7 []) (fl DZ []) 9 13 [sv s] 64 f21 true (iv 1):=
 wy [aF h1,aa (aL (ab h2)),aF h2] 50864257
end
def jR (s:AT):Int:=if s=ByteArray.mk #[48]then 0 else if 0<s.size/\(ck s 0).toNat=45 then-1 else 1
def HG {a b:AT} (h:a.data.toList=b.data.toList):a=b:=by
 cases a;cases b;simp at h;rw [h]
def aoj (s:AT):Holds prog true 21 [sv s] (iv (jR s)):=by
 have hS:=cC;refine bL (c:=DZ) func21 rfl rfl fun w F=> ?_
 unfold jR;by_cases h0:s=ByteArray.mk #[48]
 .rw [if_pos h0];exact aY hS 9 (aof s (congrArg aq h0))
 .rw [if_neg h0];by_cases h1:0<s.size
  .by_cases h2:(ck s 0).toNat=45
   .rw [if_pos ⟨h1,h2⟩];exact aY hS 9 (aog s (fun h=>h0 (HG h)) (by omega) (by omega) (by show((ck s 0).toNat:Int)=45;omega))
   .rw [if_neg fun h=>h2 h.2];exact aY hS 9 (aoh s (fun h=>h0 (HG h)) (by omega) (by omega) (by show¬((ck s 0).toNat:Int)=45;omega))
  .rw [if_neg fun h=>h1 h.1];exact aY hS 9 (aoi s (fun h=>h0 (HG h)) (by omega))
def HH:=IN 21 [.str] [.int .i64] true (fun d=>true) fun d=>(jR d.1,())
def HJ:=a7 [A5]
def OA:=a7 [HH]
section
variable (s:AT)
def uW:AT:=s.extract 0 (bl (aq s))
def kj:AT:=if bl (aq s)=s.size then ByteArray.mk #[49]else s.extract (bl (aq s)+1) s.size
def sZ:AT:=if jR s<0 then s.extract 1 s.size else s
def aok (h1:s.size<=1000000000) (h2:bl s.data.toList<=s.size):
  aV HJ (fl WU []) 9 7 [sv s] 1 f30 true (sv (s.extract 0 (bl (aq s)))):=
 wy [ah h1,ah h2] 524289
def aol (h1:s.size<=1000000000) (h2:(↑(bl s.data.toList):Int)=(s.size:Int)):
  aV HJ (fl Oy []) 9 14 [sv s] 3 f31 true (sv aoe):=
 wy [ah h1,cM h2] 129
def aom (h1:s.size<=1000000000) (h2:¬(↑(bl s.data.toList):Int)=(s.size:Int)) (h3:i6 ((↑(bl s.data.toList):Int)+1)) (h4:((↑(bl s.data.toList):Int)+1).toNat<=s.size) (h5:(s.extract ((↑(bl s.data.toList):Int)+1).toNat s.size)=(s.extract (bl s.data.toList+1) s.size)):
  aV HJ (fl Oy []) 9 14 [sv s] 2 f31 true (sv (s.extract (bl (aq s)+1) s.size)):=
 wy [ah h1,yn h2,yi h3,ah h4,ah (by omega:s.size<=s.size),ax h5] 417752690817
def aon (h1:jR s<0) (h2:Int.toNat 1<=s.size) (h3:(s.extract (Int.toNat 1) s.size)=(s.extract 1 s.size)):
  aV OA (fl Oz []) 9 9 [sv s] 3 f32 true (sv (s.extract 1 s.size)):=
 wy [ah h1,ah h2,ah (by omega:s.size<=s.size),ax h3] 4345823296
def aoo (h1:¬jR s<0):
  aV OA (fl Oz []) 9 9 [sv s] 2 f32 true (sv s):=
 wy [aF h1] 64
end
def OB:HH.Ok prog:=fun⟨s,_⟩ _=>aoj s
def OC:bD prog (bF HJ):=qJ Dw
def WV:bD prog (bF OA):=qJ OB
def WW:∀l:List UInt8,bl l<=l.length
 |[]=>aK _
 |b::r=>by
  have:=WW r;unfold bl;split
  .exact Nat.zero_le _
  .simp;omega
def WX (s:AT):bl (aq s)<=s.size:=by rw [c6];exact WW _
def WY:=IN 30 [.str] [.str] true (fun d=>decide (d.1.size<=1000000000)) fun d=>(uW d.1,())
def OD:=IN 31 [.str] [.str] true (fun d=>decide (d.1.size<=1000000000)) fun d=>(kj d.1,())
def WZ:=IN 32 [.str] [.str] true (fun d=>true) fun d=>(sZ d.1,())
def HK:=a7 [WY,OD,WZ]
section
variable (s:AT) (h1:s.size<=1000000000)
def aop (h2:(↑(sZ (uW s)).size:Int)>600):
  aV HK (fl HF []) 9 14 [sv s] 112 f73 true (iv 4):=
 wy [ah h1,aa (bg (az h2)),ah h2] 208340000769
def aoq (h2:¬(↑(sZ (uW s)).size:Int)>600) (h3:(↑(kj s).size:Int)>600):
  aV HK (fl HF []) 9 14 [sv s] 111 f73 true (iv 4):=
 wy [ah h1,aa (bg (ab h2)),aF h2,ah h3] 1139233650122753
def aor (h2:¬(↑(sZ (uW s)).size:Int)>600) (h3:¬(↑(kj s).size:Int)>600):
  aV HK (fl HF []) 9 14 [sv s] 79 f73 true (iv 0):=
 wy [ah h1,aa (bg (ab h2)),aF h2,aF h3] 1139233650122753
end
def p5 (s:AT):Int:=if 600<(sZ (uW s)).size\/600<(kj s).size then 4 else 0
def aos:WY.Ok prog:=fun⟨s,_⟩ h=>by
 have hz:=ap h;refine bL (c:=WU) func30 rfl rfl fun w F=> ?_
 exact aY OC 9 (aok s hz (WX s))
def W0:OD.Ok prog:=fun⟨s,_⟩ h=>by
 have hz:=ap h;have hl:bl s.data.toList<=s.size:=WX s;show Holds prog true 31 [sv s] (sv (kj s));refine bL (c:=Oy) func31 rfl rfl fun w F=> ?_
 unfold kj;by_cases h1:bl s.data.toList=s.size
 .rw [if_pos h1];exact aY OC 9 (aol s hz (by omega))
 .rw [if_neg h1];exact aY OC 9 (aom s hz (by omega) (by have hz:s.size<=1000000000:=hz;omega) (by omega) (by rw [show((bl s.data.toList:Int)+1).toNat=bl s.data.toList+1 by omega]))
def aot {s:AT} (h:jR s<0):0<s.size:=by
 unfold jR at h;split at h
 .exact absurd h (by decide)
 .split at h
  .rename_i h1;exact h1.1
  .exact absurd h (by decide)
def aou:WZ.Ok prog:=fun⟨s,_⟩ _=>by
 show Holds prog true 32 [sv s] (sv (sZ s));refine bL (c:=Oz) func32 rfl rfl fun w F=> ?_
 unfold sZ;by_cases h1:jR s<0
 .rw [if_pos h1];exact aY WV 9 (aon s h1 (by have:=aot h1;omega) rfl)
 .rw [if_neg h1];exact aY WV 9 (aoo s h1)
def aov:bD prog (bF HK):=cN (aQ aos (aQ W0 (aQ aou dW)))
def aow (s:AT) (hz:s.size<=1000000000):Holds prog true 73 [sv s] (iv (p5 s)):=by
 have hS:=aov;refine bL (c:=HF) func73 rfl rfl fun w F=> ?_
 unfold p5;by_cases h1:600<(sZ (uW s)).size
 .rw [if_pos (.inl h1)];exact aY hS 9 (aop s hz (by omega))
 .by_cases h2:600<(kj s).size
  .rw [if_pos (.inr h2)];exact aY hS 9 (aoq s hz (by omega) (by omega))
  .rw [if_neg (fun h=>h.elim h1 h2)];exact aY hS 9 (aor s hz (by omega) (by omega))
def OE (s:AT) (i j:Nat):(s.extract i j).size<=s.size:=by rw [ByteArray.size_extract];omega
def aox {s:AT} (h:s.size<=600):p5 s=0:=by
 have h1:=OE s 0 (bl (aq s));have h2:(sZ (uW s)).size<=(uW s).size:=by unfold sZ;split;exact OE _ _ _;exact aK _
 have h3:(kj s).size<=600:=by
  unfold kj;split
  .decide
  .have:=OE s (bl (aq s)+1) s.size;omega
 have h4:(uW s).size<=s.size:=h1;unfold p5;rw [if_neg (by omega)]
def W1:=IN 73 [.str] [.int .i64] true (fun d=>decide (d.1.size<=1000000000)) fun d=>(p5 d.1,())
def aoy:W1.Ok prog:=fun⟨s,_⟩ h=>aow s (ap h)
end
end Go.Proofs.YtibikmmdbdlafaaGreatDoor
namespace Go.Proofs.YtibikmmdbdlafaaGreatDoor
open Go.RowKit Go.Sort Go.Lib
def W2 (w:World) (T:TypeId) (nd:Nat) (hs:nd<=24):Holds (fun(b:UInt8)=>Value.int .u8 (b.toNat:Int)) (w.alloc (.cells zeros24 T)) w.heap.size 0 (Array.replicate nd (0:UInt8)):=fun j hj=>by
 have hj':j<nd:=by simpa using hj
 refine⟨?_,World.frozen?_alloc_new _ _ _ _⟩;rw [World.cell?_alloc_new,zeros24_at _ (by omega),getElem!_pos _ j hj];simp
def aoz (w:World) (o:Obj) (dk:Array UInt8) (k:Nat):∃os,(putRow (fun(b:UInt8)=>Value.int .u8 (b.toNat:Int)) (w.alloc o) w.heap.size 0 dk).drewN k=grow (w.drewN k) os:=by
 rw [alloc_eq_grow];obtain⟨os',_,e⟩:=putRow_grow_new (fun(b:UInt8)=>Value.int .u8 (b.toNat:Int)) w #[o] w.heap.size 0 dk (aK _);exact⟨os',by rw [e];rfl⟩
set_option maxHeartbeats 6400000 in
set_option maxRecDepth 100000 in
def aoA (u:Nat) (hu64:u<18446744073709551616) (w:World) (htab:Lib.TabIs Tryz.prog w "internal/strconv.uint64pow10" .u64 Lib.pow10Tab):
  Calls Tryz.prog 227 #[.int .u64 u, .int .i64 10] w fun e w'=>e= .returned (.string ⟨(decDigits u).toArray⟩)/\∃k os,w'=grow (w.drewN k) os:=by
 by_cases hs:u<100
 .have aoB:=Lib.hid (fun w=>Tryz.internal_strconv_small u hs w);have hwr:IntKind.i64.wrap (u:Int)=(u:Int):=by rw [IntKind.wrap_i64];omega
  go_enter Tryz.func227,Tryz.ntmps227
  go_wp2_with fail
  refine(aoB.out _).mono ?_;rintro e w' ⟨rfl,rfl⟩
  go_wp2
  go_ret
  exact⟨rfl,0, #[],by simp [World.drewN_zero]⟩
 .have hu1:1<=u:=by omega
  have hnd20:nDigits u<=20:=by have:=numDigits_eq u hu1 hu64;split at this<;>omega
  have Na:=Lib.hid (fun w h=>Tryz.internal_strconv_numDigits u hu1 hu64 w h);have ET:=W2 w 260 (nDigits u) (by omega);have hfmt:=Tryz.internal_strconv_formatBase10 w.heap.size 0 24 u (Array.replicate (nDigits u) 0) (w.alloc (.cells zeros24 260)) ET (by rw [Array.size_replicate];exact lt_pow_nDigits u) hu64 (by rw [Array.size_replicate];omega);rw [Array.size_replicate]at hfmt;have aoC:=Lib.hid hfmt;have aoD:=Lib.hid (tabIs_alloc htab (.cells zeros24 260));clear ET hfmt htab
  go_enter Tryz.func227,Tryz.ntmps227
  go_wp2_with fail
  refine(Na.out _ aoD.out).mono ?_;rintro e w' ⟨rfl,rfl⟩;have hal:Tryz.prog.arrayLen 260=24:=by simp [Program.arrayLen,Tryz.underlying260]
  have avb:∀W,(Instr.sliceAt 260 (.pointer (some ⟨w.heap.size,0,none⟩)) none (some (.int .i64 (nDigits u:Int))) none).run Tryz.prog W= .ok (.slice (some ⟨w.heap.size,0,none⟩) (nDigits u) 24) W:=fun W=>by
   rw [run_sliceAt_array_h W 260 ⟨w.heap.size,0,none⟩ (by simp [Program.arrayLen,Program.elem,Tryz.underlying260]) .i64 (nDigits u:Int) (by omega) (by rw [hal];omega)]
   go_simp
  clear hal
  go_wp2_with fail
  refine aoC.out.mono ?_;rintro e w' ⟨rfl,k,v',dk,rfl,hF⟩;have hcv:(convert 205 9 (.slice (some ⟨w.heap.size,0,none⟩) (nDigits u) 24)).run Tryz.prog ((putRow (fun(b:UInt8)=>Value.int .u8 (b.toNat:Int)) (w.alloc (.cells zeros24 260)) w.heap.size 0 dk).drewN k)= .ok (.string ⟨(decDigits u).toArray⟩) ((putRow (fun(b:UInt8)=>Value.int .u8 (b.toNat:Int)) (w.alloc (.cells zeros24 260)) w.heap.size 0 dk).drewN k):=by
   have h:=run_convert_bytes_back (P:=Tryz.prog) ((putRow (fun(b:UInt8)=>Value.int .u8 (b.toNat:Int)) (w.alloc (.cells zeros24 260)) w.heap.size 0 dk).drewN k) 205 9 5 ⟨w.heap.size,0,none⟩ 24 (decDigits u) Tryz.underlying205 Tryz.underlying5 Tryz.underlying9 (fun j hj=>by
    rw [row_is_numeral hF j hj,add_plain,World.cell?_drewN];exact cell?_putRow (fun(b:UInt8)=>Value.int .u8 (b.toNat:Int)) _ w.heap.size 0 _ dk (W2 w 260 (nDigits u) (by omega)) (by rw [hF.size,Array.size_replicate]) j (by rw [hF.size];rw [decDigits_length]at hj;exact hj))
   rw [decDigits_length]at h;exact h
  go_wp2
  go_ret
  obtain⟨os,aoE⟩:=aoz w (.cells zeros24 260) dk k;exact⟨rfl,k,os,aoE⟩
end Go.Proofs.YtibikmmdbdlafaaGreatDoor
namespace Go.Proofs.YtibikmmdbdlafaaGreatDoor
open Go.RowKit Sv Go.Proofs.Tryz
noncomputable section
def eH (u:Int):AT:=⟨(Lib.decDigits u.toNat).toArray⟩
def wp (u b:Int):Bool:=wh u&&(b==10)
def W3:=k_a f179
def W4:=IN 227 [aG, .int .i64] [.str] true (fun d=>wp d.1 d.2.1) fun d=>(eH d.1,())
def W5:=IN 179 [aG, .int .i64] [.str] true (fun d=>wp d.1 d.2.1) fun d=>(eH d.1,())
def aoF (u b:Int) (h1:(wp u b)=true):
  aV (a7 [W4]) (fl W3 []) 9 8 [cu u,iv b] 1 f179 true (sv (eH u)):=
 wy [aa h1] 1
def aoG:W4.Ok prog:=fun⟨u,b,_⟩ h w F xs hF cv hd=>by
 have h:wp u b=true:=h;unfold wp at h;rw [ae,fW]at h;obtain⟨h1,rfl⟩:=h;have h1:=si.1 h1;cases hd with
 |cons d1 d2=>
  cases d2 with
  |cons d2 d3=>
  cases d3;rw [d1.cc,d2.cc];have:=aoA u.toNat (by omega) w (VQ hF cv);rw [show((u.toNat:Nat):Int)=u from Int.toNat_of_nonneg h1.1]at this;refine this.mono ?_;rintro e w' ⟨rfl,k,os,rfl⟩;exact⟨_,⟨F.at',fun _=>none⟩,rfl, .raw _,⟨hF.pJ,hF.all,fun b A h=>by cases h⟩,(fun b A h=>by cases h),VP _ _ (aK _) _ _⟩
def aoH:W5.Ok prog:=fun⟨u,b,_⟩ h=>by
 have h:wp u b=true:=h;refine bL (c:=W3) func179 rfl rfl fun w F=> ?_
 exact aY (qJ aoG) 9 (aoF u b h)
def jv (s:AT) (c:Int):AT:=⟨(Lib.repeatL s.data.toList c.toNat).toArray⟩
def Bt (s:AT) (c:Int):Bool:=decide (s.size<=1000000)&&(decide (0<=c)&&decide (c<=1000000))
def W6:=IN 180 [.str, .int .i64] [.str] true (fun d=>Bt d.1 d.2.1) fun d=>(jv d.1 d.2.1,())
def aoI:W6.Ok prog:=fun⟨s,c,_⟩ h w F xs hF cv hd=>by
 have h:Bt s c=true:=h;unfold Bt at h;rw [ae,ae,bE,bE,bE]at h;obtain⟨h1,h2,h3⟩:=h;cases hd with
 |cons d1 d2=>
  cases d2 with
  |cons d2 d3=>
  cases d3;rw [d1.cc,d2.cc];have hm:s.size*c.toNat<=1000000*1000000:=Nat.mul_le_mul h1 (by omega);have:=Tryz.strings_Repeat s c.toNat w (by omega) (by omega);rw [show((c.toNat:Nat):Int)=c from Int.toNat_of_nonneg h2]at this;refine this.mono ?_;rintro e w' ⟨rfl,hb⟩;exact⟨_,⟨F.at',fun _=>none⟩,rfl, .raw _,⟨hF.pJ,hF.all,fun b A h=>by cases h⟩,(fun b A h=>by cases h),hb⟩
def jS:=k_a f127
def nR:=a7 [VO,Gn,Mw,W5,W6]
abbrev D0:List Nat:=[1,1,1,1,1,0,0,0]
abbrev HL:List Nat:=[1,1,1,1,1,1,1,1,0,1,0,0]
abbrev l8:List Int:=[1000000000000000000]
abbrev ri:av:= .int .u8
abbrev W7 (j:Nat) (ps:List AT):af:= .bU 9 .str j 0 ps.length (bM ps.length)
abbrev W8 (ps:List AT):fS:= .opt 9 .str ps
abbrev D1 (l:List AT):af:= .bu false .str l
abbrev OG (p:af) (s:List Int):fS:= .blk (.cells 207 [p, .bU 5 ri 65 0 s.length (bM s.length)] true false false)
abbrev W9:List AT:=[]
abbrev Xa:af:= .raw (.pointer none)
def OH (neg:Bool) (w:List Int):bI:={n:=69,sl:=[(3,bv neg),(4, .bu false aG w),(5, .bU 167 aG 64 0 1 (bM 1)),(6,W7 65 [])],bH:=[(64, .opt 167 aG l8),(65,W8 [])],next:=66}
def lB (neg:Bool) (w:List Int) (ps:List AT):bI:={n:=69,sl:=[(3,bv neg),(4, .bu false aG w),(5, .bu false aG l8),(6,W7 64 ps)],bH:=[(64,W8 ps)],next:=65}
def HM (neg:Bool) (ps:List AT):bI:={n:=69,sl:=[(3,bv neg),(6,D1 ps)],bH:=[],next:=64}
def D2 (neg:Bool) (ps:List AT):bI:={n:=69,sl:=[(3,bv neg),(6,D1 ps),(10, .ptr 64 0)],bH:=[(64,OG Xa []),(65, .opt 5 ri [])],next:=66}
def wL (ps:List AT) (z:Int):bI:={n:=69,sl:=[(6,D1 ps),(10, .ptr 64 0),(11,iv z)],bH:=[(64,OG Xa []),(65, .opt 5 ri [])],next:=66}
def mX (ps:List AT) (s:List Int) (z:Int):bI:={n:=69,sl:=[(6,D1 ps),(10, .ptr 64 0),(11,iv z)],bH:=[(64,OG (.ptr 64 0) s),(65, .opt 5 ri s)],next:=66}
def aoJ (a:aC) (h1:a.2.isEmpty=true) (h2:(ii a.1)=true):
  aV nR (fl jS []) 4 69 [aB a] 3 f127 true (sv (cm a.1)):=
 wy [aa (aL (h1)),aa h2] 129
def IOz (a:aC) (h1:a.2.isEmpty=false) (h2:(ay a)=true) (h3:(af.raw (Value.int .u64 (1000000000000000000:Int))::List.append._f [] PUnit.unit (List.flatten._f [] PUnit.unit))=(List.flatMap (fun x=>[af.raw (Value.int .u64 x)]) [(1000000000000000000:Int)])):
  aE.path (om prog nR (fl jS []) 6 69 [aB a]) (dl 2) (ep prog 69 .normal [(64,65,some 1)] (OH (b5 a) (aA a))):=
 mp (oq (aL h1) h2 (rr (b5 a)) (rr (aA a)) (an (rr (1:Nat)) (an (rr (bh.known (1:Nat))) (rr (bM (1:Nat))))) (rr W9.length) (an h3 (rr (1:Nat))) (rr W9) trivial)
section
variable (neg:Bool) (w:List Int)
def aoK:
  aE.path (aE.ret (R.normal ((OH neg w).T.set 5 (some (.bu false aG l8))) ((OH neg w).H.drop 64) []):aE R) (dl 1) (ep prog 69 .normal [(64,65,none)] (lB neg w [])):=
 wy [] 0
def aoL (ps:List AT) (h1:(w.length:Int)>0) (h2:(pX w [1000000000000000000])=true) (h3:(↑(cL w [1000000000000000000]).length:Int)>0) (h4:Int.toNat 0<(cL w [1000000000000000000]).length) (h5:(wp ((cL w [1000000000000000000]).getD (Int.toNat 0) 0) 10)=true) (h6:(↑(e9 w [1000000000000000000]).length:Int)>0) (h7:i6 (18-(↑(eH ((cL w [1000000000000000000]).getD (Int.toNat 0) 0)).size:Int))) (h8:(Bt (ByteArray.mk #[48]) (18-(↑(eH ((cL w [1000000000000000000]).getD (Int.toNat 0) 0)).size:Int)))=true) (h9:(jv (ByteArray.mk #[48]) (18-(↑(eH ((cL w [1000000000000000000]).getD (Int.toNat 0) 0)).size:Int))).size+(eH ((cL w [1000000000000000000]).getD (Int.toNat 0) 0)).size<=9223372036854775807) (h10:ps.length+1<=1000000) (h11:(ps.length+1)=(ps++[jv (ByteArray.mk #[48]) (18-(↑(eH ((cL w [1000000000000000000]).getD 0 0)).size:Int))++eH ((cL w [1000000000000000000]).getD 0 0)]).length) (h12:(bh.full)=(bM (ps++[jv (ByteArray.mk #[48]) (18-(↑(eH ((cL w [1000000000000000000]).getD 0 0)).size:Int))++eH ((cL w [1000000000000000000]).getD 0 0)]).length)) (dZ:(ps++[jv (ByteArray.mk #[48]) (18-(↑(eH ((cL w [1000000000000000000]).getD (Int.toNat 0) 0)).size:Int))++eH ((cL w [1000000000000000000]).getD (Int.toNat 0) 0)])=(ps++[jv (ByteArray.mk #[48]) (18-(↑(eH ((cL w [1000000000000000000]).getD 0 0)).size:Int))++eH ((cL w [1000000000000000000]).getD 0 0)])):
  bz nR (fl jS D0) (lB neg w ps) 23 .normal [(64,66,none)] (lB neg (e9 w l8) (ps++[jv (ByteArray.mk #[48]) (18-((eH ((cL w l8).getD 0 0)).size:Int))++eH ((cL w l8).getD 0 0)])):=
 wy [ah h1,aa h2,ah h3,ah h4,aa h5,ah h6,yi h7,aa h8,ah h9,yk 9 av.str ps,lT 16 h10,ax h11,ax h12,ot 9 (av.str) dZ] 18883085600279906147891464042451054721
def aoM (ps:List AT) (h1:(w.length:Int)>0) (h2:(pX w [1000000000000000000])=true) (h3:(↑(cL w [1000000000000000000]).length:Int)>0) (h4:Int.toNat 0<(cL w [1000000000000000000]).length) (h5:(wp ((cL w [1000000000000000000]).getD (Int.toNat 0) 0) 10)=true) (h6:¬(↑(e9 w [1000000000000000000]).length:Int)>0) (h7:ps.length+1<=1000000) (h8:(ps.length+1)=(ps++[eH ((cL w [1000000000000000000]).getD 0 0)]).length) (h9:(bh.full)=(bM (ps++[eH ((cL w [1000000000000000000]).getD 0 0)]).length)) (h10:(ps++[eH ((cL w [1000000000000000000]).getD (Int.toNat 0) 0)])=(ps++[eH ((cL w [1000000000000000000]).getD 0 0)])):
  bz nR (fl jS D0) (lB neg w ps) 19 .normal [(64,66,none)] (lB neg (e9 w l8) (ps++[eH ((cL w l8).getD 0 0)])):=
 wy [ah h1,aa h2,ah h3,ah h4,aa h5,aF h6,yk 9 av.str ps,lT 16 h7,ax h8,ax h9,ot 9 (av.str) h10] 56580049495547654937508646498433
def aoN (ps:List AT) (h1:(w.length:Int)>0) (h2:(pX w [1000000000000000000])=true) (h3:¬(↑(cL w [1000000000000000000]).length:Int)>0) (h4:(↑(e9 w [1000000000000000000]).length:Int)>0) (h5:ps.length+1<=1000000) (h6:(ps.length+1)=(ps++[jv (ByteArray.mk #[48]) 17++ByteArray.mk #[48]]).length) (h7:(bh.full)=(bM (ps++[jv (ByteArray.mk #[48]) 17++ByteArray.mk #[48]]).length)) (h8:(ps++[jv (ByteArray.mk #[48]) (18-(↑(ByteArray.mk #[48]).size:Int))++ByteArray.mk #[48]])=(ps++[jv (ByteArray.mk #[48]) 17++ByteArray.mk #[48]])):
  bz nR (fl jS D0) (lB neg w ps) 21 .normal [(64,66,none)] (lB neg (e9 w l8) (ps++[jv (ByteArray.mk #[48]) 17++ByteArray.mk #[48]])):=
 wy [ah h1,aa h2,aF h3,ah h4,yk 9 av.str ps,lT 16 h5,ax h6,ax h7,ot 9 (av.str) h8] 46277912488612378417574150418561
def aoO (ps:List AT) (h1:¬(w.length:Int)>0):
  bz nR (fl jS D0) (lB neg w ps) 2 (.exit 0) [(64,64,none)] (lB neg w ps):=
 wy [aF h1] 1
def aoP (ps:List AT):
  aE.path (aE.ret (R.normal ((lB neg w ps).T.set 6 (some (D1 ps))) ((lB neg w ps).H.drop 64) []):aE R) (dl 1) (ep prog 69 .normal [] (HM neg ps)):=
 wy [] 0
end
def aoQ (neg:Bool) (ps:List AT):
  dV nR ((fl jS []).drop 7) 1 (HM neg ps) 1 .normal [(64,64,none)] (D2 neg ps):=
 wy [] 0
section
variable (ps:List AT)
def aoR (h1:vT.length+(ByteArray.mk #[45]).size<=1000000) (h2:i6 ((ps.length:Int)-1)) (h3:(vT.length+(ByteArray.mk #[45]).size)=(List.length [45])) (h4:(bh.full)=(bM (List.length [45]))) (h5:(bP ri none++List.map (fun x=>(↑(UInt8.toNat x):Int)) (ByteArray.mk #[45]).data.toList)=([45])):
  dV nR ((fl jS []).drop 8) 3 (D2 true ps) 11 .normal [(64,64,none),(65,66,none)] (mX ps [45] ((ps.length:Int)-1)):=
 wy [lT 1 h1,yi h2,ax h3,ax h4,pK prog 5 (.int .u8) h5] 97937158488233710599536640
def aoS (h1:i6 ((ps.length:Int)-1)):
  dV nR ((fl jS []).drop 8) 3 (D2 false ps) 2 .normal [(64,64,none),(65,65,none)] (wL ps ((ps.length:Int)-1)):=
 wy [yi h1] 64
def aoT (z:Int) (h1:z>=0) (h2:0<=z) (h3:z.toNat<ps.length) (h4:(Nat.beq (ps.getD z.toNat ByteArray.empty).size 0)=false) (h5:vT.length+(ps.getD z.toNat ByteArray.empty).size<=1000000) (h6:i6 (z-1)) (h7:(vT.length+(ps.getD z.toNat ByteArray.empty).size)=(List.map (fun x=>(↑(UInt8.toNat x):Int)) (ps.getD z.toNat ByteArray.empty).data.toList).length) (h8:(bh.full)=(bM (List.map (fun x=>(↑(UInt8.toNat x):Int)) (ps.getD z.toNat ByteArray.empty).data.toList).length)) (h9:(bP ri none++List.map (fun x=>(↑(UInt8.toNat x):Int)) (ps.getD z.toNat ByteArray.empty).data.toList)=(List.map (fun x=>(↑(UInt8.toNat x):Int)) (ps.getD z.toNat ByteArray.empty).data.toList)):
  bz nR (fl jS HL) (wL ps z) 11 .normal [(64,64,none),(65,66,none)] (mX ps (dS (ps.getD z.toNat ByteArray.empty)) (z-1)):=
 wy [ah h1,ah h2,ah h3,aa h4,lT 1 h5,yi h6,ax h7,ax h8,pK prog 5 (.int .u8) h9] 723092382634460629853043437697
def aoU (s:List Int) (z:Int) (h1:z>=0) (h2:0<=z) (h3:z.toNat<ps.length) (h4:(Nat.beq (ps.getD z.toNat ByteArray.empty).size 0)=false) (h5:s.length+(ps.getD z.toNat ByteArray.empty).size<=1000000) (h6:i6 (z-1)) (h7:(s.length+(ps.getD z.toNat ByteArray.empty).size)=(s++List.map (fun x=>(↑(UInt8.toNat x):Int)) (ps.getD z.toNat ByteArray.empty).data.toList).length) (h8:(bh.full)=(bM (s++List.map (fun x=>(↑(UInt8.toNat x):Int)) (ps.getD z.toNat ByteArray.empty).data.toList).length)):
  bz nR (fl jS HL) (mX ps s z) 17 .normal [(64,64,none),(65,66,none)] (mX ps (s++dS (ps.getD z.toNat ByteArray.empty)) (z-1)):=
 wy [ah h1,ah h2,ah h3,aa h4,yk 5 ri s,lT 1 h5,yi h6,ax h7,ax h8,ot 5 (.int .u8) (Eq.refl (s++List.map (fun x=>(↑(UInt8.toNat x):Int)) (ps.getD z.toNat ByteArray.empty).data.toList))] 51428980992071965952313753874561
def aoV (s:List Int) (z:Int) (h1:¬z>=0):
  bz nR (fl jS HL) (mX ps s z) 2 (.exit 2) [(64,64,none),(65,65,none)] (mX ps s z):=
 wy [aF h1] 1
def aoW (s:List Int) (z:Int) (h1:1<=s.length) (h2:s.length<=140737488355328) (h3:s.length-1<s.length) (h4:List.map (fun x=>(↑(UInt8.toNat x):Int)) (ByteArray.mk (List.toArray (List.map (fun x=>UInt8.ofNat x.toNat) (s.take s.length)))).data.toList=s.take s.length) (h5:(ByteArray.mk (List.toArray (List.map (fun x=>UInt8.ofNat x.toNat) (s.take s.length))))=(ByteArray.mk (List.toArray (List.map (fun x=>UInt8.ofNat x.toNat) s)))):
  bS nR ((fl jS []).drop 12) (mX ps s z) 1 f127 true (sv (o5 s)):=
 wy [aa (aD (v:=af.bU 5 (.int .u8) (65:Nat) (0:Nat) s.length (bM s.length))),aa (fK h1),aa (fK h2),yv 5 ri h3,aa (show(decide (List.map (fun x=>(↑(UInt8.toNat x):Int)) (ByteArray.mk (List.toArray (List.map (fun x=>UInt8.ofNat x.toNat) ((bP (.int .u8) (a8 5 ri s)).take s.length)))).data.toList=(bP (.int .u8) (a8 5 ri s)).take s.length))=true from(by simp only [eD]<;>exact az h4)),ax (show(ByteArray.mk (List.toArray (List.map (fun x=>UInt8.ofNat x.toNat) ((bP (.int .u8) (a8 5 ri s)).take s.length))))=(ByteArray.mk (List.toArray (List.map (fun x=>UInt8.ofNat x.toNat) s)))from(by simp only [eD]<;>exact h5))] 108372612023324801
end
def OI:bD prog (bF nR):=cN (aQ amn (aQ rf (aQ Uk (aQ aoH (aQ aoI dW)))))
def Xb:∀c:Nat,Lib.repeatL [48] c=List.replicate c 48
 |0=>rfl
 |c+1=>by rw [Lib.repeatL,Xb c];rfl
def Xc:∀k:Nat,kL k 0=List.replicate k 48
 |0=>rfl
 |k+1=>by
  rw [kL,show(0:Int)/10=0 from rfl,Xc k,List.replicate_succ'];rfl
def Xd:∀(k:Nat) (x:Int),0<=x->x<10^(k+1)->kL (k+1) x=List.replicate (k+1-(Lib.decDigits x.toNat).length) 48++Lib.decDigits x.toNat
 |k,x,h0,h1=>by
  by_cases hx:x<10
  .rw [kL,show x/10=0 by omega,Xc,q9 (by omega)];show _++[oJ x]=List.replicate (k+1-1) 48++_;rw [Nat.add_sub_cancel];unfold oJ;rw [show x%10=x by omega]
  .cases k with
   |zero=>simp at h1;omega
   |succ k=>
    rw [Int.pow_succ]at h1;have e:(10:Int)^(k+1)=10^k*10:=Int.pow_succ ..;rw [kL,Xd k (x/10) (by omega) (by omega),wH (u:=x.toNat) (by omega),dy,show(x/10).toNat=x.toNat/10 by omega,rA];show _=List.replicate (k+1+1-(_+1)) 48++_;rw [Nat.add_sub_add_right];unfold oJ;rw [show(x%10).toNat=x.toNat%10 by omega]
def mY (m:Int):List UInt8:=if m=0 then []else Lib.decDigits m.toNat
def aoX {m:Int} (h:0<m):mY m=mY (m/1000000000000000000)++(if m/1000000000000000000=0 then Lib.decDigits (m%1000000000000000000).toNat else kL 18 (m%1000000000000000000)):=by
 unfold mY;rw [if_neg (by omega)];by_cases hq:m/1000000000000000000=0
 .rw [if_pos hq,if_pos hq,List.nil_append,show m%1000000000000000000=m by omega]
 .rw [if_neg hq,if_neg hq,<-N7 18 _ _ (by omega) (by omega) (by have:(10:Int)^18=1000000000000000000:=rfl;omega)];congr 1;have:(10:Nat)^18=1000000000000000000:=rfl;omega
def fJ (ps:List AT):List UInt8:=(ps.reverse.map aq).flatten
def aoY (ps:List AT) (s:AT):fJ (ps++[s])=aq s++fJ ps:=by unfold fJ;simp
def m9 (ps:List AT) (s:AT):fJ (s::ps)=fJ ps++aq s:=by unfold fJ;simp
def OJ:∀{ps:List AT},(∀s∈ps,1<=(aq s).length)->ps.length<=(fJ ps).length
 |[],_=>Nat.zero_le _
 |s::ps,h=>by
  have h1:=OJ (ps:=ps) fun x hx=>h x (mh _ hx)
  have h2:=h s mj;rw [m9,dy,List.length_cons];omega
def tp (u:Nat):1<=(Lib.decDigits u).length:=by
 by_cases h:u<10
 .rw [q9 h];exact aK _
 .rw [wH h,dy];exact Nat.le_add_left _ _
def Xe {n:Nat} {m:Int} (h0:0<=m) (h:m<18446744073709551616^n):(Lib.decDigits m.toNat).length<=20*n+1:=by
 refine Dec.N0 (20*n) _ ?_;have e:(18446744073709551616:Nat)^n<=10^(20*n):=by rw [Nat.pow_mul];exact Nat.pow_le_pow_left (by decide) _
 have h2:((18446744073709551616^n:Nat):Int)=18446744073709551616^n:=by rw [Int.natCast_pow];rfl
 have h3:10^(20*n)<=10^(20*n+1):=Nat.pow_le_pow_right (by decide) (by omega);omega
def Xf (s:AT):o5 (dS s)=s:=by
 refine gy ?_;unfold o5 dS;show((s.data.toList.map _).map _)=_;rw [List.map_map];refine(List.map_congr_left fun x _=> ?_).trans (List.map_id _);show UInt8.ofNat ((x.toNat:Int).toNat)=x;rw [Int.toNat_natCast];exact UInt8.ofNat_toNat
def aoZ (a b:AT):dS (a++b)=dS a++dS b:=by
 unfold dS;rw [ja,List.map_append]
def D3 (a:AT):(dS a).length=(aq a).length:=by unfold dS;rw [zi]
def ao0 (s:AT):I2 (dS s)=true:=az (by rw [Xf])
def y7 (neg:Bool):List UInt8:=if neg then [45]else []
def Xg {a:aC} {n:Nat} (h:aZ n a=true):aq (cm (aj a))=y7 (b5 a)++Lib.decDigits (aj a).natAbs:=by
 obtain⟨_,_,_,h4,_⟩:=kC h;show(cm (aj a)).data.toList=_;rw [jQ];unfold y7;cases hn:b5 a with
 |true=>
  rw [itoa_neg (h4.1 hn)];rfl
 |false=>
  have:¬aj a<0:=fun h=>by rw [h4.2 h]at hn;cases hn
  rw [il (by omega)];show _=[]++_;rw [List.nil_append]
def Xh:∀(a b:List AT),fJ (a++b)=fJ b++fJ a
 |[],b=>by simp [fJ]
 |s::a,b=>by rw [List.cons_append,m9,Xh a b,m9,rA]
def Xi (ps:List AT) (k:Nat):(fJ (ps.drop k)).length<=(fJ ps).length:=by
 have h:=Xh (ps.take k) (ps.drop k);rw [List.take_append_drop]at h;rw [h,dy];omega
def IR {ps:List AT} {j:Nat} (h:j<ps.length):fJ (ps.drop j)=fJ (ps.drop (j+1))++aq (ps.getD j ByteArray.empty):=by
 rw [List.drop_eq_getElem_cons h,m9,ao,BH h];rfl
def OK {α:Type} (l:List α) (x:α):bh.full=bM (l++[x]).length:=by simp [bM]
def Xj {n:Nat} (h:1<=n):bh.full=bM n:=(ZA h).symm
def Xk {r:Int} (h0:0<=r) (h1:r<1000000000000000000):(Lib.decDigits r.toNat).length<=18:=Dec.amI _ (by omega)
def OL (r:Int):aq (eH r)=Lib.decDigits r.toNat:=by unfold eH;simp
def Xl (r:Int):(eH r).size=(Lib.decDigits r.toNat).length:=by rw [c6,OL]
def OM (c:Int):aq (jv (ByteArray.mk #[48]) c)=List.replicate c.toNat 48:=by
 unfold jv;show(Lib.repeatL [48] c.toNat).toArray.toList=_;rw [Xb]
def ao1 {r:Int} (h0:0<=r) (h1:r<1000000000000000000):aq (jv (ByteArray.mk #[48]) (18-((eH r).size:Int))++eH r)=kL 18 r:=by
 have hl:=Xk h0 h1;unfold aq;rw [ja];show aq _++aq _=_;rw [OM,OL,Xl,Xd 17 r h0 (by have:(10:Int)^18=1000000000000000000:=rfl;omega)];congr 2;omega
def ao2:aq (jv (ByteArray.mk #[48]) 17++ByteArray.mk #[48])=kL 18 0:=by
 unfold aq;rw [ja];show aq _++aq _=_;rw [OM];rfl
def UP {m:Int} (h0:0<=m) (h1:m<18446744073709551616^10000):
  pX (cV 18446744073709551616 m) l8=true/\e9 (cV 18446744073709551616 m) l8=cV 18446744073709551616 (m/1000000000000000000)/\cL (cV 18446744073709551616 m) l8=cV 18446744073709551616 (m%1000000000000000000):=by
 have h3:=(qM (b:=18446744073709551616) (by decide) h0).2.2;have e1:ak (cV 18446744073709551616 m)=m:=h3;have e2:ak l8=1000000000000000000:=AF _;have hl:=yj (b:=18446744073709551616) (by decide) h0 h1;have hB:=yo h0;refine⟨?_,by unfold e9;rw [e1,e2],by unfold cL;rw [e1,e2]⟩;unfold pX mU;rw [hB,show(gY l8&&jG l8)=true by rfl,az (show(cV 18446744073709551616 m).length<=1000000 by omega),az (show(cV 18446744073709551616 m).length<=300000 by omega)];rfl
def ao3 {r:Int} (h0:0<r) (h1:r<1000000000000000000):cV 18446744073709551616 r=[r]:=(r4 (by decide) (LW ⟨by omega,by omega⟩) (Tt (by omega)) (AF r)).symm
def D4 {l:List Int} (h:l≠[]):(l.length:Int)>0:=by
 cases l with
 |nil=>exact absurd rfl h
 |cons a b=>rw [List.length_cons];omega
def HN (N:Int) (x:Int×List AT):Prop:=0<=x.1/\x.1<=N/\mY N=mY x.1++fJ x.2/\∀s∈x.2,1<=(aq s).length
def ao4 {N:Int} {x:Int×List AT} (hN:0<N) (hb:N<18446744073709551616^10000) (h:HN N x):x.2.length<=(fJ x.2).length/\(fJ x.2).length<=200001:=by
 obtain⟨_,_,h3,h4⟩:=h;refine⟨OJ h4, ?_⟩;have h5:=Xe (ct hN) hb;have h6:=congrArg List.length h3;unfold mY at h6;rw [if_neg (by omega),dy]at h6;omega
def OO {N q:Int} {m:Int} {ps:List AT} {s:AT} (h:HN N (m,ps)) (hm:0<m) (hq:q=m/1000000000000000000)
  (hs:aq s=if q=0 then Lib.decDigits (m%1000000000000000000).toNat else kL 18 (m%1000000000000000000)):HN N (q,ps++[s])/\q.toNat<m.toNat:=by
 obtain⟨h1,h2,h3,h4⟩:=h;have h2:m<=N:=h2;have h3:mY N=mY m++fJ ps:=h3;refine⟨⟨by show 0<=q;omega,by show q<=N;omega, ?_,fun x hx=> ?_⟩,by omega⟩
 .show mY N=mY q++fJ (ps++[s]);rw [h3,aoX hm,aoY,hs,hq,rA]
 .rcases List.mem_append.1 hx with hx|hx
  .exact h4 x hx
  .rw [List.mem_singleton.1 hx,hs];split
   .exact tp _
   .rw [N6];decide
def Xm (neg:Bool) (ps:List AT) (x:Bool×Nat×AT):Prop:=x.2.1<=ps.length/\aq x.2.2=y7 neg++fJ (ps.drop x.2.1)/\(x.1=false->neg=false/\x.2.1=ps.length)
def Xn {neg:Bool} {ps:List AT} {v:AT} (hv:aq v=y7 neg++fJ ps) (hl:(fJ ps).length<=200001) (hlp:1<=ps.length) (hp:∀s∈ps,1<=(aq s).length) (w:World) (F:Sv.Env) (b0:Bool) (s0:AT) (h0:Xm neg ps (b0,ps.length,s0)):
  aW prog w F 69 ((fl jS []).drop 11) (cond b0 (mX ps (dS s0) ((ps.length:Int)-1)) (wL ps ((ps.length:Int)-1))).T (cond b0 (mX ps (dS s0) ((ps.length:Int)-1)) (wL ps ((ps.length:Int)-1))).H (hJ prog true f127 (sv v)):=by
 have hS:=OI;have avc:=OJ hp;refine aW.loop (ι:={x:Bool×Nat×AT//Xm neg ps x}) (id:=2) (b:=cat jS HL) (rest:=(fl jS []).drop 12) (by kernel_rfl) (fun x=>cond x.1.1 (mX ps (dS x.1.2.2) ((x.1.2.1:Int)-1)) (wL ps ((x.1.2.1:Int)-1))) (fun x=>x.1.2.1) ⟨(b0,ps.length,s0),h0⟩ (fun x=>by obtain⟨⟨b,_⟩,_⟩:=x;cases b<;>rfl) ?_;rintro⟨⟨b,k,s⟩,hk,hs,hb⟩;have hk:k<=ps.length:=hk;have hs:aq s=y7 neg++fJ (ps.drop k):=hs;have sV:(y7 neg).length<=1:=by cases neg<;>decide
 have nu:(dS s).length<=200002:=by
  have:=Xi ps k;rw [D3,hs,dy];omega
 cases k with
 |zero=>
  cases b with
  |false=>have:=(hb rfl).2;exact absurd (show 0=ps.length from this) (by omega)
  |true=>
   refine bC (s:=mX ps (dS s) (((0:Nat):Int)-1)) hS (aoV ps (dS s) _ (by omega)) ?_;refine cI (cQ ?_);obtain rfl:s=v:=gy (by show aq s=aq v;rw [hs,hv,List.drop_zero]);have hs1:1<=(dS s).length:=by rw [D3,hs,List.drop_zero,dy];omega
   have key:=aoW ps (dS s) (((0:Nat):Int)-1) hs1 (by omega) (by omega) (by rw [dR];exact ap (ao0 s)) (by rw [dR]);rw [Xf]at key;exact bY (s:=mX ps (dS s) (((0:Nat):Int)-1)) hS key
 |succ j=>
  have HE:(((j+1:Nat):Int)-1)=(j:Int):=by omega
  have et:(j:Int).toNat=j:=by omega
  have hpc:=hp (ps.getD j ByteArray.empty) (by rw [ao,BH (by omega)];exact List.getElem_mem _);have hsz:(ps.getD j ByteArray.empty).size=(aq (ps.getD j ByteArray.empty)).length:=c6 _;have hnx:=IR (ps:=ps) (j:=j) (by omega);have gX:(fJ (ps.drop j)).length<=200001:=by have:=Xi ps j;omega
  rw [hnx,dy]at gX;have hbz:Nat.beq (ps.getD j ByteArray.empty).size 0=false:=by
   cases hq:Nat.beq (ps.getD j ByteArray.empty).size 0 with
   |false=>rfl
   |true=>have:=ac hq;omega
  cases b with
  |false=>
   obtain⟨rfl,hj⟩:=hb rfl;have hj:j+1=ps.length:=hj;have key:=aoT ps (j:Int);rw [et]at key;show cg _ _ _ _ _ _ (wL ps (((j+1:Nat):Int)-1)).T (wL ps (((j+1:Nat):Int)-1)).H _;rw [HE];refine bC (s:=wL ps (j:Int)) hS (key (by omega) (by omega) (by omega) hbz (by show 0+_<=_;omega) (by omega) (by show 0+_=(dS _).length;rw [D3];omega) (Xj (show 1<=(dS _).length by rw [D3];omega)) rfl) ?_;refine⟨⟨(true,j,ps.getD j ByteArray.empty),by show j<=_;omega, ?_,fun h=>by cases h⟩,fL _,rfl,rfl⟩;show aq (ps.getD j ByteArray.empty)=[]++fJ (ps.drop j);rw [hnx,hj,List.drop_length];rfl
  |true=>
   have key:=aoU ps (dS s) (j:Int);rw [et,<-aoZ]at key;show cg _ _ _ _ _ _ (mX ps (dS s) (((j+1:Nat):Int)-1)).T (mX ps (dS s) (((j+1:Nat):Int)-1)).H _;rw [HE];have hle:(dS s).length+(ps.getD j ByteArray.empty).size=(dS s++dS (ps.getD j ByteArray.empty)).length:=by rw [dy,D3 (ps.getD j ByteArray.empty),hsz]
   refine bC (s:=mX ps (dS s) (j:Int)) hS (key (by omega) (by omega) (by omega) hbz (by omega) (by omega) hle (Xj (show 1<=(dS s++dS (ps.getD j ByteArray.empty)).length by rw [<-hle];omega))) ?_;refine⟨⟨(true,j,s++ps.getD j ByteArray.empty),by show j<=_;omega, ?_,fun h=>by cases h⟩,fL _,rfl,rfl⟩;show(s++ps.getD j ByteArray.empty).data.toList=_++fJ (ps.drop j);rw [hnx,ja];show aq s++_=_;rw [hs,rA]
def HO {l:List Code} (h:l.isEmpty=false) (e:l=[]):False:=by rw [e]at h;cases h
def ao5 (a:aC) (h:aZ 10000 a=true) (hw:a.2≠[]):Holds prog true 127 [aB a] (sv (cm (aj a))):=by
 have hS:=OI;obtain⟨p1,p2,p3,dM,kX⟩:=kC h;obtain⟨_,_,_,b4,_⟩:=(r9 hw).1 h;have hB:=iY h (by decide);obtain⟨N,hN⟩:∃N:Int,N=((aj a).natAbs:Int):=⟨_,rfl⟩;have y8:0<N:=by
  unfold aA at p3;rw [if_neg hw]at p3;omega
 have hb:N<18446744073709551616^10000:=by rw [hN];exact hB
 have Hs:aA a=cV 18446744073709551616 N:=r4 (by decide) p1 p2 (by rw [hN];exact p3);have oB:=Xg h;have hdd:Lib.decDigits (aj a).natAbs=mY N:=by
  unfold mY;rw [if_neg (by omega)];congr 1;omega
 rw [hdd]at oB;have ao6:ay a=true:=bc (by decide) h;have ao7:List.isEmpty a.2=false:=by
  cases hq:List.isEmpty a.2 with
  |false=>rfl
  |true=>exact absurd (List.isEmpty_iff.1 hq) hw
 refine bL (c:=jS) func127 rfl rfl fun w F=> ?_
 refine cR hS 6 (IOz a ao7 ao6 rfl) ?_;rw [Hs];generalize b5 a=neg at oB ⊢;refine aW.vU (HO (by kernel_rfl)) (i:=64) (s:=5) (e2:=167) (t:=aG) (xs:=l8) (cap:=bM 1) (by kernel_rfl) (by kernel_rfl) ?_;refine aW.od (HO (by kernel_rfl)) (σ:=[(64,65,none)]) (s:=lB neg (cV 18446744073709551616 N) []) (aoK neg _) ?_;refine aW.loop (ι:={x:Int×List AT//HN N x}) (id:=0) (b:=cat jS D0) (rest:=(fl jS []).drop 7) (by kernel_rfl) (fun x=>lB neg (cV 18446744073709551616 x.1.1) x.1.2) (fun x=>x.1.1.toNat)
  ⟨(N,[]),ct y8,Int.le_refl _,(List.append_nil _).symm,fun s hs=>absurd hs jU⟩ (fun _=>rfl) ?_
 rintro⟨⟨m,ps⟩,hx⟩;have hl:=ao4 y8 hb hx;have hl:ps.length<=(fJ ps).length/\(fJ ps).length<=200001:=hl;have hm0:0<=m:=hx.1;have avd:m<=N:=hx.2.1;by_cases hm:m=0
 .subst hm;have e0:cV 18446744073709551616 0=[]:=LX (by decide);refine bC (s:=lB neg (cV 18446744073709551616 0) ps) hS (aoO neg _ ps (by rw [e0];decide)) ?_;refine cI (cQ ?_);have OP:fJ ps=mY N:=by have:=hx.2.2.1;exact this.symm
  refine aW.vU (HO (by kernel_rfl)) (i:=64) (s:=6) (e2:=9) (t:= .str) (xs:=ps) (cap:=bM ps.length) (by kernel_rfl) (by kernel_rfl) ?_;refine aW.od (HO (by kernel_rfl)) (σ:=[]) (s:=HM neg ps) (aoP neg _ ps) ?_;refine dP (s:=HM neg ps) hS 1 (aoQ neg ps) ?_;have hlp:1<=ps.length:=by
   cases ps with
   |nil=>
    have:mY N=[]:=OP.symm;unfold mY at this;rw [if_neg (by omega)]at this;have h1:=tp N.toNat;rw [this]at h1;cases h1
   |cons=>simp
  cases neg with
  |true=>
   refine dP (s:=D2 true ps) hS 3 (aoR ps (by decide) (by omega) rfl rfl rfl) ?_;exact Xn (neg:=true) (ps:=ps) (by rw [oB,OP]) hl.2 hlp hx.2.2.2 w F true ⟨#[45]⟩ ⟨aK _,by show _=[45]++fJ (ps.drop ps.length);rw [List.drop_length];rfl,fun h=>by cases h⟩
  |false=>
   refine dP (s:=D2 false ps) hS 3 (aoS ps (by omega)) ?_;exact Xn (neg:=false) (ps:=ps) (by rw [oB,OP]) hl.2 hlp hx.2.2.2 w F false ⟨#[]⟩ ⟨aK _,by show _=[]++fJ (ps.drop ps.length);rw [List.drop_length];rfl,fun _=>⟨rfl,rfl⟩⟩
 .obtain⟨g1,g2,g3⟩:=UP hm0 (show m<18446744073709551616^10000 by omega);have OQ:=D4 (AG (b:=18446744073709551616) (by decide) (show 0<m by omega));have hz:∀{x:Int},x=0->¬((cV 18446744073709551616 x).length:Int)>0:=fun h=>by rw [h,LX (by decide)];decide
  have hp1:ps.length+1<=1000000:=by omega
  by_cases hr:m%1000000000000000000=0
  .have hq:m/1000000000000000000≠0:=by omega
   have key:=aoN neg (cV 18446744073709551616 m) ps OQ g1;rw [g2,g3]at key;obtain⟨h1,h2⟩:=OO (s:=jv (ByteArray.mk #[48]) 17++ByteArray.mk #[48]) hx (by omega) rfl (by rw [if_neg hq,hr];exact ao2);refine bC (s:=lB neg (cV 18446744073709551616 m) ps) hS (key (hz hr) (D4 (AG (by decide) (by omega))) hp1 (by rw [dy];rfl) (OK _ _) rfl) ?_;exact⟨⟨(m/1000000000000000000,ps++[jv (ByteArray.mk #[48]) 17++ByteArray.mk #[48]]),h1⟩,h2,rfl,rfl⟩
  .have e1:=ao3 (r:=m%1000000000000000000) (by omega) (by omega);have hL:=Xk (r:=m%1000000000000000000) (by omega) (by omega);have nE:=Xl (m%1000000000000000000);have hrl:(((cV 18446744073709551616 (m%1000000000000000000)).length:Nat):Int)>0:=D4 (AG (by decide) (by omega));have e2:List.getD [m%1000000000000000000] (Int.toNat 0) 0=m%1000000000000000000:=rfl;have e3:List.getD [m%1000000000000000000] 0 0=m%1000000000000000000:=rfl;have Xo:wp (m%1000000000000000000) 10=true:=by
    unfold wp;rw [si.2 (by omega)];rfl
   by_cases hq:m/1000000000000000000=0
   .have key:=aoM neg (cV 18446744073709551616 m) ps OQ g1;rw [g2,g3]at key;rw [e1]at hrl key;rw [e2,e3]at key;obtain⟨h1,h2⟩:=OO (s:=eH (m%1000000000000000000)) hx (by omega) rfl (by rw [if_pos hq];exact OL _);refine bC (s:=lB neg (cV 18446744073709551616 m) ps) hS (key hrl (show 0<1 by decide) Xo (hz hq) hp1 (by rw [dy];rfl) (OK _ _) rfl) ?_;exact⟨⟨(m/1000000000000000000,ps++[eH (m%1000000000000000000)]),h1⟩,h2,rfl,rfl⟩
   .have key:=aoL neg (cV 18446744073709551616 m) ps OQ g1;rw [g2,g3]at key;rw [e1]at hrl key;rw [e2,e3]at key;obtain⟨h1,h2⟩:=OO (s:=jv (ByteArray.mk #[48]) (18-((eH (m%1000000000000000000)).size:Int))++eH (m%1000000000000000000)) hx (by omega) rfl (by rw [if_neg hq];exact ao1 (by omega) (by omega));have ao8:Bt (ByteArray.mk #[48]) (18-((eH (m%1000000000000000000)).size:Int))=true:=by
     unfold Bt;rw [az (show(ByteArray.mk #[48]).size<=1000000 by decide),az (show(0:Int)<=18-((eH (m%1000000000000000000)).size:Int) by omega),az (show(18:Int)-((eH (m%1000000000000000000)).size:Int)<=1000000 by omega)];rfl
    have ave:(jv (ByteArray.mk #[48]) (18-((eH (m%1000000000000000000)).size:Int))).size<=18:=by
     rw [c6,OM,List.length_replicate];omega
    refine bC (s:=lB neg (cV 18446744073709551616 m) ps) hS (key hrl (show 0<1 by decide) Xo (D4 (AG (by decide) (by omega))) (by omega) ao8 (by omega) hp1 (by rw [dy];rfl) (OK _ _) rfl) ?_;exact⟨⟨(m/1000000000000000000,ps++[jv (ByteArray.mk #[48]) (18-((eH (m%1000000000000000000)).size:Int))++eH (m%1000000000000000000)]),h1⟩,h2,rfl,rfl⟩
noncomputable def l9 (a:aC):AT:=cm (aj a)
def Xp:=IN 127 [dL] [.str] true (fun d=>aZ 10000 d.1) fun d=>(l9 d.1,())
def ao9:Xp.Ok prog:=fun⟨a,_⟩ h=>by
 have h:aZ 10000 a=true:=h;show Holds prog true 127 [aB a] (sv (l9 a));unfold l9;by_cases hw:a.2=[]
 .have h2:=h;rw [oA hw]at h2;rw [lX hw];refine bL (c:=jS) func127 rfl rfl fun w F=> ?_
  exact aY OI 4 (aoJ a (List.isEmpty_iff.2 hw) h2)
 .exact ao5 a h hw
abbrev OS (l:List Int):List Value:=l.map (Value.int .i64)
inductive Xq|unit|row|int
structure Xr where
 f:FuncId
 e:TypeId
 k:Xq
 nl:Bool
 pre:List Int->Nat->List Int->Bool
 out:List Int->Nat->List Int->List Int
 ln:List Int->Nat->List Int->Nat
 val:List Int->Nat->List Int->Int
def apa (k:Xq) (g n kc:Nat) (v:Int):Value:=match k with | .unit=> .tuple #[]| .row=> .slice (some ⟨g,0,none⟩) n kc| .int=> .int .i64 v
def Xr.Ok (P:Program) (c:Xr):Prop:=(c.nl=true->∀(p:Option Addr) (cap:Nat) (w:World),Calls P c.f #[.slice p 0 cap] w fun e w'=>e= .returned (.tuple #[])/\w'=w)/\∀(xs:List Int) (len:Nat) (us:List Int),c.pre xs len us=true->1<=len->len<=xs.length->(c.out xs len us).length=xs.length/\c.ln xs len us<=len/\
 ∀(w:World) (g kc:Nat) (cur:Array Value),w.heap[g]? =some (.cells cur c.e (0,0))->cur.toList.take xs.length=OS xs->len<=kc->
  Calls P c.f (Value.slice (some ⟨g,0,none⟩) len kc::OS us).toArray w fun e w'=>e= .returned (apa c.k g (c.ln xs len us) kc (c.val xs len us))/\w.grownBy w' (some g)/\
   ∃cur',w'.heap[g]? =some (.cells cur' c.e (0,0))/\cur'.size=cur.size/\cur'.toList.take xs.length=OS (c.out xs len us)
--{
--}
end
end Go.Proofs.YtibikmmdbdlafaaGreatDoor
namespace Go.Proofs.YtibikmmdbdlafaaGreatDoor
open Go.RowKit
def HP (x:Int):Prop:= -9223372036854775808<=x/\x<=9223372036854775807
def HP.wf {x:Int} (h:HP x):(Lit.int .i64 x).wf=true:=by
 unfold HP at h;simp [Lit.wf,IntKind.min,IntKind.max,IntKind.signed,IntKind.bits];omega
def y9 (w:World) (b n:Nat) (f:Int->Int):Prop:=
 ∃D:DataW Unit,w.ownsMap Tryz.prog 3 (plainElem Tryz.prog 3) b n D/\Maps.IsMap D/\∀x:Int,D.atKey (.int .i64 x) (.lit (.int .i64 0))= .lit (.int .i64 (f x))
def y9.kept {w w':World} {b n:Nat} {f:Int->Int} {row:Option Nat} (h:y9 w b n f) (hg:w.grownBy w' row) (hne:some b≠row):y9 w' b n f:=by
 obtain⟨D,h1,h2,h3⟩:=h;exact⟨D,h1.kept hg hne,h2,h3⟩
def y9.lt {w:World} {b n:Nat} {f:Int->Int} (h:y9 w b n f):b<w.heap.size:=by
 obtain⟨D,h1,_⟩:=h;exact h1.lt
def y9.look {w:World} {b n:Nat} {f:Int->Int} (h:y9 w b n f) (k:Int) (hk:HP k):
  (Instr.lookup 135 (.map (some b)) (.int .i64 k) false).run Tryz.prog w= .ok (.int .i64 (f k)) w:=by
 obtain⟨D,h1,_,h3⟩:=h;obtain⟨c,hrun,kr,_⟩:=h1.lookup_int (Maps.int_keyed Tryz.underlying3) Tryz.underlying135 Tryz.underlying3 (Tryz.zeroValue3 w) (Maps.keyOf_int_mk Tryz.underlying3 hk.wf);rw [h3 k]at kr;simp only [DataW.lit.injEq,Lit.int.injEq,true_and]at kr;rw [hrun,kr]
def OT (f:Int->Int) (k v:Int):Int->Int:=fun y=>if y=k then v else f y
end Go.Proofs.YtibikmmdbdlafaaGreatDoor
namespace Go.Proofs.YtibikmmdbdlafaaGreatDoor
open Go.RowKit Sv Go.Proofs.Tryz
noncomputable section
def gm:List Int->Int
 |[]=>0
 |x::l=>if x≠0 then x else gm l
def wM:=k_a f11
section
variable (l:List Int)
def p6 (k:Nat):bI:={n:=19,sl:=[(0,lv l),(3,iv k)],bH:=[],next:=64}
def apb:
  c7 (a7 []) (fl wM []) 2 19 [lv l] 1 .normal [] (p6 l 0):=
 wy [] 0
def apc (k:Nat) (h1:(k:Int)<(l.length:Int)) (h2:k<l.length) (h3:¬l.getD k 0=0):
  bS (a7 []) (fl wM [1,0,1,0,0]) (p6 l k) 7 f11 true (iv (l.getD k 0)):=
 wy [ah h1,ah h2,aa (fA.mpr h3)] 2148278273
def apd (k:Nat) (h1:(k:Int)<(l.length:Int)) (h2:k<l.length) (h3:l.getD k 0=0) (h4:i6 ((k:Int)+1)):
  bz (a7 []) (fl wM [1,0,1,0,0]) (p6 l k) 5 .normal [] (p6 l (k+1)):=
 wy [ah h1,ah h2,aa (ef.mpr h3),yi h4] 67903489
def ape (k:Nat) (h1:¬(k:Int)<(l.length:Int)):
  bz (a7 []) (fl wM [1,0,1,0,0]) (p6 l k) 2 (.exit 0) [] (p6 l k):=
 wy [aF h1] 1
def apf (k:Nat):
  bS (a7 []) ((fl wM []).drop 3) (p6 l k) 1 f11 true (iv 0):=
 wy [] 0
def apg (hl:l.length<=1000000):Holds prog true 11 [lv l] (iv (gm l)):=by
 have hS:=cC;refine bL (c:=wM) func11 rfl rfl fun w F=> ?_
 refine cR hS 2 (apb l) ?_;refine aW.loop (ι:={k:Nat//k<=l.length/\gm (l.drop k)=gm l}) (id:=0) (b:=cat wM [1,0,1,0,0]) (rest:=(fl wM []).drop 3) (by kernel_rfl) (fun k=>p6 l k.1) (fun k=>l.length-k.1) ⟨0,Nat.zero_le _,by simp⟩ (fun _=>rfl) ?_;rintro⟨k,hk,hx⟩;have hx:gm (l.drop k)=gm l:=hx;by_cases hlt:k<l.length
 .rw [List.drop_eq_getElem_cons hlt,gm,<-getD_lt hlt]at hx;by_cases c1:l.getD k 0=0
  .rw [if_neg (by simpa using c1)]at hx;refine bC (s:=p6 l k) hS (apd l k (by omega) (by omega) c1 (by omega)) ?_;exact⟨⟨k+1,hlt,hx⟩,by simp;omega,rfl,rfl⟩
  .rw [if_pos c1]at hx;refine aW.rX (s:=p6 l k) known mixed hS _ (apc l k (by omega) (by omega) c1) fun T H h=> ?_
   have h2:hJ prog true f11 (iv (gm l)) .ret T H:=by rw [<-hx];exact h
   exact h2
 .refine bC (s:=p6 l k) hS (ape l k (by omega)) ?_;refine cI (cQ ?_);obtain rfl:k=l.length:=by omega
  rw [List.drop_length,gm]at hx;refine aW.rX (s:=p6 l l.length) known mixed hS _ (apf l _) fun T H h=> ?_
  have h2:hJ prog true f11 (iv (gm l)) .ret T H:=by rw [<-hx];exact h
  exact h2
end
def Xt:=IN 11 [.list false (.int .i64)] [.int .i64] true (fun d=>decide (List.length (α:=Int) d.1<=1000000)) fun d=>(gm d.1,())
def UV:Xt.Ok prog:=fun⟨l,_⟩ h=>apg l (ap h)
structure OU (w:World) (A:Option Addr) (l:List (Int×Int)):Prop where
 at_:∀k,k<l.length->∃b off,A=some ⟨b,off,none⟩/\b<w.heap.size/\w.cell? ⟨b,off+k*2,none⟩=some (.int .i64 (g0 l k).1)/\w.cell? ⟨b,off+k*2+1,none⟩=some (.int .i64 (g0 l k).2)
def OU.below {w w':World} {A:Option Addr} {l:List (Int×Int)} {n:Nat} (h:OU w A l) (hb:Below n w w') (hn:w.heap.size<=n):OU w' A l:=
 ⟨fun k hk=>by
   obtain⟨b,off,h1,h2,h3,h4⟩:=h.at_ k hk;have:=hb.size;exact⟨b,off,h1,by omega,(hb.cell (p:=⟨b,off+k*2,none⟩) (by show b<_;omega)).trans h3,(hb.cell (p:=⟨b,off+k*2+1,none⟩) (by show b<_;omega)).trans h4⟩⟩
def Fa {f:Int->Int} (h:∀x,0<=f x/\f x<=1000000000) (k:Int) (hk:f k≠0):∀x,0<=OT f k (f k-1) x/\OT f k (f k-1) x<=1000000000:=fun x=>by
 have h1:=h x;have h2:=h k;unfold OT;split<;>omega
end
def aph (r:Rat):Prop:=r.num.natAbs<1000000000000000000/\r.den<1000000000000000000
noncomputable section
def iM:=k_a Tryz.f20
def jT:=a7 [A5,WT,Hw,MV]
def dx (s u:AT) (k:Int):bI:={n:=96,sl:=[(0,sv s),(3,sv u),(4,iv k)],bH:=[],next:=64}
section
variable (s:AT) (h1:(s.size:Int)>0) (h2:Int.toNat 0<s.size)
def api (h3:¬(↑(UInt8.toNat (s.data.toList.getD (Int.toNat 0) (0:UInt8))):Int)=45) (h4:s.size<=1000000000):
  c7 jT (fl iM []) 5 96 [sv s] 47 .normal [] (dx s s (bl (aq s))):=
 wy [aa (aL (az h1)),ah h2,ah h1,yn h3,ah h4] 22268348989505
def apj (h3:(↑(UInt8.toNat (s.data.toList.getD (Int.toNat 0) (0:UInt8))):Int)=45) (h4:Int.toNat 1<=s.size) (h5:(s.extract (Int.toNat 1) s.size).size<=1000000000) (h6:(s.extract (Int.toNat 1) s.size)=(s.extract 1 s.size)) (h7:(↑(bl (s.extract (Int.toNat 1) s.size).data.toList):Int)=(↑(bl (s.extract 1 s.size).data.toList):Int)):
  c7 jT (fl iM []) 5 96 [sv s] 63 .normal [] (dx s (s.extract 1 s.size) (bl (aq (s.extract 1 s.size)))):=
 wy [aa (aL (az h1)),ah h2,ah h1,cM h3,ah h4,ah (by omega:s.size<=s.size),ah h5,ax h6,ax h7] 2757870205940449109606465
end
def apk (s:AT) (h1:¬(s.size:Int)>0) (h2:s.size<=1000000000):
  c7 jT (fl iM []) 5 96 [sv s] 32 .normal [] (dx s s (bl (aq s))):=
 wy [aa (aL (ab h1)),aF h1,ah h2] 3221753921
section
variable (s u:AT) (k:Int) (h1:0<=k) (h2:k.toNat<=u.size) (h3:(u.extract 0 k.toNat).size<=1000000000)
def apl (h4:(cE (u.extract 0 k.toNat))=false):
  bS jT ((fl iM []).drop 5) (dx s u k) 224 Tryz.f20 true (iv 1):=
 wy [ah h1,ah h2,ah h3,aa (bg (cj (h4))),aa (cj (h4))] 91215763881074689
def apm (h4:(cE (u.extract 0 k.toNat))=true) (h5:Int.toNat 0<s.size) (h6:(↑(UInt8.toNat (s.data.toList.getD (Int.toNat 0) (0:UInt8))):Int)=45) (h7:((u.extract 0 k.toNat).data).toList=((ByteArray.mk (#[(48:UInt8)])).data).toList):
  bS jT ((fl iM []).drop 5) (dx s u k) 7167 Tryz.f20 true (iv 1):=
 wy [ah h1,ah h2,ah h3,aa (bg (cj (h4))),ah h5,aa (aL (fW.mpr h6)),cM h6,aa (cj (h4)),ah h7] 12131497851667756158528324735890890753
def apn (h4:(cE (u.extract 0 k.toNat))=true) (h5:Int.toNat 0<s.size) (h6:(↑(UInt8.toNat (s.data.toList.getD (Int.toNat 0) (0:UInt8))):Int)=45) (h7:¬((u.extract 0 k.toNat).data).toList=((ByteArray.mk (#[(48:UInt8)])).data).toList):
  dV jT ((fl iM []).drop 5) 2 (dx s u k) 5119 .normal [] (dx s u k):=
 wy [ah h1,ah h2,ah h3,aa (bg (cj (h4))),ah h5,aa (aL (fW.mpr h6)),cM h6,aa (cj (h4)),aF h7] 12131497851667756158528324735890890753
def apo (h4:(cE (u.extract 0 k.toNat))=true) (h5:Int.toNat 0<s.size) (h6:¬(↑(UInt8.toNat (s.data.toList.getD (Int.toNat 0) (0:UInt8))):Int)=45):
  dV jT ((fl iM []).drop 5) 2 (dx s u k) 4367 .normal [] (dx s u k):=
 wy [ah h1,ah h2,ah h3,aa (bg (cj (h4))),ah h5,aa (aL (eB.mpr h6)),yn h6,aa (cj (h4))] 642570093814208610386670526465
end
section
variable (s u:AT) (k:Int)
def apq (h1:¬k<(u.size:Int)):
  dV jT ((fl iM []).drop 7) 2 (dx s u k) 4096 .normal [] (dx s u k):=
 wy [aa (aL (ab h1)),aF h1] 2324143350556659777
def apr (h1:k<(u.size:Int)) (h2:i6 (k+1)) (h3:0<=k+1) (h4:(k+1).toNat<=u.size) (h5:(u.extract (k+1).toNat u.size).size<=1000000000) (h6:(cE (u.extract (k+1).toNat u.size))=false):
  bS jT ((fl iM []).drop 7) (dx s u k) 32534655 Tryz.f20 true (iv 1):=
 wy [aa (aL (az h1)),yi h2,ah h3,ah h4,ah (by omega:u.size<=u.size),ah h5,aa (bg (cj (h6))),aa (cj (h6)),ah h1] 52615486191605234386183578337711327053139317100609
def aps (h1:k<(u.size:Int)) (h2:i6 (k+1)) (h3:0<=k+1) (h4:(k+1).toNat<=u.size) (h5:(u.extract (k+1).toNat u.size).size<=1000000000) (h6:(cE (u.extract (k+1).toNat u.size))=true) (h7:((u.extract (k+1).toNat u.size).data).toList=((ByteArray.mk (#[(48:UInt8)])).data).toList):
  bS jT ((fl iM []).drop 7) (dx s u k) 32530431 Tryz.f20 true (iv 1):=
 wy [aa (aL (az h1)),yi h2,ah h3,ah h4,ah (by omega:u.size<=u.size),ah h5,aa (bg (cj (h6))),aa (cj (h6)),aa (bg (az h7)),ah h7,ah h1] 1094229182170043027733640569609741686283412839940049342529
def apt (h1:k<(u.size:Int)) (h2:i6 (k+1)) (h3:0<=k+1) (h4:(k+1).toNat<=u.size) (h5:(u.extract (k+1).toNat u.size).size<=1000000000) (h6:(cE (u.extract (k+1).toNat u.size))=true) (h7:¬((u.extract (k+1).toNat u.size).data).toList=((ByteArray.mk (#[(48:UInt8)])).data).toList) (h8:((u.extract (k+1).toNat u.size).data).toList=((ByteArray.mk (#[(49:UInt8)])).data).toList):
  bS jT ((fl iM []).drop 7) (dx s u k) 31449087 Tryz.f20 true (iv 1):=
 wy [aa (aL (az h1)),yi h2,ah h3,ah h4,ah (by omega:u.size<=u.size),ah h5,aa (bg (cj (h6))),aa (cj (h6)),aa (bg (ab h7)),aF h7,ah h1,ah h8] 1282105618965331399306456053895005741220147403057679523796635619393
def apu (h1:k<(u.size:Int)) (h2:i6 (k+1)) (h3:0<=k+1) (h4:(k+1).toNat<=u.size) (h5:(u.extract (k+1).toNat u.size).size<=1000000000) (h6:(cE (u.extract (k+1).toNat u.size))=true) (h7:¬((u.extract (k+1).toNat u.size).data).toList=((ByteArray.mk (#[(48:UInt8)])).data).toList) (h8:¬((u.extract (k+1).toNat u.size).data).toList=((ByteArray.mk (#[(49:UInt8)])).data).toList):
  dV jT ((fl iM []).drop 7) 2 (dx s u k) 23060479 .normal [] (dx s u k):=
 wy [aa (aL (az h1)),yi h2,ah h3,ah h4,ah (by omega:u.size<=u.size),ah h5,aa (bg (cj (h6))),aa (cj (h6)),aa (bg (ab h7)),aF h7,ah h1,aF h8] 1282105618965331399306456053895005741220147403057679523796635619393
def apv (h1:k>600):
  bS jT ((fl iM []).drop 9) (dx s u k) 448 Tryz.f20 true (iv 4):=
 wy [aa (bg (az h1)),ah h1] 138529738817
def apw (h1:¬k>600) (h2:i6 ((u.size:Int)-k)) (h3:i6 ((u.size:Int)-k-1)) (h4:(u.size:Int)-k-1>600):
  bS jT ((fl iM []).drop 9) (dx s u k) 447 Tryz.f20 true (iv 4):=
 wy [aa (bg (ab h1)),yi h2,yi h3,aF h1,ah h4] 91202497766756417
def apx (h1:¬k>600) (h2:i6 ((u.size:Int)-k)) (h3:i6 ((u.size:Int)-k-1)) (h4:¬(u.size:Int)-k-1>600):
  dV jT ((fl iM []).drop 9) 2 (dx s u k) 319 .normal [] (dx s u k):=
 wy [aa (bg (ab h1)),yi h2,yi h3,aF h1,aF h4] 91202497766756417
def apy (h1:¬k<(u.size:Int)):
  bS jT ((fl iM []).drop 11) (dx s u k) 2 Tryz.f20 true (iv 0):=
 wy [aF h1] 1
def apz (h1:k<(u.size:Int)) (h2:(jn u)=true) (h3:(okA (mkR (ptN u)).2&&okA (mkR (ptD u)).2)=true) (h4:¬(↑(aH (↑(Int.gcd (ag (mkR (ptN u)).2) (ag (mkR (ptD u)).2)):Int)).length:Int)=1):
  bS jT ((fl iM []).drop 11) (dx s u k) 225 Tryz.f20 true (iv 1):=
 wy [ah h1,aa h2,aa h3,aa (bg (fA.mpr h4)),aa (fA.mpr h4)] 22269473599617
def apA (h1:k<(u.size:Int)) (h2:(jn u)=true) (h3:(okA (mkR (ptN u)).2&&okA (mkR (ptD u)).2)=true) (h4:(↑(aH (↑(Int.gcd (ag (mkR (ptN u)).2) (ag (mkR (ptD u)).2)):Int)).length:Int)=1) (h5:Int.toNat 0<(aH (↑(Int.gcd (ag (mkR (ptN u)).2) (ag (mkR (ptD u)).2)):Int)).length) (h6:¬(aH (↑(Int.gcd (ag (mkR (ptN u)).2) (ag (mkR (ptD u)).2)):Int)).getD (Int.toNat 0) 0=1):
  bS jT ((fl iM []).drop 11) (dx s u k) 223 Tryz.f20 true (iv 1):=
 wy [ah h1,aa h2,aa h3,aa (bg (ef.mpr h4)),ah h5,aa (ef.mpr h4),aa (fA.mpr h6)] 8179680759063261313
def apB (h1:k<(u.size:Int)) (h2:(jn u)=true) (h3:(okA (mkR (ptN u)).2&&okA (mkR (ptD u)).2)=true) (h4:(↑(aH (↑(Int.gcd (ag (mkR (ptN u)).2) (ag (mkR (ptD u)).2)):Int)).length:Int)=1) (h5:Int.toNat 0<(aH (↑(Int.gcd (ag (mkR (ptN u)).2) (ag (mkR (ptD u)).2)):Int)).length) (h6:(aH (↑(Int.gcd (ag (mkR (ptN u)).2) (ag (mkR (ptD u)).2)):Int)).getD (Int.toNat 0) 0=1):
  bS jT ((fl iM []).drop 11) (dx s u k) 159 Tryz.f20 true (iv 0):=
 wy [ah h1,aa h2,aa h3,aa (bg (ef.mpr h4)),ah h5,aa (ef.mpr h4),aa (ef.mpr h6)] 8179680759063261313
end
end
end Go.Proofs.YtibikmmdbdlafaaGreatDoor
