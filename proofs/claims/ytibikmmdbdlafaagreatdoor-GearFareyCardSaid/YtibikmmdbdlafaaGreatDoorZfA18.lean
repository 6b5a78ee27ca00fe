import Derived.Test.YtibikmmdbdlafaaGreatDoorZfA15
import Derived.WalkLawsBesides
import Derived.WalkSpells
set_option linter.defProp false
set_option linter.unusedSectionVars false
set_option linter.unusedSimpArgs false
set_option linter.unusedVariables false
set_option maxRecDepth 100000
namespace Go.Proofs.YtibikmmdbdlafaaGreatDoor
open Go.RowKit Sv Go.Proofs.Tryz
noncomputable section
def sY (s:AT):Prop:=∃(r:Rat) (k:Nat),s=aU r/\k<=10000/\fX k r
noncomputable def isQ (s:AT):Bool:= @decide (sY s) (Classical.propDecidable _)
def toQ (s:AT):Rat:=Rat.divInt (ptN s) (ptD s)
def WQ:=IN 15 [.str, .str] [.str] true (fun d=>isQ d.1&&isQ d.2.1) fun d=>(aU (toQ d.1*toQ d.2.1),())
def WR:=IN 14 [.str, .str] [.str] true (fun d=>isQ d.1&&isQ d.2.1) fun d=>(aU (toQ d.1+toQ d.2.1),())
def WS:=IN 72 [.str] [.str] true (fun d=>isQ d.1&& !(ptN d.1==0)) fun d=>(aU (toQ d.1)⁻¹,())
def anU:=IN 16 [.int .i64] [.str] true (fun d=>decide (-9223372036854775808<=d.1)&&decide (d.1<=9223372036854775807)) fun d=>(aU (d.1:Int),())
--{
def oI {s:AT}:isQ s=true↔sY s:= @decide_eq_true_iff _ (Classical.propDecidable _)
def mn {s:AT} {r:Rat} (F:WM s r):toQ s=r:=by
 unfold toQ;rw [F.n,F.d];exact Rat.num_divInt_den r
def y6 {r:Rat} {k:Nat} (hk:k<=10000) (h:fX k r):isQ (aU r)=true:=oI.2 ⟨r,k,rfl,hk,h⟩
def lf {r:Rat} {k:Nat} (hk:k<=10000) (h:fX k r):toQ (aU r)=r:=mn (uP hk h)
def wR:bD prog (bF uN):=uf (fun c hc=>by
 simp only [ek,jO,or_false]at hc;rcases hc with rfl |rfl
 .exact aj4
 .exact aj5) (cM fun c hc=>by
 simp only [ek,jO,or_false]at hc;rcases hc with rfl |rfl |rfl |rfl |rfl |rfl
 .exact anH
 .exact WH
 .exact Oq
 .exact ans
 .exact Tn
 .exact Oi)
def bN {a b:Bool} (h:a=true) (g:b=true):(a&&b)=true:=by rw [h,g];rfl
section
variable {x y:Int} {i j:Nat} (hx:(x.natAbs:Int)<1000000000^i) (hy:(y.natAbs:Int)<1000000000^j)
def y7:((x*y).natAbs:Int)<1000000000^(i+j):=by
 rw [Int.natAbs_mul,Int.natCast_mul];exact UQ (Int.natCast_nonneg _) (Int.natCast_nonneg _) hx hy
def anV:((x+y).natAbs:Int)<1000000000^(max i j+1):=by
 have:=add_lt hx hy;have h2:(x+y).natAbs<=x.natAbs+y.natAbs:=Int.natAbs_add_le x y;omega
end
def DW {x y:Int} (hx:(x.natAbs:Int)<1000000000) (hy:(y.natAbs:Int)<1000000000): -1000000000000000000<=x*y/\x*y<=1000000000000000000:=by
 have h1:x.natAbs*y.natAbs<=999999999*999999999:=Nat.mul_le_mul ω ω;have h2:(x*y).natAbs=x.natAbs*y.natAbs:=Int.natAbs_mul x y;rw [<-h2]at h1;omega
def OC {z:Int} (h:z≠0):(!(Nat.beq (mkR z).2.length 0))=true:=by
 rw [Bool.not_eq_true'];cases hb:Nat.beq (mkR z).2.length 0 with
 |false=>rfl
 |true=>
  have e:aG (z.natAbs:Int)=[]:=List.eq_nil_of_length_eq_zero (ac hb);have:=(Az (Int.natCast_nonneg _)).1 e;omega
def y8 (d:Nat):((d:Int).natAbs:Int)=(d:Int):=by omega
def anW (n:Int) (h1: -9223372036854775808<=n) (h2:n<=9223372036854775807):Holds prog true 16 [iv n] (sv (aU (n:Int))):=by
 have e:aU (n:Int)=bm (vZ (mkR n)):=by
  unfold aU;rw [if_pos (Rat.den_intCast n),Rat.num_intCast,di]
 refine bL (c:=WJ) func16 rfl rfl fun w0 OD=> ?_
 rw [e];exact bg wR 30 (anS n (bN (ay h1) (ay h2)) (hM (k:=3) (by have:(1000000000:Int)^3=1000000000000000000000000000:=rfl;omega) δ))
def anX:anU.Ok prog:=fun⟨n,_⟩ h=>by
 have h:(decide (-9223372036854775808<=n)&&decide (n<=9223372036854775807))=true:=h;rw [ae,bA,bA]at h;exact anW n h.1 h.2
attribute [local irreducible] mkR vZ okZ aU jg kd qB ptN ptD okA
def anY (a b:AT) (ha:sY a) (hb:sY b):Holds prog true 15 [sv a,sv b] (sv (aU (toQ a*toQ b))):=by
 obtain⟨r,i,rfl,hi,hr⟩:=ha;obtain⟨s,j,rfl,hj,hs⟩:=hb;have F:=uP hi hr;have G:=uP hj hs;obtain⟨r1,r2⟩:=hr;obtain⟨s1,s2⟩:=hs;rw [mn F,mn G];have hrd:0<r.den:=r.den_pos;have anZ:0<s.den:=s.den_pos;have hD:0<(r.den:Int)*(s.den:Int):=Int.mul_pos ω ω;have ev:r*s=Rat.divInt (r.num*s.num) (r.den*s.den):=by rw [<-Rat.divInt_mul_divInt,Rat.num_divInt_den,Rat.num_divInt_den]
 have uQ:okZ (mkR (ptN (aU r)))=true:=by rw [F.n];exact hM r1 ω
 have y9:okZ (mkR (ptN (aU s)))=true:=by rw [G.n];exact hM s1 ω
 have uR:okZ (mkR (ptD (aU r)))=true:=by rw [F.d];exact hM (k:=i) (by rw [y8];exact r2) ω
 have za:okZ (mkR (ptD (aU s)))=true:=by rw [G.d];exact hM (k:=j) (by rw [y8];exact s2) ω
 have DX:okZ (mkR (vZ (mkR (ptN (aU r)))*vZ (mkR (ptN (aU s)))))=true:=by rw [di,di,F.n,G.n];exact hM (y7 r1 s1) ω
 have DY:okZ (mkR (vZ (mkR (ptD (aU r)))*vZ (mkR (ptD (aU s)))))=true:=by rw [di,di,F.d,G.d];exact hM (y7 (i:=i) (j:=j) (by rw [y8];exact r2) (by rw [y8];exact s2)) ω
 have DZ:(!(Nat.beq (mkR (vZ (mkR (ptD (aU r)))*vZ (mkR (ptD (aU s))))).2.length 0))=true:=by rw [di,di,F.d,G.d];exact OC ω
 have e:Rat.divInt (vZ (mkR (vZ (k9 (aU r))*vZ (k9 (aU s))))) (vZ (mkR (vZ (iD (aU r))*vZ (iD (aU s)))))=r*s:=by
  unfold k9 iD;rw [di,di,di,di,di,di,F.n,F.d,G.n,G.d,ev]
 refine bL (c:=HH) func15 rfl rfl fun w0 OD=> ?_
 cases uS:qB (aU r)with
 |false=>
  rw [<-e];exact bg wR 30 (anM (aU r) (aU s) F.iX G.iX uS F.pt G.pt (bN uQ y9) (bN uR za) (bN DX (bN DY DZ)))
 |true=>
  cases fS:qB (aU s)with
  |false=>
   rw [<-e];exact bg wR 30 (anN (aU r) (aU s) F.iX G.iX uS fS F.pt G.pt (bN uQ y9) (bN uR za) (bN DX (bN DY DZ)))
  |true=>
   obtain⟨f1,f2,f3,f4⟩:=F.q uS;obtain⟨g1,g2,g3,g4⟩:=G.q fS;have m1:=DW f3 g3;have m2:=DW (x:=r.den) (y:=s.den) ω ω;have key:=anL (aU r) (aU s) F.iX G.iX uS fS;rw [f1,f2,g1,g2,<-ev]at key;exact bg wR 30 (key ω ω (bN (bN (ay (show(-4000000000000000000:Int)<=r.num*s.num by omega)) (ay (show r.num*s.num<=(4000000000000000000:Int) by omega))) (bN (ay hD) (ay (show(r.den:Int)*(s.den:Int)<=(4000000000000000000:Int) by omega)))))
def WT:WQ.Ok prog:=fun⟨a,b,_⟩ h=>by
 have h:(isQ a&&isQ b)=true:=h;rw [ae]at h;exact anY a b (oI.1 h.1) (oI.1 h.2)
def an0 (a b:AT) (ha:sY a) (hb:sY b):Holds prog true 14 [sv a,sv b] (sv (aU (toQ a+toQ b))):=by
 obtain⟨r,i,rfl,hi,hr⟩:=ha;obtain⟨s,j,rfl,hj,hs⟩:=hb;have F:=uP hi hr;have G:=uP hj hs;obtain⟨r1,r2⟩:=hr;obtain⟨s1,s2⟩:=hs;rw [mn F,mn G];have hrd:0<r.den:=r.den_pos;have anZ:0<s.den:=s.den_pos;have hD:0<(r.den:Int)*(s.den:Int):=Int.mul_pos ω ω;have Bq:((r.den:Int).natAbs:Int)<1000000000^i:=by rw [y8];exact r2
 have s2':((s.den:Int).natAbs:Int)<1000000000^j:=by rw [y8];exact s2
 have ev:r+s=Rat.divInt (r.num*s.den+s.num*r.den) (r.den*s.den):=by rw [<-Rat.divInt_add_divInt _ _ ω ω,Rat.num_divInt_den,Rat.num_divInt_den]
 have uQ:okZ (mkR (ptN (aU r)))=true:=by rw [F.n];exact hM r1 ω
 have y9:okZ (mkR (ptN (aU s)))=true:=by rw [G.n];exact hM s1 ω
 have uR:okZ (mkR (ptD (aU r)))=true:=by rw [F.d];exact hM Bq ω
 have za:okZ (mkR (ptD (aU s)))=true:=by rw [G.d];exact hM s2' ω
 have WU:okZ (mkR (vZ (mkR (ptN (aU r)))*vZ (mkR (ptD (aU s)))))=true:=by rw [di,di,F.n,G.d];exact hM (y7 r1 s2') ω
 have eB:okZ (mkR (vZ (mkR (ptN (aU s)))*vZ (mkR (ptD (aU r)))))=true:=by rw [di,di,G.n,F.d];exact hM (y7 s1 Bq) ω
 have DX:okZ (mkR (vZ (mkR (vZ (mkR (ptN (aU r)))*vZ (mkR (ptD (aU s)))))+vZ (mkR (vZ (mkR (ptN (aU s)))*vZ (mkR (ptD (aU r)))))))=true:=by
  rw [di,di,di,di,di,di,F.n,G.d,G.n,F.d];exact hM (anV (y7 r1 s2') (y7 s1 Bq)) ω
 have DY:okZ (mkR (vZ (mkR (ptD (aU r)))*vZ (mkR (ptD (aU s)))))=true:=by rw [di,di,F.d,G.d];exact hM (y7 Bq s2') ω
 have DZ:(!(Nat.beq (mkR (vZ (mkR (ptD (aU r)))*vZ (mkR (ptD (aU s))))).2.length 0))=true:=by rw [di,di,F.d,G.d];exact OC ω
 have e:Rat.divInt (vZ (mkR (vZ (mkR (vZ (k9 (aU r))*vZ (iD (aU s))))+vZ (mkR (vZ (k9 (aU s))*vZ (iD (aU r))))))) (vZ (mkR (vZ (iD (aU r))*vZ (iD (aU s)))))=r+s:=by
  unfold k9 iD;rw [di,di,di,di,di,di,di,di,F.n,F.d,G.n,G.d,ev]
 refine bL (c:=HJ) func14 rfl rfl fun w0 OD=> ?_
 cases uS:qB (aU r)with
 |false=>
  rw [<-e];exact bg wR 30 (anP (aU r) (aU s) F.iX G.iX uS F.pt G.pt (bN uQ za) (bN y9 uR) (bN WU eB) (bN uR za) (bN DX (bN DY DZ)))
 |true=>
  cases fS:qB (aU s)with
  |false=>
   rw [<-e];exact bg wR 30 (anQ (aU r) (aU s) F.iX G.iX uS fS F.pt G.pt (bN uQ za) (bN y9 uR) (bN WU eB) (bN uR za) (bN DX (bN DY DZ)))
  |true=>
   obtain⟨f1,f2,f3,f4⟩:=F.q uS;obtain⟨g1,g2,g3,g4⟩:=G.q fS;have m1:=DW (y:=(s.den:Int)) f3 ω;have m3:=DW (y:=(r.den:Int)) g3 ω;have m2:=DW (x:=r.den) (y:=s.den) ω ω;have key:=anO (aU r) (aU s) F.iX G.iX uS fS;rw [f1,f2,g1,g2,<-ev]at key;exact bg wR 30 (key ω ω ω ω (bN (bN (ay (show(-4000000000000000000:Int)<=r.num*(s.den:Int)+s.num*(r.den:Int) by omega)) (ay (show r.num*(s.den:Int)+s.num*(r.den:Int)<=(4000000000000000000:Int) by omega))) (bN (ay hD) (ay (show(r.den:Int)*(s.den:Int)<=(4000000000000000000:Int) by omega)))))
def WV:WR.Ok prog:=fun⟨a,b,_⟩ h=>by
 have h:(isQ a&&isQ b)=true:=h;rw [ae]at h;exact an0 a b (oI.1 h.1) (oI.1 h.2)
def an1 (a:AT) (ha:sY a) (h0:ptN a≠0):Holds prog true 72 [sv a] (sv (aU (toQ a)⁻¹)):=by
 obtain⟨r,i,rfl,hi,hr⟩:=ha;have F:=uP hi hr;obtain⟨r1,r2⟩:=hr;rw [mn F];have Bq:((r.den:Int).natAbs:Int)<1000000000^i:=by rw [y8];exact r2
 have ev:r⁻¹ =Rat.divInt r.den r.num:=by
  have:=Rat.inv_divInt r.num r.den;rw [Rat.num_divInt_den]at this;exact this
 have uQ:okZ (mkR (ptN (aU r)))=true:=by rw [F.n];exact hM r1 ω
 have uR:okZ (mkR (ptD (aU r)))=true:=by rw [F.d];exact hM Bq ω
 have e:Rat.divInt (vZ (iD (aU r))) (vZ (k9 (aU r)))=r⁻¹ :=by
  unfold k9 iD;rw [di,di,F.n,F.d,ev]
 refine bL (c:=WI) func72 rfl rfl fun w0 OD=> ?_
 rw [<-e];exact bg wR 30 (anR (aU r) F.pt (bN uR (bN uQ (OC h0))))
def P1:WS.Ok prog:=fun⟨a,_⟩ h=>by
 have h:(isQ a&& !(ptN a==0))=true:=h;rw [ae,Bool.not_eq_true',eN]at h;exact an1 a (oI.1 h.1) h.2
--}
end
noncomputable section
def WW:=k_a f17
def uT:=k_a f137
def D0:=k_a f75
def WX:=a8 [WQ,WS]
def P2 (a b:AT) (h1:(isQ b&& !ptN b==0)=true) (h2:(isQ a&&isQ (aU (Rat.divInt (ptN b) (ptD b))⁻¹))=true):
  bf WX (fl WW []) 9 9 [sv a,sv b] 1 f17 true (sv (aU (toQ a*toQ (aU (toQ b)⁻¹)))):=
 wy [aa h1,aa h2] 129
def nI (s:AT) (k:Nat):bH:={n:=20,sl:=[(0,sv s),(3,iv k)],bJ:=[],next:=64}
abbrev D1:List Nat:=[1,0,1,0,0]
def an2 (s:AT):
  dy (a8 []) (fl uT []) 2 20 [sv s] 1 .normal [] (nI s 0):=
 wy [] 0
section
variable (s:AT) (k:Nat) (h1:(k:Int)<(s.size:Int)) (h2:k<s.size)
def an3 (h3:(↑(UInt8.toNat (s.data.toList.getD k (0:UInt8))):Int)<48):
  bW (a8 []) (fl uT D1) (nI s k) 225 f137 true (bv false):=
 wy [ah h1,ah h2,aa (bw (ay h3)),ah h3] 17801616826369
def an4 (h3:¬(↑(UInt8.toNat (s.data.toList.getD k (0:UInt8))):Int)<48) (h4:(↑(UInt8.toNat (s.data.toList.getD k (0:UInt8))):Int)>57):
  bW (a8 []) (fl uT D1) (nI s k) 223 f137 true (bv false):=
 wy [ah h1,ah h2,aa (bw (ab h3)),aK h3,ah h4] 5837518341367668737
def an5 (h3:¬(↑(UInt8.toNat (s.data.toList.getD k (0:UInt8))):Int)<48) (h4:¬(↑(UInt8.toNat (s.data.toList.getD k (0:UInt8))):Int)>57) (h5:i6 ((k:Int)+1)):
  bB (a8 []) (fl uT D1) (nI s k) 159 .normal [] (nI s (k+1)):=
 wy [ah h1,ah h2,aa (bw (ab h3)),aK h3,aK h4,yi h5] 448559376110396907521
end
def an6 (s:AT) (k:Nat) (h1:¬(k:Int)<(s.size:Int)):
  bB (a8 []) (fl uT D1) (nI s k) 2 (.exit 0) [] (nI s k):=
 wy [aK h1] 1
def an7 (s:AT) (k:Nat):
  bW (a8 []) ((fl uT []).drop 3) (nI s k) 1 f137 true (bv true):=
 wy [] 0
def WY:=IN 137 [.str] [.bool] true (fun d=>decide (d.1.size<=1000000000)) fun d=>(b6 (aq d.1),())
def D2:=a8 [WY]
def an8 (s:AT) (h1:(s.size:Int)=0):
  bf D2 (fl D0 []) 9 18 [sv s] 224 f75 true (bv false):=
 wy [aa (bw (fP.mpr h1)),cT h1] 2164527169
section
variable (s:AT) (h1:¬(s.size:Int)=0) (h2:(s.size:Int)>1) (h3:Int.toNat 0<s.size)
def an9 (h4:(↑(UInt8.toNat (s.data.toList.getD (Int.toNat 0) (0:UInt8))):Int)=48):
  bf D2 (fl D0 []) 9 18 [sv s] 3583 f75 true (bv false):=
 wy [aa (bw (eN.mpr h1)),aa (aL (ay h2)),ah h3,ah h2,yn h1,cT h4] 28707764055255273443393
def aoa (h4:¬(↑(UInt8.toNat (s.data.toList.getD (Int.toNat 0) (0:UInt8))):Int)=48) (h5:s.size<=1000000000):
  bf D2 (fl D0 []) 9 18 [sv s] 2559 f75 true (bv (b6 (aq s))):=
 wy [aa (bw (eN.mpr h1)),aa (aL (ay h2)),ah h3,ah h2,yn h1,yn h4,ah h5] 2144327948380856329179201
end
def aob (s:AT) (h1:¬(s.size:Int)=0) (h2:¬(s.size:Int)>1) (h3:s.size<=1000000000):
  bf D2 (fl D0 []) 9 18 [sv s] 2191 f75 true (bv (b6 (aq s))):=
 wy [aa (bw (eN.mpr h1)),aa (aL (ab h2)),aK h2,yn h1,ah h3] 369007788030825861185
def cy (s:AT):Bool:=decide (0<s.size)&&((decide (s.size<=1)|| !(decide ((cj s 0).toNat=48)))&&b6 (aq s))
def WZ:=IN 75 [.str] [.bool] true (fun d=>decide (d.1.size<=1000000000)) fun d=>(cy d.1,())
def aoc:=IN 17 [.str, .str] [.str] true (fun d=>isQ d.1&&(isQ d.2.1&& !(ptN d.2.1==0))) fun d=>(aU (toQ d.1/toQ d.2.1),())
def aod:bD prog (bF WX):=cM (aP WT (aP P1 dV))
def aoe {k:Nat} {r:Rat} (h:fX k r) (h0:r.num≠0):fX k r⁻¹ :=by
 obtain⟨h1,h2⟩:=h;have hd:0<r.den:=r.den_pos;have ev:r⁻¹ =Rat.divInt r.den r.num:=by
  have:=Rat.inv_divInt r.num r.den;rw [Rat.num_divInt_den]at this;exact this
 rw [ev];have hdn:(0:Int)<=r.den:=by omega
 by_cases hn:0<r.num
 .obtain⟨g1,g2⟩:=HF (n:=false) (x:=r.den) (y:=r.num) hn;have e0:bn false (r.den:Int)=r.den:=rfl;rw [e0]at g1 g2;have q1:=Int.ediv_le_self (Int.gcd r.den r.num) hdn;have aQ:=Int.ediv_le_self (Int.gcd r.den r.num) (show 0<=r.num by omega);have b8:0<=(r.den:Int)/Int.gcd r.den r.num:=Int.ediv_nonneg hdn (Int.natCast_nonneg _);refine⟨?_, ?_⟩
  .rw [g1];show(((r.den:Int)/Int.gcd r.den r.num).natAbs:Int)<_;omega
  .rw [g2];omega
 .obtain⟨g1,g2⟩:=HF (n:=true) (x:=r.den) (y:= -r.num) ω;have e0:Rat.divInt (bn true (r.den:Int)) (-r.num)=Rat.divInt r.den r.num:=Rat.neg_divInt_neg _ _;rw [e0]at g1 g2;have q1:=Int.ediv_le_self (Int.gcd r.den (-r.num)) hdn;have aQ:=Int.ediv_le_self (Int.gcd r.den (-r.num)) (show 0<= -r.num by omega);have b8:0<=(r.den:Int)/Int.gcd r.den (-r.num):=Int.ediv_nonneg hdn (Int.natCast_nonneg _);refine⟨?_, ?_⟩
  .rw [g1];show((-((r.den:Int)/Int.gcd r.den (-r.num))).natAbs:Int)<_;omega
  .rw [g2];omega
def aof (a b:AT) (ha:sY a) (hb:sY b) (h0:ptN b≠0):Holds prog true 17 [sv a,sv b] (sv (aU (toQ a/toQ b))):=by
 obtain⟨s,j,rfl,hj,hs⟩:=hb;have G:=uP hj hs;have hn:s.num≠0:=by rw [<-G.n];exact h0
 have hi:=aoe hs hn;have e:aU (toQ a/toQ (aU s))=aU (toQ a*toQ (aU (toQ (aU s))⁻¹)):=by rw [mn G,lf hj hi,Rat.div_def]
 have hz:(!(ptN (aU s)==(0:Int)))=true:=by rw [Bool.not_eq_true',eN];exact h0
 have hi2:isQ (aU (toQ (aU s))⁻¹)=true:=by rw [mn G];exact y6 hj hi
 refine bL (c:=WW) func17 rfl rfl fun w F=> ?_
 rw [e];exact bg aod 9 (P2 a (aU s) (bN (y6 hj hs) hz) (bN (oI.2 ha) hi2))
def aog:aoc.Ok prog:=fun⟨a,b,_⟩ h=>by
 have h:(isQ a&&(isQ b&& !(ptN b==0)))=true:=h;rw [ae,ae,Bool.not_eq_true',eN]at h;exact aof a b (oI.1 h.1) (oI.1 h.2.1) h.2.2
def aoh (s:AT) (hl:s.size<=1000000000):Holds prog true 137 [sv s] (bv (b6 (aq s))):=by
 have hS:=cz;have hz:=cK s;refine bL (c:=uT) func137 rfl rfl fun w F=> ?_
 refine cP hS 2 (an2 s) ?_;refine aW.loop (ι:={k:Nat//k<=s.size/\b6 ((aq s).take k)=true}) (id:=0) (b:=cat uT D1) (rest:=(fl uT []).drop 3) (by kernel_rfl) (fun k=>nI s k.1) (fun k=>s.size-k.1) ⟨0,Nat.zero_le _,by rw [List.take_zero];rfl⟩ (fun _=>rfl) ?_;rintro⟨k,hk,hd⟩;by_cases hlt:k<s.size
 .have hmem:cj s k∈aq s:=by rw [yP ω];exact List.getElem_mem _
  have hno:¬(48<=(cj s k).toNat/\(cj s k).toNat<=57)->b6 (aq s)=false:=fun hn=>by
   rw [Bool.eq_false_iff];intro h;have:=List.all_eq_true.1 h _ hmem;rw [ae,bA,bA]at this;exact hn this
  by_cases h1:(cj s k).toNat<48
  .rw [hno ω];exact b5 (s:=nI s k) hS (an3 s k ω hlt (by show((cj s k).toNat:Int)<48;omega))
  .by_cases h2:57<(cj s k).toNat
   .rw [hno ω];exact b5 (s:=nI s k) hS (an4 s k ω hlt (by show¬((cj s k).toNat:Int)<48;omega) (by show((cj s k).toNat:Int)>57;omega))
   .refine bE (s:=nI s k) hS (an5 s k ω hlt (by show¬((cj s k).toNat:Int)<48;omega) (by show¬((cj s k).toNat:Int)>57;omega) ω) ?_;refine⟨⟨k+1,hlt, ?_⟩,by show s.size-(k+1)<s.size-k;omega,rfl,rfl⟩;rw [G5 ω,HC];refine⟨hd, ?_⟩;show b6 [cj s k]=true;rw [Ba,ay ω,ay ω];rfl
 .refine bE (s:=nI s k) hS (an6 s k ω) ?_;refine cG (cO ?_);rw [eT ω]at hd;rw [hd];exact b5 (s:=nI s k) hS (an7 s k)
def aoi:WY.Ok prog:=fun⟨s,_⟩ h=>aoh s (ap h)
def aoj:bD prog (bF D2):=cM (aP aoi dV)
def IH (s:AT) (hl:s.size<=1000000000):Holds prog true 75 [sv s] (bv (cy s)):=by
 have hS:=aoj;refine bL (c:=D0) func75 rfl rfl fun w F=> ?_
 unfold cy;by_cases h0:s.size=0
 .rw [ab (show¬0<s.size by omega),Bool.false_and];exact bg hS 9 (an8 s ω)
 .rw [ay (show 0<s.size by omega),Bool.true_and];by_cases h1:s.size<=1
  .rw [ay h1,Bool.true_or,Bool.true_and];exact bg hS 9 (aob s ω ω hl)
  .rw [ab h1,Bool.false_or];by_cases h2:(cj s 0).toNat=48
   .rw [ay h2,Bool.not_true,Bool.false_and];exact bg hS 9 (an9 s ω ω (by show 0<s.size;omega) (by show((cj s 0).toNat:Int)=48;omega))
   .rw [ab h2,Bool.not_false,Bool.true_and];exact bg hS 9 (aoa s ω ω (by show 0<s.size;omega) (by show¬((cj s 0).toNat:Int)=48;omega) hl)
def aok:WZ.Ok prog:=fun⟨s,_⟩ h=>IH s (ap h)
def D3:=k_a f21
def W0:=k_a f30
def OE:=k_a f31
def OG:=k_a f32
abbrev aol:AT:=ByteArray.mk #[49]
def aom (s:AT) (h1:(s.data).toList=((ByteArray.mk #[48]).data).toList):
  bf (a8 []) (fl D3 []) 9 13 [sv s] 3 f21 true (iv 0):=
 wy [ah h1] 1
section
variable (s:AT) (h1:¬(s.data).toList=((ByteArray.mk #[48]).data).toList)
def aon (h2:(s.size:Int)>0) (h3:Int.toNat 0<s.size) (h4:(↑(UInt8.toNat (s.data.toList.getD (Int.toNat 0) (0:UInt8))):Int)=45):
  bf (a8 []) (fl D3 []) 9 13 [sv s] 126 f21 true (iv (-1)):=
 wy [aK h1,aa (aL (ay h2)),ah h3,ah h2,cT h4] 22267308286081
def aoo (h2:(s.size:Int)>0) (h3:Int.toNat 0<s.size) (h4:¬(↑(UInt8.toNat (s.data.toList.getD (Int.toNat 0) (0:UInt8))):Int)=45):
  bf (a8 []) (fl D3 []) 9 13 [sv s] 94 f21 true (iv 1):=
 wy [aK h1,aa (aL (ay h2)),ah h3,ah h2,yn h4] 22267308286081
def aop (h2:¬(s.size:Int)>0):
  bf (a8 []) (fl D3 []) 9 13 [sv s] 64 f21 true (iv 1):=
 wy [aK h1,aa (aL (ab h2)),aK h2] 50864257
end
def jL (s:AT):Int:=if s=ByteArray.mk #[48]then 0 else if 0<s.size/\(cj s 0).toNat=45 then-1 else 1
def OH {a b:AT} (h:a.data.toList=b.data.toList):a=b:=by
 cases a;cases b;simp at h;rw [h]
def aoq (s:AT):Holds prog true 21 [sv s] (iv (jL s)):=by
 have hS:=cz;refine bL (c:=D3) func21 rfl rfl fun w F=> ?_
 unfold jL;by_cases h0:s=ByteArray.mk #[48]
 .rw [if_pos h0];exact bg hS 9 (aom s (congrArg aq h0))
 .rw [if_neg h0];by_cases h1:0<s.size
  .by_cases h2:(cj s 0).toNat=45
   .rw [if_pos ⟨h1,h2⟩];exact bg hS 9 (aon s (fun h=>h0 (OH h)) ω ω (by show((cj s 0).toNat:Int)=45;omega))
   .rw [if_neg fun h=>h2 h.2];exact bg hS 9 (aoo s (fun h=>h0 (OH h)) ω ω (by show¬((cj s 0).toNat:Int)=45;omega))
  .rw [if_neg fun h=>h1 h.1];exact bg hS 9 (aop s (fun h=>h0 (OH h)) ω)
def HN:=IN 21 [.str] [.int .i64] true (fun d=>true) fun d=>(jL d.1,())
def HO:=a8 [A8]
def OI:=a8 [HN]
section
variable (s:AT)
def vz:AT:=s.extract 0 (bk (aq s))
def jI:AT:=if bk (aq s)=s.size then ByteArray.mk #[49]else s.extract (bk (aq s)+1) s.size
def sK:AT:=if jL s<0 then s.extract 1 s.size else s
def aor (h1:s.size<=1000000000) (h2:bk s.data.toList<=s.size):
  bf HO (fl W0 []) 9 7 [sv s] 1 f30 true (sv (s.extract 0 (bk (aq s)))):=
 wy [ah h1,ah h2] 524289
def aos (h1:s.size<=1000000000) (h2:(↑(bk s.data.toList):Int)=(s.size:Int)):
  bf HO (fl OE []) 9 14 [sv s] 3 f31 true (sv aol):=
 wy [ah h1,cT h2] 129
def aot (h1:s.size<=1000000000) (h2:¬(↑(bk s.data.toList):Int)=(s.size:Int)) (h3:i6 ((↑(bk s.data.toList):Int)+1)) (h4:((↑(bk s.data.toList):Int)+1).toNat<=s.size) (h5:(s.extract ((↑(bk s.data.toList):Int)+1).toNat s.size)=(s.extract (bk s.data.toList+1) s.size)):
  bf HO (fl OE []) 9 14 [sv s] 2 f31 true (sv (s.extract (bk (aq s)+1) s.size)):=
 wy [ah h1,yn h2,yi h3,ah h4,ah (by omega:s.size<=s.size),ax h5] 417752690817
def aou (h1:jL s<0) (h2:Int.toNat 1<=s.size) (h3:(s.extract (Int.toNat 1) s.size)=(s.extract 1 s.size)):
  bf OI (fl OG []) 9 9 [sv s] 3 f32 true (sv (s.extract 1 s.size)):=
 wy [ah h1,ah h2,ah (by omega:s.size<=s.size),ax h3] 4345823296
def aov (h1:¬jL s<0):
  bf OI (fl OG []) 9 9 [sv s] 2 f32 true (sv s):=
 wy [aK h1] 64
end
def OJ:HN.Ok prog:=fun⟨s,_⟩ _=>aoq s
def OK:bD prog (bF HO):=qK Dy
def W1:bD prog (bF OI):=qK OJ
def W2:∀l:List UInt8,bk l<=l.length
 |[]=>aJ _
 |b::r=>by
  have:=W2 r;unfold bk;split
  .exact Nat.zero_le _
  .simp;omega
def W3 (s:AT):bk (aq s)<=s.size:=by rw [cK];exact W2 _
def OL:=IN 30 [.str] [.str] true (fun d=>decide (d.1.size<=1000000000)) fun d=>(vz d.1,())
def OM:=IN 31 [.str] [.str] true (fun d=>decide (d.1.size<=1000000000)) fun d=>(jI d.1,())
def OO:=IN 32 [.str] [.str] true (fun d=>true) fun d=>(sK d.1,())
def W4:OL.Ok prog:=fun⟨s,_⟩ h=>by
 have hz:=ap h;refine bL (c:=W0) func30 rfl rfl fun w F=> ?_
 exact bg OK 9 (aor s hz (W3 s))
def W5:OM.Ok prog:=fun⟨s,_⟩ h=>by
 have hz:=ap h;have hl:bk s.data.toList<=s.size:=W3 s;show Holds prog true 31 [sv s] (sv (jI s));refine bL (c:=OE) func31 rfl rfl fun w F=> ?_
 unfold jI;by_cases h1:bk s.data.toList=s.size
 .rw [if_pos h1];exact bg OK 9 (aos s hz ω)
 .rw [if_neg h1];exact bg OK 9 (aot s hz ω (by have hz:s.size<=1000000000:=hz;omega) ω (by rw [show((bk s.data.toList:Int)+1).toNat=bk s.data.toList+1 by omega]))
def aow {s:AT} (h:jL s<0):0<s.size:=by
 unfold jL at h;split at h
 .exact absurd h δ
 .split at h
  .rename_i h1;exact h1.1
  .exact absurd h δ
def W6:OO.Ok prog:=fun⟨s,_⟩ _=>by
 show Holds prog true 32 [sv s] (sv (sK s));refine bL (c:=OG) func32 rfl rfl fun w F=> ?_
 unfold sK;by_cases h1:jL s<0
 .rw [if_pos h1];exact bg W1 9 (aou s h1 (by have:=aow h1;omega) rfl)
 .rw [if_neg h1];exact bg W1 9 (aov s h1)
end
end Go.Proofs.YtibikmmdbdlafaaGreatDoor
namespace Go.Proofs.YtibikmmdbdlafaaGreatDoor
open Go.RowKit Go.Sort Go.Lib
def W7 (w:World) (T:TypeId) (nd:Nat) (hs:nd<=24):Holds (fun(b:UInt8)=>Value.int .u8 (b.toNat:Int)) (w.alloc (.cells zeros24 T)) w.heap.size 0 (Array.replicate nd (0:UInt8)):=fun j hj=>by
 have hj':j<nd:=by simpa using hj
 refine⟨?_,World.frozen?_alloc_new _ _ _ _⟩;rw [World.cell?_alloc_new,zeros24_at _ ω,getElem!_pos _ j hj];simp
def aox (w:World) (o:Obj) (dk:Array UInt8) (k:Nat):∃os,(putRow (fun(b:UInt8)=>Value.int .u8 (b.toNat:Int)) (w.alloc o) w.heap.size 0 dk).drewN k=grow (w.drewN k) os:=by
 rw [alloc_eq_grow];obtain⟨os',_,e⟩:=putRow_grow_new (fun(b:UInt8)=>Value.int .u8 (b.toNat:Int)) w #[o] w.heap.size 0 dk (aJ _);exact⟨os',by rw [e];rfl⟩
set_option maxHeartbeats 6400000 in
set_option maxRecDepth 100000 in
def aoy (u:Nat) (hu64:u<18446744073709551616) (w:World) (htab:Lib.TabIs Tryz.prog w "internal/strconv.uint64pow10" .u64 Lib.pow10Tab):
  Calls Tryz.prog 227 #[.int .u64 u, .int .i64 10] w fun e w'=>e= .returned (.string ⟨(decDigits u).toArray⟩)/\∃k os,w'=grow (w.drewN k) os:=by
 by_cases hs:u<100
 .have aoz:=Lib.hid (fun w=>Tryz.internal_strconv_small u hs w);have hwr:IntKind.i64.wrap (u:Int)=(u:Int):=by rw [IntKind.wrap_i64];omega
  go_enter Tryz.func227,Tryz.ntmps227
  go_wp2_with fail
  refine(aoz.out _).mono ?_;rintro e w' ⟨rfl,rfl⟩
  go_wp2
  go_ret
  exact⟨rfl,0, #[],by simp [World.drewN_zero]⟩
 .have hu1:1<=u:=by omega
  have hnd20:nDigits u<=20:=by have:=numDigits_eq u hu1 hu64;split at this<;>omega
  have Nn:=Lib.hid (fun w h=>Tryz.internal_strconv_numDigits u hu1 hu64 w h);have EV:=W7 w 260 (nDigits u) ω;have hfmt:=Tryz.internal_strconv_formatBase10 w.heap.size 0 24 u (Array.replicate (nDigits u) 0) (w.alloc (.cells zeros24 260)) EV (by rw [Array.size_replicate];exact lt_pow_nDigits u) hu64 (by rw [Array.size_replicate];omega);rw [Array.size_replicate]at hfmt;have aoA:=Lib.hid hfmt;have aoB:=Lib.hid (tabIs_alloc htab (.cells zeros24 260));clear EV hfmt htab
  go_enter Tryz.func227,Tryz.ntmps227
  go_wp2_with fail
  refine(Nn.out _ aoB.out).mono ?_;rintro e w' ⟨rfl,rfl⟩;have hal:Tryz.prog.arrayLen 260=24:=by simp [Program.arrayLen,Tryz.underlying260]
  have auX:∀W,(Instr.sliceAt 260 (.pointer (some ⟨w.heap.size,0,none⟩)) none (some (.int .i64 (nDigits u:Int))) none).run Tryz.prog W= .ok (.slice (some ⟨w.heap.size,0,none⟩) (nDigits u) 24) W:=fun W=>by
   rw [run_sliceAt_array_h W 260 ⟨w.heap.size,0,none⟩ (by simp [Program.arrayLen,Program.elem,Tryz.underlying260]) .i64 (nDigits u:Int) ω (by rw [hal];omega)]
   go_simp
  clear hal
  go_wp2_with fail
  refine aoA.out.mono ?_;rintro e w' ⟨rfl,k,v',dk,rfl,hF⟩;have hcv:(convert 205 9 (.slice (some ⟨w.heap.size,0,none⟩) (nDigits u) 24)).run Tryz.prog ((putRow (fun(b:UInt8)=>Value.int .u8 (b.toNat:Int)) (w.alloc (.cells zeros24 260)) w.heap.size 0 dk).drewN k)= .ok (.string ⟨(decDigits u).toArray⟩) ((putRow (fun(b:UInt8)=>Value.int .u8 (b.toNat:Int)) (w.alloc (.cells zeros24 260)) w.heap.size 0 dk).drewN k):=by
   have h:=run_convert_bytes_back (P:=Tryz.prog) ((putRow (fun(b:UInt8)=>Value.int .u8 (b.toNat:Int)) (w.alloc (.cells zeros24 260)) w.heap.size 0 dk).drewN k) 205 9 5 ⟨w.heap.size,0,none⟩ 24 (decDigits u) Tryz.underlying205 Tryz.underlying5 Tryz.underlying9 (fun j hj=>by
    rw [row_is_numeral hF j hj,add_plain,World.cell?_drewN];exact cell?_putRow (fun(b:UInt8)=>Value.int .u8 (b.toNat:Int)) _ w.heap.size 0 _ dk (W7 w 260 (nDigits u) ω) (by rw [hF.size,Array.size_replicate]) j (by rw [hF.size];rw [decDigits_length]at hj;exact hj))
   rw [decDigits_length]at h;exact h
  go_wp2
  go_ret
  obtain⟨os,aoC⟩:=aox w (.cells zeros24 260) dk k;exact⟨rfl,k,os,aoC⟩
end Go.Proofs.YtibikmmdbdlafaaGreatDoor
namespace Go.Proofs.YtibikmmdbdlafaaGreatDoor
open Go.RowKit Sv Go.Proofs.Tryz
noncomputable section
def eC (u:Int):AT:=⟨(Lib.decDigits u.toNat).toArray⟩
def sZ (u b:Int):Bool:=wA u&&(b==10)
def W8:=k_a f179
def W9:=IN 227 [aE, .int .i64] [.str] true (fun d=>sZ d.1 d.2.1) fun d=>(eC d.1,())
def Xa:=IN 179 [aE, .int .i64] [.str] true (fun d=>sZ d.1 d.2.1) fun d=>(eC d.1,())
def aoD (u b:Int) (h1:(sZ u b)=true):
  bf (a8 [W9]) (fl W8 []) 9 8 [cr u,iv b] 1 f179 true (sv (eC u)):=
 wy [aa h1] 1
def aoE:W9.Ok prog:=fun⟨u,b,_⟩ h w F xs hF ct hd=>by
 have h:sZ u b=true:=h;unfold sZ at h;rw [ae,fP]at h;obtain⟨h1,rfl⟩:=h;have h1:=sj.1 h1;cases hd with
 |cons d1 d2=>
  cases d2 with
  |cons d2 d3=>
  cases d3;rw [d1.cc,d2.cc];have:=aoy u.toNat ω w (VY hF ct);rw [show((u.toNat:Nat):Int)=u from Int.toNat_of_nonneg h1.1]at this;refine this.mono ?_;rintro e w' ⟨rfl,k,os,rfl⟩;exact⟨_,⟨F.at',fun _=>none⟩,rfl, .raw _,⟨hF.pF,hF.all,fun b A h=>by cases h⟩,(fun b A h=>by cases h),sf _ _ (aJ _) _ _⟩
def aoF:Xa.Ok prog:=fun⟨u,b,_⟩ h=>by
 have h:sZ u b=true:=h;refine bL (c:=W8) func179 rfl rfl fun w F=> ?_
 exact bg (qK aoE) 9 (aoD u b h)
def jm (s:AT) (c:Int):AT:=⟨(Lib.repeatL s.data.toList c.toNat).toArray⟩
def Br (s:AT) (c:Int):Bool:=decide (s.size<=1000000)&&(decide (0<=c)&&decide (c<=1000000))
def Xb:=IN 180 [.str, .int .i64] [.str] true (fun d=>Br d.1 d.2.1) fun d=>(jm d.1 d.2.1,())
def aoG:Xb.Ok prog:=fun⟨s,c,_⟩ h w F xs hF ct hd=>by
 have h:Br s c=true:=h;unfold Br at h;rw [ae,ae,bA,bA,bA]at h;obtain⟨h1,h2,h3⟩:=h;cases hd with
 |cons d1 d2=>
  cases d2 with
  |cons d2 d3=>
  cases d3;rw [d1.cc,d2.cc];have hm:s.size*c.toNat<=1000000*1000000:=Nat.mul_le_mul h1 ω;have:=Tryz.strings_Repeat s c.toNat w ω ω;rw [show((c.toNat:Nat):Int)=c from Int.toNat_of_nonneg h2]at this;refine this.mono ?_;rintro e w' ⟨rfl,hb⟩;exact⟨_,⟨F.at',fun _=>none⟩,rfl, .raw _,⟨hF.pF,hF.all,fun b A h=>by cases h⟩,(fun b A h=>by cases h),hb⟩
def jM:=k_a f127
def nJ:=a8 [VX,Gn,MH,Xa,Xb]
abbrev D4:List Nat:=[1,1,1,1,1,0,0,0]
abbrev HP:List Nat:=[1,1,1,1,1,1,1,1,0,1,0,0]
abbrev lU:List Int:=[1000000000000000000]
abbrev rq:av:= .int .u8
abbrev Xc (j:Nat) (ps:List AT):af:= .bT 9 .str j 0 ps.length (bK ps.length)
abbrev Xd (ps:List AT):fE:= .opt 9 .str ps
abbrev D5 (l:List AT):af:= .bt false .str l
abbrev OP (p:af) (s:List Int):fE:= .blk (.cells 207 [p, .bT 5 rq 65 0 s.length (bK s.length)] true false false)
abbrev Xe:List AT:=[]
abbrev Xf:af:= .raw (.pointer none)
def OQ (neg:Bool) (w:List Int):bH:={n:=69,sl:=[(3,bv neg),(4, .bt false aE w),(5, .bT 167 aE 64 0 1 (bK 1)),(6,Xc 65 [])],bJ:=[(64, .opt 167 aE lU),(65,Xd [])],next:=66}
def lg (neg:Bool) (w:List Int) (ps:List AT):bH:={n:=69,sl:=[(3,bv neg),(4, .bt false aE w),(5, .bt false aE lU),(6,Xc 64 ps)],bJ:=[(64,Xd ps)],next:=65}
def HQ (neg:Bool) (ps:List AT):bH:={n:=69,sl:=[(3,bv neg),(6,D5 ps)],bJ:=[],next:=64}
def D6 (neg:Bool) (ps:List AT):bH:={n:=69,sl:=[(3,bv neg),(6,D5 ps),(10, .ptr 64 0)],bJ:=[(64,OP Xf []),(65, .opt 5 rq [])],next:=66}
def wS (ps:List AT) (z:Int):bH:={n:=69,sl:=[(6,D5 ps),(10, .ptr 64 0),(11,iv z)],bJ:=[(64,OP Xf []),(65, .opt 5 rq [])],next:=66}
def mO (ps:List AT) (s:List Int) (z:Int):bH:={n:=69,sl:=[(6,D5 ps),(10, .ptr 64 0),(11,iv z)],bJ:=[(64,OP (.ptr 64 0) s),(65, .opt 5 rq s)],next:=66}
def aoH (a:aC) (h1:a.2.isEmpty=true) (h2:(gF a.1)=true):
  bf nJ (fl jM []) 4 69 [aB a] 3 f127 true (sv (bm a.1)):=
 wy [aa (aL (h1)),aa h2] 129
def aoI (a:aC) (h1:a.2.isEmpty=false) (h2:(az a)=true) (h3:(af.raw (Value.int .u64 (1000000000000000000:Int))::List.append._f [] PUnit.unit (List.flatten._f [] PUnit.unit))=(List.flatMap (fun x=>[af.raw (Value.int .u64 x)]) [(1000000000000000000:Int)])):
  aD.path (pG prog nJ (fl jM []) 6 69 [aB a]) (dl 2) (dU prog 69 .normal [(64,65,some 1)] (OQ (bZ a) (aA a))):=
 mp (oc (aL h1) h2 (rr (bZ a)) (rr (aA a)) (an (rr (1:Nat)) (an (rr (aZ.known (1:Nat))) (rr (bK (1:Nat))))) (rr Xe.length) (an h3 (rr (1:Nat))) (rr Xe) trivial)
section
variable (neg:Bool) (w:List Int)
def aoJ:
  aD.path (aD.ret (R.normal ((OQ neg w).T.set 5 (some (.bt false aE lU))) ((OQ neg w).H.drop 64) []):aD R) (dl 1) (dU prog 69 .normal [(64,65,none)] (lg neg w [])):=
 wy [] 0
def aoK (ps:List AT) (h1:(w.length:Int)>0) (h2:(pT w [1000000000000000000])=true) (h3:(↑(cF w [1000000000000000000]).length:Int)>0) (h4:Int.toNat 0<(cF w [1000000000000000000]).length) (h5:(sZ ((cF w [1000000000000000000]).getD (Int.toNat 0) 0) 10)=true) (h6:(↑(e4 w [1000000000000000000]).length:Int)>0) (h7:i6 (18-(↑(eC ((cF w [1000000000000000000]).getD (Int.toNat 0) 0)).size:Int))) (h8:(Br (ByteArray.mk #[48]) (18-(↑(eC ((cF w [1000000000000000000]).getD (Int.toNat 0) 0)).size:Int)))=true) (h9:(jm (ByteArray.mk #[48]) (18-(↑(eC ((cF w [1000000000000000000]).getD (Int.toNat 0) 0)).size:Int))).size+(eC ((cF w [1000000000000000000]).getD (Int.toNat 0) 0)).size<=9223372036854775807) (h10:ps.length+1<=1000000) (h11:(ps.length+1)=(ps++[jm (ByteArray.mk #[48]) (18-(↑(eC ((cF w [1000000000000000000]).getD 0 0)).size:Int))++eC ((cF w [1000000000000000000]).getD 0 0)]).length) (h12:(aZ.full)=(bK (ps++[jm (ByteArray.mk #[48]) (18-(↑(eC ((cF w [1000000000000000000]).getD 0 0)).size:Int))++eC ((cF w [1000000000000000000]).getD 0 0)]).length)) (dL:(ps++[jm (ByteArray.mk #[48]) (18-(↑(eC ((cF w [1000000000000000000]).getD (Int.toNat 0) 0)).size:Int))++eC ((cF w [1000000000000000000]).getD (Int.toNat 0) 0)])=(ps++[jm (ByteArray.mk #[48]) (18-(↑(eC ((cF w [1000000000000000000]).getD 0 0)).size:Int))++eC ((cF w [1000000000000000000]).getD 0 0)])):
  bB nJ (fl jM D4) (lg neg w ps) 23 .normal [(64,66,none)] (lg neg (e4 w lU) (ps++[jm (ByteArray.mk #[48]) (18-((eC ((cF w lU).getD 0 0)).size:Int))++eC ((cF w lU).getD 0 0)])):=
 wy [ah h1,aa h2,ah h3,ah h4,aa h5,ah h6,yi h7,aa h8,ah h9,yk 9 av.str ps,lJ 16 h10,ax h11,ax h12,od 9 (av.str) dL] 18883085600279906147891464042451054721
def aoL (ps:List AT) (h1:(w.length:Int)>0) (h2:(pT w [1000000000000000000])=true) (h3:(↑(cF w [1000000000000000000]).length:Int)>0) (h4:Int.toNat 0<(cF w [1000000000000000000]).length) (h5:(sZ ((cF w [1000000000000000000]).getD (Int.toNat 0) 0) 10)=true) (h6:¬(↑(e4 w [1000000000000000000]).length:Int)>0) (h7:ps.length+1<=1000000) (h8:(ps.length+1)=(ps++[eC ((cF w [1000000000000000000]).getD 0 0)]).length) (h9:(aZ.full)=(bK (ps++[eC ((cF w [1000000000000000000]).getD 0 0)]).length)) (h10:(ps++[eC ((cF w [1000000000000000000]).getD (Int.toNat 0) 0)])=(ps++[eC ((cF w [1000000000000000000]).getD 0 0)])):
  bB nJ (fl jM D4) (lg neg w ps) 19 .normal [(64,66,none)] (lg neg (e4 w lU) (ps++[eC ((cF w lU).getD 0 0)])):=
 wy [ah h1,aa h2,ah h3,ah h4,aa h5,aK h6,yk 9 av.str ps,lJ 16 h7,ax h8,ax h9,od 9 (av.str) h10] 56580049495547654937508646498433
def aoM (ps:List AT) (h1:(w.length:Int)>0) (h2:(pT w [1000000000000000000])=true) (h3:¬(↑(cF w [1000000000000000000]).length:Int)>0) (h4:(↑(e4 w [1000000000000000000]).length:Int)>0) (h5:ps.length+1<=1000000) (h6:(ps.length+1)=(ps++[jm (ByteArray.mk #[48]) 17++ByteArray.mk #[48]]).length) (h7:(aZ.full)=(bK (ps++[jm (ByteArray.mk #[48]) 17++ByteArray.mk #[48]]).length)) (h8:(ps++[jm (ByteArray.mk #[48]) (18-(↑(ByteArray.mk #[48]).size:Int))++ByteArray.mk #[48]])=(ps++[jm (ByteArray.mk #[48]) 17++ByteArray.mk #[48]])):
  bB nJ (fl jM D4) (lg neg w ps) 21 .normal [(64,66,none)] (lg neg (e4 w lU) (ps++[jm (ByteArray.mk #[48]) 17++ByteArray.mk #[48]])):=
 wy [ah h1,aa h2,aK h3,ah h4,yk 9 av.str ps,lJ 16 h5,ax h6,ax h7,od 9 (av.str) h8] 46277912488612378417574150418561
def aoN (ps:List AT) (h1:¬(w.length:Int)>0):
  bB nJ (fl jM D4) (lg neg w ps) 2 (.exit 0) [(64,64,none)] (lg neg w ps):=
 wy [aK h1] 1
def aoO (ps:List AT):
  aD.path (aD.ret (R.normal ((lg neg w ps).T.set 6 (some (D5 ps))) ((lg neg w ps).H.drop 64) []):aD R) (dl 1) (dU prog 69 .normal [] (HQ neg ps)):=
 wy [] 0
end
def aoP (neg:Bool) (ps:List AT):
  cV nJ ((fl jM []).drop 7) 1 (HQ neg ps) 1 .normal [(64,64,none)] (D6 neg ps):=
 wy [] 0
section
variable (ps:List AT)
def aoQ (h1:vU.length+(ByteArray.mk #[45]).size<=1000000) (h2:i6 ((ps.length:Int)-1)) (h3:(vU.length+(ByteArray.mk #[45]).size)=(List.length [45])) (h4:(aZ.full)=(bK (List.length [45]))) (h5:(bQ rq none++List.map (fun x=>(↑(UInt8.toNat x):Int)) (ByteArray.mk #[45]).data.toList)=([45])):
  cV nJ ((fl jM []).drop 8) 3 (D6 true ps) 11 .normal [(64,64,none),(65,66,none)] (mO ps [45] ((ps.length:Int)-1)):=
 wy [lJ 1 h1,yi h2,ax h3,ax h4,pH prog 5 (.int .u8) h5] 97937158488233710599536640
def aoR (h1:i6 ((ps.length:Int)-1)):
  cV nJ ((fl jM []).drop 8) 3 (D6 false ps) 2 .normal [(64,64,none),(65,65,none)] (wS ps ((ps.length:Int)-1)):=
 wy [yi h1] 64
def aoS (z:Int) (h1:z>=0) (h2:0<=z) (h3:z.toNat<ps.length) (h4:(Nat.beq (ps.getD z.toNat ByteArray.empty).size 0)=false) (h5:vU.length+(ps.getD z.toNat ByteArray.empty).size<=1000000) (h6:i6 (z-1)) (h7:(vU.length+(ps.getD z.toNat ByteArray.empty).size)=(List.map (fun x=>(↑(UInt8.toNat x):Int)) (ps.getD z.toNat ByteArray.empty).data.toList).length) (h8:(aZ.full)=(bK (List.map (fun x=>(↑(UInt8.toNat x):Int)) (ps.getD z.toNat ByteArray.empty).data.toList).length)) (h9:(bQ rq none++List.map (fun x=>(↑(UInt8.toNat x):Int)) (ps.getD z.toNat ByteArray.empty).data.toList)=(List.map (fun x=>(↑(UInt8.toNat x):Int)) (ps.getD z.toNat ByteArray.empty).data.toList)):
  bB nJ (fl jM HP) (wS ps z) 11 .normal [(64,64,none),(65,66,none)] (mO ps (dN (ps.getD z.toNat ByteArray.empty)) (z-1)):=
 wy [ah h1,ah h2,ah h3,aa h4,lJ 1 h5,yi h6,ax h7,ax h8,pH prog 5 (.int .u8) h9] 723092382634460629853043437697
def aoT (s:List Int) (z:Int) (h1:z>=0) (h2:0<=z) (h3:z.toNat<ps.length) (h4:(Nat.beq (ps.getD z.toNat ByteArray.empty).size 0)=false) (h5:s.length+(ps.getD z.toNat ByteArray.empty).size<=1000000) (h6:i6 (z-1)) (h7:(s.length+(ps.getD z.toNat ByteArray.empty).size)=(s++List.map (fun x=>(↑(UInt8.toNat x):Int)) (ps.getD z.toNat ByteArray.empty).data.toList).length) (h8:(aZ.full)=(bK (s++List.map (fun x=>(↑(UInt8.toNat x):Int)) (ps.getD z.toNat ByteArray.empty).data.toList).length)):
  bB nJ (fl jM HP) (mO ps s z) 17 .normal [(64,64,none),(65,66,none)] (mO ps (s++dN (ps.getD z.toNat ByteArray.empty)) (z-1)):=
 wy [ah h1,ah h2,ah h3,aa h4,yk 5 rq s,lJ 1 h5,yi h6,ax h7,ax h8,od 5 (.int .u8) (Eq.refl (s++List.map (fun x=>(↑(UInt8.toNat x):Int)) (ps.getD z.toNat ByteArray.empty).data.toList))] 51428980992071965952313753874561
def aoU (s:List Int) (z:Int) (h1:¬z>=0):
  bB nJ (fl jM HP) (mO ps s z) 2 (.exit 2) [(64,64,none),(65,65,none)] (mO ps s z):=
 wy [aK h1] 1
def aoV (s:List Int) (z:Int) (h1:1<=s.length) (h2:s.length<=140737488355328) (h3:s.length-1<s.length) (h4:List.map (fun x=>(↑(UInt8.toNat x):Int)) (ByteArray.mk (List.toArray (List.map (fun x=>UInt8.ofNat x.toNat) (s.take s.length)))).data.toList=s.take s.length) (h5:(ByteArray.mk (List.toArray (List.map (fun x=>UInt8.ofNat x.toNat) (s.take s.length))))=(ByteArray.mk (List.toArray (List.map (fun x=>UInt8.ofNat x.toNat) s)))):
  bW nJ ((fl jM []).drop 12) (mO ps s z) 1 f127 true (sv (oX s)):=
 wy [aa (aF (v:=af.bT 5 (.int .u8) (65:Nat) (0:Nat) s.length (bK s.length))),aa (fA h1),aa (fA h2),yv 5 rq h3,aa (show(decide (List.map (fun x=>(↑(UInt8.toNat x):Int)) (ByteArray.mk (List.toArray (List.map (fun x=>UInt8.ofNat x.toNat) ((bQ (.int .u8) (a7 5 rq s)).take s.length)))).data.toList=(bQ (.int .u8) (a7 5 rq s)).take s.length))=true from(by simp only [ey]<;>exact ay h4)),ax (show(ByteArray.mk (List.toArray (List.map (fun x=>UInt8.ofNat x.toNat) ((bQ (.int .u8) (a7 5 rq s)).take s.length))))=(ByteArray.mk (List.toArray (List.map (fun x=>UInt8.ofNat x.toNat) s)))from(by simp only [ey]<;>exact h5))] 108372612023324801
end
def OS:bD prog (bF nJ):=cM (aP amw (aP L9 (aP Uu (aP aoF (aP aoG dV)))))
def Xg:∀c:Nat,Lib.repeatL [48] c=List.replicate c 48
 |0=>rfl
 |c+1=>by rw [Lib.repeatL,Xg c];rfl
def xn:∀k:Nat,ll k 0=List.replicate k 48
 |0=>rfl
 |k+1=>by
  rw [ll,show(0:Int)/10=0 from rfl,xn k,List.replicate_succ'];rfl
def Xh:∀(k:Nat) (x:Int),0<=x->x<10^(k+1)->ll (k+1) x=List.replicate (k+1-(Lib.decDigits x.toNat).length) 48++Lib.decDigits x.toNat
 |k,x,h0,h1=>by
  by_cases hx:x<10
  .rw [ll,show x/10=0 by omega,xn,mN ω];show _++[oC x]=List.replicate (k+1-1) 48++_;rw [Nat.add_sub_cancel];unfold oC;rw [show x%10=x by omega]
  .cases k with
   |zero=>simp at h1;omega
   |succ k=>
    rw [Int.pow_succ]at h1;have e:(10:Int)^(k+1)=10^k*10:=Int.pow_succ ..;rw [ll,Xh k (x/10) ω ω,sU (u:=x.toNat) ω,cW,show(x/10).toNat=x.toNat/10 by omega,rB];show _=List.replicate (k+1+1-(_+1)) 48++_;rw [Nat.add_sub_add_right];unfold oC;rw [show(x%10).toNat=x.toNat%10 by omega]
def mP (m:Int):List UInt8:=if m=0 then []else Lib.decDigits m.toNat
def aoW {m:Int} (h:0<m):mP m=mP (m/1000000000000000000)++(if m/1000000000000000000=0 then Lib.decDigits (m%1000000000000000000).toNat else ll 18 (m%1000000000000000000)):=by
 unfold mP;rw [if_neg ω];by_cases hq:m/1000000000000000000=0
 .rw [if_pos hq,if_pos hq,List.nil_append,show m%1000000000000000000=m by omega]
 .rw [if_neg hq,if_neg hq,<-Og 18 _ _ ω ω (by have:(10:Int)^18=1000000000000000000:=rfl;omega)];congr 1;have:(10:Nat)^18=1000000000000000000:=rfl;omega
def fy (ps:List AT):List UInt8:=(ps.reverse.map aq).flatten
def aoX (ps:List AT) (s:AT):fy (ps++[s])=aq s++fy ps:=by unfold fy;simp
def HR (ps:List AT) (s:AT):fy (s::ps)=fy ps++aq s:=by unfold fy;simp
def OT:∀{ps:List AT},(∀s∈ps,1<=(aq s).length)->ps.length<=(fy ps).length
 |[],_=>Nat.zero_le _
 |s::ps,h=>by
  have h1:=OT (ps:=ps) fun x hx=>h x (lV _ hx)
  have h2:=h s lW;rw [HR,cW,List.length_cons];omega
def tk (u:Nat):1<=(Lib.decDigits u).length:=by
 by_cases h:u<10
 .rw [mN h];exact aJ _
 .rw [sU h,cW];exact Nat.le_add_left _ _
def Xi {n:Nat} {m:Int} (h0:0<=m) (h:m<18446744073709551616^n):(Lib.decDigits m.toNat).length<=20*n+1:=by
 refine Dec.Oa (20*n) _ ?_;have e:(18446744073709551616:Nat)^n<=10^(20*n):=by rw [Nat.pow_mul];exact Nat.pow_le_pow_left δ _
 have h2:((18446744073709551616^n:Nat):Int)=18446744073709551616^n:=by rw [Int.natCast_pow];rfl
 have h3:10^(20*n)<=10^(20*n+1):=Nat.pow_le_pow_right δ ω;omega
def Xj (s:AT):oX (dN s)=s:=by
 refine fN ?_;unfold oX dN;show((s.data.toList.map _).map _)=_;rw [List.map_map];refine(List.map_congr_left fun x _=> ?_).trans (List.map_id _);show UInt8.ofNat ((x.toNat:Int).toNat)=x;rw [Int.toNat_natCast];exact UInt8.ofNat_toNat
def aoY (a b:AT):dN (a++b)=dN a++dN b:=by
 unfold dN;rw [dq,List.map_append]
def D7 (a:AT):(dN a).length=(aq a).length:=by unfold dN;rw [zk]
def aoZ (s:AT):I9 (dN s)=true:=ay (by rw [Xj])
def zb (neg:Bool):List UInt8:=if neg then [45]else []
def Xk {a:aC} {n:Nat} (h:aV n a=true):aq (bm (aj a))=zb (bZ a)++Lib.decDigits (aj a).natAbs:=by
 obtain⟨_,_,_,h4,_⟩:=kr h;show(bm (aj a)).data.toList=_;rw [jk];unfold zb;cases hn:bZ a with
 |true=>
  rw [itoa_neg (h4.1 hn)];rfl
 |false=>
  have:¬aj a<0:=fun h=>by rw [h4.2 h]at hn;cases hn
  rw [wP ω];show _=[]++_;rw [List.nil_append]
def Xl:∀(a b:List AT),fy (a++b)=fy b++fy a
 |[],b=>by simp [fy]
 |s::a,b=>by rw [List.cons_append,HR,Xl a b,HR,rB]
def Xm (ps:List AT) (k:Nat):(fy (ps.drop k)).length<=(fy ps).length:=by
 have h:=Xl (ps.take k) (ps.drop k);rw [List.take_append_drop]at h;rw [h,cW];omega
def ao0 {ps:List AT} {j:Nat} (h:j<ps.length):fy (ps.drop j)=fy (ps.drop (j+1))++aq (ps.getD j ByteArray.empty):=by
 rw [List.drop_eq_getElem_cons h,HR,ao,BL h];rfl
def OU {α:Type} (l:List α) (x:α):aZ.full=bK (l++[x]).length:=by simp [bK]
def Xn {n:Nat} (h:1<=n):aZ.full=bK n:=(ZC h).symm
def Xo {r:Int} (h0:0<=r) (h1:r<1000000000000000000):(Lib.decDigits r.toNat).length<=18:=Dec.amR _ ω
def OV (r:Int):aq (eC r)=Lib.decDigits r.toNat:=by unfold eC;simp
def Xp (r:Int):(eC r).size=(Lib.decDigits r.toNat).length:=by rw [cK,OV]
def OW (c:Int):aq (jm (ByteArray.mk #[48]) c)=List.replicate c.toNat 48:=by
 unfold jm;show(Lib.repeatL [48] c.toNat).toArray.toList=_;rw [Xg]
def ao1 {r:Int} (h0:0<=r) (h1:r<1000000000000000000):aq (jm (ByteArray.mk #[48]) (18-((eC r).size:Int))++eC r)=ll 18 r:=by
 have hl:=Xo h0 h1;unfold aq;rw [dq];show aq _++aq _=_;rw [OW,OV,Xp,Xh 17 r h0 (by have:(10:Int)^18=1000000000000000000:=rfl;omega)];congr 2;omega
def ao2:aq (jm (ByteArray.mk #[48]) 17++ByteArray.mk #[48])=ll 18 0:=by
 unfold aq;rw [dq];show aq _++aq _=_;rw [OW];rfl
def ao3 {m:Int} (h0:0<=m) (h1:m<18446744073709551616^10000):
  pT (cQ 18446744073709551616 m) lU=true/\e4 (cQ 18446744073709551616 m) lU=cQ 18446744073709551616 (m/1000000000000000000)/\cF (cQ 18446744073709551616 m) lU=cQ 18446744073709551616 (m%1000000000000000000):=by
 have h3:=(qN (b:=18446744073709551616) δ h0).2.2;have e1:ak (cQ 18446744073709551616 m)=m:=h3;have e2:ak lU=1000000000000000000:=qS _;have hl:=yo (b:=18446744073709551616) δ h0 h1;have hB:=yt h0;refine⟨?_,by unfold e4;rw [e1,e2],by unfold cF;rw [e1,e2]⟩;unfold pT mK;rw [hB,show(gO lU&&jz lU)=true by rfl,ay (show(cQ 18446744073709551616 m).length<=1000000 by omega),ay (show(cQ 18446744073709551616 m).length<=300000 by omega)];rfl
def ao4 {r:Int} (h0:0<r) (h1:r<1000000000000000000):cQ 18446744073709551616 r=[r]:=(fp δ (L2 ⟨by omega,by omega⟩) (TF ω) (qS r)).symm
def D8 {l:List Int} (h:l≠[]):(l.length:Int)>0:=by
 cases l with
 |nil=>exact absurd rfl h
 |cons a b=>rw [List.length_cons];omega
def HS (N:Int) (x:Int×List AT):Prop:=0<=x.1/\x.1<=N/\mP N=mP x.1++fy x.2/\∀s∈x.2,1<=(aq s).length
def ao5 {N:Int} {x:Int×List AT} (hN:0<N) (hb:N<18446744073709551616^10000) (h:HS N x):x.2.length<=(fy x.2).length/\(fy x.2).length<=200001:=by
 obtain⟨_,_,h3,h4⟩:=h;refine⟨OT h4, ?_⟩;have h5:=Xi (cq hN) hb;have h6:=congrArg List.length h3;unfold mP at h6;rw [if_neg ω,cW]at h6;omega
def OX {N q:Int} {m:Int} {ps:List AT} {s:AT} (h:HS N (m,ps)) (hm:0<m) (hq:q=m/1000000000000000000)
  (hs:aq s=if q=0 then Lib.decDigits (m%1000000000000000000).toNat else ll 18 (m%1000000000000000000)):HS N (q,ps++[s])/\q.toNat<m.toNat:=by
 obtain⟨h1,h2,h3,h4⟩:=h;have h2:m<=N:=h2;have h3:mP N=mP m++fy ps:=h3;refine⟨⟨by show 0<=q;omega,by show q<=N;omega, ?_,fun x hx=> ?_⟩,by omega⟩
 .show mP N=mP q++fy (ps++[s]);rw [h3,aoW hm,aoX,hs,hq,rB]
 .rcases List.mem_append.1 hx with hx|hx
  .exact h4 x hx
  .rw [List.mem_singleton.1 hx,hs];split
   .exact tk _
   .rw [Of];decide
def Xq (neg:Bool) (ps:List AT) (x:Bool×Nat×AT):Prop:=x.2.1<=ps.length/\aq x.2.2=zb neg++fy (ps.drop x.2.1)/\(x.1=false->neg=false/\x.2.1=ps.length)
def Xr {neg:Bool} {ps:List AT} {v:AT} (hv:aq v=zb neg++fy ps) (hl:(fy ps).length<=200001) (hlp:1<=ps.length) (hp:∀s∈ps,1<=(aq s).length) (w:World) (F:Sv.Env) (b0:Bool) (s0:AT) (h0:Xq neg ps (b0,ps.length,s0)):
  aW prog w F 69 ((fl jM []).drop 11) (cond b0 (mO ps (dN s0) ((ps.length:Int)-1)) (wS ps ((ps.length:Int)-1))).T (cond b0 (mO ps (dN s0) ((ps.length:Int)-1)) (wS ps ((ps.length:Int)-1))).H (gZ prog true f127 (sv v)):=by
 have hS:=OS;have auY:=OT hp;refine aW.loop (ι:={x:Bool×Nat×AT//Xq neg ps x}) (id:=2) (b:=cat jM HP) (rest:=(fl jM []).drop 12) (by kernel_rfl) (fun x=>cond x.1.1 (mO ps (dN x.1.2.2) ((x.1.2.1:Int)-1)) (wS ps ((x.1.2.1:Int)-1))) (fun x=>x.1.2.1) ⟨(b0,ps.length,s0),h0⟩ (fun x=>by obtain⟨⟨b,_⟩,_⟩:=x;cases b<;>rfl) ?_;rintro⟨⟨b,k,s⟩,hk,hs,hb⟩;have hk:k<=ps.length:=hk;have hs:aq s=zb neg++fy (ps.drop k):=hs;have pW:(zb neg).length<=1:=by cases neg<;>decide
 have mY:(dN s).length<=200002:=by
  have:=Xm ps k;rw [D7,hs,cW];omega
 cases k with
 |zero=>
  cases b with
  |false=>have:=(hb rfl).2;exact absurd (show 0=ps.length from this) ω
  |true=>
   refine bE (s:=mO ps (dN s) (((0:Nat):Int)-1)) hS (aoU ps (dN s) _ ω) ?_;refine cG (cO ?_);obtain rfl:s=v:=fN (by show aq s=aq v;rw [hs,hv,List.drop_zero]);have hs1:1<=(dN s).length:=by rw [D7,hs,List.drop_zero,cW];omega
   have key:=aoV ps (dN s) (((0:Nat):Int)-1) hs1 ω ω (by rw [dI];exact ap (aoZ s)) (by rw [dI]);rw [Xj]at key;exact b5 (s:=mO ps (dN s) (((0:Nat):Int)-1)) hS key
 |succ j=>
  have Bp:(((j+1:Nat):Int)-1)=(j:Int):=by omega
  have et:(j:Int).toNat=j:=by omega
  have hpc:=hp (ps.getD j ByteArray.empty) (by rw [ao,BL ω];exact List.getElem_mem _);have hsz:(ps.getD j ByteArray.empty).size=(aq (ps.getD j ByteArray.empty)).length:=cK _;have hnx:=ao0 (ps:=ps) (j:=j) ω;have hO:(fy (ps.drop j)).length<=200001:=by have:=Xm ps j;omega
  rw [hnx,cW]at hO;have hbz:Nat.beq (ps.getD j ByteArray.empty).size 0=false:=by
   cases hq:Nat.beq (ps.getD j ByteArray.empty).size 0 with
   |false=>rfl
   |true=>have:=ac hq;omega
  cases b with
  |false=>
   obtain⟨rfl,hj⟩:=hb rfl;have hj:j+1=ps.length:=hj;have key:=aoS ps (j:Int);rw [et]at key;show cg _ _ _ _ _ _ (wS ps (((j+1:Nat):Int)-1)).T (wS ps (((j+1:Nat):Int)-1)).H _;rw [Bp];refine bE (s:=wS ps (j:Int)) hS (key ω ω ω hbz (by show 0+_<=_;omega) ω (by show 0+_=(dN _).length;rw [D7];omega) (Xn (show 1<=(dN _).length by rw [D7];omega)) rfl) ?_;refine⟨⟨(true,j,ps.getD j ByteArray.empty),by show j<=_;omega, ?_,fun h=>by cases h⟩,fB _,rfl,rfl⟩;show aq (ps.getD j ByteArray.empty)=[]++fy (ps.drop j);rw [hnx,hj,List.drop_length];rfl
  |true=>
   have key:=aoT ps (dN s) (j:Int);rw [et,<-aoY]at key;show cg _ _ _ _ _ _ (mO ps (dN s) (((j+1:Nat):Int)-1)).T (mO ps (dN s) (((j+1:Nat):Int)-1)).H _;rw [Bp];have hle:(dN s).length+(ps.getD j ByteArray.empty).size=(dN s++dN (ps.getD j ByteArray.empty)).length:=by rw [cW,D7 (ps.getD j ByteArray.empty),hsz]
   refine bE (s:=mO ps (dN s) (j:Int)) hS (key ω ω ω hbz ω ω hle (Xn (show 1<=(dN s++dN (ps.getD j ByteArray.empty)).length by rw [<-hle];omega))) ?_;refine⟨⟨(true,j,s++ps.getD j ByteArray.empty),by show j<=_;omega, ?_,fun h=>by cases h⟩,fB _,rfl,rfl⟩;show(s++ps.getD j ByteArray.empty).data.toList=_++fy (ps.drop j);rw [hnx,dq];show aq s++_=_;rw [hs,rB]
def HT {l:List Code} (h:l.isEmpty=false) (e:l=[]):False:=by rw [e]at h;cases h
def ao6 (a:aC) (h:aV 10000 a=true) (hw:a.2≠[]):Holds prog true 127 [aB a] (sv (bm (aj a))):=by
 have hS:=OS;obtain⟨p1,p2,p3,dS,kO⟩:=kr h;obtain⟨_,_,_,b4,_⟩:=(sg hw).1 h;have hB:=jB h δ;obtain⟨N,hN⟩:∃N:Int,N=((aj a).natAbs:Int):=⟨_,rfl⟩;have zc:0<N:=by
  unfold aA at p3;rw [if_neg hw]at p3;omega
 have hb:N<18446744073709551616^10000:=by rw [hN];exact hB
 have Hy:aA a=cQ 18446744073709551616 N:=fp δ p1 p2 (by rw [hN];exact p3);have ou:=Xk h;have hdd:Lib.decDigits (aj a).natAbs=mP N:=by
  unfold mP;rw [if_neg ω];congr 1;omega
 rw [hdd]at ou;have ao7:az a=true:=bc δ h;have ao8:List.isEmpty a.2=false:=by
  cases hq:List.isEmpty a.2 with
  |false=>rfl
  |true=>exact absurd (List.isEmpty_iff.1 hq) hw
 refine bL (c:=jM) func127 rfl rfl fun w F=> ?_
 refine cP hS 6 (aoI a ao8 ao7 rfl) ?_;rw [Hy];generalize bZ a=neg at ou ⊢;refine aW.vV (HT (by kernel_rfl)) (i:=64) (s:=5) (e2:=167) (t:=aE) (xs:=lU) (cap:=bK 1) (by kernel_rfl) (by kernel_rfl) ?_;refine aW.n7 (HT (by kernel_rfl)) (σ:=[(64,65,none)]) (s:=lg neg (cQ 18446744073709551616 N) []) (aoJ neg _) ?_;refine aW.loop (ι:={x:Int×List AT//HS N x}) (id:=0) (b:=cat jM D4) (rest:=(fl jM []).drop 7) (by kernel_rfl) (fun x=>lg neg (cQ 18446744073709551616 x.1.1) x.1.2) (fun x=>x.1.1.toNat)
  ⟨(N,[]),cq zc,Int.le_refl _,(List.append_nil _).symm,fun s hs=>absurd hs jO⟩ (fun _=>rfl) ?_
 rintro⟨⟨m,ps⟩,hx⟩;have hl:=ao5 zc hb hx;have hl:ps.length<=(fy ps).length/\(fy ps).length<=200001:=hl;have hm0:0<=m:=hx.1;have auZ:m<=N:=hx.2.1;by_cases hm:m=0
 .subst hm;have e0:cQ 18446744073709551616 0=[]:=L3 δ;refine bE (s:=lg neg (cQ 18446744073709551616 0) ps) hS (aoN neg _ ps (by rw [e0];decide)) ?_;refine cG (cO ?_);have OY:fy ps=mP N:=by have:=hx.2.2.1;exact this.symm
  refine aW.vV (HT (by kernel_rfl)) (i:=64) (s:=6) (e2:=9) (t:= .str) (xs:=ps) (cap:=bK ps.length) (by kernel_rfl) (by kernel_rfl) ?_;refine aW.n7 (HT (by kernel_rfl)) (σ:=[]) (s:=HQ neg ps) (aoO neg _ ps) ?_;refine cX (s:=HQ neg ps) hS 1 (aoP neg ps) ?_;have hlp:1<=ps.length:=by
   cases ps with
   |nil=>
    have:mP N=[]:=OY.symm;unfold mP at this;rw [if_neg ω]at this;have h1:=tk N.toNat;rw [this]at h1;cases h1
   |cons=>simp
  cases neg with
  |true=>
   refine cX (s:=D6 true ps) hS 3 (aoQ ps δ ω rfl rfl rfl) ?_;exact Xr (neg:=true) (ps:=ps) (by rw [ou,OY]) hl.2 hlp hx.2.2.2 w F true ⟨#[45]⟩ ⟨aJ _,by show _=[45]++fy (ps.drop ps.length);rw [List.drop_length];rfl,fun h=>by cases h⟩
  |false=>
   refine cX (s:=D6 false ps) hS 3 (aoR ps ω) ?_;exact Xr (neg:=false) (ps:=ps) (by rw [ou,OY]) hl.2 hlp hx.2.2.2 w F false ⟨#[]⟩ ⟨aJ _,by show _=[]++fy (ps.drop ps.length);rw [List.drop_length];rfl,fun _=>⟨rfl,rfl⟩⟩
 .obtain⟨g1,g2,g3⟩:=ao3 hm0 (show m<18446744073709551616^10000 by omega);have OZ:=D8 (AH (b:=18446744073709551616) δ (show 0<m by omega));have hz:∀{x:Int},x=0->¬((cQ 18446744073709551616 x).length:Int)>0:=fun h=>by rw [h,L3 δ];decide
  have hp1:ps.length+1<=1000000:=by omega
  by_cases hr:m%1000000000000000000=0
  .have hq:m/1000000000000000000≠0:=by omega
   have key:=aoM neg (cQ 18446744073709551616 m) ps OZ g1;rw [g2,g3]at key;obtain⟨h1,h2⟩:=OX (s:=jm (ByteArray.mk #[48]) 17++ByteArray.mk #[48]) hx ω rfl (by rw [if_neg hq,hr];exact ao2);refine bE (s:=lg neg (cQ 18446744073709551616 m) ps) hS (key (hz hr) (D8 (AH δ ω)) hp1 (by rw [cW];rfl) (OU _ _) rfl) ?_;exact⟨⟨(m/1000000000000000000,ps++[jm (ByteArray.mk #[48]) 17++ByteArray.mk #[48]]),h1⟩,h2,rfl,rfl⟩
  .have e1:=ao4 (r:=m%1000000000000000000) ω ω;have hL:=Xo (r:=m%1000000000000000000) ω ω;have nt:=Xp (m%1000000000000000000);have hrl:(((cQ 18446744073709551616 (m%1000000000000000000)).length:Nat):Int)>0:=D8 (AH δ ω);have e2:List.getD [m%1000000000000000000] (Int.toNat 0) 0=m%1000000000000000000:=rfl;have e3:List.getD [m%1000000000000000000] 0 0=m%1000000000000000000:=rfl;have Xt:sZ (m%1000000000000000000) 10=true:=by
    unfold sZ;rw [sj.2 ω];rfl
   by_cases hq:m/1000000000000000000=0
   .have key:=aoL neg (cQ 18446744073709551616 m) ps OZ g1;rw [g2,g3]at key;rw [e1]at hrl key;rw [e2,e3]at key;obtain⟨h1,h2⟩:=OX (s:=eC (m%1000000000000000000)) hx ω rfl (by rw [if_pos hq];exact OV _);refine bE (s:=lg neg (cQ 18446744073709551616 m) ps) hS (key hrl (show 0<1 by decide) Xt (hz hq) hp1 (by rw [cW];rfl) (OU _ _) rfl) ?_;exact⟨⟨(m/1000000000000000000,ps++[eC (m%1000000000000000000)]),h1⟩,h2,rfl,rfl⟩
   .have key:=aoK neg (cQ 18446744073709551616 m) ps OZ g1;rw [g2,g3]at key;rw [e1]at hrl key;rw [e2,e3]at key;obtain⟨h1,h2⟩:=OX (s:=jm (ByteArray.mk #[48]) (18-((eC (m%1000000000000000000)).size:Int))++eC (m%1000000000000000000)) hx ω rfl (by rw [if_neg hq];exact ao1 ω ω);have ao9:Br (ByteArray.mk #[48]) (18-((eC (m%1000000000000000000)).size:Int))=true:=by
     unfold Br;rw [ay (show(ByteArray.mk #[48]).size<=1000000 by decide),ay (show(0:Int)<=18-((eC (m%1000000000000000000)).size:Int) by omega),ay (show(18:Int)-((eC (m%1000000000000000000)).size:Int)<=1000000 by omega)];rfl
    have au0:(jm (ByteArray.mk #[48]) (18-((eC (m%1000000000000000000)).size:Int))).size<=18:=by
     rw [cK,OW,List.length_replicate];omega
    refine bE (s:=lg neg (cQ 18446744073709551616 m) ps) hS (key hrl (show 0<1 by decide) Xt (D8 (AH δ ω)) ω ao9 ω hp1 (by rw [cW];rfl) (OU _ _) rfl) ?_;exact⟨⟨(m/1000000000000000000,ps++[jm (ByteArray.mk #[48]) (18-((eC (m%1000000000000000000)).size:Int))++eC (m%1000000000000000000)]),h1⟩,h2,rfl,rfl⟩
noncomputable def io (a:aC):AT:=bm (aj a)
def Xu:=IN 127 [dF] [.str] true (fun d=>aV 10000 d.1) fun d=>(io d.1,())
def apa:Xu.Ok prog:=fun⟨a,_⟩ h=>by
 have h:aV 10000 a=true:=h;show Holds prog true 127 [aB a] (sv (io a));unfold io;by_cases hw:a.2=[]
 .have h2:=h;rw [ot hw]at h2;rw [lN hw];refine bL (c:=jM) func127 rfl rfl fun w F=> ?_
  exact bg OS 4 (aoH a (List.isEmpty_iff.2 hw) h2)
 .exact ao6 a h hw
abbrev O0 (l:List Int):List Value:=l.map (Value.int .i64)
inductive Xv|unit|row|int
structure Xw where
 f:FuncId
 e:TypeId
 k:Xv
 nl:Bool
 pre:List Int->Nat->List Int->Bool
 out:List Int->Nat->List Int->List Int
 ln:List Int->Nat->List Int->Nat
 val:List Int->Nat->List Int->Int
def apb (k:Xv) (g n kc:Nat) (v:Int):Value:=match k with | .unit=> .tuple #[]| .row=> .slice (some ⟨g,0,none⟩) n kc| .int=> .int .i64 v
def Xw.Ok (P:Program) (c:Xw):Prop:=(c.nl=true->∀(p:Option Addr) (cap:Nat) (w:World),Calls P c.f #[.slice p 0 cap] w fun e w'=>e= .returned (.tuple #[])/\w'=w)/\∀(xs:List Int) (len:Nat) (us:List Int),c.pre xs len us=true->1<=len->len<=xs.length->(c.out xs len us).length=xs.length/\c.ln xs len us<=len/\
 ∀(w:World) (g kc:Nat) (cur:Array Value),w.heap[g]? =some (.cells cur c.e (0,0))->cur.toList.take xs.length=O0 xs->len<=kc->
  Calls P c.f (Value.slice (some ⟨g,0,none⟩) len kc::O0 us).toArray w fun e w'=>e= .returned (apb c.k g (c.ln xs len us) kc (c.val xs len us))/\w.grownBy w' (some g)/\
   ∃cur',w'.heap[g]? =some (.cells cur' c.e (0,0))/\cur'.size=cur.size/\cur'.toList.take xs.length=O0 (c.out xs len us)
--{
--}
end
end Go.Proofs.YtibikmmdbdlafaaGreatDoor
namespace Go.Proofs.YtibikmmdbdlafaaGreatDoor
open Go.RowKit
def HU (x:Int):Prop:= -9223372036854775808<=x/\x<=9223372036854775807
def HU.wf {x:Int} (h:HU x):(Lit.int .i64 x).wf=true:=by
 unfold HU at h;simp [Lit.wf,IntKind.min,IntKind.max,IntKind.signed,IntKind.bits];omega
def ze (w:World) (b n:Nat) (f:Int->Int):Prop:=
 ∃D:DataW Unit,w.ownsMap Tryz.prog 3 (plainElem Tryz.prog 3) b n D/\Maps.IsMap D/\∀x:Int,D.atKey (.int .i64 x) (.lit (.int .i64 0))= .lit (.int .i64 (f x))
def ze.kept {w w':World} {b n:Nat} {f:Int->Int} {row:Option Nat} (h:ze w b n f) (hg:w.grownBy w' row) (hne:some b≠row):ze w' b n f:=by
 obtain⟨D,h1,h2,h3⟩:=h;exact⟨D,h1.kept hg hne,h2,h3⟩
def ze.lt {w:World} {b n:Nat} {f:Int->Int} (h:ze w b n f):b<w.heap.size:=by
 obtain⟨D,h1,_⟩:=h;exact h1.lt
def ze.look {w:World} {b n:Nat} {f:Int->Int} (h:ze w b n f) (k:Int) (hk:HU k):
  (Instr.lookup 135 (.map (some b)) (.int .i64 k) false).run Tryz.prog w= .ok (.int .i64 (f k)) w:=by
 obtain⟨D,h1,_,h3⟩:=h;obtain⟨c,hrun,ki,_⟩:=h1.lookup_int (Maps.int_keyed Tryz.underlying3) Tryz.underlying135 Tryz.underlying3 (Tryz.zeroValue3 w) (Maps.keyOf_int_mk Tryz.underlying3 hk.wf);rw [h3 k]at ki;simp only [DataW.lit.injEq,Lit.int.injEq,true_and]at ki;rw [hrun,ki]
def O1 (f:Int->Int) (k v:Int):Int->Int:=fun y=>if y=k then v else f y
end Go.Proofs.YtibikmmdbdlafaaGreatDoor
namespace Go.Proofs.YtibikmmdbdlafaaGreatDoor
open Go.RowKit Sv Go.Proofs.Tryz
noncomputable section
structure O2 (w:World) (A:Option Addr) (l:List (Int×Int)):Prop where
 at_:∀k,k<l.length->∃b off,A=some ⟨b,off,none⟩/\b<w.heap.size/\w.cell? ⟨b,off+k*2,none⟩=some (.int .i64 (g0 l k).1)/\w.cell? ⟨b,off+k*2+1,none⟩=some (.int .i64 (g0 l k).2)
def O2.below {w w':World} {A:Option Addr} {l:List (Int×Int)} {n:Nat} (h:O2 w A l) (hb:Below n w w') (hn:w.heap.size<=n):O2 w' A l:=
 ⟨fun k hk=>by
   obtain⟨b,off,h1,h2,h3,h4⟩:=h.at_ k hk;have:=hb.size;exact⟨b,off,h1,by omega,(hb.cell (p:=⟨b,off+k*2,none⟩) (by show b<_;omega)).trans h3,(hb.cell (p:=⟨b,off+k*2+1,none⟩) (by show b<_;omega)).trans h4⟩⟩
def Fb {f:Int->Int} (h:∀x,0<=f x/\f x<=1000000000) (k:Int) (hk:f k≠0):∀x,0<=O1 f k (f k-1) x/\O1 f k (f k-1) x<=1000000000:=fun x=>by
 have h1:=h x;have h2:=h k;unfold O1;split<;>omega
end
def gy (r:Rat):Prop:=r.num.natAbs<1000000000000000000/\r.den<1000000000000000000
def O3 {a b:Int} (hb:1<=b) (h1:a.natAbs<1000000000000000000) (h2:b<1000000000000000000):gy (Rat.divInt a b):=by
 have hg:0<Int.gcd a b:=Int.gcd_pos_of_ne_zero_right _ ω;have e:Rat.divInt a b=Rat.divInt (a/(Int.gcd a b:Int)) (b/(Int.gcd a b:Int)):=by
  have e1:=Int.ediv_mul_cancel (show(Int.gcd a b:Int)∣a from Int.gcd_dvd_left ..);have e2:=Int.ediv_mul_cancel (show(Int.gcd a b:Int)∣b from Int.gcd_dvd_right ..);have e3:Rat.divInt a b=Rat.divInt (a/(Int.gcd a b:Int)*(Int.gcd a b:Int)) (b/(Int.gcd a b:Int)*(Int.gcd a b:Int)):=by rw [e1,e2]
  rw [e3];exact Rat.divInt_mul_right (show(Int.gcd a b:Int)≠0 by omega)
 have ju:1<=b/(Int.gcd a b:Int):=by
  have hm:=Int.ediv_mul_cancel (show(Int.gcd a b:Int)∣b from Int.gcd_dvd_right ..);have h0:0<=b/(Int.gcd a b:Int):=Int.ediv_nonneg ω ω;rcases Int.lt_or_le 0 (b/(Int.gcd a b:Int))with h|h
  .omega
  .exfalso;have e0:b/(Int.gcd a b:Int)=0:=by omega
   rw [e0,Int.zero_mul]at hm;omega
 have hc:=Int.gcd_ediv_gcd_ediv_gcd hg;obtain⟨n1,n2⟩:=ti ju hc;rw [e];unfold gy;have l1:(a/(Int.gcd a b:Int)).natAbs<=a.natAbs:=by
  rw [Int.natAbs_ediv_of_dvd (Int.gcd_dvd_left ..)];exact Nat.div_le_self _ _
 have l2:b/(Int.gcd a b:Int)<=b:=Int.ediv_le_self _ ω;rw [n1];refine⟨by omega,by omega⟩
noncomputable section
def iE:=k_a Tryz.f20
def jN:=a8 [A8,WZ,HD,M9]
def de (s u:AT) (k:Int):bH:={n:=96,sl:=[(0,sv s),(3,sv u),(4,iv k)],bJ:=[],next:=64}
section
variable (s:AT) (h1:(s.size:Int)>0) (h2:Int.toNat 0<s.size)
def apc (h3:¬(↑(UInt8.toNat (s.data.toList.getD (Int.toNat 0) (0:UInt8))):Int)=45) (h4:s.size<=1000000000):
  dy jN (fl iE []) 5 96 [sv s] 47 .normal [] (de s s (bk (aq s))):=
 wy [aa (aL (ay h1)),ah h2,ah h1,yn h3,ah h4] 22268348989505
def apd (h3:(↑(UInt8.toNat (s.data.toList.getD (Int.toNat 0) (0:UInt8))):Int)=45) (h4:Int.toNat 1<=s.size) (h5:(s.extract (Int.toNat 1) s.size).size<=1000000000) (h6:(s.extract (Int.toNat 1) s.size)=(s.extract 1 s.size)) (h7:(↑(bk (s.extract (Int.toNat 1) s.size).data.toList):Int)=(↑(bk (s.extract 1 s.size).data.toList):Int)):
  dy jN (fl iE []) 5 96 [sv s] 63 .normal [] (de s (s.extract 1 s.size) (bk (aq (s.extract 1 s.size)))):=
 wy [aa (aL (ay h1)),ah h2,ah h1,cT h3,ah h4,ah (by omega:s.size<=s.size),ah h5,ax h6,ax h7] 2757870205940449109606465
end
def ape (s:AT) (h1:¬(s.size:Int)>0) (h2:s.size<=1000000000):
  dy jN (fl iE []) 5 96 [sv s] 32 .normal [] (de s s (bk (aq s))):=
 wy [aa (aL (ab h1)),aK h1,ah h2] 3221753921
section
variable (s u:AT) (k:Int) (h1:0<=k) (h2:k.toNat<=u.size) (h3:(u.extract 0 k.toNat).size<=1000000000)
def apf (h4:(cy (u.extract 0 k.toNat))=false):
  bW jN ((fl iE []).drop 5) (de s u k) 224 Tryz.f20 true (iv 1):=
 wy [ah h1,ah h2,ah h3,aa (bw (bY (h4))),aa (bY (h4))] 91215763881074689
def apg (h4:(cy (u.extract 0 k.toNat))=true) (h5:Int.toNat 0<s.size) (h6:(↑(UInt8.toNat (s.data.toList.getD (Int.toNat 0) (0:UInt8))):Int)=45) (h7:((u.extract 0 k.toNat).data).toList=((ByteArray.mk (#[(48:UInt8)])).data).toList):
  bW jN ((fl iE []).drop 5) (de s u k) 7167 Tryz.f20 true (iv 1):=
 wy [ah h1,ah h2,ah h3,aa (bw (bY (h4))),ah h5,aa (aL (fP.mpr h6)),cT h6,aa (bY (h4)),ah h7] 12131497851667756158528324735890890753
def aph (h4:(cy (u.extract 0 k.toNat))=true) (h5:Int.toNat 0<s.size) (h6:(↑(UInt8.toNat (s.data.toList.getD (Int.toNat 0) (0:UInt8))):Int)=45) (h7:¬((u.extract 0 k.toNat).data).toList=((ByteArray.mk (#[(48:UInt8)])).data).toList):
  cV jN ((fl iE []).drop 5) 2 (de s u k) 5119 .normal [] (de s u k):=
 wy [ah h1,ah h2,ah h3,aa (bw (bY (h4))),ah h5,aa (aL (fP.mpr h6)),cT h6,aa (bY (h4)),aK h7] 12131497851667756158528324735890890753
def UP (h4:(cy (u.extract 0 k.toNat))=true) (h5:Int.toNat 0<s.size) (h6:¬(↑(UInt8.toNat (s.data.toList.getD (Int.toNat 0) (0:UInt8))):Int)=45):
  cV jN ((fl iE []).drop 5) 2 (de s u k) 4367 .normal [] (de s u k):=
 wy [ah h1,ah h2,ah h3,aa (bw (bY (h4))),ah h5,aa (aL (eN.mpr h6)),yn h6,aa (bY (h4))] 642570093814208610386670526465
end
section
variable (s u:AT) (k:Int)
def api (h1:¬k<(u.size:Int)):
  cV jN ((fl iE []).drop 7) 2 (de s u k) 4096 .normal [] (de s u k):=
 wy [aa (aL (ab h1)),aK h1] 2324143350556659777
def apj (h1:k<(u.size:Int)) (h2:i6 (k+1)) (h3:0<=k+1) (h4:(k+1).toNat<=u.size) (h5:(u.extract (k+1).toNat u.size).size<=1000000000) (h6:(cy (u.extract (k+1).toNat u.size))=false):
  bW jN ((fl iE []).drop 7) (de s u k) 32534655 Tryz.f20 true (iv 1):=
 wy [aa (aL (ay h1)),yi h2,ah h3,ah h4,ah (by omega:u.size<=u.size),ah h5,aa (bw (bY (h6))),aa (bY (h6)),ah h1] 52615486191605234386183578337711327053139317100609
def apk (h1:k<(u.size:Int)) (h2:i6 (k+1)) (h3:0<=k+1) (h4:(k+1).toNat<=u.size) (h5:(u.extract (k+1).toNat u.size).size<=1000000000) (h6:(cy (u.extract (k+1).toNat u.size))=true) (h7:((u.extract (k+1).toNat u.size).data).toList=((ByteArray.mk (#[(48:UInt8)])).data).toList):
  bW jN ((fl iE []).drop 7) (de s u k) 32530431 Tryz.f20 true (iv 1):=
 wy [aa (aL (ay h1)),yi h2,ah h3,ah h4,ah (by omega:u.size<=u.size),ah h5,aa (bw (bY (h6))),aa (bY (h6)),aa (bw (ay h7)),ah h7,ah h1] 1094229182170043027733640569609741686283412839940049342529
def apl (h1:k<(u.size:Int)) (h2:i6 (k+1)) (h3:0<=k+1) (h4:(k+1).toNat<=u.size) (h5:(u.extract (k+1).toNat u.size).size<=1000000000) (h6:(cy (u.extract (k+1).toNat u.size))=true) (h7:¬((u.extract (k+1).toNat u.size).data).toList=((ByteArray.mk (#[(48:UInt8)])).data).toList) (h8:((u.extract (k+1).toNat u.size).data).toList=((ByteArray.mk (#[(49:UInt8)])).data).toList):
  bW jN ((fl iE []).drop 7) (de s u k) 31449087 Tryz.f20 true (iv 1):=
 wy [aa (aL (ay h1)),yi h2,ah h3,ah h4,ah (by omega:u.size<=u.size),ah h5,aa (bw (bY (h6))),aa (bY (h6)),aa (bw (ab h7)),aK h7,ah h1,ah h8] 1282105618965331399306456053895005741220147403057679523796635619393
def apm (h1:k<(u.size:Int)) (h2:i6 (k+1)) (h3:0<=k+1) (h4:(k+1).toNat<=u.size) (h5:(u.extract (k+1).toNat u.size).size<=1000000000) (h6:(cy (u.extract (k+1).toNat u.size))=true) (h7:¬((u.extract (k+1).toNat u.size).data).toList=((ByteArray.mk (#[(48:UInt8)])).data).toList) (h8:¬((u.extract (k+1).toNat u.size).data).toList=((ByteArray.mk (#[(49:UInt8)])).data).toList):
  cV jN ((fl iE []).drop 7) 2 (de s u k) 23060479 .normal [] (de s u k):=
 wy [aa (aL (ay h1)),yi h2,ah h3,ah h4,ah (by omega:u.size<=u.size),ah h5,aa (bw (bY (h6))),aa (bY (h6)),aa (bw (ab h7)),aK h7,ah h1,aK h8] 1282105618965331399306456053895005741220147403057679523796635619393
def UV (h1:k>600):
  bW jN ((fl iE []).drop 9) (de s u k) 448 Tryz.f20 true (iv 4):=
 wy [aa (bw (ay h1)),ah h1] 138529738817
def apn (h1:¬k>600) (h2:i6 ((u.size:Int)-k)) (h3:i6 ((u.size:Int)-k-1)) (h4:(u.size:Int)-k-1>600):
  bW jN ((fl iE []).drop 9) (de s u k) 447 Tryz.f20 true (iv 4):=
 wy [aa (bw (ab h1)),yi h2,yi h3,aK h1,ah h4] 91202497766756417
def apo (h1:¬k>600) (h2:i6 ((u.size:Int)-k)) (h3:i6 ((u.size:Int)-k-1)) (h4:¬(u.size:Int)-k-1>600):
  cV jN ((fl iE []).drop 9) 2 (de s u k) 319 .normal [] (de s u k):=
 wy [aa (bw (ab h1)),yi h2,yi h3,aK h1,aK h4] 91202497766756417
def apq (h1:¬k<(u.size:Int)):
  bW jN ((fl iE []).drop 11) (de s u k) 2 Tryz.f20 true (iv 0):=
 wy [aK h1] 1
def apr (h1:k<(u.size:Int)) (h2:(jg u)=true) (h3:(okA (mkR (ptN u)).2&&okA (mkR (ptD u)).2)=true) (h4:¬(↑(aG (↑(Int.gcd (ag (mkR (ptN u)).2) (ag (mkR (ptD u)).2)):Int)).length:Int)=1):
  bW jN ((fl iE []).drop 11) (de s u k) 225 Tryz.f20 true (iv 1):=
 wy [ah h1,aa h2,aa h3,aa (bw (gz.mpr h4)),aa (gz.mpr h4)] 22269473599617
def aps (h1:k<(u.size:Int)) (h2:(jg u)=true) (h3:(okA (mkR (ptN u)).2&&okA (mkR (ptD u)).2)=true) (h4:(↑(aG (↑(Int.gcd (ag (mkR (ptN u)).2) (ag (mkR (ptD u)).2)):Int)).length:Int)=1) (h5:Int.toNat 0<(aG (↑(Int.gcd (ag (mkR (ptN u)).2) (ag (mkR (ptD u)).2)):Int)).length) (h6:¬(aG (↑(Int.gcd (ag (mkR (ptN u)).2) (ag (mkR (ptD u)).2)):Int)).getD (Int.toNat 0) 0=1):
  bW jN ((fl iE []).drop 11) (de s u k) 223 Tryz.f20 true (iv 1):=
 wy [ah h1,aa h2,aa h3,aa (bw (eF.mpr h4)),ah h5,aa (eF.mpr h4),aa (gz.mpr h6)] 8179680759063261313
def apt (h1:k<(u.size:Int)) (h2:(jg u)=true) (h3:(okA (mkR (ptN u)).2&&okA (mkR (ptD u)).2)=true) (h4:(↑(aG (↑(Int.gcd (ag (mkR (ptN u)).2) (ag (mkR (ptD u)).2)):Int)).length:Int)=1) (h5:Int.toNat 0<(aG (↑(Int.gcd (ag (mkR (ptN u)).2) (ag (mkR (ptD u)).2)):Int)).length) (h6:(aG (↑(Int.gcd (ag (mkR (ptN u)).2) (ag (mkR (ptD u)).2)):Int)).getD (Int.toNat 0) 0=1):
  bW jN ((fl iE []).drop 11) (de s u k) 159 Tryz.f20 true (iv 0):=
 wy [ah h1,aa h2,aa h3,aa (bw (eF.mpr h4)),ah h5,aa (eF.mpr h4),aa (eF.mpr h6)] 8179680759063261313
end
end
end Go.Proofs.YtibikmmdbdlafaaGreatDoor
