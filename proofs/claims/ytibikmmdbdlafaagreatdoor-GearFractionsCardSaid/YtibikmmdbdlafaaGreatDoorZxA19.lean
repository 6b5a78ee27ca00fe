/- The reference of chapter 1: Mul, Add, Reciprocal, FromInt, as known functions. -/
import Derived.Test.YtibikmmdbdlafaaGreatDoorZxA15
import Derived.Test.YtibikmmdbdlafaaGreatDoorZxRq
import Derived.Test.YtibikmmdbdlafaaGreatDoorZxGRun
import Derived.Lib.ItoaMem
import Derived.Lib.Walk
import Derived.WalkKit
import Derived.BigCall
import Derived.BigGuard
import Derived.Test.YtibikmmdbdlafaaGreatDoorZxSvGive
import Derived.Test.YtibikmmdbdlafaaGreatDoorProg
import Derived.Test.YtibikmmdbdlafaaGreatDoorZxVMk
import Derived.Test.YtibikmmdbdlafaaGreatDoorZxNI
import Derived.WalkLawsBesides
import Derived.WalkSpells
import Derived.Lib.Hide
import Derived.IntWalk
import Derived.Maps.OwnSet
import Derived.Maps.Views
import Derived.Maps.OwnOps
import Derived.Deep.RegionLaw
import Derived.Lib.SliceRun
import Derived.Shelf.RegionOpenPlain
import Derived.Test.YtibikmmdbdlafaaGreatDoorZxGAw1
set_option linter.unusedVariables false
set_option linter.unusedSimpArgs false
set_option linter.unusedSectionVars false
set_option maxRecDepth 100000
namespace Go.Proofs.YtibikmmdbdlafaaGreatDoor
open Go.RowKit Sv Go.Proofs.Tryz
noncomputable section
def wh (s:ByteArray):Prop:=∃(r:Rat) (k:Nat),s=aU r/\k<=10000/\mK k r
noncomputable def eL (s:ByteArray):Bool:= @decide (wh s) (Classical.propDecidable _)
def toQ (s:ByteArray):Rat:=Rat.divInt (ptN s) (ptD s)
noncomputable def U7:bn:={f:=15,ps:=[.str, .str],rs:=[.str],fresh:=true,pre:=fun d=>eL d.1&&eL d.2.1,fn:=fun d=>(aU (toQ d.1*toQ d.2.1),())}
noncomputable def MV:bn:={f:=14,ps:=[.str, .str],rs:=[.str],fresh:=true,pre:=fun d=>eL d.1&&eL d.2.1,fn:=fun d=>(aU (toQ d.1+toQ d.2.1),())}
noncomputable def Gw:bn:={f:=72,ps:=[.str],rs:=[.str],fresh:=true,pre:=fun d=>eL d.1&& !(ptN d.1==0),fn:=fun d=>(aU (toQ d.1)⁻¹,())}
--{
theorem uk {s:ByteArray}:eL s=true↔wh s:= @decide_eq_true_iff _ (Classical.propDecidable _)
theorem AZ {s:ByteArray} {r:Rat} (F:U5 s r):toQ s=r:=by
 unfold toQ;rw [F.n,F.d];exact Rat.num_divInt_den r
theorem il {r:Rat} {k:Nat} (hk:k<=10000) (h:mK k r):eL (aU r)=true:=uk.2 ⟨r,k,rfl,hk,h⟩
theorem pG {r:Rat} {k:Nat} (hk:k<=10000) (h:mK k r):toQ (aU r)=r:=AZ (uj hk h)
theorem im:bB prog (bD wg):=tD (fun c hc=>by
 simp only [dV,jY,or_false]at hc;rcases hc with rfl |rfl
 .exact ahK
 .exact ahL) (cR fun c hc=>by
 simp only [dV,jY,or_false]at hc;rcases hc with rfl |rfl |rfl |rfl |rfl |rfl
 .exact alu
 .exact aly
 .exact MK
 .exact alf
 .exact Rh
 .exact MD)
theorem fF {a b:Bool} (h:a=true) (g:b=true):(a&&b)=true:=by rw [h,g];rfl
theorem fm {x y:Int} {i j:Nat} (hx:(x.natAbs:Int)<1000000000^i) (hy:(y.natAbs:Int)<1000000000^j):((x*y).natAbs:Int)<1000000000^(i+j):=by
 rw [Int.natAbs_mul,Int.natCast_mul];exact SS (Int.natCast_nonneg _) (Int.natCast_nonneg _) hx hy
theorem alH {x y:Int} {i j:Nat} (hx:(x.natAbs:Int)<1000000000^i) (hy:(y.natAbs:Int)<1000000000^j):((x+y).natAbs:Int)<1000000000^(max i j+1):=by
 have:=add_lt hx hy;have h2:(x+y).natAbs<=x.natAbs+y.natAbs:=Int.natAbs_add_le x y;omega
theorem Db {x y:Int} (hx:(x.natAbs:Int)<1000000000) (hy:(y.natAbs:Int)<1000000000): -1000000000000000000<=x*y/\x*y<=1000000000000000000:=by
 have h1:x.natAbs*y.natAbs<=999999999*999999999:=Nat.mul_le_mul (by omega) (by omega);have h2:(x*y).natAbs=x.natAbs*y.natAbs:=Int.natAbs_mul x y;rw [<-h2]at h1;omega
theorem MW {z:Int} (h:z≠0):(!(Nat.beq (mkR z).2.length 0))=true:=by
 rw [Bool.not_eq_true'];cases hb:Nat.beq (mkR z).2.length 0 with
 |false=>rfl
 |true=>
  have e:aC (z.natAbs:Int)=[]:=List.eq_nil_of_length_eq_zero (ac hb);have:=(pd (Int.natCast_nonneg _)).1 e;omega
theorem yC (d:Nat):((d:Int).natAbs:Int)=(d:Int):=by omega
attribute [local irreducible] mkR vZ okZ aU iu jr qB ptN ptD okA
theorem alI (a b:ByteArray) (ha:wh a) (hb:wh b):Holds prog true 15 [sv a,sv b] (sv (aU (toQ a*toQ b))):=by
 obtain⟨r,i,rfl,hi,hr⟩:=ha;obtain⟨s,j,rfl,hj,hs⟩:=hb;have F:=uj hi hr;have G:=uj hj hs;obtain⟨r1,r2⟩:=hr;obtain⟨s1,s2⟩:=hs;rw [AZ F,AZ G];have hrd:0<r.den:=r.den_pos;have alJ:0<s.den:=s.den_pos;have hD:0<(r.den:Int)*(s.den:Int):=Int.mul_pos (by omega) (by omega);have ev:r*s=Rat.divInt (r.num*s.num) (r.den*s.den):=by rw [<-Rat.divInt_mul_divInt,Rat.num_divInt_den,Rat.num_divInt_den]
 have um:okZ (mkR (ptN (aU r)))=true:=by rw [F.n];exact iq r1 (by omega)
 have yD:okZ (mkR (ptN (aU s)))=true:=by rw [G.n];exact iq s1 (by omega)
 have uo:okZ (mkR (ptD (aU r)))=true:=by rw [F.d];exact iq (k:=i) (by rw [yC];exact r2) (by omega)
 have yE:okZ (mkR (ptD (aU s)))=true:=by rw [G.d];exact iq (k:=j) (by rw [yC];exact s2) (by omega)
 have Dc:okZ (mkR (vZ (mkR (ptN (aU r)))*vZ (mkR (ptN (aU s)))))=true:=by rw [dr,dr,F.n,G.n];exact iq (fm r1 s1) (by omega)
 have Dd:okZ (mkR (vZ (mkR (ptD (aU r)))*vZ (mkR (ptD (aU s)))))=true:=by rw [dr,dr,F.d,G.d];exact iq (fm (i:=i) (j:=j) (by rw [yC];exact r2) (by rw [yC];exact s2)) (by omega)
 have De:(!(Nat.beq (mkR (vZ (mkR (ptD (aU r)))*vZ (mkR (ptD (aU s))))).2.length 0))=true:=by rw [dr,dr,F.d,G.d];exact MW (by omega)
 have e:Rat.divInt (vZ (mkR (vZ (k4 (aU r))*vZ (k4 (aU s))))) (vZ (mkR (vZ (iw (aU r))*vZ (iw (aU s)))))=r*s:=by
  unfold k4 iw;rw [dr,dr,dr,dr,dr,dr,F.n,F.d,G.n,G.d,ev]
 refine bJ (c:=Gs) func15 rfl rfl fun w0 U8=> ?_
 cases uq:qB (aU r)with
 |false=>
  rw [<-e];exact bu im 30 (alA (aU r) (aU s) F.iQ G.iQ uq F.pt G.pt (fF um yD) (fF uo yE) (fF Dc (fF Dd De)))
 |true=>
  cases fJ:qB (aU s)with
  |false=>
   rw [<-e];exact bu im 30 (alB (aU r) (aU s) F.iQ G.iQ uq fJ F.pt G.pt (fF um yD) (fF uo yE) (fF Dc (fF Dd De)))
  |true=>
   obtain⟨f1,f2,f3,f4⟩:=F.q uq;obtain⟨g1,g2,g3,g4⟩:=G.q fJ;have m1:=Db f3 g3;have m2:=Db (x:=r.den) (y:=s.den) (by omega) (by omega);have key:=alz (aU r) (aU s) F.iQ G.iQ uq fJ;rw [f1,f2,g1,g2,<-ev]at key;exact bu im 30 (key (by omega) (by omega) (fF (fF (az (show(-4000000000000000000:Int)<=r.num*s.num by omega)) (az (show r.num*s.num<=(4000000000000000000:Int) by omega))) (fF (az hD) (az (show(r.den:Int)*(s.den:Int)<=(4000000000000000000:Int) by omega)))))
theorem alK:U7.Ok prog:=fun⟨a,b,_⟩ h=>by
 have h:(eL a&&eL b)=true:=h;rw [ae]at h;exact alI a b (uk.1 h.1) (uk.1 h.2)
theorem alL (a b:ByteArray) (ha:wh a) (hb:wh b):Holds prog true 14 [sv a,sv b] (sv (aU (toQ a+toQ b))):=by
 obtain⟨r,i,rfl,hi,hr⟩:=ha;obtain⟨s,j,rfl,hj,hs⟩:=hb;have F:=uj hi hr;have G:=uj hj hs;obtain⟨r1,r2⟩:=hr;obtain⟨s1,s2⟩:=hs;rw [AZ F,AZ G];have hrd:0<r.den:=r.den_pos;have alJ:0<s.den:=s.den_pos;have hD:0<(r.den:Int)*(s.den:Int):=Int.mul_pos (by omega) (by omega);have A0:((r.den:Int).natAbs:Int)<1000000000^i:=by rw [yC];exact r2
 have s2':((s.den:Int).natAbs:Int)<1000000000^j:=by rw [yC];exact s2
 have ev:r+s=Rat.divInt (r.num*s.den+s.num*r.den) (r.den*s.den):=by rw [<-Rat.divInt_add_divInt _ _ (by omega) (by omega),Rat.num_divInt_den,Rat.num_divInt_den]
 have um:okZ (mkR (ptN (aU r)))=true:=by rw [F.n];exact iq r1 (by omega)
 have yD:okZ (mkR (ptN (aU s)))=true:=by rw [G.n];exact iq s1 (by omega)
 have uo:okZ (mkR (ptD (aU r)))=true:=by rw [F.d];exact iq A0 (by omega)
 have yE:okZ (mkR (ptD (aU s)))=true:=by rw [G.d];exact iq s2' (by omega)
 have U9:okZ (mkR (vZ (mkR (ptN (aU r)))*vZ (mkR (ptD (aU s)))))=true:=by rw [dr,dr,F.n,G.d];exact iq (fm r1 s2') (by omega)
 have ez:okZ (mkR (vZ (mkR (ptN (aU s)))*vZ (mkR (ptD (aU r)))))=true:=by rw [dr,dr,G.n,F.d];exact iq (fm s1 A0) (by omega)
 have Dc:okZ (mkR (vZ (mkR (vZ (mkR (ptN (aU r)))*vZ (mkR (ptD (aU s)))))+vZ (mkR (vZ (mkR (ptN (aU s)))*vZ (mkR (ptD (aU r)))))))=true:=by
  rw [dr,dr,dr,dr,dr,dr,F.n,G.d,G.n,F.d];exact iq (alH (fm r1 s2') (fm s1 A0)) (by omega)
 have Dd:okZ (mkR (vZ (mkR (ptD (aU r)))*vZ (mkR (ptD (aU s)))))=true:=by rw [dr,dr,F.d,G.d];exact iq (fm A0 s2') (by omega)
 have De:(!(Nat.beq (mkR (vZ (mkR (ptD (aU r)))*vZ (mkR (ptD (aU s))))).2.length 0))=true:=by rw [dr,dr,F.d,G.d];exact MW (by omega)
 have e:Rat.divInt (vZ (mkR (vZ (mkR (vZ (k4 (aU r))*vZ (iw (aU s))))+vZ (mkR (vZ (k4 (aU s))*vZ (iw (aU r))))))) (vZ (mkR (vZ (iw (aU r))*vZ (iw (aU s)))))=r+s:=by
  unfold k4 iw;rw [dr,dr,dr,dr,dr,dr,dr,dr,F.n,F.d,G.n,G.d,ev]
 refine bJ (c:=Gt) func14 rfl rfl fun w0 U8=> ?_
 cases uq:qB (aU r)with
 |false=>
  rw [<-e];exact bu im 30 (alD (aU r) (aU s) F.iQ G.iQ uq F.pt G.pt (fF um yE) (fF yD uo) (fF U9 ez) (fF uo yE) (fF Dc (fF Dd De)))
 |true=>
  cases fJ:qB (aU s)with
  |false=>
   rw [<-e];exact bu im 30 (alE (aU r) (aU s) F.iQ G.iQ uq fJ F.pt G.pt (fF um yE) (fF yD uo) (fF U9 ez) (fF uo yE) (fF Dc (fF Dd De)))
  |true=>
   obtain⟨f1,f2,f3,f4⟩:=F.q uq;obtain⟨g1,g2,g3,g4⟩:=G.q fJ;have m1:=Db (y:=(s.den:Int)) f3 (by omega);have m3:=Db (y:=(r.den:Int)) g3 (by omega);have m2:=Db (x:=r.den) (y:=s.den) (by omega) (by omega);have key:=alC (aU r) (aU s) F.iQ G.iQ uq fJ;rw [f1,f2,g1,g2,<-ev]at key;exact bu im 30 (key (by omega) (by omega) (by omega) (by omega) (fF (fF (az (show(-4000000000000000000:Int)<=r.num*(s.den:Int)+s.num*(r.den:Int) by omega)) (az (show r.num*(s.den:Int)+s.num*(r.den:Int)<=(4000000000000000000:Int) by omega))) (fF (az hD) (az (show(r.den:Int)*(s.den:Int)<=(4000000000000000000:Int) by omega)))))
theorem U':MV.Ok prog:=fun⟨a,b,_⟩ h=>by
 have h:(eL a&&eL b)=true:=h;rw [ae]at h;exact alL a b (uk.1 h.1) (uk.1 h.2)
theorem alM (a:ByteArray) (ha:wh a) (h0:ptN a≠0):Holds prog true 72 [sv a] (sv (aU (toQ a)⁻¹)):=by
 obtain⟨r,i,rfl,hi,hr⟩:=ha;have F:=uj hi hr;obtain⟨r1,r2⟩:=hr;rw [AZ F];have A0:((r.den:Int).natAbs:Int)<1000000000^i:=by rw [yC];exact r2
 have ev:r⁻¹ =Rat.divInt r.den r.num:=by
  have:=Rat.inv_divInt r.num r.den;rw [Rat.num_divInt_den]at this;exact this
 have um:okZ (mkR (ptN (aU r)))=true:=by rw [F.n];exact iq r1 (by omega)
 have uo:okZ (mkR (ptD (aU r)))=true:=by rw [F.d];exact iq A0 (by omega)
 have e:Rat.divInt (vZ (iw (aU r))) (vZ (k4 (aU r)))=r⁻¹ :=by
  unfold k4 iw;rw [dr,dr,F.n,F.d,ev]
 refine bJ (c:=U0) func72 rfl rfl fun w0 U8=> ?_
 rw [<-e];exact bu im 30 (alF (aU r) F.pt (fF uo (fF um (MW h0))))
theorem MX:Gw.Ok prog:=fun⟨a,_⟩ h=>by
 have h:(eL a&& !(ptN a==0))=true:=h;rw [ae,Bool.not_eq_true',fP]at h;exact alM a (uk.1 h.1) h.2
--}
end
end Go.Proofs.YtibikmmdbdlafaaGreatDoor
/- The reference of chapter 1: Div, Digits, decimalForm. -/
namespace Go.Proofs.YtibikmmdbdlafaaGreatDoor
open Go.RowKit Sv Go.Proofs.Tryz
noncomputable section
noncomputable def ur:Code:=(f137.body).getD .skip
noncomputable def Df:Code:=(f75.body).getD .skip
noncomputable def alN:bF:=a7 [U7,Gw]
def nC (s:ByteArray) (k:Nat):bC:={n:=20,sl:=[(0,sv s),(3,iv k)],bG:=[],next:=64}
abbrev Dg:List Nat:=[1,0,1,0,0]
theorem GT (s:ByteArray):
  cT (a7 []) (fl ur []) 2 20 [sv s] 1 .normal [] (nC s 0):=
 wy [] 0
theorem alO (s:ByteArray) (k:Nat) (h1:(k:Int)<(s.size:Int)) (h2:k<s.size) (h3:(↑(UInt8.toNat (s.data.toList.getD k (0:UInt8))):Int)<48):
  bQ (a7 []) (fl ur Dg) (nC s k) 225 f137 true (bv false):=
 wy [ah h1,ah h2,af (bx (az h3)),ah h3] 17801616826369
theorem alP (s:ByteArray) (k:Nat) (h1:(k:Int)<(s.size:Int)) (h2:k<s.size) (h3:¬(↑(UInt8.toNat (s.data.toList.getD k (0:UInt8))):Int)<48) (h4:(↑(UInt8.toNat (s.data.toList.getD k (0:UInt8))):Int)>57):
  bQ (a7 []) (fl ur Dg) (nC s k) 223 f137 true (bv false):=
 wy [ah h1,ah h2,af (bx (ab h3)),aJ h3,ah h4] 5837518341367668737
theorem alQ (s:ByteArray) (k:Nat) (h1:(k:Int)<(s.size:Int)) (h2:k<s.size) (h3:¬(↑(UInt8.toNat (s.data.toList.getD k (0:UInt8))):Int)<48) (h4:¬(↑(UInt8.toNat (s.data.toList.getD k (0:UInt8))):Int)>57) (h5:i6 ((k:Int)+1)):
  bh (a7 []) (fl ur Dg) (nC s k) 159 .normal [] (nC s (k+1)):=
 wy [ah h1,ah h2,af (bx (ab h3)),aJ h3,aJ h4,yi h5] 448559376110396907521
theorem alR (s:ByteArray) (k:Nat) (h1:¬(k:Int)<(s.size:Int)):
  bh (a7 []) (fl ur Dg) (nC s k) 2 (.exit 0) [] (nC s k):=
 wy [aJ h1] 1
theorem NO (s:ByteArray) (k:Nat):
  bQ (a7 []) ((fl ur []).drop 3) (nC s k) 1 f137 true (bv true):=
 wy [] 0
noncomputable def Va:bn:={f:=137,ps:=[.str],rs:=[.bool],fresh:=true,pre:=fun d=>decide (d.1.size<=1000000000),fn:=fun d=>(bW (ak d.1),())}
noncomputable def Dh:bF:=a7 [Va]
theorem alS (s:ByteArray) (h1:(s.size:Int)=0):
  bq Dh (fl Df []) 9 18 [sv s] 224 f75 true (bv false):=
 wy [af (bx (fU.mpr h1)),c8 h1] 2164527169
theorem alT (s:ByteArray) (h1:¬(s.size:Int)=0) (h2:(s.size:Int)>1) (h3:Int.toNat 0<s.size) (h4:(↑(UInt8.toNat (s.data.toList.getD (Int.toNat 0) (0:UInt8))):Int)=48):
  bq Dh (fl Df []) 9 18 [sv s] 3583 f75 true (bv false):=
 wy [af (bx (fP.mpr h1)),af (aQ (az h2)),ah h3,ah h2,yn h1,c8 h4] 28707764055255273443393
theorem alU (s:ByteArray) (h1:¬(s.size:Int)=0) (h2:(s.size:Int)>1) (h3:Int.toNat 0<s.size) (h4:¬(↑(UInt8.toNat (s.data.toList.getD (Int.toNat 0) (0:UInt8))):Int)=48) (h5:s.size<=1000000000):
  bq Dh (fl Df []) 9 18 [sv s] 2559 f75 true (bv (bW (ak s))):=
 wy [af (bx (fP.mpr h1)),af (aQ (az h2)),ah h3,ah h2,yn h1,yn h4,ah h5] 2144327948380856329179201
theorem alV (s:ByteArray) (h1:¬(s.size:Int)=0) (h2:¬(s.size:Int)>1) (h3:s.size<=1000000000):
  bq Dh (fl Df []) 9 18 [sv s] 2191 f75 true (bv (bW (ak s))):=
 wy [af (bx (fP.mpr h1)),af (aQ (ab h2)),aJ h2,yn h1,ah h3] 369007788030825861185
def cx (s:ByteArray):Bool:=decide (0<s.size)&&((decide (s.size<=1)|| !(decide ((b5 s 0).toNat=48)))&&bW (ak s))
noncomputable def Vb:bn:={f:=75,ps:=[.str],rs:=[.bool],fresh:=true,pre:=fun d=>decide (d.1.size<=1000000000),fn:=fun d=>(cx d.1,())}
theorem ary:bB prog (bD alN):=cR (aT alK (aT MX dY))
theorem alW (s:ByteArray) (hl:s.size<=1000000000):Holds prog true 137 [sv s] (bv (bW (ak s))):=by
 have hS:=ba;have hz:=bd s;refine bJ (c:=ur) func137 rfl rfl fun w F=> ?_
 refine cE hS 2 (GT s) ?_;refine aR.loop (ι:={k:Nat//k<=s.size/\bW ((ak s).take k)=true}) (id:=0) (b:=cat ur Dg) (rest:=(fl ur []).drop 3) (by kernel_rfl) (fun k=>nC s k.1) (fun k=>s.size-k.1) ⟨0,Nat.zero_le _,by rw [List.take_zero];rfl⟩ (fun _=>rfl) ?_;rintro⟨k,hk,hd⟩;by_cases hlt:k<s.size
 .have hmem:b5 s k∈ak s:=by rw [yl (by omega)];exact List.getElem_mem _
  have hno:¬(48<=(b5 s k).toNat/\(b5 s k).toNat<=57)->bW (ak s)=false:=fun hn=>by
   rw [Bool.eq_false_iff];intro h;have:=List.all_eq_true.1 h _ hmem;rw [ae,bz,bz]at this;exact hn this
  by_cases h1:(b5 s k).toNat<48
  .rw [hno (by omega)];exact bT (s:=nC s k) hS (alO s k (by omega) hlt (by show((b5 s k).toNat:Int)<48;omega))
  .by_cases h2:57<(b5 s k).toNat
   .rw [hno (by omega)];exact bT (s:=nC s k) hS (alP s k (by omega) hlt (by show¬((b5 s k).toNat:Int)<48;omega) (by show((b5 s k).toNat:Int)>57;omega))
   .refine bp (s:=nC s k) hS (alQ s k (by omega) hlt (by show¬((b5 s k).toNat:Int)<48;omega) (by show¬((b5 s k).toNat:Int)>57;omega) (by omega)) ?_;refine⟨⟨k+1,hlt, ?_⟩,by show s.size-(k+1)<s.size-k;omega,rfl,rfl⟩;rw [FU (by omega),Gn];refine⟨hd, ?_⟩;show bW [b5 s k]=true;rw [Av,az (by omega),az (by omega)];rfl
 .refine bp (s:=nC s k) hS (alR s k (by omega)) ?_;refine cv (cD ?_);rw [ef (by omega)]at hd;rw [hd];exact bT (s:=nC s k) hS (NO s k)
theorem alX:Va.Ok prog:=fun⟨s,_⟩ h=>alW s (ap h)
theorem alY:bB prog (bD Dh):=cR (aT alX dY)
theorem alZ (s:ByteArray) (hl:s.size<=1000000000):Holds prog true 75 [sv s] (bv (cx s)):=by
 have hS:=alY;refine bJ (c:=Df) func75 rfl rfl fun w F=> ?_
 unfold cx;by_cases h0:s.size=0
 .rw [ab (show¬0<s.size by omega),Bool.false_and];exact bu hS 9 (alS s (by omega))
 .rw [az (show 0<s.size by omega),Bool.true_and];by_cases h1:s.size<=1
  .rw [az h1,Bool.true_or,Bool.true_and];exact bu hS 9 (alV s (by omega) (by omega) hl)
  .rw [ab h1,Bool.false_or];by_cases h2:(b5 s 0).toNat=48
   .rw [az h2,Bool.not_true,Bool.false_and];exact bu hS 9 (alT s (by omega) (by omega) (by show 0<s.size;omega) (by show((b5 s 0).toNat:Int)=48;omega))
   .rw [ab h2,Bool.not_false,Bool.true_and];exact bu hS 9 (alU s (by omega) (by omega) (by show 0<s.size;omega) (by show¬((b5 s 0).toNat:Int)=48;omega) hl)
theorem al0:Vb.Ok prog:=fun⟨s,_⟩ h=>alZ s (ap h)
end
noncomputable section
noncomputable def Di:Code:=(f21.body).getD .skip
noncomputable def Vc:Code:=(f30.body).getD .skip
noncomputable def MY:Code:=(f31.body).getD .skip
noncomputable def MZ:Code:=(f32.body).getD .skip
noncomputable def Gy:Code:=(f73.body).getD .skip
abbrev al1:ByteArray:=ByteArray.mk #[49]
theorem al2 (s:ByteArray) (h1:(s.data).toList=((ByteArray.mk #[(48:UInt8)]).data).toList):
  bq (a7 []) (fl Di []) 9 13 [sv s] 3 f21 true (iv 0):=
 wy [ah h1] 1
theorem al3 (s:ByteArray) (h1:¬(s.data).toList=((ByteArray.mk #[(48:UInt8)]).data).toList) (h2:(s.size:Int)>0) (h3:Int.toNat 0<s.size) (h4:(↑(UInt8.toNat (s.data.toList.getD (Int.toNat 0) (0:UInt8))):Int)=45):
  bq (a7 []) (fl Di []) 9 13 [sv s] 126 f21 true (iv (-1)):=
 wy [aJ h1,af (aQ (az h2)),ah h3,ah h2,c8 h4] 22267308286081
theorem al4 (s:ByteArray) (h1:¬(s.data).toList=((ByteArray.mk #[(48:UInt8)]).data).toList) (h2:(s.size:Int)>0) (h3:Int.toNat 0<s.size) (h4:¬(↑(UInt8.toNat (s.data.toList.getD (Int.toNat 0) (0:UInt8))):Int)=45):
  bq (a7 []) (fl Di []) 9 13 [sv s] 94 f21 true (iv 1):=
 wy [aJ h1,af (aQ (az h2)),ah h3,ah h2,yn h4] 22267308286081
theorem al5 (s:ByteArray) (h1:¬(s.data).toList=((ByteArray.mk #[(48:UInt8)]).data).toList) (h2:¬(s.size:Int)>0):
  bq (a7 []) (fl Di []) 9 13 [sv s] 64 f21 true (iv 1):=
 wy [aJ h1,af (aQ (ab h2)),aJ h2] 50864257
def jX (s:ByteArray):Int:=if s=ByteArray.mk #[48]then 0 else if 0<s.size/\(b5 s 0).toNat=45 then-1 else 1
theorem M0 {a b:ByteArray} (h:a.data.toList=b.data.toList):a=b:=by
 cases a;cases b;simp at h;rw [h]
theorem al6 (s:ByteArray):Holds prog true 21 [sv s] (iv (jX s)):=by
 have hS:=ba;refine bJ (c:=Di) func21 rfl rfl fun w F=> ?_
 unfold jX;by_cases h0:s=ByteArray.mk #[48]
 .rw [if_pos h0];exact bu hS 9 (al2 s (congrArg ak h0))
 .rw [if_neg h0];by_cases h1:0<s.size
  .by_cases h2:(b5 s 0).toNat=45
   .rw [if_pos ⟨h1,h2⟩];exact bu hS 9 (al3 s (fun h=>h0 (M0 h)) (by omega) (by omega) (by show((b5 s 0).toNat:Int)=45;omega))
   .rw [if_neg fun h=>h2 h.2];exact bu hS 9 (al4 s (fun h=>h0 (M0 h)) (by omega) (by omega) (by show¬((b5 s 0).toNat:Int)=45;omega))
  .rw [if_neg fun h=>h1 h.1];exact bu hS 9 (al5 s (fun h=>h0 (M0 h)) (by omega))
noncomputable def M3:bn:={f:=21,ps:=[.str],rs:=[.int .i64],fresh:=true,pre:=fun d=>true,fn:=fun d=>(jX d.1,())}
noncomputable def Gz:bF:=a7 [Ar]
noncomputable def M4:bF:=a7 [M3]
def uu (s:ByteArray):ByteArray:=s.extract 0 (aY (ak s))
def nX (s:ByteArray):ByteArray:=if aY (ak s)=s.size then ByteArray.mk #[49]else s.extract (aY (ak s)+1) s.size
def r8 (s:ByteArray):ByteArray:=if jX s<0 then s.extract 1 s.size else s
theorem al7 (s:ByteArray) (h1:s.size<=1000000000) (h2:aY s.data.toList<=s.size):
  bq Gz (fl Vc []) 9 7 [sv s] 1 f30 true (sv (s.extract 0 (aY (ak s)))):=
 wy [ah h1,ah h2] 524289
theorem al8 (s:ByteArray) (h1:s.size<=1000000000) (h2:(↑(aY s.data.toList):Int)=(s.size:Int)):
  bq Gz (fl MY []) 9 14 [sv s] 3 f31 true (sv al1):=
 wy [ah h1,c8 h2] 129
theorem al9 (s:ByteArray) (h1:s.size<=1000000000) (h2:¬(↑(aY s.data.toList):Int)=(s.size:Int)) (h3:i6 ((↑(aY s.data.toList):Int)+1)) (h4:((↑(aY s.data.toList):Int)+1).toNat<=s.size) (h5:(s.extract ((↑(aY s.data.toList):Int)+1).toNat s.size)=(s.extract (aY s.data.toList+1) s.size)):
  bq Gz (fl MY []) 9 14 [sv s] 2 f31 true (sv (s.extract (aY (ak s)+1) s.size)):=
 wy [ah h1,yn h2,yi h3,ah h4,ah (by omega:s.size<=s.size),ax h5] 417752690817
theorem ama (s:ByteArray) (h1:jX s<0) (h2:Int.toNat 1<=s.size) (h3:(s.extract (Int.toNat 1) s.size)=(s.extract 1 s.size)):
  bq M4 (fl MZ []) 9 9 [sv s] 3 f32 true (sv (s.extract 1 s.size)):=
 wy [ah h1,ah h2,ah (by omega:s.size<=s.size),ax h3] 4345823296
theorem amb (s:ByteArray) (h1:¬jX s<0):
  bq M4 (fl MZ []) 9 9 [sv s] 2 f32 true (sv s):=
 wy [aJ h1] 64
theorem Vd:M3.Ok prog:=fun⟨s,_⟩ _=>al6 s
theorem Cm:bB prog (bD Gz):=ri tl
theorem Ve:bB prog (bD M4):=ri Vd
theorem Vf:∀l:List UInt8,aY l<=l.length
 |[]=>aE _
 |b::r=>by
  have:=Vf r;unfold aY;split
  .exact Nat.zero_le _
  .simp;omega
theorem Ps (s:ByteArray):aY (ak s)<=s.size:=by rw [bd];exact Vf _
noncomputable def Vg:bn:={f:=30,ps:=[.str],rs:=[.str],fresh:=true,pre:=fun d=>decide (d.1.size<=1000000000),fn:=fun d=>(uu d.1,())}
noncomputable def Vh:bn:={f:=31,ps:=[.str],rs:=[.str],fresh:=true,pre:=fun d=>decide (d.1.size<=1000000000),fn:=fun d=>(nX d.1,())}
noncomputable def Vi:bn:={f:=32,ps:=[.str],rs:=[.str],fresh:=true,pre:=fun d=>true,fn:=fun d=>(r8 d.1,())}
noncomputable def GA:bF:=a7 [Vg,Vh,Vi]
theorem amc (s:ByteArray) (h1:s.size<=1000000000) (h2:(↑(r8 (uu s)).size:Int)>600):
  bq GA (fl Gy []) 9 14 [sv s] 112 f73 true (iv 4):=
 wy [ah h1,af (bx (az h2)),ah h2] 208340000769
theorem amd (s:ByteArray) (h1:s.size<=1000000000) (h2:¬(↑(r8 (uu s)).size:Int)>600) (h3:(↑(nX s).size:Int)>600):
  bq GA (fl Gy []) 9 14 [sv s] 111 f73 true (iv 4):=
 wy [ah h1,af (bx (ab h2)),aJ h2,ah h3] 1139233650122753
theorem ame (s:ByteArray) (h1:s.size<=1000000000) (h2:¬(↑(r8 (uu s)).size:Int)>600) (h3:¬(↑(nX s).size:Int)>600):
  bq GA (fl Gy []) 9 14 [sv s] 79 f73 true (iv 0):=
 wy [ah h1,af (bx (ab h2)),aJ h2,aJ h3] 1139233650122753
def A1 (s:ByteArray):Int:=if 600<(r8 (uu s)).size\/600<(nX s).size then 4 else 0
theorem amf:Vg.Ok prog:=fun⟨s,_⟩ h=>by
 have hz:=ap h;refine bJ (c:=Vc) func30 rfl rfl fun w F=> ?_
 exact bu Cm 9 (al7 s hz (Ps s))
theorem amg:Vh.Ok prog:=fun⟨s,_⟩ h=>by
 have hz:=ap h;have hl:aY s.data.toList<=s.size:=Ps s;show Holds prog true 31 [sv s] (sv (nX s));refine bJ (c:=MY) func31 rfl rfl fun w F=> ?_
 unfold nX;by_cases h1:aY s.data.toList=s.size
 .rw [if_pos h1];exact bu Cm 9 (al8 s hz (by omega))
 .rw [if_neg h1];exact bu Cm 9 (al9 s hz (by omega) (by have hz:s.size<=1000000000:=hz;omega) (by omega) (by rw [show((aY s.data.toList:Int)+1).toNat=aY s.data.toList+1 by omega]))
theorem amh {s:ByteArray} (h:jX s<0):0<s.size:=by
 unfold jX at h;split at h
 .exact absurd h (by decide)
 .split at h
  .rename_i h1;exact h1.1
  .exact absurd h (by decide)
theorem ami:Vi.Ok prog:=fun⟨s,_⟩ _=>by
 show Holds prog true 32 [sv s] (sv (r8 s));refine bJ (c:=MZ) func32 rfl rfl fun w F=> ?_
 unfold r8;by_cases h1:jX s<0
 .rw [if_pos h1];exact bu Ve 9 (ama s h1 (by have:=amh h1;omega) rfl)
 .rw [if_neg h1];exact bu Ve 9 (amb s h1)
theorem amj:bB prog (bD GA):=cR (aT amf (aT amg (aT ami dY)))
theorem amk (s:ByteArray) (hz:s.size<=1000000000):Holds prog true 73 [sv s] (iv (A1 s)):=by
 have hS:=amj;refine bJ (c:=Gy) func73 rfl rfl fun w F=> ?_
 unfold A1;by_cases h1:600<(r8 (uu s)).size
 .rw [if_pos (.inl h1)];exact bu hS 9 (amc s hz (by omega))
 .by_cases h2:600<(nX s).size
  .rw [if_pos (.inr h2)];exact bu hS 9 (amd s hz (by omega) (by omega))
  .rw [if_neg (fun h=>h.elim h1 h2)];exact bu hS 9 (ame s hz (by omega) (by omega))
theorem M5 (s:ByteArray) (i j:Nat):(s.extract i j).size<=s.size:=by rw [ByteArray.size_extract];omega
theorem aml {s:ByteArray} (h:s.size<=600):A1 s=0:=by
 have h1:=M5 s 0 (aY (ak s));have h2:(r8 (uu s)).size<=(uu s).size:=by unfold r8;split;exact M5 _ _ _;exact aE _
 have h3:(nX s).size<=600:=by
  unfold nX;split
  .decide
  .have:=M5 s (aY (ak s)+1) s.size;omega
 have h4:(uu s).size<=s.size:=h1;unfold A1;rw [if_neg (by omega)]
noncomputable def Vj:bn:={f:=73,ps:=[.str],rs:=[.int .i64],fresh:=true,pre:=fun d=>decide (d.1.size<=1000000000),fn:=fun d=>(A1 d.1,())}
theorem amm:Vj.Ok prog:=fun⟨s,_⟩ h=>amk s (ap h)
end
end Go.Proofs.YtibikmmdbdlafaaGreatDoor
namespace Go.Proofs.YtibikmmdbdlafaaGreatDoor
open Go.RowKit Go.Sort Go.Lib
theorem Vk (w:World) (T:TypeId) (nd:Nat) (hs:nd<=24):Holds (fun(b:UInt8)=>Value.int .u8 (b.toNat:Int)) (w.alloc (.cells zeros24 T)) w.heap.size 0 (Array.replicate nd (0:UInt8)):=fun j hj=>by
 have hj':j<nd:=by simpa using hj
 refine⟨?_,World.frozen?_alloc_new _ _ _ _⟩;rw [World.cell?_alloc_new,zeros24_at _ (by omega),getElem!_pos _ j hj];simp
theorem amn (w:World) (o:Obj) (dk:Array UInt8) (k:Nat):∃os,(putRow (fun(b:UInt8)=>Value.int .u8 (b.toNat:Int)) (w.alloc o) w.heap.size 0 dk).drewN k=grow (w.drewN k) os:=by
 rw [alloc_eq_grow];obtain⟨os',_,e⟩:=putRow_grow_new (fun(b:UInt8)=>Value.int .u8 (b.toNat:Int)) w #[o] w.heap.size 0 dk (aE _);exact⟨os',by rw [e];rfl⟩
set_option maxHeartbeats 6400000 in
set_option maxRecDepth 100000 in
theorem amo (u:Nat) (hu64:u<18446744073709551616) (w:World) (htab:Lib.TabIs Tryz.prog w "internal/strconv.uint64pow10" .u64 Lib.pow10Tab):
  Calls Tryz.prog 227 #[.int .u64 u, .int .i64 10] w fun e w'=>e= .returned (.string ⟨(decDigits u).toArray⟩)/\∃k os,w'=grow (w.drewN k) os:=by
 by_cases hs:u<100
 .have amq:=Lib.hid (fun w=>Tryz.internal_strconv_small u hs w);have hwr:IntKind.i64.wrap (u:Int)=(u:Int):=by rw [IntKind.wrap_i64];omega
  go_enter Tryz.func227,Tryz.ntmps227
  go_wp2_with fail
  refine(amq.out _).mono ?_;rintro e w' ⟨rfl,rfl⟩
  go_wp2
  go_ret
  exact⟨rfl,0, #[],by simp [World.drewN_zero]⟩
 .have hu1:1<=u:=by omega
  have hnd20:nDigits u<=20:=by have:=numDigits_eq u hu1 hu64;split at this<;>omega
  have LI:=Lib.hid (fun w h=>Tryz.internal_strconv_numDigits u hu1 hu64 w h);have DV:=Vk w 260 (nDigits u) (by omega);have hfmt:=Tryz.internal_strconv_formatBase10 w.heap.size 0 24 u (Array.replicate (nDigits u) 0) (w.alloc (.cells zeros24 260)) DV (by rw [Array.size_replicate];exact lt_pow_nDigits u) hu64 (by rw [Array.size_replicate];omega);rw [Array.size_replicate]at hfmt;have amr:=Lib.hid hfmt;have ams:=Lib.hid (tabIs_alloc htab (.cells zeros24 260));clear DV hfmt htab
  go_enter Tryz.func227,Tryz.ntmps227
  go_wp2_with fail
  refine(LI.out _ ams.out).mono ?_;rintro e w' ⟨rfl,rfl⟩;have hal:Tryz.prog.arrayLen 260=24:=by simp [Program.arrayLen,Tryz.underlying260]
  have arz:∀W,(Instr.sliceAt 260 (.pointer (some ⟨w.heap.size,0,none⟩)) none (some (.int .i64 (nDigits u:Int))) none).run Tryz.prog W= .ok (.slice (some ⟨w.heap.size,0,none⟩) (nDigits u) 24) W:=fun W=>by
   rw [run_sliceAt_array_h W 260 ⟨w.heap.size,0,none⟩ (by simp [Program.arrayLen,Program.elem,Tryz.underlying260]) .i64 (nDigits u:Int) (by omega) (by rw [hal];omega)]
   go_simp
  clear hal
  go_wp2_with fail
  refine amr.out.mono ?_;rintro e w' ⟨rfl,k,v',dk,rfl,hF⟩;have hcv:(convert 205 9 (.slice (some ⟨w.heap.size,0,none⟩) (nDigits u) 24)).run Tryz.prog ((putRow (fun(b:UInt8)=>Value.int .u8 (b.toNat:Int)) (w.alloc (.cells zeros24 260)) w.heap.size 0 dk).drewN k)= .ok (.string ⟨(decDigits u).toArray⟩) ((putRow (fun(b:UInt8)=>Value.int .u8 (b.toNat:Int)) (w.alloc (.cells zeros24 260)) w.heap.size 0 dk).drewN k):=by
   have h:=run_convert_bytes_back (P:=Tryz.prog) ((putRow (fun(b:UInt8)=>Value.int .u8 (b.toNat:Int)) (w.alloc (.cells zeros24 260)) w.heap.size 0 dk).drewN k) 205 9 5 ⟨w.heap.size,0,none⟩ 24 (decDigits u) Tryz.underlying205 Tryz.underlying5 Tryz.underlying9 (fun j hj=>by
    rw [row_is_numeral hF j hj,add_plain,World.cell?_drewN];exact cell?_putRow (fun(b:UInt8)=>Value.int .u8 (b.toNat:Int)) _ w.heap.size 0 _ dk (Vk w 260 (nDigits u) (by omega)) (by rw [hF.size,Array.size_replicate]) j (by rw [hF.size];rw [decDigits_length]at hj;exact hj))
   rw [decDigits_length]at h;exact h
  go_wp2
  go_ret
  obtain⟨os,amt⟩:=amn w (.cells zeros24 260) dk k;exact⟨rfl,k,os,amt⟩
end Go.Proofs.YtibikmmdbdlafaaGreatDoor
/- strconv.FormatUint at base 10 as a known function. -/
namespace Go.Proofs.YtibikmmdbdlafaaGreatDoor
open Go.RowKit Sv Go.Proofs.Tryz
noncomputable section
def eA (u:Int):ByteArray:=⟨(Lib.decDigits u.toNat).toArray⟩
def r9 (u b:Int):Bool:=vG u&&(b==10)
noncomputable def Vl:Code:=(f179.body).getD .skip
noncomputable def Vm:bn:={f:=227,ps:=[aB, .int .i64],rs:=[.str],fresh:=true,pre:=fun d=>r9 d.1 d.2.1,fn:=fun d=>(eA d.1,())}
noncomputable def Vn:bn:={f:=179,ps:=[aB, .int .i64],rs:=[.str],fresh:=true,pre:=fun d=>r9 d.1 d.2.1,fn:=fun d=>(eA d.1,())}
theorem So (u b:Int) (h1:(r9 u b)=true):
  bq (a7 [Vm]) (fl Vl []) 9 8 [cl u,iv b] 1 f179 true (sv (eA u)):=
 wy [af h1] 1
theorem amu:Vm.Ok prog:=fun⟨u,b,_⟩ h w F xs hF cn hd=>by
 have h:r9 u b=true:=h;unfold r9 at h;rw [ae,fU]at h;obtain⟨h1,rfl⟩:=h;have h1:=f6.1 h1;cases hd with
 |cons d1 d2=>
  cases d2 with
  |cons d2 d3=>
  cases d3;rw [d1.b7,d2.b7];have:=amo u.toNat (by omega) w (Uc hF cn);rw [show((u.toNat:Nat):Int)=u from Int.toNat_of_nonneg h1.1]at this;refine this.mono ?_;rintro e w' ⟨rfl,k,os,rfl⟩;exact⟨_,⟨F.at',fun _=>none⟩,rfl, .raw _,⟨hF.oR,hF.all,fun b A h=>by cases h⟩,(fun b A h=>by cases h),Ub _ _ (aE _) _ _⟩
theorem Sp:Vn.Ok prog:=fun⟨u,b,_⟩ h=>by
 have h:r9 u b=true:=h;refine bJ (c:=Vl) func179 rfl rfl fun w F=> ?_
 exact bu (ri amu) 9 (So u b h)
end
noncomputable section
def jf (s:ByteArray) (c:Int):ByteArray:=⟨(Lib.repeatL s.data.toList c.toNat).toArray⟩
def A2 (s:ByteArray) (c:Int):Bool:=decide (s.size<=1000000)&&(decide (0<=c)&&decide (c<=1000000))
noncomputable def Vo:bn:={f:=180,ps:=[.str, .int .i64],rs:=[.str],fresh:=true,pre:=fun d=>A2 d.1 d.2.1,fn:=fun d=>(jf d.1 d.2.1,())}
theorem amv:Vo.Ok prog:=fun⟨s,c,_⟩ h w F xs hF cn hd=>by
 have h:A2 s c=true:=h;unfold A2 at h;rw [ae,ae,bz,bz,bz]at h;obtain⟨h1,h2,h3⟩:=h;cases hd with
 |cons d1 d2=>
  cases d2 with
  |cons d2 d3=>
  cases d3;rw [d1.b7,d2.b7];have hm:s.size*c.toNat<=1000000*1000000:=Nat.mul_le_mul h1 (by omega);have:=Tryz.strings_Repeat s c.toNat w (by omega) (by omega);rw [show((c.toNat:Nat):Int)=c from Int.toNat_of_nonneg h2]at this;refine this.mono ?_;rintro e w' ⟨rfl,hb⟩;exact⟨_,⟨F.at',fun _=>none⟩,rfl, .raw _,⟨hF.oR,hF.all,fun b A h=>by cases h⟩,(fun b A h=>by cases h),hb⟩
end
noncomputable section
noncomputable def jz:Code:=(f127.body).getD .skip
noncomputable def nD:bF:=a7 [Ua,Fe,K4,Vn,Vo]
abbrev Dj:List Nat:=[1,1,1,1,1,0,0,0]
abbrev GB:List Nat:=[1,1,1,1,1,1,1,1,0,1,0,0]
abbrev lQ:List Int:=[1000000000000000000]
abbrev qJ:au:= .int .u8
abbrev Vp (j:Nat) (ps:List ByteArray):aa:= .bN 9 .str j 0 ps.length (bA ps.length)
abbrev Vq (ps:List ByteArray):fy:= .opt 9 .str ps
abbrev e5 (l:List ByteArray):aa:= .bk false .str l
abbrev M6 (p:aa) (s:List Int):fy:= .blk (.cells 207 [p, .bN 5 qJ 65 0 s.length (bA s.length)] true false false)
abbrev Vr:List ByteArray:=[]
abbrev Vs:aa:= .raw (.pointer none)
def M7 (neg:Bool) (w:List Int):bC:={n:=69,sl:=[(3,bv neg),(4, .bk false aB w),(5, .bN 167 aB 64 0 1 (bA 1)),(6,Vp 65 [])],bG:=[(64, .opt 167 aB lQ),(65,Vq [])],next:=66}
def k5 (neg:Bool) (w:List Int) (ps:List ByteArray):bC:={n:=69,sl:=[(3,bv neg),(4, .bk false aB w),(5, .bk false aB lQ),(6,Vp 64 ps)],bG:=[(64,Vq ps)],next:=65}
def GC (neg:Bool) (ps:List ByteArray):bC:={n:=69,sl:=[(3,bv neg),(6,e5 ps)],bG:=[],next:=64}
def Dk (neg:Bool) (ps:List ByteArray):bC:={n:=69,sl:=[(3,bv neg),(6,e5 ps),(10, .ptr 64 0)],bG:=[(64,M6 Vs []),(65, .opt 5 qJ [])],next:=66}
def wj (ps:List ByteArray) (z:Int):bC:={n:=69,sl:=[(6,e5 ps),(10, .ptr 64 0),(11,iv z)],bG:=[(64,M6 Vs []),(65, .opt 5 qJ [])],next:=66}
def mL (ps:List ByteArray) (s:List Int) (z:Int):bC:={n:=69,sl:=[(6,e5 ps),(10, .ptr 64 0),(11,iv z)],bG:=[(64,M6 (.ptr 64 0) s),(65, .opt 5 qJ s)],next:=66}
theorem amw (a:aM) (h1:a.2.isEmpty=true) (h2:(gd a.1)=true):
  bq nD (fl jz []) 4 69 [aH a] 3 f127 true (sv (b8 a.1)):=
 wy [af (aQ (h1)),af h2] 129
theorem amx (a:aM) (h1:a.2.isEmpty=false) (h2:(aD a)=true) (h3:(aa.raw (Value.int .u64 (1000000000000000000:Int))::List.append._f [] PUnit.unit (List.flatten._f [] PUnit.unit))=(List.flatMap (fun x=>[aa.raw (Value.int .u64 x)]) [(1000000000000000000:Int)])):
  aA.path (oS prog nD (fl jz []) 6 69 [aH a]) (dl 2) (dX prog 69 .normal [(64,65,some 1)] (M7 (bV a) (ay a))):=
 mp (nY (aQ h1) h2 (rr (bV a)) (rr (ay a)) (an (rr (1:Nat)) (an (rr (aS.known (1:Nat))) (rr (bA (1:Nat))))) (rr Vr.length) (an h3 (rr (1:Nat))) (rr Vr) trivial)
theorem amy (neg:Bool) (w:List Int):
  aA.path (aA.ret (R.normal ((M7 neg w).T.set 5 (some (.bk false aB lQ))) ((M7 neg w).H.drop 64) []):aA R) (dl 1) (dX prog 69 .normal [(64,65,none)] (k5 neg w [])):=
 wy [] 0
theorem amz (neg:Bool) (w:List Int) (ps:List ByteArray) (h1:(w.length:Int)>0) (h2:(pq w [1000000000000000000])=true) (h3:(↑(cC w [1000000000000000000]).length:Int)>0) (h4:Int.toNat 0<(cC w [1000000000000000000]).length) (h5:(r9 ((cC w [1000000000000000000]).getD (Int.toNat 0) 0) 10)=true) (h6:(↑(eT w [1000000000000000000]).length:Int)>0) (h7:i6 (18-(↑(eA ((cC w [1000000000000000000]).getD (Int.toNat 0) 0)).size:Int))) (h8:(A2 (ByteArray.mk #[(48:UInt8)]) (18-(↑(eA ((cC w [1000000000000000000]).getD (Int.toNat 0) 0)).size:Int)))=true) (h9:(jf (ByteArray.mk #[(48:UInt8)]) (18-(↑(eA ((cC w [1000000000000000000]).getD (Int.toNat 0) 0)).size:Int))).size+(eA ((cC w [1000000000000000000]).getD (Int.toNat 0) 0)).size<=9223372036854775807) (h10:ps.length+1<=1000000) (h11:(ps.length+1)=(ps++[jf (ByteArray.mk #[(48:UInt8)]) (18-(↑(eA ((cC w [1000000000000000000]).getD 0 0)).size:Int))++eA ((cC w [1000000000000000000]).getD 0 0)]).length) (h12:(aS.full)=(bA (ps++[jf (ByteArray.mk #[(48:UInt8)]) (18-(↑(eA ((cC w [1000000000000000000]).getD 0 0)).size:Int))++eA ((cC w [1000000000000000000]).getD 0 0)]).length)) (dP:(ps++[jf (ByteArray.mk #[(48:UInt8)]) (18-(↑(eA ((cC w [1000000000000000000]).getD (Int.toNat 0) 0)).size:Int))++eA ((cC w [1000000000000000000]).getD (Int.toNat 0) 0)])=(ps++[jf (ByteArray.mk #[(48:UInt8)]) (18-(↑(eA ((cC w [1000000000000000000]).getD 0 0)).size:Int))++eA ((cC w [1000000000000000000]).getD 0 0)])):
  bh nD (fl jz Dj) (k5 neg w ps) 23 .normal [(64,66,none)] (k5 neg (eT w lQ) (ps++[jf (ByteArray.mk #[48]) (18-((eA ((cC w lQ).getD 0 0)).size:Int))++eA ((cC w lQ).getD 0 0)])):=
 wy [ah h1,af h2,ah h3,ah h4,af h5,ah h6,yi h7,af h8,ah h9,yk 9 au.str ps,ia 16 h10,ax h11,ax h12,jN 9 (au.str) dP] 18883085600279906147891464042451054721
theorem amA (neg:Bool) (w:List Int) (ps:List ByteArray) (h1:(w.length:Int)>0) (h2:(pq w [1000000000000000000])=true) (h3:(↑(cC w [1000000000000000000]).length:Int)>0) (h4:Int.toNat 0<(cC w [1000000000000000000]).length) (h5:(r9 ((cC w [1000000000000000000]).getD (Int.toNat 0) 0) 10)=true) (h6:¬(↑(eT w [1000000000000000000]).length:Int)>0) (h7:ps.length+1<=1000000) (h8:(ps.length+1)=(ps++[eA ((cC w [1000000000000000000]).getD 0 0)]).length) (h9:(aS.full)=(bA (ps++[eA ((cC w [1000000000000000000]).getD 0 0)]).length)) (h10:(ps++[eA ((cC w [1000000000000000000]).getD (Int.toNat 0) 0)])=(ps++[eA ((cC w [1000000000000000000]).getD 0 0)])):
  bh nD (fl jz Dj) (k5 neg w ps) 19 .normal [(64,66,none)] (k5 neg (eT w lQ) (ps++[eA ((cC w lQ).getD 0 0)])):=
 wy [ah h1,af h2,ah h3,ah h4,af h5,aJ h6,yk 9 au.str ps,ia 16 h7,ax h8,ax h9,jN 9 (au.str) h10] 56580049495547654937508646498433
theorem amB (neg:Bool) (w:List Int) (ps:List ByteArray) (h1:(w.length:Int)>0) (h2:(pq w [1000000000000000000])=true) (h3:¬(↑(cC w [1000000000000000000]).length:Int)>0) (h4:(↑(eT w [1000000000000000000]).length:Int)>0) (h5:ps.length+1<=1000000) (h6:(ps.length+1)=(ps++[jf (ByteArray.mk #[(48:UInt8)]) 17++ByteArray.mk #[(48:UInt8)]]).length) (h7:(aS.full)=(bA (ps++[jf (ByteArray.mk #[(48:UInt8)]) 17++ByteArray.mk #[(48:UInt8)]]).length)) (h8:(ps++[jf (ByteArray.mk #[(48:UInt8)]) (18-(↑(ByteArray.mk #[(48:UInt8)]).size:Int))++ByteArray.mk #[(48:UInt8)]])=(ps++[jf (ByteArray.mk #[(48:UInt8)]) 17++ByteArray.mk #[(48:UInt8)]])):
  bh nD (fl jz Dj) (k5 neg w ps) 21 .normal [(64,66,none)] (k5 neg (eT w lQ) (ps++[jf (ByteArray.mk #[48]) 17++ByteArray.mk #[48]])):=
 wy [ah h1,af h2,aJ h3,ah h4,yk 9 au.str ps,ia 16 h5,ax h6,ax h7,jN 9 (au.str) h8] 46277912488612378417574150418561
theorem amC (neg:Bool) (w:List Int) (ps:List ByteArray) (h1:¬(w.length:Int)>0):
  bh nD (fl jz Dj) (k5 neg w ps) 2 (.exit 0) [(64,64,none)] (k5 neg w ps):=
 wy [aJ h1] 1
theorem amD (neg:Bool) (w:List Int) (ps:List ByteArray):
  aA.path (aA.ret (R.normal ((k5 neg w ps).T.set 6 (some (e5 ps))) ((k5 neg w ps).H.drop 64) []):aA R) (dl 1) (dX prog 69 .normal [] (GC neg ps)):=
 wy [] 0
theorem amE (neg:Bool) (ps:List ByteArray):
  en nD ((fl jz []).drop 7) 1 (GC neg ps) 1 .normal [(64,64,none)] (Dk neg ps):=
 wy [] 0
theorem amF (ps:List ByteArray) (h1:vh.length+(ByteArray.mk #[(45:UInt8)]).size<=1000000) (h2:i6 ((ps.length:Int)-1)) (h3:(vh.length+(ByteArray.mk #[(45:UInt8)]).size)=(List.length [45])) (h4:(aS.full)=(bA (List.length [45]))) (h5:(bI qJ none++List.map (fun x=>(↑(UInt8.toNat x):Int)) (ByteArray.mk #[(45:UInt8)]).data.toList)=([45])):
  en nD ((fl jz []).drop 8) 3 (Dk true ps) 11 .normal [(64,64,none),(65,66,none)] (mL ps [45] ((ps.length:Int)-1)):=
 wy [ia 1 h1,yi h2,ax h3,ax h4,oU prog 5 (.int .u8) h5] 97937158488233710599536640
theorem amG (ps:List ByteArray) (h1:i6 ((ps.length:Int)-1)):
  en nD ((fl jz []).drop 8) 3 (Dk false ps) 2 .normal [(64,64,none),(65,65,none)] (wj ps ((ps.length:Int)-1)):=
 wy [yi h1] 64
theorem Sx (ps:List ByteArray) (z:Int) (h1:z>=0) (h2:0<=z) (h3:z.toNat<ps.length) (h4:(Nat.beq (ps.getD z.toNat ByteArray.empty).size 0)=false) (h5:vh.length+(ps.getD z.toNat ByteArray.empty).size<=1000000) (h6:i6 (z-1)) (h7:(vh.length+(ps.getD z.toNat ByteArray.empty).size)=(List.map (fun x=>(↑(UInt8.toNat x):Int)) (ps.getD z.toNat ByteArray.empty).data.toList).length) (h8:(aS.full)=(bA (List.map (fun x=>(↑(UInt8.toNat x):Int)) (ps.getD z.toNat ByteArray.empty).data.toList).length)) (h9:(bI qJ none++List.map (fun x=>(↑(UInt8.toNat x):Int)) (ps.getD z.toNat ByteArray.empty).data.toList)=(List.map (fun x=>(↑(UInt8.toNat x):Int)) (ps.getD z.toNat ByteArray.empty).data.toList)):
  bh nD (fl jz GB) (wj ps z) 11 .normal [(64,64,none),(65,66,none)] (mL ps (dL (ps.getD z.toNat ByteArray.empty)) (z-1)):=
 wy [ah h1,ah h2,ah h3,af h4,ia 1 h5,yi h6,ax h7,ax h8,oU prog 5 (.int .u8) h9] 723092382634460629853043437697
theorem amH (ps:List ByteArray) (s:List Int) (z:Int) (h1:z>=0) (h2:0<=z) (h3:z.toNat<ps.length) (h4:(Nat.beq (ps.getD z.toNat ByteArray.empty).size 0)=false) (h5:s.length+(ps.getD z.toNat ByteArray.empty).size<=1000000) (h6:i6 (z-1)) (h7:(s.length+(ps.getD z.toNat ByteArray.empty).size)=(s++List.map (fun x=>(↑(UInt8.toNat x):Int)) (ps.getD z.toNat ByteArray.empty).data.toList).length) (h8:(aS.full)=(bA (s++List.map (fun x=>(↑(UInt8.toNat x):Int)) (ps.getD z.toNat ByteArray.empty).data.toList).length)):
  bh nD (fl jz GB) (mL ps s z) 17 .normal [(64,64,none),(65,66,none)] (mL ps (s++dL (ps.getD z.toNat ByteArray.empty)) (z-1)):=
 wy [ah h1,ah h2,ah h3,af h4,yk 5 qJ s,ia 1 h5,yi h6,ax h7,ax h8,jN 5 (.int .u8) (Eq.refl (s++List.map (fun x=>(↑(UInt8.toNat x):Int)) (ps.getD z.toNat ByteArray.empty).data.toList))] 51428980992071965952313753874561
theorem amI (ps:List ByteArray) (s:List Int) (z:Int) (h1:¬z>=0):
  bh nD (fl jz GB) (mL ps s z) 2 (.exit 2) [(64,64,none),(65,65,none)] (mL ps s z):=
 wy [aJ h1] 1
theorem amJ (ps:List ByteArray) (s:List Int) (z:Int) (h1:1<=s.length) (h2:s.length<=140737488355328) (h3:s.length-1<s.length) (h4:List.map (fun x=>(↑(UInt8.toNat x):Int)) (ByteArray.mk (List.toArray (List.map (fun x=>UInt8.ofNat x.toNat) (s.take s.length)))).data.toList=s.take s.length) (h5:(ByteArray.mk (List.toArray (List.map (fun x=>UInt8.ofNat x.toNat) (s.take s.length))))=(ByteArray.mk (List.toArray (List.map (fun x=>UInt8.ofNat x.toNat) s)))):
  bQ nD ((fl jz []).drop 12) (mL ps s z) 1 f127 true (sv (oD s)):=
 wy [af (aW (v:=aa.bN 5 (.int .u8) (65:Nat) (0:Nat) s.length (bA s.length)) (by kernel_rfl)),af (fo h1),af (fo h2),yv 5 qJ h3,af (show(decide (List.map (fun x=>(↑(UInt8.toNat x):Int)) (ByteArray.mk (List.toArray (List.map (fun x=>UInt8.ofNat x.toNat) ((bI (.int .u8) (bM 5 qJ s)).take s.length)))).data.toList=(bI (.int .u8) (bM 5 qJ s)).take s.length))=true from(by simp only [dI]<;>exact az h4)),ax (show(ByteArray.mk (List.toArray (List.map (fun x=>UInt8.ofNat x.toNat) ((bI (.int .u8) (bM 5 qJ s)).take s.length))))=(ByteArray.mk (List.toArray (List.map (fun x=>UInt8.ofNat x.toNat) s)))from(by simp only [dI]<;>exact h5))] 108372612023324801
end
noncomputable section
theorem M8:bB prog (bD nD):=cR (aT akh (aT po (aT Ss (aT Sp (aT amv dY)))))
theorem Vt:∀c:Nat,Lib.repeatL [48] c=List.replicate c 48
 |0=>rfl
 |c+1=>by rw [Lib.repeatL,Vt c];rfl
theorem Vu:∀k:Nat,ko k 0=List.replicate k 48
 |0=>rfl
 |k+1=>by
  rw [ko,show(0:Int)/10=0 from rfl,Vu k,List.replicate_succ'];rfl
theorem Vv:∀(k:Nat) (x:Int),0<=x->x<10^(k+1)->ko (k+1) x=List.replicate (k+1-(Lib.decDigits x.toNat).length) 48++Lib.decDigits x.toNat
 |k,x,h0,h1=>by
  by_cases hx:x<10
  .rw [ko,show x/10=0 by omega,Vu,r4 (by omega)];show _++[og x]=List.replicate (k+1-1) 48++_;rw [Nat.add_sub_cancel];unfold og;rw [show x%10=x by omega]
  .cases k with
   |zero=>simp at h1;omega
   |succ k=>
    rw [Int.pow_succ]at h1;have e:(10:Int)^(k+1)=10^k*10:=Int.pow_succ ..;rw [ko,Vv k (x/10) (by omega) (by omega),lh (u:=x.toNat) (by omega),cG,show(x/10).toNat=x.toNat/10 by omega,ou];show _=List.replicate (k+1+1-(_+1)) 48++_;rw [Nat.add_sub_add_right];unfold og;rw [show(x%10).toNat=x.toNat%10 by omega]
def mM (m:Int):List UInt8:=if m=0 then []else Lib.decDigits m.toNat
theorem amK {m:Int} (h:0<m):mM m=mM (m/1000000000000000000)++(if m/1000000000000000000=0 then Lib.decDigits (m%1000000000000000000).toNat else ko 18 (m%1000000000000000000)):=by
 unfold mM;rw [if_neg (by omega)];by_cases hq:m/1000000000000000000=0
 .rw [if_pos hq,if_pos hq,List.nil_append,show m%1000000000000000000=m by omega]
 .rw [if_neg hq,if_neg hq,<-MB 18 _ _ (by omega) (by omega) (by have:(10:Int)^18=1000000000000000000:=rfl;omega)];congr 1;have:(10:Nat)^18=1000000000000000000:=rfl;omega
def fk (ps:List ByteArray):List UInt8:=(ps.reverse.map ak).flatten
theorem amL (ps:List ByteArray) (s:ByteArray):fk (ps++[s])=ak s++fk ps:=by unfold fk;simp
theorem GD (ps:List ByteArray) (s:ByteArray):fk (s::ps)=fk ps++ak s:=by unfold fk;simp
theorem M9:∀{ps:List ByteArray},(∀s∈ps,1<=(ak s).length)->ps.length<=(fk ps).length
 |[],_=>Nat.zero_le _
 |s::ps,h=>by
  have h1:=M9 (ps:=ps) fun x hx=>h x (k6 _ hx)
  have h2:=h s k7;rw [GD,cG,List.length_cons];omega
theorem GF (u:Nat):1<=(Lib.decDigits u).length:=by
 by_cases h:u<10
 .rw [r4 h];exact aE _
 .rw [lh h,cG];exact Nat.le_add_left _ _
theorem Vw {n:Nat} {m:Int} (h0:0<=m) (h:m<18446744073709551616^n):(Lib.decDigits m.toNat).length<=20*n+1:=by
 refine Dec.Mw (20*n) _ ?_;have e:(18446744073709551616:Nat)^n<=10^(20*n):=by rw [Nat.pow_mul];exact Nat.pow_le_pow_left (by decide) _
 have h2:((18446744073709551616^n:Nat):Int)=18446744073709551616^n:=by rw [Int.natCast_pow];rfl
 have h3:10^(20*n)<=10^(20*n+1):=Nat.pow_le_pow_right (by decide) (by omega);omega
theorem Vx (s:ByteArray):oD (dL s)=s:=by
 refine gR ?_;unfold oD dL;show((s.data.toList.map _).map _)=_;rw [List.map_map];refine(List.map_congr_left fun x _=> ?_).trans (List.map_id _);show UInt8.ofNat ((x.toNat:Int).toNat)=x;rw [Int.toNat_natCast];exact UInt8.ofNat_toNat
theorem amM (a b:ByteArray):dL (a++b)=dL a++dL b:=by
 unfold dL;rw [iJ,List.map_append]
theorem io (a:ByteArray):(dL a).length=(ak a).length:=by unfold dL;rw [gW]
theorem amN (s:ByteArray):Hv (dL s)=true:=az (by rw [Vx])
def yF (neg:Bool):List UInt8:=if neg then [45]else []
theorem Vy {a:aM} {n:Nat} (h:bH n a=true):ak (b8 (aq a))=yF (bV a)++Lib.decDigits (aq a).natAbs:=by
 obtain⟨_,_,_,h4,_⟩:=jQ h;show(b8 (aq a)).data.toList=_;rw [jy];unfold yF;cases hn:bV a with
 |true=>
  rw [itoa_neg (h4.1 hn)];rfl
 |false=>
  have:¬aq a<0:=fun h=>by rw [h4.2 h]at hn;cases hn
  rw [gg (by omega)];show _=[]++_;rw [List.nil_append]
theorem Vz:∀(a b:List ByteArray),fk (a++b)=fk b++fk a
 |[],b=>by simp [fk]
 |s::a,b=>by rw [List.cons_append,GD,Vz a b,GD,ou]
theorem VA (ps:List ByteArray) (k:Nat):(fk (ps.drop k)).length<=(fk ps).length:=by
 have h:=Vz (ps.take k) (ps.drop k);rw [List.take_append_drop]at h;rw [h,cG];omega
theorem amO {ps:List ByteArray} {j:Nat} (h:j<ps.length):fk (ps.drop j)=fk (ps.drop (j+1))++ak (ps.getD j ByteArray.empty):=by
 rw [List.drop_eq_getElem_cons h,GD,ao,mP h];rfl
theorem uv {α:Type} (l:List α) (x:α):aS.full=bA (l++[x]).length:=by simp [bA]
theorem VB {n:Nat} (h:1<=n):aS.full=bA n:=(Xq h).symm
theorem VC {r:Int} (h0:0<=r) (h1:r<1000000000000000000):(Lib.decDigits r.toNat).length<=18:=Dec.akD _ (by omega)
theorem Na (r:Int):ak (eA r)=Lib.decDigits r.toNat:=by unfold eA;simp
theorem VD (r:Int):(eA r).size=(Lib.decDigits r.toNat).length:=by rw [bd,Na]
theorem Nb (c:Int):ak (jf (ByteArray.mk #[48]) c)=List.replicate c.toNat 48:=by
 unfold jf;show(Lib.repeatL [48] c.toNat).toArray.toList=_;rw [Vt]
theorem amP {r:Int} (h0:0<=r) (h1:r<1000000000000000000):ak (jf (ByteArray.mk #[48]) (18-((eA r).size:Int))++eA r)=ko 18 r:=by
 have hl:=VC h0 h1;unfold ak;rw [iJ];show ak _++ak _=_;rw [Nb,Na,VD,Vv 17 r h0 (by have:(10:Int)^18=1000000000000000000:=rfl;omega)];congr 2;omega
theorem amQ:ak (jf (ByteArray.mk #[48]) 17++ByteArray.mk #[48])=ko 18 0:=by
 unfold ak;rw [iJ];show ak _++ak _=_;rw [Nb];rfl
theorem amR {m:Int} (h0:0<=m) (h1:m<18446744073709551616^10000):
  pq (cM 18446744073709551616 m) lQ=true/\eT (cM 18446744073709551616 m) lQ=cM 18446744073709551616 (m/1000000000000000000)/\cC (cM 18446744073709551616 m) lQ=cM 18446744073709551616 (m%1000000000000000000):=by
 have h3:=(d8 (b:=18446744073709551616) (by decide) h0).2.2;have e1:aj (cM 18446744073709551616 m)=m:=h3;have e2:aj lQ=1000000000000000000:=pk _;have hl:=vA (b:=18446744073709551616) (by decide) h0 h1;have hB:=xW h0;refine⟨?_,by unfold eT;rw [e1,e2],by unfold cC;rw [e1,e2]⟩;unfold pq mH;rw [hB,show(gA lQ&&ju lQ)=true by rfl,az (show(cM 18446744073709551616 m).length<=1000000 by omega),az (show(cM 18446744073709551616 m).length<=300000 by omega)];rfl
theorem amS {r:Int} (h0:0<r) (h1:r<1000000000000000000):cM 18446744073709551616 r=[r]:=(d9 (by decide) (Kq ⟨by omega,by omega⟩) (RA (by omega)) (pk r)).symm
theorem Dl {l:List Int} (h:l≠[]):(l.length:Int)>0:=by
 cases l with
 |nil=>exact absurd rfl h
 |cons a b=>rw [List.length_cons];omega
def GG (N:Int) (x:Int×List ByteArray):Prop:=0<=x.1/\x.1<=N/\mM N=mM x.1++fk x.2/\∀s∈x.2,1<=(ak s).length
theorem amT {N:Int} {x:Int×List ByteArray} (hN:0<N) (hb:N<18446744073709551616^10000) (h:GG N x):x.2.length<=(fk x.2).length/\(fk x.2).length<=200001:=by
 obtain⟨_,_,h3,h4⟩:=h;refine⟨M9 h4, ?_⟩;have h5:=Vw (ck hN) hb;have h6:=congrArg List.length h3;unfold mM at h6;rw [if_neg (by omega),cG]at h6;omega
theorem Nc {N q:Int} {m:Int} {ps:List ByteArray} {s:ByteArray} (h:GG N (m,ps)) (hm:0<m) (hq:q=m/1000000000000000000)
  (hs:ak s=if q=0 then Lib.decDigits (m%1000000000000000000).toNat else ko 18 (m%1000000000000000000)):GG N (q,ps++[s])/\q.toNat<m.toNat:=by
 obtain⟨h1,h2,h3,h4⟩:=h;have h2:m<=N:=h2;have h3:mM N=mM m++fk ps:=h3;refine⟨⟨by show 0<=q;omega,by show q<=N;omega, ?_,fun x hx=> ?_⟩,by omega⟩
 .show mM N=mM q++fk (ps++[s]);rw [h3,amK hm,amL,hs,hq,ou]
 .rcases List.mem_append.1 hx with hx|hx
  .exact h4 x hx
  .rw [List.mem_singleton.1 hx,hs];split
   .exact GF _
   .rw [MA];decide
def VE (neg:Bool) (ps:List ByteArray) (x:Bool×Nat×ByteArray):Prop:=x.2.1<=ps.length/\ak x.2.2=yF neg++fk (ps.drop x.2.1)/\(x.1=false->neg=false/\x.2.1=ps.length)
theorem VF {neg:Bool} {ps:List ByteArray} {v:ByteArray} (hv:ak v=yF neg++fk ps) (hl:(fk ps).length<=200001) (hlp:1<=ps.length) (hp:∀s∈ps,1<=(ak s).length) (w:World) (F:Sv.Env) (b0:Bool) (s0:ByteArray) (h0:VE neg ps (b0,ps.length,s0)):
  aR prog w F 69 ((fl jz []).drop 11) (cond b0 (mL ps (dL s0) ((ps.length:Int)-1)) (wj ps ((ps.length:Int)-1))).T (cond b0 (mL ps (dL s0) ((ps.length:Int)-1)) (wj ps ((ps.length:Int)-1))).H (gk prog true f127 (sv v)):=by
 have hS:=M8;have arA:=M9 hp;refine aR.loop (ι:={x:Bool×Nat×ByteArray//VE neg ps x}) (id:=2) (b:=cat jz GB) (rest:=(fl jz []).drop 12) (by kernel_rfl) (fun x=>cond x.1.1 (mL ps (dL x.1.2.2) ((x.1.2.1:Int)-1)) (wj ps ((x.1.2.1:Int)-1))) (fun x=>x.1.2.1) ⟨(b0,ps.length,s0),h0⟩ (fun x=>by obtain⟨⟨b,_⟩,_⟩:=x;cases b<;>rfl) ?_;rintro⟨⟨b,k,s⟩,hk,hs,hb⟩;have hk:k<=ps.length:=hk;have hs:ak s=yF neg++fk (ps.drop k):=hs;have v8:(yF neg).length<=1:=by cases neg<;>decide
 have kC:(dL s).length<=200002:=by
  have:=VA ps k;rw [io,hs,cG];omega
 cases k with
 |zero=>
  cases b with
  |false=>have:=(hb rfl).2;exact absurd (show 0=ps.length from this) (by omega)
  |true=>
   refine bp (s:=mL ps (dL s) (((0:Nat):Int)-1)) hS (amI ps (dL s) _ (by omega)) ?_;refine cv (cD ?_);obtain rfl:s=v:=gR (by show ak s=ak v;rw [hs,hv,List.drop_zero]);have hs1:1<=(dL s).length:=by rw [io,hs,List.drop_zero,cG];omega
   have key:=amJ ps (dL s) (((0:Nat):Int)-1) hs1 (by omega) (by omega) (by rw [dA];exact ap (amN s)) (by rw [dA]);rw [Vx]at key;exact bT (s:=mL ps (dL s) (((0:Nat):Int)-1)) hS key
 |succ j=>
  have AY:(((j+1:Nat):Int)-1)=(j:Int):=by omega
  have et:(j:Int).toNat=j:=by omega
  have hpc:=hp (ps.getD j ByteArray.empty) (by rw [ao,mP (by omega)];exact List.getElem_mem _);have hsz:(ps.getD j ByteArray.empty).size=(ak (ps.getD j ByteArray.empty)).length:=bd _;have hnx:=amO (ps:=ps) (j:=j) (by omega);have gS:(fk (ps.drop j)).length<=200001:=by have:=VA ps j;omega
  rw [hnx,cG]at gS;have hbz:Nat.beq (ps.getD j ByteArray.empty).size 0=false:=by
   cases hq:Nat.beq (ps.getD j ByteArray.empty).size 0 with
   |false=>rfl
   |true=>have:=ac hq;omega
  cases b with
  |false=>
   obtain⟨rfl,hj⟩:=hb rfl;have hj:j+1=ps.length:=hj;have key:=Sx ps (j:Int);rw [et]at key;show a8 _ _ _ _ _ _ (wj ps (((j+1:Nat):Int)-1)).T (wj ps (((j+1:Nat):Int)-1)).H _;rw [AY];refine bp (s:=wj ps (j:Int)) hS (key (by omega) (by omega) (by omega) hbz (by show 0+_<=_;omega) (by omega) (by show 0+_=(dL _).length;rw [io];omega) (VB (show 1<=(dL _).length by rw [io];omega)) rfl) ?_;refine⟨⟨(true,j,ps.getD j ByteArray.empty),by show j<=_;omega, ?_,fun h=>by cases h⟩,e7 _,rfl,rfl⟩;show ak (ps.getD j ByteArray.empty)=[]++fk (ps.drop j);rw [hnx,hj,List.drop_length];rfl
  |true=>
   have key:=amH ps (dL s) (j:Int);rw [et,<-amM]at key;show a8 _ _ _ _ _ _ (mL ps (dL s) (((j+1:Nat):Int)-1)).T (mL ps (dL s) (((j+1:Nat):Int)-1)).H _;rw [AY];have hle:(dL s).length+(ps.getD j ByteArray.empty).size=(dL s++dL (ps.getD j ByteArray.empty)).length:=by rw [cG,io (ps.getD j ByteArray.empty),hsz]
   refine bp (s:=mL ps (dL s) (j:Int)) hS (key (by omega) (by omega) (by omega) hbz (by omega) (by omega) hle (VB (show 1<=(dL s++dL (ps.getD j ByteArray.empty)).length by rw [<-hle];omega))) ?_;refine⟨⟨(true,j,s++ps.getD j ByteArray.empty),by show j<=_;omega, ?_,fun h=>by cases h⟩,e7 _,rfl,rfl⟩;show(s++ps.getD j ByteArray.empty).data.toList=_++fk (ps.drop j);rw [hnx,iJ];show ak s++_=_;rw [hs,ou]
end
noncomputable section
theorem A3 {l:List Code} (h:l.isEmpty=false) (e:l=[]):False:=by rw [e]at h;cases h
theorem amU (a:aM) (h:bH 10000 a=true) (hw:a.2≠[]):Holds prog true 127 [aH a] (sv (b8 (aq a))):=by
 have hS:=M8;obtain⟨p1,p2,p3,ek,kH⟩:=jQ h;obtain⟨_,_,_,b4,_⟩:=(o7 hw).1 h;have hB:=dp h (by decide);obtain⟨N,hN⟩:∃N:Int,N=((aq a).natAbs:Int):=⟨_,rfl⟩;have yG:0<N:=by
  unfold ay at p3;rw [if_neg hw]at p3;omega
 have hb:N<18446744073709551616^10000:=by rw [hN];exact hB
 have Gj:ay a=cM 18446744073709551616 N:=d9 (by decide) p1 p2 (by rw [hN];exact p3);have n6:=Vy h;have hdd:Lib.decDigits (aq a).natAbs=mM N:=by
  unfold mM;rw [if_neg (by omega)];congr 1;omega
 rw [hdd]at n6;have amV:aD a=true:=gC (by decide) h;have amW:List.isEmpty a.2=false:=by
  cases hq:List.isEmpty a.2 with
  |false=>rfl
  |true=>exact absurd (List.isEmpty_iff.1 hq) hw
 refine bJ (c:=jz) func127 rfl rfl fun w F=> ?_
 refine cE hS 6 (amx a amW amV rfl) ?_;rw [Gj];generalize bV a=neg at n6 ⊢;refine aR.tB (A3 (by kernel_rfl)) (i:=64) (s:=5) (e2:=167) (t:=aB) (xs:=lQ) (cap:=bA 1) (by kernel_rfl) (by kernel_rfl) ?_;refine aR.ng (A3 (by kernel_rfl)) (σ:=[(64,65,none)]) (s:=k5 neg (cM 18446744073709551616 N) []) (amy neg _) ?_;refine aR.loop (ι:={x:Int×List ByteArray//GG N x}) (id:=0) (b:=cat jz Dj) (rest:=(fl jz []).drop 7) (by kernel_rfl) (fun x=>k5 neg (cM 18446744073709551616 x.1.1) x.1.2) (fun x=>x.1.1.toNat)
  ⟨(N,[]),ck yG,Int.le_refl _,(List.append_nil _).symm,fun s hs=>absurd hs jY⟩ (fun _=>rfl) ?_
 rintro⟨⟨m,ps⟩,hx⟩;have hl:=amT yG hb hx;have hl:ps.length<=(fk ps).length/\(fk ps).length<=200001:=hl;have hm0:0<=m:=hx.1;have arB:m<=N:=hx.2.1;by_cases hm:m=0
 .subst hm;have e0:cM 18446744073709551616 0=[]:=Kr (by decide);refine bp (s:=k5 neg (cM 18446744073709551616 0) ps) hS (amC neg _ ps (by rw [e0];decide)) ?_;refine cv (cD ?_);have Nd:fk ps=mM N:=by have:=hx.2.2.1;exact this.symm
  refine aR.tB (A3 (by kernel_rfl)) (i:=64) (s:=6) (e2:=9) (t:= .str) (xs:=ps) (cap:=bA ps.length) (by kernel_rfl) (by kernel_rfl) ?_;refine aR.ng (A3 (by kernel_rfl)) (σ:=[]) (s:=GC neg ps) (amD neg _ ps) ?_;refine dZ (s:=GC neg ps) hS 1 (amE neg ps) ?_;have hlp:1<=ps.length:=by
   cases ps with
   |nil=>
    have:mM N=[]:=Nd.symm;unfold mM at this;rw [if_neg (by omega)]at this;have h1:=GF N.toNat;rw [this]at h1;cases h1
   |cons=>simp
  cases neg with
  |true=>
   refine dZ (s:=Dk true ps) hS 3 (amF ps (by decide) (by omega) rfl rfl rfl) ?_;exact VF (neg:=true) (ps:=ps) (by rw [n6,Nd]) hl.2 hlp hx.2.2.2 w F true ⟨#[45]⟩ ⟨aE _,by show _=[45]++fk (ps.drop ps.length);rw [List.drop_length];rfl,fun h=>by cases h⟩
  |false=>
   refine dZ (s:=Dk false ps) hS 3 (amG ps (by omega)) ?_;exact VF (neg:=false) (ps:=ps) (by rw [n6,Nd]) hl.2 hlp hx.2.2.2 w F false ⟨#[]⟩ ⟨aE _,by show _=[]++fk (ps.drop ps.length);rw [List.drop_length];rfl,fun _=>⟨rfl,rfl⟩⟩
 .obtain⟨g1,g2,g3⟩:=amR hm0 (show m<18446744073709551616^10000 by omega);have Nf:=Dl (pl (b:=18446744073709551616) (by decide) (show 0<m by omega));have hz:∀{x:Int},x=0->¬((cM 18446744073709551616 x).length:Int)>0:=fun h=>by rw [h,Kr (by decide)];decide
  have hp1:ps.length+1<=1000000:=by omega
  by_cases hr:m%1000000000000000000=0
  .have hq:m/1000000000000000000≠0:=by omega
   have key:=amB neg (cM 18446744073709551616 m) ps Nf g1;rw [g2,g3]at key;obtain⟨h1,h2⟩:=Nc (s:=jf (ByteArray.mk #[48]) 17++ByteArray.mk #[48]) hx (by omega) rfl (by rw [if_neg hq,hr];exact amQ);refine bp (s:=k5 neg (cM 18446744073709551616 m) ps) hS (key (hz hr) (Dl (pl (by decide) (by omega))) hp1 (by rw [cG];rfl) (uv _ _) rfl) ?_;exact⟨⟨(m/1000000000000000000,ps++[jf (ByteArray.mk #[48]) 17++ByteArray.mk #[48]]),h1⟩,h2,rfl,rfl⟩
  .have e1:=amS (r:=m%1000000000000000000) (by omega) (by omega);have hL:=VC (r:=m%1000000000000000000) (by omega) (by omega);have kS:=VD (m%1000000000000000000);have hrl:(((cM 18446744073709551616 (m%1000000000000000000)).length:Nat):Int)>0:=Dl (pl (by decide) (by omega));have e2:List.getD [m%1000000000000000000] (Int.toNat 0) 0=m%1000000000000000000:=rfl;have e3:List.getD [m%1000000000000000000] 0 0=m%1000000000000000000:=rfl;have VG:r9 (m%1000000000000000000) 10=true:=by
    unfold r9;rw [f6.2 (by omega)];rfl
   by_cases hq:m/1000000000000000000=0
   .have key:=amA neg (cM 18446744073709551616 m) ps Nf g1;rw [g2,g3]at key;rw [e1]at hrl key;rw [e2,e3]at key;obtain⟨h1,h2⟩:=Nc (s:=eA (m%1000000000000000000)) hx (by omega) rfl (by rw [if_pos hq];exact Na _);refine bp (s:=k5 neg (cM 18446744073709551616 m) ps) hS (key hrl (show 0<1 by decide) VG (hz hq) hp1 (by rw [cG];rfl) (uv _ _) rfl) ?_;exact⟨⟨(m/1000000000000000000,ps++[eA (m%1000000000000000000)]),h1⟩,h2,rfl,rfl⟩
   .have key:=amz neg (cM 18446744073709551616 m) ps Nf g1;rw [g2,g3]at key;rw [e1]at hrl key;rw [e2,e3]at key;obtain⟨h1,h2⟩:=Nc (s:=jf (ByteArray.mk #[48]) (18-((eA (m%1000000000000000000)).size:Int))++eA (m%1000000000000000000)) hx (by omega) rfl (by rw [if_neg hq];exact amP (by omega) (by omega));have amX:A2 (ByteArray.mk #[48]) (18-((eA (m%1000000000000000000)).size:Int))=true:=by
     unfold A2;rw [az (show(ByteArray.mk #[48]).size<=1000000 by decide),az (show(0:Int)<=18-((eA (m%1000000000000000000)).size:Int) by omega),az (show(18:Int)-((eA (m%1000000000000000000)).size:Int)<=1000000 by omega)];rfl
    have arC:(jf (ByteArray.mk #[48]) (18-((eA (m%1000000000000000000)).size:Int))).size<=18:=by
     rw [bd,Nb,List.length_replicate];omega
    refine bp (s:=k5 neg (cM 18446744073709551616 m) ps) hS (key hrl (show 0<1 by decide) VG (Dl (pl (by decide) (by omega))) (by omega) amX (by omega) hp1 (by rw [cG];rfl) (uv _ _) rfl) ?_;exact⟨⟨(m/1000000000000000000,ps++[jf (ByteArray.mk #[48]) (18-((eA (m%1000000000000000000)).size:Int))++eA (m%1000000000000000000)]),h1⟩,h2,rfl,rfl⟩
noncomputable def lR (a:aM):ByteArray:=b8 (aq a)
noncomputable def VH:bn:={f:=127,ps:=[cV],rs:=[.str],fresh:=true,pre:=fun d=>bH 10000 d.1,fn:=fun d=>(lR d.1,())}
theorem amY:VH.Ok prog:=fun⟨a,_⟩ h=>by
 have h:bH 10000 a=true:=h;show Holds prog true 127 [aH a] (sv (lR a));unfold lR;by_cases hw:a.2=[]
 .have h2:=h;rw [nk hw]at h2;rw [lG hw];refine bJ (c:=jz) func127 rfl rfl fun w F=> ?_
  exact bu M8 4 (amw a (List.isEmpty_iff.2 hw) h2)
 .exact amU a h hw
end
noncomputable section
abbrev Ng (l:List Int):List Value:=l.map (Value.int .i64)
inductive VI|unit|row|int
structure VJ where
 f:FuncId
 e:TypeId
 k:VI
 nl:Bool
 pre:List Int->Nat->List Int->Bool
 out:List Int->Nat->List Int->List Int
 ln:List Int->Nat->List Int->Nat
 val:List Int->Nat->List Int->Int
def amZ (k:VI) (g n kc:Nat) (v:Int):Value:=match k with | .unit=> .tuple #[]| .row=> .slice (some ⟨g,0,none⟩) n kc| .int=> .int .i64 v
def VJ.Ok (P:Program) (c:VJ):Prop:=(c.nl=true->∀(p:Option Addr) (cap:Nat) (w:World),Calls P c.f #[.slice p 0 cap] w fun e w'=>e= .returned (.tuple #[])/\w'=w)/\∀(xs:List Int) (len:Nat) (us:List Int),c.pre xs len us=true->1<=len->len<=xs.length->(c.out xs len us).length=xs.length/\c.ln xs len us<=len/\
 ∀(w:World) (g kc:Nat) (cur:Array Value),w.heap[g]? =some (.cells cur c.e (0,0))->cur.toList.take xs.length=Ng xs->len<=kc->
  Calls P c.f (Value.slice (some ⟨g,0,none⟩) len kc::Ng us).toArray w fun e w'=>e= .returned (amZ c.k g (c.ln xs len us) kc (c.val xs len us))/\w.grownBy w' (some g)/\
   ∃cur',w'.heap[g]? =some (.cells cur' c.e (0,0))/\cur'.size=cur.size/\cur'.toList.take xs.length=Ng (c.out xs len us)
--{
--}
end
end Go.Proofs.YtibikmmdbdlafaaGreatDoor
namespace Go.Proofs.YtibikmmdbdlafaaGreatDoor
open Go.RowKit
def GH (x:Int):Prop:= -9223372036854775808<=x/\x<=9223372036854775807
theorem GH.wf {x:Int} (h:GH x):(Lit.int .i64 x).wf=true:=by
 unfold GH at h;simp [Lit.wf,IntKind.min,IntKind.max,IntKind.signed,IntKind.bits];omega
def yH (w:World) (b n:Nat) (f:Int->Int):Prop:=
 ∃D:DataW Unit,w.ownsMap Tryz.prog 3 (plainElem Tryz.prog 3) b n D/\Maps.IsMap D/\∀x:Int,D.atKey (.int .i64 x) (.lit (.int .i64 0))= .lit (.int .i64 (f x))
theorem yH.kept {w w':World} {b n:Nat} {f:Int->Int} {row:Option Nat} (h:yH w b n f) (hg:w.grownBy w' row) (hne:some b≠row):yH w' b n f:=by
 obtain⟨D,h1,h2,h3⟩:=h;exact⟨D,h1.kept hg hne,h2,h3⟩
theorem yH.lt {w:World} {b n:Nat} {f:Int->Int} (h:yH w b n f):b<w.heap.size:=by
 obtain⟨D,h1,_⟩:=h;exact h1.lt
theorem yH.look {w:World} {b n:Nat} {f:Int->Int} (h:yH w b n f) (k:Int) (hk:GH k):
  (Instr.lookup 135 (.map (some b)) (.int .i64 k) false).run Tryz.prog w= .ok (.int .i64 (f k)) w:=by
 obtain⟨D,h1,_,h3⟩:=h;obtain⟨c,hrun,gM,_⟩:=h1.lookup_int (Maps.int_keyed Tryz.underlying3) Tryz.underlying135 Tryz.underlying3 (Tryz.zeroValue3 w) (Maps.keyOf_int_mk Tryz.underlying3 hk.wf);rw [h3 k]at gM;simp only [DataW.lit.injEq,Lit.int.injEq,true_and]at gM;rw [hrun,gM]
def Nh (f:Int->Int) (k v:Int):Int->Int:=fun y=>if y=k then v else f y
end Go.Proofs.YtibikmmdbdlafaaGreatDoor
/- Package gear: counted: the stock as a map. -/
namespace Go.Proofs.YtibikmmdbdlafaaGreatDoor
open Go.RowKit Sv Go.Proofs.Tryz
noncomputable section
structure Ni (w:World) (A:Option Addr) (l:List (Int×Int)):Prop where
 at_:∀k,k<l.length->∃b off,A=some ⟨b,off,none⟩/\b<w.heap.size/\w.cell? ⟨b,off+k*2,none⟩=some (.int .i64 (g0 l k).1)/\w.cell? ⟨b,off+k*2+1,none⟩=some (.int .i64 (g0 l k).2)
theorem Ni.below {w w':World} {A:Option Addr} {l:List (Int×Int)} {n:Nat} (h:Ni w A l) (hb:Below n w w') (hn:w.heap.size<=n):Ni w' A l:=
 ⟨fun k hk=>by
   obtain⟨b,off,h1,h2,h3,h4⟩:=h.at_ k hk;have:=hb.size;exact⟨b,off,h1,by omega,(hb.cell (p:=⟨b,off+k*2,none⟩) (by show b<_;omega)).trans h3,(hb.cell (p:=⟨b,off+k*2+1,none⟩) (by show b<_;omega)).trans h4⟩⟩
end
noncomputable section
theorem Ec {f:Int->Int} (h:∀x,0<=f x/\f x<=1000000000) (k:Int) (hk:f k≠0):∀x,0<=Nh f k (f k-1) x/\Nh f k (f k-1) x<=1000000000:=fun x=>by
 have h1:=h x;have h2:=h k;unfold Nh;split<;>omega
end
def am0 (r:Rat):Prop:=r.num.natAbs<1000000000000000000/\r.den<1000000000000000000
noncomputable section
noncomputable def ip:Code:=(Tryz.f20.body).getD .skip
noncomputable def fw:bF:=a7 [Ar,Vb,Gp,Lu]
def dh (s u:ByteArray) (k:Int):bC:={n:=96,sl:=[(0,sv s),(3,sv u),(4,iv k)],bG:=[],next:=64}
theorem am1 (s:ByteArray) (h1:(s.size:Int)>0) (h2:Int.toNat 0<s.size) (h3:¬(↑(UInt8.toNat (s.data.toList.getD (Int.toNat 0) (0:UInt8))):Int)=45) (h4:s.size<=1000000000):
  cT fw (fl ip []) 5 96 [sv s] 47 .normal [] (dh s s (aY (ak s))):=
 wy [af (aQ (az h1)),ah h2,ah h1,yn h3,ah h4] 22268348989505
theorem am2 (s:ByteArray) (h1:(s.size:Int)>0) (h2:Int.toNat 0<s.size) (h3:(↑(UInt8.toNat (s.data.toList.getD (Int.toNat 0) (0:UInt8))):Int)=45) (h4:Int.toNat 1<=s.size) (h5:(s.extract (Int.toNat 1) s.size).size<=1000000000) (h6:(s.extract (Int.toNat 1) s.size)=(s.extract 1 s.size)) (h7:(↑(aY (s.extract (Int.toNat 1) s.size).data.toList):Int)=(↑(aY (s.extract 1 s.size).data.toList):Int)):
  cT fw (fl ip []) 5 96 [sv s] 63 .normal [] (dh s (s.extract 1 s.size) (aY (ak (s.extract 1 s.size)))):=
 wy [af (aQ (az h1)),ah h2,ah h1,c8 h3,ah h4,ah (by omega:s.size<=s.size),ah h5,ax h6,ax h7] 2757870205940449109606465
theorem am3 (s:ByteArray) (h1:¬(s.size:Int)>0) (h2:s.size<=1000000000):
  cT fw (fl ip []) 5 96 [sv s] 32 .normal [] (dh s s (aY (ak s))):=
 wy [af (aQ (ab h1)),aJ h1,ah h2] 3221753921
theorem am4 (s u:ByteArray) (k:Int) (h1:0<=k) (h2:k.toNat<=u.size) (h3:(u.extract 0 k.toNat).size<=1000000000) (h4:(cx (u.extract 0 k.toNat))=false):
  bQ fw ((fl ip []).drop 5) (dh s u k) 224 Tryz.f20 true (iv 1):=
 wy [ah h1,ah h2,ah h3,af (bx (cm (h4))),af (cm (h4))] 91215763881074689
theorem am5 (s u:ByteArray) (k:Int) (h1:0<=k) (h2:k.toNat<=u.size) (h3:(u.extract 0 k.toNat).size<=1000000000) (h4:(cx (u.extract 0 k.toNat))=true) (h5:Int.toNat 0<s.size) (h6:(↑(UInt8.toNat (s.data.toList.getD (Int.toNat 0) (0:UInt8))):Int)=45) (h7:((u.extract 0 k.toNat).data).toList=((ByteArray.mk (#[(48:UInt8)])).data).toList):
  bQ fw ((fl ip []).drop 5) (dh s u k) 7167 Tryz.f20 true (iv 1):=
 wy [ah h1,ah h2,ah h3,af (bx (cm (h4))),ah h5,af (aQ (fU.mpr h6)),c8 h6,af (cm (h4)),ah h7] 12131497851667756158528324735890890753
theorem am6 (s u:ByteArray) (k:Int) (h1:0<=k) (h2:k.toNat<=u.size) (h3:(u.extract 0 k.toNat).size<=1000000000) (h4:(cx (u.extract 0 k.toNat))=true) (h5:Int.toNat 0<s.size) (h6:(↑(UInt8.toNat (s.data.toList.getD (Int.toNat 0) (0:UInt8))):Int)=45) (h7:¬((u.extract 0 k.toNat).data).toList=((ByteArray.mk (#[(48:UInt8)])).data).toList):
  en fw ((fl ip []).drop 5) 2 (dh s u k) 5119 .normal [] (dh s u k):=
 wy [ah h1,ah h2,ah h3,af (bx (cm (h4))),ah h5,af (aQ (fU.mpr h6)),c8 h6,af (cm (h4)),aJ h7] 12131497851667756158528324735890890753
theorem am7 (s u:ByteArray) (k:Int) (h1:0<=k) (h2:k.toNat<=u.size) (h3:(u.extract 0 k.toNat).size<=1000000000) (h4:(cx (u.extract 0 k.toNat))=true) (h5:Int.toNat 0<s.size) (h6:¬(↑(UInt8.toNat (s.data.toList.getD (Int.toNat 0) (0:UInt8))):Int)=45):
  en fw ((fl ip []).drop 5) 2 (dh s u k) 4367 .normal [] (dh s u k):=
 wy [ah h1,ah h2,ah h3,af (bx (cm (h4))),ah h5,af (aQ (fP.mpr h6)),yn h6,af (cm (h4))] 642570093814208610386670526465
theorem am8 (s u:ByteArray) (k:Int) (h1:¬k<(u.size:Int)):
  en fw ((fl ip []).drop 7) 2 (dh s u k) 4096 .normal [] (dh s u k):=
 wy [af (aQ (ab h1)),aJ h1] 2324143350556659777
theorem am9 (s u:ByteArray) (k:Int) (h1:k<(u.size:Int)) (h2:i6 (k+1)) (h3:0<=k+1) (h4:(k+1).toNat<=u.size) (h5:(u.extract (k+1).toNat u.size).size<=1000000000) (h6:(cx (u.extract (k+1).toNat u.size))=false):
  bQ fw ((fl ip []).drop 7) (dh s u k) 32534655 Tryz.f20 true (iv 1):=
 wy [af (aQ (az h1)),yi h2,ah h3,ah h4,ah (by omega:u.size<=u.size),ah h5,af (bx (cm (h6))),af (cm (h6)),ah h1] 52615486191605234386183578337711327053139317100609
theorem ana (s u:ByteArray) (k:Int) (h1:k<(u.size:Int)) (h2:i6 (k+1)) (h3:0<=k+1) (h4:(k+1).toNat<=u.size) (h5:(u.extract (k+1).toNat u.size).size<=1000000000) (h6:(cx (u.extract (k+1).toNat u.size))=true) (h7:((u.extract (k+1).toNat u.size).data).toList=((ByteArray.mk (#[(48:UInt8)])).data).toList):
  bQ fw ((fl ip []).drop 7) (dh s u k) 32530431 Tryz.f20 true (iv 1):=
 wy [af (aQ (az h1)),yi h2,ah h3,ah h4,ah (by omega:u.size<=u.size),ah h5,af (bx (cm (h6))),af (cm (h6)),af (bx (az h7)),ah h7,ah h1] 1094229182170043027733640569609741686283412839940049342529
theorem anb (s u:ByteArray) (k:Int) (h1:k<(u.size:Int)) (h2:i6 (k+1)) (h3:0<=k+1) (h4:(k+1).toNat<=u.size) (h5:(u.extract (k+1).toNat u.size).size<=1000000000) (h6:(cx (u.extract (k+1).toNat u.size))=true) (h7:¬((u.extract (k+1).toNat u.size).data).toList=((ByteArray.mk (#[(48:UInt8)])).data).toList) (h8:((u.extract (k+1).toNat u.size).data).toList=((ByteArray.mk (#[(49:UInt8)])).data).toList):
  bQ fw ((fl ip []).drop 7) (dh s u k) 31449087 Tryz.f20 true (iv 1):=
 wy [af (aQ (az h1)),yi h2,ah h3,ah h4,ah (by omega:u.size<=u.size),ah h5,af (bx (cm (h6))),af (cm (h6)),af (bx (ab h7)),aJ h7,ah h1,ah h8] 1282105618965331399306456053895005741220147403057679523796635619393
theorem anc (s u:ByteArray) (k:Int) (h1:k<(u.size:Int)) (h2:i6 (k+1)) (h3:0<=k+1) (h4:(k+1).toNat<=u.size) (h5:(u.extract (k+1).toNat u.size).size<=1000000000) (h6:(cx (u.extract (k+1).toNat u.size))=true) (h7:¬((u.extract (k+1).toNat u.size).data).toList=((ByteArray.mk (#[(48:UInt8)])).data).toList) (h8:¬((u.extract (k+1).toNat u.size).data).toList=((ByteArray.mk (#[(49:UInt8)])).data).toList):
  en fw ((fl ip []).drop 7) 2 (dh s u k) 23060479 .normal [] (dh s u k):=
 wy [af (aQ (az h1)),yi h2,ah h3,ah h4,ah (by omega:u.size<=u.size),ah h5,af (bx (cm (h6))),af (cm (h6)),af (bx (ab h7)),aJ h7,ah h1,aJ h8] 1282105618965331399306456053895005741220147403057679523796635619393
theorem ane (s u:ByteArray) (k:Int) (h1:k>600):
  bQ fw ((fl ip []).drop 9) (dh s u k) 448 Tryz.f20 true (iv 4):=
 wy [af (bx (az h1)),ah h1] 138529738817
theorem anf (s u:ByteArray) (k:Int) (h1:¬k>600) (h2:i6 ((u.size:Int)-k)) (h3:i6 ((u.size:Int)-k-1)) (h4:(u.size:Int)-k-1>600):
  bQ fw ((fl ip []).drop 9) (dh s u k) 447 Tryz.f20 true (iv 4):=
 wy [af (bx (ab h1)),yi h2,yi h3,aJ h1,ah h4] 91202497766756417
theorem SO (s u:ByteArray) (k:Int) (h1:¬k>600) (h2:i6 ((u.size:Int)-k)) (h3:i6 ((u.size:Int)-k-1)) (h4:¬(u.size:Int)-k-1>600):
  en fw ((fl ip []).drop 9) 2 (dh s u k) 319 .normal [] (dh s u k):=
 wy [af (bx (ab h1)),yi h2,yi h3,aJ h1,aJ h4] 91202497766756417
theorem ang (s u:ByteArray) (k:Int) (h1:¬k<(u.size:Int)):
  bQ fw ((fl ip []).drop 11) (dh s u k) 2 Tryz.f20 true (iv 0):=
 wy [aJ h1] 1
theorem anh (s u:ByteArray) (k:Int) (h1:k<(u.size:Int)) (h2:(iu u)=true) (h3:(okA (mkR (ptN u)).2&&okA (mkR (ptD u)).2)=true) (h4:¬(↑(aC (↑(Int.gcd (ag (mkR (ptN u)).2) (ag (mkR (ptD u)).2)):Int)).length:Int)=1):
  bQ fw ((fl ip []).drop 11) (dh s u k) 225 Tryz.f20 true (iv 1):=
 wy [ah h1,af h2,af h3,af (bx (gJ.mpr h4)),af (gJ.mpr h4)] 22269473599617
theorem ani (s u:ByteArray) (k:Int) (h1:k<(u.size:Int)) (h2:(iu u)=true) (h3:(okA (mkR (ptN u)).2&&okA (mkR (ptD u)).2)=true) (h4:(↑(aC (↑(Int.gcd (ag (mkR (ptN u)).2) (ag (mkR (ptD u)).2)):Int)).length:Int)=1) (h5:Int.toNat 0<(aC (↑(Int.gcd (ag (mkR (ptN u)).2) (ag (mkR (ptD u)).2)):Int)).length) (h6:¬(aC (↑(Int.gcd (ag (mkR (ptN u)).2) (ag (mkR (ptD u)).2)):Int)).getD (Int.toNat 0) 0=1):
  bQ fw ((fl ip []).drop 11) (dh s u k) 223 Tryz.f20 true (iv 1):=
 wy [ah h1,af h2,af h3,af (bx (jA.mpr h4)),ah h5,af (jA.mpr h4),af (gJ.mpr h6)] 8179680759063261313
theorem anj (s u:ByteArray) (k:Int) (h1:k<(u.size:Int)) (h2:(iu u)=true) (h3:(okA (mkR (ptN u)).2&&okA (mkR (ptD u)).2)=true) (h4:(↑(aC (↑(Int.gcd (ag (mkR (ptN u)).2) (ag (mkR (ptD u)).2)):Int)).length:Int)=1) (h5:Int.toNat 0<(aC (↑(Int.gcd (ag (mkR (ptN u)).2) (ag (mkR (ptD u)).2)):Int)).length) (h6:(aC (↑(Int.gcd (ag (mkR (ptN u)).2) (ag (mkR (ptD u)).2)):Int)).getD (Int.toNat 0) 0=1):
  bQ fw ((fl ip []).drop 11) (dh s u k) 159 Tryz.f20 true (iv 0):=
 wy [ah h1,af h2,af h3,af (bx (jA.mpr h4)),ah h5,af (jA.mpr h4),af (jA.mpr h6)] 8179680759063261313
end
noncomputable section
def A4 (neg:Bool) (u:ByteArray) (k:Nat):Int:=
 if cx (u.extract 0 k)=false then 1
 else if neg=true/\ak (u.extract 0 k)=[48]then 1
 else if k<u.size/\(cx (u.extract (k+1) u.size)=false\/ak (u.extract (k+1) u.size)=[48]\/ak (u.extract (k+1) u.size)=[49])then 1
 else if 600<k\/601+k<u.size then 4
 else if k<u.size/\Int.gcd (bg (ak (u.extract 0 k))) (bg (ak (u.extract (k+1) u.size)))≠1 then 1
 else 0
def ckR (s:ByteArray):Int:=A4 (bX s) (bO s) (aY (ak (bO s)))
noncomputable def VK:bn:={f:=20,ps:=[.str],rs:=[.int .i64],fresh:=true,pre:=fun d=>decide (d.1.size<=1000000000),fn:=fun d=>(ckR d.1,())}
--{
theorem VL:bB prog (bD fw):=cR (aT tl (aT al0 (aT MK (aT SV dY))))
theorem Nj {t:ByteArray} (h:bW (ak t)=true):bX t=false/\bO t=t:=by
 have e:bX t=false:=by
  unfold bX;by_cases h0:0<t.size
  .have hm:b5 t 0∈ak t:=by rw [yl (by rw [<-bd];exact h0)];exact List.getElem_mem _
   have:=List.all_eq_true.1 h _ hm;rw [ae,bz,bz]at this;rw [ab (show¬(b5 t 0).toNat=45 by omega),Bool.and_false]
  .rw [ab h0];rfl
 refine⟨e, ?_⟩;unfold bO;rw [e]
theorem VM {t:ByteArray} (h:bW (ak t)=true):li t=bg (ak t):=by
 obtain⟨h1,h2⟩:=Nj h;unfold li;rw [h1,h2];rfl
theorem GI:∀n:Nat,(10:Int)^n<=1000000000^n
 |0=>by simp
 |n+1=>by
  rw [Int.pow_succ,Int.pow_succ];have h1:=GI n;have h2:=bc (b:=10) (by decide) n;omega
theorem VN {z:Int} (h:0<=z):ag (mkR z).2=z:=by
 show ag (aC (z.natAbs:Int))=z;rw [(fY (Int.natCast_nonneg _)).2.2];omega
theorem VO {t:ByteArray} (h:bW (ak t)=true) (hl:t.size<=100000):okA (mkR (bg (ak t))).2=true:=by
 have h1:=gE h;have h2:=GI t.size;show okA (aC ((bg (ak t)).natAbs:Int))=true;exact tk (k:=t.size) (Int.natCast_nonneg _) (by omega) hl
theorem wk {t:ByteArray} (h:cx t=true):bW (ak t)=true/\0<t.size:=by
 unfold cx at h;rw [ae,ae,bz]at h;exact⟨h.2.2,h.1⟩
abbrev Nk (e:Int):Exit->av aa->ai->Prop:=gk prog true f20 (iv e)
theorem Nl (s u:ByteArray) (neg:Bool) (hl:u.size<=1000000000) (hs:0<u.size->0<s.size) (hn:neg=true↔(0<s.size/\(b5 s 0).toNat=45)) (w:World) (F:Sv.Env):
  aR prog w F 96 ((fl ip []).drop 5) (dh s u (aY (ak u))).T (dh s u (aY (ak u))).H (Nk (A4 neg u (aY (ak u)))):=by
 have hS:=VL;have hle:aY (ak u)<=u.size:=by rw [bd];exact Au _
 obtain⟨k,hk⟩:∃k,aY (ak u)=k:=⟨_,rfl⟩;rw [hk]at hle ⊢;have uh:(k:Int).toNat=k:=by omega
 have Gr:((k:Int)+1).toNat=k+1:=by omega
 have hz:=kZ u 0 k hle;have kS:=kZ u (k+1) u.size (aE _);have arD:((ByteArray.mk (#[(48:UInt8)])).data).toList=[48]:=rfl;have arE:((ByteArray.mk (#[(49:UInt8)])).data).toList=[49]:=rfl;unfold A4;cases ha:cx (u.extract 0 k)with
 |false=>
  rw [if_pos rfl];have key:=am4 s u (k:Int) (by omega);rw [uh]at key;exact bT (s:=dh s u k) hS (key hle (by omega) ha)
 |true=>
  rw [if_neg (by decide)];obtain⟨da,pa⟩:=wk ha;have hs0:0<s.size:=hs (by omega)
  -- behind the second part
  have rest:(¬(k<u.size/\(cx (u.extract (k+1) u.size)=false\/ak (u.extract (k+1) u.size)=[48]\/ak (u.extract (k+1) u.size)=[49])))->aR prog w F 96 ((fl ip []).drop 9) (dh s u k).T (dh s u k).H (Nk (if 600<k\/601+k<u.size then 4 else if k<u.size/\Int.gcd (bg (ak (u.extract 0 k))) (bg (ak (u.extract (k+1) u.size)))≠1 then 1 else 0)):=fun hno=>by
   by_cases h6:600<k
   .rw [if_pos (.inl h6)];exact bT (s:=dh s u k) hS (ane s u (k:Int) (by omega))
   .by_cases h7:601+k<u.size
    .rw [if_pos (.inr h7)];exact bT (s:=dh s u k) hS (anf s u (k:Int) (by omega) (by omega) (by omega) (by omega))
    .rw [if_neg (by omega)];refine dZ (s:=dh s u k) hS 2 (SO s u (k:Int) (by omega) (by omega) (by omega) (by omega)) ?_;by_cases hlt:k<u.size
     .have db:bW (ak (u.extract (k+1) u.size))=true:=by
       cases hb:cx (u.extract (k+1) u.size)with
       |false=>exact absurd ⟨hlt, .inl hb⟩ hno
       |true=>exact(wk hb).1
      have hpt:iu u=true:=by
       unfold iu;rw [hk,(Nj da).2,(Nj db).2,da,db,az (by omega)];rfl
      have e1:ptN u=bg (ak (u.extract 0 k)):=by unfold ptN;rw [hk];exact VM da
      have e2:ptD u=bg (ak (u.extract (k+1) u.size)):=by unfold ptD;rw [hk,if_pos hlt];exact VM db
      have o1:=VO da (by omega);have o2:=VO db (by omega);have b1:=gE da;have b2:=gE db;have k1:=anh s u (k:Int) (by omega) hpt;have k2:=ani s u (k:Int) (by omega) hpt;have dB:=anj s u (k:Int) (by omega) hpt;rw [e1,e2,VN b1.1,VN b2.1]at k1 k2 dB;generalize bg (ak (u.extract 0 k))=A at*;generalize bg (ak (u.extract (k+1) u.size))=B at*;have j5:=fF o1 o2;by_cases hg:Int.gcd A B=1
      .rw [if_neg (fun h=>h.2 hg)];have e3:aC ((Int.gcd A B:Nat):Int)=[1]:=by
        rw [hg];have h11:eX [(1:Int)]:=fun k hk=>by
         obtain rfl:k=0:=by simpa using hk.symm
         show(1:Int)≠0;decide
        have:=EU (l:=[(1:Int)]) (.cons (show(0:Int)<=1/\(1:Int)<1000000000 by decide) .nil) h11;rw [show ag [(1:Int)]=1 from rj _ _]at this;exact this
       rw [e3]at dB;exact bT (s:=dh s u k) hS (dB j5 rfl (by decide) rfl)
      .rw [if_pos ⟨hlt,hg⟩];by_cases uP:((aC ((Int.gcd A B:Nat):Int)).length:Int)=1
       .refine bT (s:=dh s u k) hS (k2 j5 uP (by show 0<_;omega) fun h=> ?_);obtain⟨c,hc⟩:∃c,aC ((Int.gcd A B:Nat):Int)=[c]:=List.length_eq_one_iff.1 (by omega);have h:(aC ((Int.gcd A B:Nat):Int)).getD 0 0=1:=h;rw [hc]at h;have h:c=1:=h;have hv:=(fY (Int.natCast_nonneg (Int.gcd A B))).2.2;rw [hc,h,show ag [(1:Int)]=1 from rj _ _]at hv;omega
       .exact bT (s:=dh s u k) hS (k1 j5 uP)
     .rw [if_neg (fun h=>hlt h.1)];exact bT (s:=dh s u k) hS (ang s u (k:Int) (by omega))
  -- the second part
  have second:aR prog w F 96 ((fl ip []).drop 7) (dh s u k).T (dh s u k).H (Nk (if k<u.size/\(cx (u.extract (k+1) u.size)=false\/ak (u.extract (k+1) u.size)=[48]\/ak (u.extract (k+1) u.size)=[49])then 1 else if 600<k\/601+k<u.size then 4 else if k<u.size/\Int.gcd (bg (ak (u.extract 0 k))) (bg (ak (u.extract (k+1) u.size)))≠1 then 1 else 0)):=by
   by_cases hlt:k<u.size
   .have VP:=am9 s u (k:Int) (by omega) (by omega) (by omega);have kI:=ana s u (k:Int) (by omega) (by omega) (by omega);have Dm:=anb s u (k:Int) (by omega) (by omega) (by omega);have Dn:=anc s u (k:Int) (by omega) (by omega) (by omega);rw [Gr]at VP kI Dm Dn;cases hb:cx (u.extract (k+1) u.size)with
    |false=>
     rw [if_pos ⟨hlt, .inl rfl⟩];exact bT (s:=dh s u k) hS (VP (by omega) (by omega) hb)
    |true=>
     by_cases h8:ak (u.extract (k+1) u.size)=[48]
     .rw [if_pos ⟨hlt, .inr (.inl h8)⟩];exact bT (s:=dh s u k) hS (kI (by omega) (by omega) hb h8)
     .by_cases h9:ak (u.extract (k+1) u.size)=[49]
      .rw [if_pos ⟨hlt, .inr (.inr h9)⟩];exact bT (s:=dh s u k) hS (Dm (by omega) (by omega) hb h8 h9)
      .have hno:¬(k<u.size/\(cx (u.extract (k+1) u.size)=false\/ak (u.extract (k+1) u.size)=[48]\/ak (u.extract (k+1) u.size)=[49])):=fun h=>by
        rcases h.2 with h|h|h
        .rw [hb]at h;cases h
        .exact h8 h
        .exact h9 h
       have DZ:=hno;rw [hb]at DZ;rw [if_neg DZ];refine dZ (s:=dh s u k) hS 2 (Dn (by omega) (by omega) hb h8 h9) ?_;exact rest hno
   .have hno:¬(k<u.size/\(cx (u.extract (k+1) u.size)=false\/ak (u.extract (k+1) u.size)=[48]\/ak (u.extract (k+1) u.size)=[49])):=fun h=>hlt h.1
    rw [if_neg hno];refine dZ (s:=dh s u k) hS 2 (am8 s u (k:Int) (by omega)) ?_;exact rest hno
  have kI:=am5 s u (k:Int) (by omega);have Dm:=am6 s u (k:Int) (by omega);have Dn:=am7 s u (k:Int) (by omega);rw [uh]at kI Dm Dn;by_cases k3:(b5 s 0).toNat=45
  .have hneg:neg=true:=hn.2 ⟨hs0,k3⟩;have GJ:((b5 s 0).toNat:Int)=45:=by omega
   by_cases h0:ak (u.extract 0 k)=[48]
   .rw [if_pos ⟨hneg,h0⟩];exact bT (s:=dh s u k) hS (kI hle (by omega) ha hs0 GJ h0)
   .rw [if_neg (fun h=>h0 h.2)];refine dZ (s:=dh s u k) hS 2 (Dm hle (by omega) ha hs0 GJ h0) ?_;exact second
  .have GJ:¬((b5 s 0).toNat:Int)=45:=by omega
   rw [if_neg (fun h=>k3 (hn.1 h.1).2)];refine dZ (s:=dh s u k) hS 2 (Dn hle (by omega) ha hs0 GJ) ?_;exact second
theorem ank (s:ByteArray) (hl:s.size<=1000000000):Holds prog true 20 [sv s] (iv (ckR s)):=by
 have hS:=VL;refine bJ (c:=ip) func20 rfl rfl fun w F=> ?_
 unfold ckR;by_cases h0:0<s.size
 .by_cases k3:(b5 s 0).toNat=45
  .have e1:bX s=true:=by unfold bX;rw [az h0,az k3];rfl
   have e2:bO s=s.extract 1 s.size:=by unfold bO;rw [e1]
   have hz:=kZ s 1 s.size (aE _);rw [e1,e2];refine cE hS 5 (am2 s (by omega) (by show 0<s.size;exact h0) (by show((b5 s 0).toNat:Int)=45;omega) (by show 1<=s.size;omega) (by show(s.extract 1 s.size).size<=_;omega) rfl rfl) ?_;exact Nl s _ true (by omega) (fun _=>h0) ⟨fun _=>⟨h0,k3⟩,fun _=>rfl⟩ w F
  .have e1:bX s=false:=by unfold bX;rw [az h0,ab k3];rfl
   have e2:bO s=s:=by unfold bO;rw [e1]
   rw [e1,e2];refine cE hS 5 (am1 s (by omega) (by show 0<s.size;exact h0) (by show¬((b5 s 0).toNat:Int)=45;omega) hl) ?_;exact Nl s s false hl id ⟨fun h=>(by cases h),fun h=>absurd h.2 k3⟩ w F
 .have e1:bX s=false:=by unfold bX;rw [ab h0];rfl
  have e2:bO s=s:=by unfold bO;rw [e1]
  rw [e1,e2];refine cE hS 5 (am3 s (by omega) hl) ?_;exact Nl s s false hl id ⟨fun h=>(by cases h),fun h=>absurd h.1 h0⟩ w F
attribute [local irreducible] ckR
theorem anl:VK.Ok prog:=fun⟨s,_⟩ h=>by
 have h:decide (s.size<=1000000000)=true:=h;exact ank s (ap h)
--}
end
end Go.Proofs.YtibikmmdbdlafaaGreatDoor
