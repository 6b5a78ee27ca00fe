import Derived.Test.YtibikmmdbdlafaaGreatDoorZcA3
set_option linter.defProp false
set_option linter.unusedSimpArgs false
set_option linter.unusedVariables false
set_option maxRecDepth 100000
namespace Go.Proofs.YtibikmmdbdlafaaGreatDoor
open Go.RowKit Sv Go.Proofs.Tryz
noncomputable section
def dZ:=k_a f131
def iB:=AQ [xd] (ow [Ho] (bc [Nj,Vw,Np]))
abbrev Ny:List Nat:=[1,1,1,1,1,1,1,0,0,0]
abbrev DU:List Nat:=[1,1,1,1,1,1,1,1,1,0,1,0,0]
abbrev uY:List Nat:=[1,1,1,1,1,1,1,1,1,0,1,0,0,1,0,0]
abbrev Hv:List Nat:=[1,1,1,1,1,1,1,1,1,0,1,0,0,1,0,0,1,1,0,1,0,0]
abbrev Hw:List Nat:=[1,1,1,1,1,1,1,1,1,0,1,0,0,1,0,0,1,1,1,1,0,1,0]
abbrev Nz:List Nat:=[1,1,1,1,1,1,1,1,1,0,1,0,0,1,0,0,1,1,1,1,0,1,0,1,1,0,1,0,0]
def NA (a b:List Int) (f:Int):bD:={n:=206,sl:=[(0,lv a),(1,lv b),(8,mW 64 [f])],bJ:=[(64,mX [f])],next:=65}
def By (a b:List Int) (f:Int):bD:={n:=206,sl:=[(0,lv a),(1,lv b),(8,lv [f])],bJ:=[],next:=64}
def sU (a v:List Int) (f:Int) (u:List Int):bD:={n:=206,sl:=[(0,lv a),(8,lv [f]),(9,lv v),(10,iv v.length),(11,mW 64 u)],bJ:=[(64,mX u)],next:=65}
abbrev DV (u:List Int):fJ:= .blk (.own 3 (.int .i64) u)
section
variable (v:List Int) (f:Int) (c:aX) (u q:List Int)
def gT (z:Int):bD:={n:=206,sl:=[(8,lv [f]),(9,lv v),(10,iv v.length),(11,xb u.length c),(12,mW 65 q),(13,iv z)],bJ:=[(64,DV u),(65,mX q)],next:=66}
def oD (z t bo:Int) (i:Nat):bD:={n:=206,sl:=[(8,lv [f]),(9,lv v),(10,iv v.length),(11,xb u.length c),(12,mW 65 q),(13,iv z),(14,iv t),(15,iv bo),(16,iv i)],bJ:=[(64,DV u),(65,mX q)],next:=66}
def zj (z t:Int) (x:Bool):bD:={n:=206,sl:=[(8,lv [f]),(9,lv v),(10,iv v.length),(11,xb u.length c),(12,mW 65 q),(13,iv z),(14,iv t),(145,bv x)],bJ:=[(64,DV u),(65,mX q)],next:=66}
def sV (z t cV:Int) (i:Nat):bD:={n:=206,sl:=[(8,lv [f]),(9,lv v),(10,iv v.length),(11,xb u.length c),(12,mW 65 q),(13,iv z),(14,iv t),(19,iv cV),(20,iv i)],bJ:=[(64,DV u),(65,mX q)],next:=66}
def NB (z t:Int):bD:={n:=206,sl:=[(8,lv [f]),(9,lv v),(10,iv v.length),(11,xb u.length c),(12,mW 65 q),(13,iv z),(14,iv t)],bJ:=[(64,DV u),(65,mX q)],next:=66}
end
abbrev nO:Sv.Ren:=[(64,64,none),(65,65,none)]
section
variable (a b:List Int) (h1:(okA a&&okA b)=true)
def akV (h2:lp (ag a) (ag b)<0):
  bh iB (fl dZ []) 3 206 [lv a,lv b] 3 f131 false (.tuple [lv [],lv a]):=
 wy [af h1,ah h2] 129
def T0 (h2:¬lp (ag a) (ag b)<0) (h3:(b.length:Int)=1) (h4:Int.toNat 0<b.length) (h5:(okB a&&(decide ((1:av.den (.int .i64))<=b.getD (Int.toNat 0) 0)&&decide (b.getD (Int.toNat 0) 0<(1000000000:av.den (.int .i64)))))=true) (h6:1*1<=(iv (ag a%List.getD b (Int.toNat 0) 0)::List.append._f [] PUnit.unit (List.flatten._f [] PUnit.unit)).length) (h7:List.length [ag a%List.getD b (Int.toNat 0) 0]<=1000000) (h8:(aK (ag a/List.getD b (Int.toNat 0) 0))=(aK (ag a/List.getD b 0 0))) (h9:(ew [ag a%List.getD b (Int.toNat 0) 0])=(ew [ag a%List.getD b 0 0])):
  bh iB (fl dZ []) 5 206 [lv a,lv b] 6 f131 false (.tuple [lv (aK (ag a/b.getD 0 0)),lv (ew [ag a%b.getD 0 0])]):=
 wy [af h1,aJ h2,cX h3,ah h4,af h5,af (show(Nat.ble ((0:Nat)+(1:Nat)*(1:Nat)) (iv (ag a%List.getD b (0:Int).toNat (0:Int))::List.append._f [] PUnit.unit (List.flatten._f [] PUnit.unit)).length)=true from(by simp only [aw]<;>exact fF h6)),ah h7,ax h8,ax h9] 164412590477291649
def akW (h2:¬lp (ag a) (ag b)<0) (h3:¬(b.length:Int)=1) (h4: -9223372036854775808<=(b.length:Int)-1/\(b.length:Int)-1<=9223372036854775807) (h5:(0:Int)<=(b.length:Int)-1) (h6:((b.length:Int)-1).toNat<b.length) (h7: -9223372036854775808<=b.getD ((b.length:Int)-1).toNat (0:Int)+1/\b.getD ((b.length:Int)-1).toNat (0:Int)+1<=9223372036854775807) (h8:b.getD ((b.length:Int)-1).toNat (0:Int)+1≠0) (h9: -9223372036854775808<=Int.tdiv (1000000000:Int) (b.getD ((b.length:Int)-1).toNat (0:Int)+1)/\Int.tdiv (1000000000:Int) (b.getD ((b.length:Int)-1).toNat (0:Int)+1)<=9223372036854775807) (h10:(iv (Int.tdiv (1000000000:Int) (b.getD ((b.length:Int)-1).toNat (0:Int)+1))::List.append._f [] PUnit.unit (List.flatten._f [] PUnit.unit))=(List.flatMap (fun x=>[iv x]) [Int.tdiv (1000000000:Int) (b.getD ((b.length:Int)-1).toNat (0:Int)+1)])):
  aD.path (pF prog iB (fl dZ []) 6 206 [lv a,lv b]) (dl 4) (ef prog 206 .normal [(64,64,some 1)] (NA a b (Int.tdiv 1000000000 (b.getD ((b.length:Int)-1).toNat 0+1)))):=
 mp (Lv h1 (ab h2) (e8.mpr h3) (eN h4) (az h5) (og (az h6) (eN h7) (az h8) (eN h9) (rr a) (rr b) (an (rr (1:Nat)) (an (rr (aX.known (1:Nat))) (rr (bH (List.length [Int.tdiv (1000000000:Int) (b.getD ((b.length:Int)-1).toNat (0:Int)+1)]))))) (an h10 (rr (1:Nat))) trivial))
end
def akX (a b:List Int) (f:Int):
  aD.path (aD.ret (R.normal ((NA a b f).T.set 8 (some (lv [f]))) ((NA a b f).H.drop 64) []):aD R) (dl 1) (ef prog 206 .normal [] (By a b f)):=
 wy [] 0
def akY (a b:List Int) (f:Int) (h1:(okB b&&okB [f])=true) (h2:(okB a&&okB [f])=true) (h3:(Nat.beq (aK (ag a*ag [f])).length 0)=false) (h4:(aK (ag a*ag [f])).length<=1000000) (h5:(aX.full)=(bH (aK (ag a*ag [f])).length)) (h6:(bN (.int .i64) none++aK (ag a*ag [f]))=(aK (ag a*ag [f]))):
  cY iB ((fl dZ []).drop 6) 3 (By a b f) 2 .normal [(64,65,none)] (sU a (aK (ag b*ag [f])) f (aK (ag a*ag [f]))):=
 wy [af h1,af h2,af h3,af (show(bounded ((0:Nat)+(aK (ag a*ag [f])).length) (8:Nat))=true from(by simp only [aw]<;>exact pH h4 ω)),ax (show((0:Nat)+(aK (ag a*ag [f])).length)=((aK (ag a*ag [f])).length)from(by simp only [aw]<;>rfl)),ax h5,pG prog 3 (.int .i64) h6] 2144323318104297413804161
section
variable (a v:List Int) (f:Int) (u:List Int) (h1:i6 ((a.length:Int)+1))
def akZ (h2:(u.length:Int)<(a.length:Int)+1) (h3:u.length+1<=1000000) (h4:(u.length+1)=(u++[0]).length) (h5:(aX.full)=(bH (u++[0]).length)):
  bt iB (fl dZ Ny) (sU a v f u) 5 .normal [(64,66,none)] (sU a v f (u++[0])):=
 wy [yi h1,ah h2,yk 3 (.int .i64) u,jF 8 h3,ax h4,ax h5,kW 3 (.int .i64) (Eq.refl (u++[(0:Int)]))] 2144323318104297463349377
def ak0 (h2:¬(u.length:Int)<(a.length:Int)+1):
  bt iB (fl dZ Ny) (sU a v f u) 2 (.exit 0) [(64,64,none)] (sU a v f u):=
 wy [yi h1,aJ h2] 129
end
def ak1 (a v:List Int) (f:Int) (x:Int) (l:List Int) (h1: -9223372036854775808<=(↑(x::l).length:Int)-(v.length:Int)/\(↑(x::l).length:Int)-(v.length:Int)<=9223372036854775807) (h2:(0:Int)<=(↑(x::l).length:Int)-(v.length:Int)) (h3:((↑(x::l).length:Int)-(v.length:Int)).toNat<=1000000) (h4: -9223372036854775808<=(↑(x::l).length:Int)-(v.length:Int)-1/\(↑(x::l).length:Int)-(v.length:Int)-1<=9223372036854775807) (h5:(((↑(x::l).length:Int)-(v.length:Int)).toNat)=(gf ((l.length:Int)+1-(v.length:Int)).toNat).length) (h6:(aX.known ((↑(x::l).length:Int)-(v.length:Int)).toNat)=(aX.known ((l.length:Int)+1-(v.length:Int)).toNat)) (h7:(bH (gf ((l.length:Int)+1-(v.length:Int)).toNat).length)=(bH ((l.length:Int)+1-(v.length:Int)).toNat)) (h8:((↑(x::l).length:Int)-(v.length:Int)-1)=((l.length:Int)+1-(v.length:Int)-1)) (h9:(List.flatten (List.replicate ((↑(x::l).length:Int)-(v.length:Int)).toNat (List.map aa.raw (Array.toList #[Value.int .i64 (0:Int)]))))=(List.flatMap (fun x=>[iv x]) (gf ((l.length:Int)+1-(v.length:Int)).toNat))) (h10:(((l.length:Int)+1-(v.length:Int)).toNat)=(gf ((l.length:Int)+1-(v.length:Int)).toNat).length):
  aD.path (yB prog iB ((fl dZ []).drop 10) 2 (sU a v f (x::l))) (dl 1) (ef prog 206 .normal [(64,64,none),(65,65,some ((l.length:Int)+1-v.length).toNat)] (gT v f (bH (l.length+1)) (x::l) (gf ((l.length:Int)+1-v.length).toNat) ((l.length:Int)+1-v.length-1))):=
 mp (adV (eN h1) (az h2) (az h2) (show(decide (((↑(x::l).length:Int)-(v.length:Int)).toNat<=((↑(x::l).length:Int)-(v.length:Int)).toNat))=true from az ω) (show(bounded ((↑(x::l).length:Int)-(v.length:Int)).toNat (8:Nat))=true from pH h3 ω) (eN h1) (eN h4) (og (rr ([f])) (rr v) (rr (v.length:Int)) (an (rr (0:Nat)) (an (rr (x::l).length) (rr (bH (x::l).length)))) (an h5 (an h6 h7)) h8 (rr (x::l)) (an h9 h10) trivial))
section
variable (v:List Int) (f:Int) (c:aX) (u q:List Int)
def ak2 (z:Int) (h1:z>=0):
  cY iB (fl dZ DU) 2 (gT v f c u q z) 3 .normal nO (gT v f c u q z):=
 wy [ah h1] 1
def ak3 (z:Int) (h1:¬z>=0):
  cY iB (fl dZ DU) 2 (gT v f c u q z) 2 (.exit 2) nO (gT v f c u q z):=
 wy [aJ h1] 1
def ak4 (z:Int) (h1:(bz (gQ.e xd) (gQ.t xd) (some (bl.own 3 (.int .i64) u)) (u.length-1)&&Nat.ble 1 u.length)=true) (h2:(Bx u 0 u.length v z)=true):
  cY iB (fl dZ uY) 3 (gT v f c u q z) 1 .normal nO (oD v f c u q z (rB u v z) 0 0):=
 wy [af (show(bz (gQ.e xd) (gQ.t xd) (some (bl.own 3 (.int .i64) u)) ((0:Nat)+u.length-(1:Nat))&&Nat.ble (1:Nat) u.length)=true from(by simp only [aw]<;>exact h1)),af h2] 129
def ak5 (z t bo:Int) (i:Nat) (h1:(i:Int)<(v.length:Int)) (h2:i<v.length) (h3:i6 (t*v.getD i 0)) (h4:i6 (t*v.getD i 0+bo)) (h5:i6 ((i:Int)+z)) (h6:0<=(i:Int)+z) (h7:((i:Int)+z).toNat<u.length) (h8:(bz 3 (.int .i64) (some (bl.own 3 (.int .i64) u)) ((i:Int)+z).toNat)=true) (h9:i6 (u.getD ((i:Int)+z).toNat 0-Int.tmod (t*v.getD i 0+bo) 1000000000)) (h10:i6 (Int.tdiv (t*v.getD i 0+bo) 1000000000)) (h11:u.getD ((i:Int)+z).toNat 0-Int.tmod (t*v.getD i 0+bo) 1000000000<0) (h12:i6 (u.getD ((i:Int)+z).toNat 0-Int.tmod (t*v.getD i 0+bo) 1000000000+1000000000)) (dF:i6 (Int.tdiv (t*v.getD i 0+bo) 1000000000+1)) (gb:i6 ((i:Int)+1)) (iA:u.length=(u.set ((i:Int)+z).toNat (u.getD ((i:Int)+z).toNat 0-Int.tmod (t*v.getD i 0+bo) 1000000000+1000000000)).length):
  bt iB (fl dZ Hv) (oD v f c u q z t bo i) 7 .normal nO (oD v f c (u.set ((i:Int)+z).toNat (u.getD ((i:Int)+z).toNat 0-Int.tmod (t*v.getD i 0+bo) 1000000000+1000000000)) q z t (Int.tdiv (t*v.getD i 0+bo) 1000000000+1) (i+1)):=
 wy [ah h1,ah h2,yi h3,yi h4,yi h5,ah h6,ah h7,af (show(bz 3 (.int .i64) (some (bl.own 3 (.int .i64) u)) ((0:Nat)+((i:Int)+z).toNat))=true from(by simp only [aw]<;>exact h8)),af (show(fits IntKind.i64 (u.getD ((0:Nat)+((i:Int)+z).toNat) (0:Int)-Int.tmod (t*v.getD i (0:Int)+bo) (1000000000:Int)))=true from(by simp only [aw]<;>exact eN h9)),yi h10,af (show(decide (u.getD ((0:Nat)+((i:Int)+z).toNat) (0:Int)-Int.tmod (t*v.getD i (0:Int)+bo) (1000000000:Int)<(0:Int)))=true from(by simp only [aw]<;>exact az h11)),af (show(fits IntKind.i64 (u.getD ((0:Nat)+((i:Int)+z).toNat) (0:Int)-Int.tmod (t*v.getD i (0:Int)+bo) (1000000000:Int)+(1000000000:Int)))=true from(by simp only [aw]<;>exact eN h12)),yi dF,yi gb,ax iA,ax (show(u.set ((0:Nat)+((i:Int)+z).toNat) (u.getD ((0:Nat)+((i:Int)+z).toNat) (0:Int)-Int.tmod (t*v.getD i (0:Int)+bo) (1000000000:Int)+(1000000000:Int)))=(u.set ((i:Int)+z).toNat (u.getD ((i:Int)+z).toNat (0:Int)-Int.tmod (t*v.getD i (0:Int)+bo) (1000000000:Int)+(1000000000:Int)))from(by simp only [aw]<;>rfl))] 411376139330301531947457705006383748541443296955200566048071681
def ak6 (z t bo:Int) (i:Nat) (h1:(i:Int)<(v.length:Int)) (h2:i<v.length) (h3:i6 (t*v.getD i 0)) (h4:i6 (t*v.getD i 0+bo)) (h5:i6 ((i:Int)+z)) (h6:0<=(i:Int)+z) (h7:((i:Int)+z).toNat<u.length) (h8:(bz 3 (.int .i64) (some (bl.own 3 (.int .i64) u)) ((i:Int)+z).toNat)=true) (h9:i6 (u.getD ((i:Int)+z).toNat 0-Int.tmod (t*v.getD i 0+bo) 1000000000)) (h10:i6 (Int.tdiv (t*v.getD i 0+bo) 1000000000)) (h11:¬u.getD ((i:Int)+z).toNat 0-Int.tmod (t*v.getD i 0+bo) 1000000000<0) (h12:i6 ((i:Int)+1)) (dF:u.length=(u.set ((i:Int)+z).toNat (u.getD ((i:Int)+z).toNat 0-Int.tmod (t*v.getD i 0+bo) 1000000000)).length):
  bt iB (fl dZ Hv) (oD v f c u q z t bo i) 5 .normal nO (oD v f c (u.set ((i:Int)+z).toNat (u.getD ((i:Int)+z).toNat 0-Int.tmod (t*v.getD i 0+bo) 1000000000)) q z t (Int.tdiv (t*v.getD i 0+bo) 1000000000) (i+1)):=
 wy [ah h1,ah h2,yi h3,yi h4,yi h5,ah h6,ah h7,af (show(bz 3 (.int .i64) (some (bl.own 3 (.int .i64) u)) ((0:Nat)+((i:Int)+z).toNat))=true from(by simp only [aw]<;>exact h8)),af (show(fits IntKind.i64 (u.getD ((0:Nat)+((i:Int)+z).toNat) (0:Int)-Int.tmod (t*v.getD i (0:Int)+bo) (1000000000:Int)))=true from(by simp only [aw]<;>exact eN h9)),yi h10,af (show(decide (u.getD ((0:Nat)+((i:Int)+z).toNat) (0:Int)-Int.tmod (t*v.getD i (0:Int)+bo) (1000000000:Int)<(0:Int)))=false from(by simp only [aw]<;>exact ab h11)),yi h12,ax dF,ax (show(u.set ((0:Nat)+((i:Int)+z).toNat) (u.getD ((0:Nat)+((i:Int)+z).toNat) (0:Int)-Int.tmod (t*v.getD i (0:Int)+bo) (1000000000:Int)))=(u.set ((i:Int)+z).toNat (u.getD ((i:Int)+z).toNat (0:Int)-Int.tmod (t*v.getD i (0:Int)+bo) (1000000000:Int)))from(by simp only [aw]<;>rfl))] 87879424295413535223539924311789743421980991760571879399425
def ak7 (z t bo:Int) (i:Nat) (h1:¬(i:Int)<(v.length:Int)):
  bt iB (fl dZ Hv) (oD v f c u q z t bo i) 2 (.exit 4) nO (oD v f c u q z t bo i):=
 wy [aJ h1] 1
def ak8 (z t bo:Int) (i:Nat) (h1:i6 (z+(v.length:Int))) (h2:0<=z+(v.length:Int)) (h3:(z+(v.length:Int)).toNat<u.length) (h4:(bz 3 (.int .i64) (some (bl.own 3 (.int .i64) u)) (z+(v.length:Int)).toNat)=true) (h5:i6 (u.getD (z+(v.length:Int)).toNat 0-bo)) (h6:(bz 3 (.int .i64) (some (bl.own 3 (.int .i64) (u.set (z+(v.length:Int)).toNat (u.getD (z+(v.length:Int)).toNat 0-bo)))) (z+(v.length:Int)).toNat)=true) (h7:u.length=(u.set (z+(v.length:Int)).toNat (u.getD (z+(v.length:Int)).toNat 0-bo)).length) (h8:(decide ((u.set (z+(v.length:Int)).toNat (u.getD (z+(v.length:Int)).toNat 0-bo)).getD (z+(v.length:Int)).toNat 0<0))=(decide ((u.set (z+(v.length:Int)).toNat (u.getD (z+(v.length:Int)).toNat 0-bo)).getD (z+(v.length:Int)).toNat 0<0))):
  cY iB ((fl dZ uY).drop 4) 2 (oD v f c u q z t bo i) 1 .normal nO (zj v f c (u.set (z+(v.length:Int)).toNat (u.getD (z+(v.length:Int)).toNat 0-bo)) q z t (decide ((u.set (z+(v.length:Int)).toNat (u.getD (z+(v.length:Int)).toNat 0-bo)).getD (z+(v.length:Int)).toNat 0<0))):=
 wy [yi h1,ah h2,ah h3,af (show(bz 3 (.int .i64) (some (bl.own 3 (.int .i64) u)) ((0:Nat)+(z+(v.length:Int)).toNat))=true from(by simp only [aw]<;>exact h4)),af (show(fits IntKind.i64 (u.getD ((0:Nat)+(z+(v.length:Int)).toNat) (0:Int)-bo))=true from(by simp only [aw]<;>exact eN h5)),af (show(bz 3 (.int .i64) (some (bl.own 3 (.int .i64) (u.set ((0:Nat)+(z+(v.length:Int)).toNat) (u.getD ((0:Nat)+(z+(v.length:Int)).toNat) (0:Int)-bo)))) ((0:Nat)+(z+(v.length:Int)).toNat))=true from(by simp only [aw]<;>exact h6)),ax h7,ax (show(decide ((u.set ((0:Nat)+(z+(v.length:Int)).toNat) (u.getD ((0:Nat)+(z+(v.length:Int)).toNat) (0:Int)-bo)).getD ((0:Nat)+(z+(v.length:Int)).toNat) (0:Int)<(0:Int)))=(decide ((u.set (z+(v.length:Int)).toNat (u.getD (z+(v.length:Int)).toNat (0:Int)-bo)).getD (z+(v.length:Int)).toNat (0:Int)<(0:Int)))from(by simp only [aw]<;>exact h8)),ax (show(u.set ((0:Nat)+(z+(v.length:Int)).toNat) (u.getD ((0:Nat)+(z+(v.length:Int)).toNat) (0:Int)-bo))=(u.set (z+(v.length:Int)).toNat (u.getD (z+(v.length:Int)).toNat (0:Int)-bo))from(by simp only [aw]<;>rfl))] 13023635195941919408873694419534707774213333057
def ak9 (z t:Int) (h1:0<=z) (h2:z.toNat<q.length) (h3:q.length=(q.set z.toNat t).length) (h4:(bH q.length)=(bH (q.set z.toNat t).length)):
  bt iB ((fl dZ uY).drop 6) (zj v f c u q z t false) 2 .normal nO (gT v f c u (q.set z.toNat t) z):=
 wy [ah h1,ah h2,jf 3 (.int .i64) h2,ax h3,ax h4,mM 3 (.int .i64) (Eq.refl (q.set z.toNat t))] 7427664142692601176974434368
def ala (z t:Int) (h1:i6 (t-1)):
  cY iB (fl dZ Hw) 3 (zj v f c u q z t true) 1 .normal nO (sV v f c u q z (t-1) 0 0):=
 wy [yi h1] 1
def alb (z t cV:Int) (i:Nat) (h1:(i:Int)<(v.length:Int)) (h2:i6 ((i:Int)+z)) (h3:0<=(i:Int)+z) (h4:((i:Int)+z).toNat<u.length) (h5:(bz 3 (.int .i64) (some (bl.own 3 (.int .i64) u)) ((i:Int)+z).toNat)=true) (h6:i<v.length) (h7:i6 (u.getD ((i:Int)+z).toNat 0+v.getD i 0)) (h8:i6 (u.getD ((i:Int)+z).toNat 0+v.getD i 0+cV)) (h9:i6 (Int.tdiv (u.getD ((i:Int)+z).toNat 0+v.getD i 0+cV) 1000000000)) (h10:i6 ((i:Int)+1)) (h11:u.length=(u.set ((i:Int)+z).toNat (Int.tmod (u.getD ((i:Int)+z).toNat 0+v.getD i 0+cV) 1000000000)).length):
  bt iB (fl dZ Nz) (sV v f c u q z t cV i) 3 .normal nO (sV v f c (u.set ((i:Int)+z).toNat (Int.tmod (u.getD ((i:Int)+z).toNat 0+v.getD i 0+cV) 1000000000)) q z t (Int.tdiv (u.getD ((i:Int)+z).toNat 0+v.getD i 0+cV) 1000000000) (i+1)):=
 wy [ah h1,yi h2,ah h3,ah h4,af (show(bz 3 (.int .i64) (some (bl.own 3 (.int .i64) u)) ((0:Nat)+((i:Int)+z).toNat))=true from(by simp only [aw]<;>exact h5)),af (aF (v:=iv (u.getD ((0:Nat)+((i:Int)+z).toNat) (0:Int)))),ah h6,af (aF (v:=iv (v.getD i (0:Int)))),af (show(fits IntKind.i64 (u.getD ((0:Nat)+((i:Int)+z).toNat) (0:Int)+v.getD i (0:Int)))=true from(by simp only [aw]<;>exact eN h7)),af (show(fits IntKind.i64 (u.getD ((0:Nat)+((i:Int)+z).toNat) (0:Int)+v.getD i (0:Int)+cV))=true from(by simp only [aw]<;>exact eN h8)),af (show(fits IntKind.i64 (Int.tdiv (u.getD ((0:Nat)+((i:Int)+z).toNat) (0:Int)+v.getD i (0:Int)+cV) (1000000000:Int)))=true from(by simp only [aw]<;>exact eN h9)),yi h10,ax h11,ax (show(Int.tdiv (u.getD ((0:Nat)+((i:Int)+z).toNat) (0:Int)+v.getD i (0:Int)+cV) (1000000000:Int))=(Int.tdiv (u.getD ((i:Int)+z).toNat (0:Int)+v.getD i (0:Int)+cV) (1000000000:Int))from(by simp only [aw]<;>rfl)),ax (show(u.set ((0:Nat)+((i:Int)+z).toNat) (Int.tmod (u.getD ((0:Nat)+((i:Int)+z).toNat) (0:Int)+v.getD i (0:Int)+cV) (1000000000:Int)))=(u.set ((i:Int)+z).toNat (Int.tmod (u.getD ((i:Int)+z).toNat (0:Int)+v.getD i (0:Int)+cV) (1000000000:Int)))from(by simp only [aw]<;>rfl))] 6027390781975829659609134758914141726976902255265616766185601
def alc (z t cV:Int) (i:Nat) (h1:¬(i:Int)<(v.length:Int)):
  bt iB (fl dZ Nz) (sV v f c u q z t cV i) 2 (.exit 6) nO (sV v f c u q z t cV i):=
 wy [aJ h1] 1
def ald (z t cV:Int) (i:Nat) (h1:i6 (z+(v.length:Int))) (h2:0<=z+(v.length:Int)) (h3:(z+(v.length:Int)).toNat<u.length) (h4:(bz 3 (.int .i64) (some (bl.own 3 (.int .i64) u)) (z+(v.length:Int)).toNat)=true) (h5:i6 (u.getD (z+(v.length:Int)).toNat 0+cV)) (h6:u.length=(u.set (z+(v.length:Int)).toNat (u.getD (z+(v.length:Int)).toNat 0+cV)).length):
  bt iB ((fl dZ Hw).drop 4) (sV v f c u q z t cV i) 1 .normal nO (NB v f c (u.set (z+(v.length:Int)).toNat (u.getD (z+(v.length:Int)).toNat 0+cV)) q z t):=
 wy [yi h1,ah h2,ah h3,af (show(bz 3 (.int .i64) (some (bl.own 3 (.int .i64) u)) ((0:Nat)+(z+(v.length:Int)).toNat))=true from(by simp only [aw]<;>exact h4)),af (show(fits IntKind.i64 (u.getD ((0:Nat)+(z+(v.length:Int)).toNat) (0:Int)+cV))=true from(by simp only [aw]<;>exact eN h5)),ax h6,ax (show(u.set ((0:Nat)+(z+(v.length:Int)).toNat) (u.getD ((0:Nat)+(z+(v.length:Int)).toNat) (0:Int)+cV))=(u.set (z+(v.length:Int)).toNat (u.getD (z+(v.length:Int)).toNat (0:Int)+cV))from(by simp only [aw]<;>rfl))] 9304595970496224499057210602646413377
def ale (z t:Int) (h1:0<=z) (h2:z.toNat<q.length) (h3:q.length=(q.set z.toNat t).length) (h4:(bH q.length)=(bH (q.set z.toNat t).length)):
  bt iB ((fl dZ uY).drop 7) (NB v f c u q z t) 1 .normal nO (gT v f c u (q.set z.toNat t) z):=
 wy [ah h1,ah h2,jf 3 (.int .i64) h2,ax h3,ax h4,mM 3 (.int .i64) (Eq.refl (q.set z.toNat t))] 116057252229571893390225537
def alf (z:Int) (h1:i6 (z-1)):
  bt iB ((fl dZ DU).drop 3) (gT v f c u q z) 1 .normal nO (gT v f c u q (z-1)):=
 wy [yi h1] 1
def alg (z:Int) (h1:v.length<=u.length) (h2:(Nat.beq v.length 0||bz 3 (.int .i64) (some (bl.own 3 (.int .i64) u)) (v.length-1))=true) (h3:((u.drop 0).take v.length).length<=1000000) (h4:Int.toNat 0<List.length [f]) (h5:(okB (ew ((u.drop 0).take v.length))&&(decide ((1:av.den (.int .i64))<=List.getD [f] (Int.toNat 0) 0)&&decide (List.getD [f] (Int.toNat 0) 0<(1000000000:av.den (.int .i64)))))=true) (h6:(Nat.beq q.length 0||bz 3 (.int .i64) (bU 3 (.int .i64) q) (q.length-1))=true) (h7:((q.drop 0).take q.length).length<=1000000) (h8:(aK (ag (ew ((u.drop 0).take v.length))/List.getD [f] (Int.toNat 0) 0))=(aK (ag (ew ((u.drop 0).take v.length))/f))):
  bS iB ((fl dZ []).drop 13) (gT v f c u q z) 3 f131 false (.tuple [lv (ew ((q.drop 0).take q.length)),lv (aK (ag (ew ((u.drop 0).take v.length))/f))]):=
 wy [ah h1,af (show(Nat.beq v.length (0:Nat)||bz 3 (.int .i64) (some (bl.own 3 (.int .i64) u)) ((0:Nat)+v.length-(1:Nat)))=true from(by simp only [aw]<;>exact h2)),ah h3,ah h4,af (aF (v:=iv (List.getD [f] (0:Int).toNat (0:Int)))),af h5,af (show(Nat.beq q.length (0:Nat)||bz 3 (.int .i64) (bU 3 (.int .i64) q) ((0:Nat)+q.length-(1:Nat)))=true from(by simp only [aw]<;>exact h6)),af (show(decide ((((bN (.int .i64) (bU 3 (.int .i64) q)).drop (0:Nat)).take q.length).length<=(1000000:Nat)))=true from(by simp only [ep]<;>exact az h7)),ax (show(ew (((bN (.int .i64) (bU 3 (.int .i64) q)).drop (0:Nat)).take q.length))=(ew ((q.drop (0:Nat)).take q.length))from(by simp only [ep]<;>rfl)),ax h8] 196186516682196595138105344
end
end
def alh {v1 v2 v' aH u1 u2 u' s:Int} (p:AW 1000000000 v1 v2 v' aH u1 u2 u' s) (hn:500000000<=v1) (hlt:nE 1000000000 aH u1 u2 u' s<1000000000*gG 1000000000 v1 v2 v' s) {Q:Int} (wT:0<=Q) (hQ:Q*gG 1000000000 v1 v2 v' s<=nE 1000000000 aH u1 u2 u' s) (GY:Q<1000000000) (Vx:∀T,(T-1)*gG 1000000000 v1 v2 v' s<=nE 1000000000 aH u1 u2 u' s->T<=Q+1):
  ∀(f:Nat) (t r:Int),aH*1000000000+u1=t*v1+r->0<=r->Q<=t->(f=2\/(f=1/\1000000000<=r+v1))->Q<=oC v1 v2 u2 f t r/\oC v1 v2 u2 f t r<=Q+1:=by
 have sK:aH*1000000000+u1<1000000000*(v1+1):=by
  have hs:=p.s1;have h2:=p.v2;have h3:=p.v';have g2:=p.u2;have g3:=p.u';unfold nE gG at hlt;have a1:((aH*1000000000+u1)*1000000000+u2)*s=(aH*1000000000+u1)*(1000000000*s)+u2*s:=by rw [Int.add_mul,Int.mul_assoc]
  have a3:(v1*1000000000+v2)*s=v1*(1000000000*s)+v2*s:=by rw [Int.add_mul,Int.mul_assoc]
  have a2:0<=u2*s:=Int.mul_nonneg g2.1 ω;have a4:v2*s<=999999999*s:=ar ω ω;have a5:(1000000000*(v1+1))*(1000000000*s)=1000000000*(v1*(1000000000*s)+1000000000*s):=by rw [Int.mul_assoc,Int.add_mul,Int.one_mul]
  rw [a1,a3]at hlt;refine w7 (x:=1000000000*s) ?_ ω;rw [a5];generalize v1*(1000000000*s)=dD at*;generalize v2*s=z2 at*;generalize u2*s=z3 at*;generalize (aH*1000000000+u1)*(1000000000*s)=z4 at*;omega
 intro f;induction f with
 |zero=>intro t r _ _ _ hf;omega
 |succ g ih=>
  intro t r he hr ali hf;have DW:aH*1000000000+u1-t*v1=r:=by omega
  unfold oC;by_cases hc:1000000000<=t\/r*1000000000+u2<t*v2
  .rw [if_pos hc];have hlt2:Q<t:=by
    rcases hc with hc|hc
    .omega
    .exact Th p ω hQ (by rw [DW];exact hc)
   have et:(t-1)*v1=t*v1-v1:=by rw [Int.sub_mul,Int.one_mul]
   by_cases h4:1000000000<=r+v1
   .rw [if_pos h4];refine⟨by omega, ?_⟩;have Vy:t-1<1000000000:=by
     refine Int.not_le.1 fun hh=> ?_
     have:=ar hh (show 0<=v1 by omega);omega
    exact Vx _ (Lz p ⟨by omega,Vy⟩ (Ti p ⟨by omega,Vy⟩ ω))
   .rw [if_neg h4];exact ih (t-1) (r+v1) ω ω ω ω
  .rw [if_neg hc];exact⟨ali,Vx _ (Lz p ⟨by omega,by omega⟩ (by rw [DW];omega))⟩
def zp {u:List Int} {j m i:Nat} (h:i<m):((u.drop j).take m).getD i 0=u.getD (j+i) 0:=by
 simp only [ao,List.getElem?_take,List.getElem?_drop,if_pos h]
def alj {u v:List Int} {j n:Nat} (hu:aS 1000000000 u) (hv:aS 1000000000 v) (lv:v.length=n+2) (bI:j+(n+3)<=u.length) (h1:500000000<=v.getD (n+1) 0) (hW:ag ((u.drop j).take (n+3))<1000000000*ag v):
  ag ((u.drop j).take (n+3))/ag v<=rB u v j/\rB u v j<=ag ((u.drop j).take (n+3))/ag v+1:=by
 have hD:aS 1000000000 ((u.drop j).take (n+3)):=(hu.drop _).take _;have Hx:((u.drop j).take (n+3)).length=n+3:=by rw [ek,mb];omega
 have p:=L0 (b:=1000000000) δ hD hv Hx lv ω;have sH:gG 1000000000 (v.getD (n+1) 0) (v.getD n 0) (vl 1000000000 (v.take n)) (1000000000^n)=ag v:=L1 lv;have Bc:=L2 (b:=1000000000) Hx;have iz:0<ag v:=by
  rw [<-sH];unfold gG;have q1:=p.v1;have aQ:=p.v2;have b7:=p.v';have ez:=p.s1;have:1*1<=(v.getD (n+1) 0*1000000000+v.getD n 0)*1000000000^n:=Int.mul_le_mul ω ez ω ω;omega
 have Hy:0<=ag ((u.drop j).take (n+3)):=eh hD;have i0:((j:Int)+(v.length:Int)).toNat=j+(n+2):=by omega
 have i1:((j:Int)+(v.length:Int)-1).toNat=j+(n+1):=by omega
 have i2:((j:Int)+(v.length:Int)-2).toNat=j+n:=by omega
 have i3:((v.length:Int)-1).toNat=n+1:=by omega
 have i4:((v.length:Int)-2).toNat=n:=by omega
 have d0:=zp (u:=u) (j:=j) (m:=n+3) (i:=n+2) ω;have d1:=zp (u:=u) (j:=j) (m:=n+3) (i:=n+1) ω;have d2:=zp (u:=u) (j:=j) (m:=n+3) (i:=n) ω;have hQ:=Int.ediv_mul_le (ag ((u.drop j).take (n+3))) (show ag v≠0 by omega);have GY:ag ((u.drop j).take (n+3))/ag v<1000000000:=(Int.ediv_lt_iff_lt_mul iz).2 hW;have Hz:nE 1000000000 (((u.drop j).take (n+3)).getD (n+2) 0) (((u.drop j).take (n+3)).getD (n+1) 0) (((u.drop j).take (n+3)).getD n 0) (vl 1000000000 (((u.drop j).take (n+3)).take n)) (1000000000^n)=ag ((u.drop j).take (n+3)):=Bc;have q1:=p.aH;have aQ:=p.u1;have DD:0<=((u.drop j).take (n+3)).getD (n+2) 0*1000000000+((u.drop j).take (n+3)).getD (n+1) 0:=by omega
 have key:=alh p h1 (by rw [Hz,sH];exact hW) (Q:=ag ((u.drop j).take (n+3))/ag v) (Int.ediv_nonneg Hy ω) (by rw [Hz,sH];exact hQ) GY (fun T hT=>by
  rw [Hz,sH]at hT;have:=Int.le_ediv_of_mul_le iz hT;omega) 2 ((((u.drop j).take (n+3)).getD (n+2) 0*1000000000+((u.drop j).take (n+3)).getD (n+1) 0)/v.getD (n+1) 0) ((((u.drop j).take (n+3)).getD (n+2) 0*1000000000+((u.drop j).take (n+3)).getD (n+1) 0)%v.getD (n+1) 0) (by
   have:=Int.emod_add_mul_ediv (((u.drop j).take (n+3)).getD (n+2) 0*1000000000+((u.drop j).take (n+3)).getD (n+1) 0) (v.getD (n+1) 0);rw [Int.mul_comm (v.getD (n+1) 0)]at this;omega) (dr _ ω) (by
   have hf:=Tj p (q:=ag ((u.drop j).take (n+3))/ag v) (Int.ediv_nonneg Hy ω) (by rw [Hz,sH];exact hQ);exact Int.le_ediv_of_mul_le ω hf) (.inl rfl)
 have alk:rB u v j=oC (v.getD (n+1) 0) (v.getD n 0) (((u.drop j).take (n+3)).getD n 0) 2 ((((u.drop j).take (n+3)).getD (n+2) 0*1000000000+((u.drop j).take (n+3)).getD (n+1) 0)/v.getD (n+1) 0) ((((u.drop j).take (n+3)).getD (n+2) 0*1000000000+((u.drop j).take (n+3)).getD (n+1) 0)%v.getD (n+1) 0):=by
  rw [d0,d1,d2];unfold rB fx cM nN pW;rw [Int.toNat_natCast,i0,i1,i2,i3,i4]
 rw [alk];exact key
structure DX (d0 v:List Int) (t:Int) (n:Nat) (d:List Int) (bo:Int) (i:Nat):Prop where
 len:d.length=n+1
 dg:aS 1000000000 (d.take n)
 top:d.getD n 0=d0.getD n 0
 qx:0<=bo/\bo<=1000000000
 val:ag d-1000000000^i*bo=ag d0-t*ag (v.take i)
def x6 {d:List Int} {n i:Nat} (h:i<n):(d.take n).getD i 0=d.getD i 0:=by
 simp only [ao,List.getElem?_take,if_pos h]
def Vz {d:List Int} {n i:Nat} (h:aS 1000000000 (d.take n)) (hi:i<n):0<=d.getD i 0/\d.getD i 0<1000000000:=by
 rw [<-x6 hi];exact h.get δ i
def DX.step {d0 v:List Int} {t:Int} {n:Nat} {d:List Int} {bo:Int} {i:Nat} (I:DX d0 v t n d bo i) (hi:i<n) {x sx:Int} (hx:0<=x/\x<1000000000) (hb:0<=sx/\sx<=1000000000) (he:x-1000000000*sx=d.getD i 0-(t*v.getD i 0+bo)):DX d0 v t n (d.set i x) sx (i+1):=by
 have hl:=I.len;refine⟨by rw [b6];exact hl,by rw [List.take_set];exact I.dg.set hx,by rw [ou,if_neg ω];exact I.top,hb, ?_⟩;have hv:=I.val;unfold ag at hv ⊢;rw [qU _ _ _ _ ω,kX v,Int.pow_succ];generalize vl 1000000000 d=dD at*;generalize vl 1000000000 d0=z2 at*;generalize vl 1000000000 (v.take i)=z3 at*;generalize (1000000000:Int)^i=P at*;generalize d.getD i 0=y at*;generalize v.getD i 0=w at*;have e:P*(x-1000000000*sx)=P*(y-(t*w+bo)):=by rw [he]
 grind
def alm {t w bo:Int} (ht:0<=t/\t<=1000000000) (hw:0<=w/\w<1000000000) (hb:0<=bo/\bo<=1000000000):
  (0<=t*w/\t*w<=999999999000000000)/\Int.tmod (t*w+bo) 1000000000+1000000000*Int.tdiv (t*w+bo) 1000000000=t*w+bo/\(0<=Int.tmod (t*w+bo) 1000000000/\Int.tmod (t*w+bo) 1000000000<1000000000)/\(0<=Int.tdiv (t*w+bo) 1000000000/\Int.tdiv (t*w+bo) 1000000000<=1000000000):=by
 have h0:0<=t*w:=Int.mul_nonneg ht.1 hw.1;have h1:t*w<=1000000000*999999999:=Int.mul_le_mul ht.2 ω hw.1 δ;rw [Int.tmod_eq_emod_of_nonneg ω,Int.tdiv_eq_ediv_of_nonneg ω];generalize t*w=p at*;omega
structure DY (d0 v:List Int) (n:Nat) (d:List Int) (cV:Int) (i:Nat):Prop where
 len:d.length=n+1
 dg:aS 1000000000 (d.take n)
 top:d.getD n 0=d0.getD n 0
 qx:0<=cV/\cV<=1
 val:ag d+1000000000^i*cV=ag d0+ag (v.take i)
def DY.step {d0 v:List Int} {n:Nat} {d:List Int} {cV:Int} {i:Nat} (I:DY d0 v n d cV i) (hi:i<n) {x Bz:Int} (hx:0<=x/\x<1000000000) (hb:0<=Bz/\Bz<=1) (he:x+1000000000*Bz=d.getD i 0+v.getD i 0+cV):DY d0 v n (d.set i x) Bz (i+1):=by
 have hl:=I.len;refine⟨by rw [b6];exact hl,by rw [List.take_set];exact I.dg.set hx,by rw [ou,if_neg ω];exact I.top,hb, ?_⟩;have hv:=I.val;unfold ag at hv ⊢;rw [qU _ _ _ _ ω,kX v,Int.pow_succ];generalize vl 1000000000 d=dD at*;generalize vl 1000000000 d0=z2 at*;generalize vl 1000000000 (v.take i)=z3 at*;generalize (1000000000:Int)^i=P at*;generalize d.getD i 0=y at*;generalize v.getD i 0=w at*;have e:P*(x+1000000000*Bz)=P*(y+w+cV):=by rw [he]
 grind
section
variable {d:List Int} {n:Nat}
def tg (hl:d.length=n+1) (hd:aS 1000000000 (d.take n)):ag d=ag (d.take n)+1000000000^n*d.getD n 0/\0<=ag (d.take n)/\ag (d.take n)<1000000000^n:=by
 have h1:=lS (b:=1000000000) (l:=d) (k:=n) ω;rw [eH ω]at h1;have h2:=dt (b:=1000000000) δ hd;rw [ek,Nat.min_eq_left ω]at h2;exact⟨h1,eh hd,h2⟩
def aln (hl:d.length=n+1) (hd:aS 1000000000 (d.take n)):d.getD n 0<0↔ag d<0:=by
 obtain⟨h1,h2,h3⟩:=tg hl hd;have hP:=dR (b:=1000000000) δ n;generalize d.getD n 0=x at*;constructor
 .intro hx;have:=dn (show x<= -1 by omega) (cr hP);omega
 .intro hx;refine Int.not_le.1 fun h=> ?_
  have:=Int.mul_nonneg (cr hP) h;omega
def VA {R:Int} (hl:d.length=n+1) (hd:aS 1000000000 (d.take n)) (hv:ag d=R) (h0:0<=R) (h1:R<1000000000^n):d=fS 1000000000 (n+1) R:=by
 obtain⟨g1,g2,g3⟩:=tg hl hd;have hP:=dR (b:=1000000000) δ n;have hx:d.getD n 0=0:=by
  generalize d.getD n 0=x at*;rcases Int.lt_trichotomy x 0 with h|h|h
  .have:=dn (show x<= -1 by omega) (cr hP);omega
  .exact h
  .have:=dn (show 1<=x by omega) (cr hP);omega
 have hdd:aS 1000000000 d:=by
  have e:=Td (l:=d) (k:=n) ω;rw [eH ω,hx]at e;rw [e];exact hd.app (.cons ⟨Int.le_refl _,by decide⟩ .nil)
 have:=LZ δ hdd;rw [hl]at this;rw [<-hv];exact this
end
noncomputable section
def DZ:bC prog (bF iB):=S5 (fun c hc=>by rw [List.mem_singleton.1 hc];exact akU) (uM (fun c hc=>by rw [List.mem_singleton.1 hc];exact Nk) (cK fun c hc=>by
 simp only [en,ki,or_false]at hc;rcases hc with rfl |rfl |rfl
 .exact Vr
 .exact akQ
 .exact Vv))
def zk {p d r:List Int} {n:Nat} (h:d.length=n+1):(p++(d++r)).length=p.length+(n+1)+r.length:=by
 simp only [cQ,h];omega
abbrev VB (v:List Int) (f:Int) (c:aX) (u q:List Int) (z:Int):Exit->au aa->ai->Prop:=fun e T H=>e= .normal/\T=(gT v f c u q z).T/\H=(gT v f c u q z).H
section
variable {v:List Int} {f:Int} {c:aX} {p d0 r q:List Int}
def Pi {t R:Int} {n:Nat} (hv:aS 1000000000 v) (lv:v.length=n) (ny:1<=n) (hn:n<=1000000) (hp:p.length<=1000000) (hq:p.length<q.length) (HA:d0.length=n+1) (hd:aS 1000000000 (d0.take n)) (ht: -1000000000<=d0.getD n 0/\d0.getD n 0<=1000000000) (ht1:0<=t/\t<=1000000000) (hR:ag d0+ag v=R) (h0:0<=R) (h1:R<1000000000^n) (w:World) (F:Sv.Env):
  aU prog w F 206 ((fl dZ uY).drop 6) (zj v f c (p++(d0++r)) q (p.length:Int) t true).T (zj v f c (p++(d0++r)) q (p.length:Int) t true).H (VB v f c (p++(fS 1000000000 (n+1) R++r)) (q.set p.length (t-1)) (p.length:Int)):=by
 have hS:=DZ;refine Ue (X:=pz) (o:= .tmp 145) (x:=cat dZ Hw) (y:= .skip) (rest:=(fl dZ uY).drop 7) (by kernel_rfl) (by kernel_rfl) ?_;refine c6 (s:=zj v f c (p++(d0++r)) q (p.length:Int) t true) hS 3 (ala v f c (p++(d0++r)) q (p.length:Int) t ω) ?_;refine aU.loop (ι:={x:List Int×Int×Nat//x.2.2<=n/\DY d0 v n x.1 x.2.1 x.2.2}) (id:=6) (b:=cat dZ Nz) (rest:=(fl dZ Hw).drop 4) (by kernel_rfl) (fun x=>sV v f c (p++(x.1.1++r)) q (p.length:Int) (t-1) x.1.2.1 x.1.2.2) (fun x=>n-x.1.2.2)
  ⟨(d0,0,0),Nat.zero_le _,⟨HA,hd,rfl,⟨Int.le_refl 0,show(0:Int)<=1 by decide⟩,by simp [ag,vl]⟩⟩ (fun _=>rfl) ?_
 rintro⟨⟨d,cV,i⟩,hi,I⟩;have hi:i<=n:=hi;have I:DY d0 v n d cV i:=I;have hl:=I.len;have hc:=I.qx;have hL:=zk (p:=p) (r:=r) hl;have jB:((i:Int)+(p.length:Int)).toNat=p.length+i:=by omega
 have bJ:((p.length:Int)+(v.length:Int)).toNat=p.length+n:=by omega
 by_cases hlt:i<n
 .have alo:=Vz I.dg hlt;have wR:=hv.get δ i;have hs0:0<=d.getD i 0+v.getD i 0+cV:=by omega
  have key:=alb v f c (p++(d++r)) q (p.length:Int) (t-1) cV i ω ω ω;rw [jB,ov ω,uK ω,Int.tmod_eq_emod_of_nonneg hs0,Int.tdiv_eq_ediv_of_nonneg hs0]at key;refine bx (s:=sV v f c (p++(d++r)) q (p.length:Int) (t-1) cV i) hS (key ω (pX ω) ω ω ω ω ω (by simp only [cQ,b6])) ?_;have N:=I.step hlt (x:=(d.getD i 0+v.getD i 0+cV)%1000000000) (Bz:=(d.getD i 0+v.getD i 0+cV)/1000000000) ω ω ω;exact⟨⟨(_,_,i+1),by show i+1<=n;omega,N⟩,by show n-(i+1)<n-i;omega,rfl,rfl⟩
 .obtain rfl:i=n:=by omega
  refine bx (s:=sV v f c (p++(d++r)) q (p.length:Int) (t-1) cV i) hS (alc v f c _ q _ (t-1) cV i ω) ?_;refine cy (cF ?_);have sK:=I.top;have key:=ald v f c (p++(d++r)) q (p.length:Int) (t-1) cV i ω ω;rw [bJ,ov ω,uK ω]at key;have hval:=I.val;rw [eH ω]at hval;have l2:(d.set i (d.getD i 0+cV)).length=i+1:=by rw [b6];exact hl
  have g2:aS 1000000000 ((d.set i (d.getD i 0+cV)).take i):=by rw [AX];exact I.dg
  have v2:ag (d.set i (d.getD i 0+cV))=R:=by
   unfold ag at hval hR ⊢;rw [qU _ _ _ _ ω,show d.getD i 0+cV-d.getD i 0=cV by omega];omega
  have e2:=VA l2 g2 v2 h0 h1;rw [e2]at key;refine bx (s:=sV v f c (p++(d++r)) q (p.length:Int) (t-1) cV i) hS (key ω (pX ω) ω (by rw [hL,zk (yP _ _ _)])) ?_;have kV:=ale v f c (p++(fS 1000000000 (i+1) R++r)) q (p.length:Int) (t-1);rw [Int.toNat_natCast]at kV;refine bx (s:=NB v f c (p++(fS 1000000000 (i+1) R++r)) q (p.length:Int) (t-1)) hS (kV ω hq (by rw [b6]) (by rw [b6])) ?_;exact⟨rfl,rfl,rfl⟩
def alp {V:Int} {n:Nat} (hu:aS 1000000000 (p++(d0++r))) (hv:aS 1000000000 v) (lv:v.length=n) (ny:2<=n) (fN:(p++(d0++r)).length<=1000000) (hq:p.length<q.length) (HA:d0.length=n+1) (hV:ag v=V) (iz:0<V) (sL:V<1000000000^n) (sK:500000000<=v.getD (n-1) 0) (hW:ag d0<1000000000*V) (w:World) (F:Sv.Env):
  aU prog w F 206 (fl dZ uY) (gT v f c (p++(d0++r)) q (p.length:Int)).T (gT v f c (p++(d0++r)) q (p.length:Int)).H (VB v f c (p++(fS 1000000000 (n+1) (ag d0%V)++r)) (q.set p.length (ag d0/V)) (p.length:Int)):=by
 have hS:=DZ;have hL:=zk (p:=p) (r:=r) HA;have Df:aS 1000000000 d0:=hu.right.left;have wV:((p++(d0++r)).drop p.length).take (n+1)=d0:=by
  rw [List.drop_append,Nat.sub_self,List.drop_zero,List.drop_eq_nil_of_le (aI _),List.nil_append,List.take_append,eH ω,show n+1-d0.length=0 by omega,List.take_zero,List.append_nil]
 obtain⟨m,rfl⟩:∃m,n=m+2:=⟨n-2,by omega⟩;have hg:=alj (u:=p++(d0++r)) (j:=p.length) (n:=m) hu hv lv ω sK (by rw [wV,hV];exact hW);rw [wV,hV]at hg;have Hy:0<=ag d0:=eh Df;have GY:ag d0/V<1000000000:=(Int.ediv_lt_iff_lt_mul iz).2 hW;have wT:0<=ag d0/V:=Int.ediv_nonneg Hy (cr iz);have ug:=Int.emod_add_mul_ediv (ag d0) V;have hm0:=dr (ag d0) (show V≠0 by omega);have pN:=c7 (ag d0) iz;have hpre:Bx (p++(d0++r)) 0 (p++(d0++r)).length v (p.length:Int)=true:=by
  unfold Bx;have i3:((v.length:Int)-1).toNat=m+1:=by omega
  have h5:500000000<=cM v:=by unfold cM;rw [i3];exact sK
  rw [Nat.beq_refl,Nat.beq_refl,pf.2 hu,pf.2 hv,az (show 2<=v.length by omega),az (show(0:Int)<=(p.length:Int) by omega),az (show(p.length:Int)+(v.length:Int)<((p++(d0++r)).length:Int) by omega),az h5,az fN];rfl
 have hown:(bz (gQ.e xd) (gQ.t xd) (some (bl.own 3 (.int .i64) (p++(d0++r)))) ((p++(d0++r)).length-1)&&Nat.ble 1 (p++(d0++r)).length)=true:=by
  rw [fF ω,Bool.and_true];exact pX ω
 refine c6 (s:=gT v f c (p++(d0++r)) q (p.length:Int)) hS 3 (ak4 v f c (p++(d0++r)) q (p.length:Int) hown hpre) ?_;generalize ht:rB (p++(d0++r)) v (p.length:Int)=t at hg ⊢;refine aU.loop (ι:={x:List Int×Int×Nat//x.2.2<=m+2/\DX d0 v t (m+2) x.1 x.2.1 x.2.2}) (id:=4) (b:=cat dZ Hv) (rest:=(fl dZ uY).drop 4) (by kernel_rfl) (fun x=>oD v f c (p++(x.1.1++r)) q (p.length:Int) t x.1.2.1 x.1.2.2) (fun x=>m+2-x.1.2.2)
  ⟨(d0,0,0),Nat.zero_le _,⟨HA,Df.take _,rfl,⟨Int.le_refl 0,show(0:Int)<=1000000000 by decide⟩,by simp [ag,vl]⟩⟩ (fun _=>rfl) ?_
 rintro⟨⟨d,bo,i⟩,hi,I⟩;have hi:i<=m+2:=hi;have I:DX d0 v t (m+2) d bo i:=I;have hl:=I.len;have hc:=I.qx;have hL:=zk (p:=p) (r:=r) hl;have jB:((i:Int)+(p.length:Int)).toNat=p.length+i:=by omega
 have bJ:((p.length:Int)+(v.length:Int)).toNat=p.length+(m+2):=by omega
 by_cases hlt:i<m+2
 .have alo:=Vz I.dg hlt;have wR:=hv.get δ i;obtain⟨s1,s2,s3,GW⟩:=alm (t:=t) (w:=v.getD i 0) (bo:=bo) ω wR hc;by_cases hneg:d.getD i 0-Int.tmod (t*v.getD i 0+bo) 1000000000<0
  .have key:=ak5 v f c (p++(d++r)) q (p.length:Int) t bo i ω ω ω ω ω ω;rw [jB,ov ω,uK ω]at key;have N:=I.step hlt (x:=d.getD i 0-Int.tmod (t*v.getD i 0+bo) 1000000000+1000000000) (sx:=Int.tdiv (t*v.getD i 0+bo) 1000000000+1) ω ω ω;refine bx (s:=oD v f c (p++(d++r)) q (p.length:Int) t bo i) hS (key ω (pX ω) ω ω hneg ω ω ω (by simp only [cQ,b6])) ?_;exact⟨⟨(_,_,i+1),by show i+1<=m+2;omega,N⟩,by show m+2-(i+1)<m+2-i;omega,rfl,rfl⟩
  .have key:=ak6 v f c (p++(d++r)) q (p.length:Int) t bo i ω ω ω ω ω ω;rw [jB,ov ω,uK ω]at key;have N:=I.step hlt (x:=d.getD i 0-Int.tmod (t*v.getD i 0+bo) 1000000000) (sx:=Int.tdiv (t*v.getD i 0+bo) 1000000000) ω ω ω;refine bx (s:=oD v f c (p++(d++r)) q (p.length:Int) t bo i) hS (key ω (pX ω) ω ω hneg ω (by simp only [cQ,b6])) ?_;exact⟨⟨(_,_,i+1),by show i+1<=m+2;omega,N⟩,by show m+2-(i+1)<m+2-i;omega,rfl,rfl⟩
 .obtain rfl:i=m+2:=by omega
  refine bx (s:=oD v f c (p++(d++r)) q (p.length:Int) t bo (m+2)) hS (ak7 v f c _ q _ t bo (m+2) ω) ?_;refine cy (cF ?_);have auE:=I.top;have hx0:=Df.get δ (m+2);have key:=ak8 v f c (p++(d++r)) q (p.length:Int) t bo (m+2) ω ω;rw [bJ,ov ω,uK ω,ov (by rw [b6];omega),wF ω]at key;have hval:=I.val;rw [eH ω,hV]at hval;have l2:(d.set (m+2) (d.getD (m+2) 0-bo)).length=m+2+1:=by rw [b6];exact hl
  have g2:aS 1000000000 ((d.set (m+2) (d.getD (m+2) 0-bo)).take (m+2)):=by rw [AX];exact I.dg
  have t2:(d.set (m+2) (d.getD (m+2) 0-bo)).getD (m+2) 0=d.getD (m+2) 0-bo:=wF ω;have v2:ag (d.set (m+2) (d.getD (m+2) 0-bo))=ag d0-t*V:=by
   rw [<-hval];unfold ag;rw [qU _ _ _ _ ω,show d.getD (m+2) 0-bo-d.getD (m+2) 0= -bo by omega,Int.mul_neg];omega
  have lU:=aln l2 g2;rw [t2,v2]at lU;refine c6 (s:=oD v f c (p++(d++r)) q (p.length:Int) t bo (m+2)) hS 2 (key ω (pX ω) ω (pX (by rw [zk l2];omega)) (by rw [hL,zk l2]) rfl) ?_;have auF:=zk (p:=p) (r:=r) l2;by_cases hneg:d.getD (m+2) 0-bo<0
  .rw [az hneg];have hR:=lU.1 hneg;have ht:t=ag d0/V+1:=by
    rcases Int.lt_or_le (ag d0/V) t with h|h
    .omega
    .have e:t=ag d0/V:=by omega
     rw [e,Int.mul_comm]at hR;omega
   have e1:ag d0-t*V+V=ag d0%V:=by
    rw [ht,Int.add_mul,Int.one_mul,Int.mul_comm (ag d0/V)];omega
   have e2:t-1=ag d0/V:=by omega
   rw [<-e2];exact Pi hv lv ω ω ω hq l2 g2 (by rw [t2];omega) ω (by rw [v2,hV];exact e1) hm0 ω w F
  .rw [ab hneg];have hR:¬ag d0-t*V<0:=fun h=>hneg (lU.2 h)
   have ht:t=ag d0/V:=by
    rcases Int.lt_or_le (ag d0/V) t with h|h
    .have e:t=ag d0/V+1:=by omega
     rw [e,Int.add_mul,Int.one_mul,Int.mul_comm (ag d0/V)]at hR;omega
    .omega
   have e1:ag d0-t*V=ag d0%V:=by
    rw [ht,Int.mul_comm (ag d0/V)];omega
   have e2:=VA l2 g2 (v2.trans e1) hm0 ω;have kV:=ak9 v f c (p++(fS 1000000000 (m+2+1) (ag d0%V)++r)) q (p.length:Int) t;rw [Int.toNat_natCast]at kV;rw [e2,<-ht];refine bx (s:=zj v f c (p++(fS 1000000000 (m+2+1) (ag d0%V)++r)) q (p.length:Int) t false) hS (kV ω hq (by rw [b6]) (by rw [b6])) ?_;exact⟨rfl,rfl,rfl⟩
end
abbrev VC (x y:List Int):Exit->au aa->ai->Prop:=hG prog false f131 (.tuple [lv x,lv y])
def alq {u:List Int} {j n:Nat} (h:j+(n+1)<=u.length):u=u.take j++((u.drop j).take (n+1)++u.drop (j+(n+1)))/\(u.take j).length=j/\((u.drop j).take (n+1)).length=n+1:=by
 refine⟨?_,by rw [ek];omega,by rw [ek,mb];omega⟩;rw [show u.drop (j+(n+1))=(u.drop j).drop (n+1) by rw [List.drop_drop],List.take_append_drop,List.take_append_drop]
def Pl {v:List Int} {f A B:Int} {c:aX} {aH:List Int} {n m:Nat} (Bg:aS 1000000000 aH) (hv:aS 1000000000 v) (lv:v.length=n) (hn:2<=n) (hm:m+n=aH.length) (pN:1<=m) (fN:aH.length<=200000) (hf:1<=f/\f<1000000000)
  (hV:ag v=B*f) (uN:0<B) (lW:0<=A) (Bb:ag aH=A*f) (kD:ag (aH.drop m)<ag v) (sK:500000000<=v.getD (n-1) 0) (w:World) (F:Sv.Env):
  aU prog w F 206 ((fl dZ []).drop 12) (gT v f c aH (gf m) ((m:Int)-1)).T (gT v f c aH (gf m) ((m:Int)-1)).H (VC (aK (A/B)) (aK (A%B))):=by
 have hS:=DZ;have iz:0<ag v:=by rw [hV];exact Int.mul_pos uN ω
 have sL:ag v<1000000000^n:=by rw [<-lv];exact dt δ hv
 have Mt:∀k,(gf m).getD k 0=0:=fun k=>by
  unfold gf;rw [ao,List.getElem?_replicate];split<;>rfl
 refine aU.loop (ι:={x:List Int×List Int×Nat//x.2.2<=m/\x.1.length=aH.length/\aS 1000000000 x.1/\x.2.1.length=m/\aS 1000000000 x.2.1/\ag (x.1.drop x.2.2)<ag v/\ag x.1+ag v*ag x.2.1=A*f/\∀j,j<x.2.2->x.2.1.getD j 0=0}) (id:=2) (b:=cat dZ DU) (rest:=(fl dZ []).drop 13) (by kernel_rfl) (fun x=>gT v f c x.1.1 x.1.2.1 ((x.1.2.2:Int)-1)) (fun x=>x.1.2.2)
  ⟨(aH,gf m,m),aI _,rfl,Bg,pU _,Ns _,kD, ?_,fun j _=>Mt j⟩ (fun _=>rfl) ?_
 .show ag aH+ag v*ag (gf m)=_;have:ag (gf m)=0:=Dk _ m;rw [this,Bb];omega
 rintro⟨⟨u,q,k⟩,hk,hl,iU,hq,jl,kD,hval,hz⟩;have hk:k<=m:=hk;have hl:u.length=aH.length:=hl;have iU:aS 1000000000 u:=iU;have hq:q.length=m:=hq;have jl:aS 1000000000 q:=jl;have kD:ag (u.drop k)<ag v:=kD;have hval:ag u+ag v*ag q=A*f:=hval;have hz:∀j,j<k->q.getD j 0=0:=hz;cases k with
 |zero=>
  refine c6 (s:=gT v f c u q ((0:Nat)-1:Int)) hS 2 (ak3 v f c u q _ ω) ?_;refine cy (cy (cF ?_));rw [List.drop_zero]at kD;have pP:0<=ag u:=eh iU;obtain⟨g1,g2⟩:=L6 (A:=A) (b:=B) (V:=ag v) (S:=f) (U:=ag u) (q:=ag q) ω uN hV hval pP kD;have uL:0<=f*(A%B):=by rw [<-g2];exact pP
  have ht:ag (u.take n)=f*(A%B):=by
   rw [<-g2];exact Dm δ iU (Int.lt_trans kD sL)
  have e1:ew ((u.drop 0).take v.length)=aK (f*(A%B)):=by
   rw [List.drop_zero,lv,ze (iU.take _),ht]
  have e2:ag (aK (f*(A%B)))/f=A%B:=by
   rw [(co uL).2.2,Int.mul_ediv_cancel_left _ ω]
  have hlen:(aK (f*(A%B))).length<=n:=jn lq uL (by rw [<-g2];exact Int.lt_trans kD sL);have key:=alg v f c u q ((0:Nat)-1:Int) ω (by
   rw [Bool.or_eq_true];exact .inr (pX ω)) (by rw [ek,List.drop_zero];omega) τ (by
   rw [e1,oA.2 ⟨(co uL).1,by omega⟩];rw [az (show(1:Int)<=List.getD [f] (Int.toNat 0) 0 from hf.1),az (show List.getD [f] (Int.toNat 0) 0<(1000000000:Int)from hf.2)];rfl) (Bu _ q) (by rw [List.drop_zero,dK];omega) rfl
  rw [e1,e2,List.drop_zero,dK,ze jl,<-g1]at key;exact bX (s:=gT v f c u q ((0:Nat)-1:Int)) hS key
 |succ j=>
  have iR:(((j+1:Nat):Int)-1)=(j:Int):=by omega
  obtain⟨w1,w2,w3⟩:=L5 (b:=1000000000) δ iU (j:=j) (n:=n) (V:=ag v) ω (cr sL) kD;obtain⟨c1,c2,c3⟩:=alq (u:=u) (j:=j) (n:=n) ω;obtain⟨n1,n2,n3,sC⟩:=TL (b:=1000000000) δ iU (j:=j) (n:=n) (V:=ag v) ω iz (cr sL) kD rfl;have Mu:0<=ag ((u.drop j).take (n+1)):=eh ((iU.drop j).take _);have wV:ag ((u.drop j).take (n+1))<1000000000*ag v:=by unfold ag;rw [<-w1];exact w2
  have wT:0<=ag ((u.drop j).take (n+1))/ag v:=Int.ediv_nonneg Mu (cr iz);have GO:ag ((u.drop j).take (n+1))/ag v<1000000000:=(Int.ediv_lt_iff_lt_mul iz).2 wV;show ba _ _ _ _ _ _ (gT v f c u q (((j+1:Nat):Int)-1)).T (gT v f c u q (((j+1:Nat):Int)-1)).H _;rw [iR];refine c6 (s:=gT v f c u q (j:Int)) hS 2 (ak2 v f c u q (j:Int) ω) ?_;refine Dj (id:=3) (c:=cat dZ uY) (rest:=(fl dZ DU).drop 3) (by kernel_rfl) ?_;have hW:=alp (f:=f) (c:=c) (p:=u.take j) (d0:=(u.drop j).take (n+1)) (r:=u.drop (j+(n+1))) (q:=q) (V:=ag v) (n:=n) (by rw [<-c1];exact iU) hv lv hn (by rw [<-c1];omega) (by rw [c2];omega) c3 rfl iz sL sK wV w F;rw [<-c1,c2]at hW;refine aU.mono (fun e T H hQ=> ?_) hW;obtain⟨rfl,rfl,rfl⟩:=hQ;have hnx:=alf v f c (u.take j++(fS 1000000000 (n+1) (ag ((u.drop j).take (n+1))%ag v)++u.drop (j+(n+1)))) (q.set j (ag ((u.drop j).take (n+1))/ag v)) (j:Int) ω;refine bx (s:=gT v f c _ _ (j:Int)) hS hnx ?_;refine⟨⟨(_,_,j),by show j<=m;omega,n1.trans hl,n2,by show(q.set j _).length=m;rw [b6];exact hq,jl.set ⟨wT,GO⟩,sC, ?_,fun i hi=> ?_⟩,fG _,rfl,rfl⟩
  .have qT:ag (q.set j (ag ((u.drop j).take (n+1))/ag v))=ag q+1000000000^j*(ag ((u.drop j).take (n+1))/ag v):=by
    have h0:=hz j (fG _);show vl 1000000000 _=vl 1000000000 _+_;rw [qU _ _ _ _ ω,h0,Int.sub_zero]
   have Mv:ag (u.take j++(fS 1000000000 (n+1) (ag ((u.drop j).take (n+1))%ag v)++u.drop (j+(n+1))))+1000000000^j*(ag ((u.drop j).take (n+1))/ag v)*ag v=ag u:=n3;show ag (u.take j++(fS 1000000000 (n+1) (ag ((u.drop j).take (n+1))%ag v)++u.drop (j+(n+1))))+ag v*ag (q.set j (ag ((u.drop j).take (n+1))/ag v))=_;rw [qT,<-hval,<-Mv];generalize ag (u.take j++(fS 1000000000 (n+1) (ag ((u.drop j).take (n+1))%ag v)++u.drop (j+(n+1))))=x1;generalize ag ((u.drop j).take (n+1))/ag v=x2;generalize (1000000000:Int)^j=x3;generalize ag q=qR;generalize ag v=wB;grind
  .have hi:i<j:=hi;show(q.set j _).getD i 0=0;rw [ou,if_neg ω];exact hz i ω
def NC {x y:Int}:lp x y<0↔x<y:=by
 unfold lp;by_cases h:x<y
 .rw [if_pos h];simp [h]
 .rw [if_neg h];by_cases g:y<x
  .rw [if_pos g];simp [h]
  .rw [if_neg g];simp [h]
def alr:aK 0=[]:=(Hr (Int.le_refl 0)).2 rfl
def VD {y:Int} (hy:1<=y/\y<1000000000):(1<=1000000000/(y+1)/\1000000000/(y+1)<=500000000)/\500000000<=y*(1000000000/(y+1))/\(y+1)*(1000000000/(y+1))<=1000000000:=by
 have h:=Int.emod_add_mul_ediv 1000000000 (y+1);have h0:=dr 1000000000 (show y+1≠0 by omega);have h1:=c7 1000000000 (show 0<y+1 by omega);have hq:1<=1000000000/(y+1):=Int.le_ediv_of_mul_le ω ω;generalize 1000000000/(y+1)=q at*;generalize 1000000000%(y+1)=r at*;have e:(y+1)*q=y*q+q:=by rw [Int.add_mul,Int.one_mul]
 rw [e]at h ⊢;have h2:1*q<=y*q:=ar hy.1 ω;refine⟨⟨hq,by omega⟩, ?_,by omega⟩;by_cases hq1:q=1
 .rw [hq1]at h ⊢;omega
 .by_cases hy1:y=1
  .rw [hy1]at h h1 ⊢;omega
  .have h3:1*1<=(y-1)*(q-1):=Int.mul_le_mul ω ω δ ω;have h4:(y-1)*(q-1)=y*q-y-q+1:=by
    rw [Int.sub_mul,Int.mul_sub,Int.mul_one,Int.one_mul];omega
   omega
def ND:=IN 131 [.list false (.int .i64), .list false (.int .i64)] [.list false (.int .i64), .list false (.int .i64)] false (fun d=>okA d.1&&(okA d.2.1&&decide (0<ag d.2.1))) fun d=>(aK (ag d.1/ag d.2.1),aK (ag d.1%ag d.2.1),())
section
variable (a b:List Int) (h:okA a=true) (g:okA b=true)
def als (hge:ag b<=ag a) (m:Nat) (hn:b.length=m+2) (w:World) (F:Sv.Env):
  aU prog w F 206 ((fl dZ []).drop 6) (By a b (1000000000/(b.getD (m+1) 0+1))).T (By a b (1000000000/(b.getD (m+1) 0+1))).H (VC (aK (ag a/ag b)) (aK (ag a%ag b))):=by
 obtain⟨ha,ta,la⟩:=fO.1 h;obtain⟨hb,tb,lb⟩:=fO.1 g;have hS:=DZ;have DI:=hb.get δ (m+1);have hbz:=tb (m+1) hn;obtain⟨⟨f1,f2⟩,f3,f4⟩:=VD (y:=b.getD (m+1) 0) ω;generalize hf:1000000000/(b.getD (m+1) 0+1)=f at*;have lW:0<=ag a:=eh ha;have DG:ag a<1000000000^a.length:=dt δ ha;have hP:=dR (b:=1000000000) δ (m+1);have alu:1000000000^(m+1)<=ag b:=yH δ hb tb hn;obtain⟨b1,b2,b3⟩:=tg (d:=b) (n:=m+1) hn (hb.take _);have uN:0<ag b:=by omega
 have alv:ag [f]=f:=sg _ _;have iz:0<=ag b*f:=Int.mul_nonneg ω ω;have Mw:ag b*f<1000000000^(m+2):=by
  have h1:ag b<1000000000^(m+1)*(b.getD (m+1) 0+1):=by rw [Int.mul_add,Int.mul_one];omega
  have h2:=Int.mul_lt_mul_of_pos_right h1 (show 0<f by omega);have h3:=dn f4 (cr hP);rw [Int.mul_assoc]at h2;rw [Int.pow_succ];omega
 have auG:ag b<=ag b*f:=by
  have:=dn f1 (cr uN);omega
 obtain⟨v1,v2,v3⟩:=co iz;have hvl:(aK (ag b*f)).length=m+2:=by
  have h1:(aK (ag b*f)).length<=m+2:=jn lq iz Mw;by_cases hc:m+2<=(aK (ag b*f)).length
  .omega
  .have h2:=dt (b:=1000000000) δ v1;have h3:=iQ (b:=1000000000) δ (show(aK (ag b*f)).length<=m+1 by omega);unfold ag at*;omega
 have alw:500000000<=(aK (ag b*f)).getD (m+2-1) 0:=by
  obtain⟨w1,w2,w3⟩:=tg (d:=aK (ag b*f)) (n:=m+1) hvl (v1.take _);show _<=(aK (ag b*f)).getD (m+1) 0;rw [v3]at w1;have h3:1000000000^(m+1)*(b.getD (m+1) 0*f)<=ag b*f:=by
   rw [<-Int.mul_assoc];exact ar ω ω
  have h4:=dn f3 (cr hP);have h5:1000000000^(m+1)*500000000<1000000000^(m+1)*((aK (ag b*f)).getD (m+1) 0+1):=by
   rw [Int.mul_add,Int.mul_one];omega
  have:=Int.lt_of_mul_lt_mul_left h5 (cr hP);omega
 have auH:m+2<=a.length:=by
  refine Nat.not_lt.1 fun hh=> ?_
  have:=wD δ ha hb tb ω;unfold ag at hge;omega
 have pP:0<=ag a*f:=Int.mul_nonneg lW ω;have auI:0<ag a*f:=Int.mul_pos ω ω;have alx:ag a*f<1000000000^(a.length+1):=by
  rw [Int.pow_succ];have h1:=dn (show f<=1000000000 by omega) lW;have h2:=Int.mul_lt_mul_of_pos_right DG (show(0:Int)<1000000000 by decide);omega
 obtain⟨u1,u2,u3⟩:=co pP;have DE:(aK (ag a*f)).length<=a.length+1:=jn lq pP alx;have aly:aK (ag a*f)≠[]:=fun e=>by
  have:=(Hr pP).1 e;omega
 have VE:okB [f]=true:=oA.2 ⟨.cons ω .nil,by simp⟩;have key:=akY a b f (by rw [oA.2 ⟨hb,by omega⟩,VE];rfl) (by rw [oA.2 ⟨ha,by omega⟩,VE];rfl);rw [alv]at key;have hl0:(aK (ag a*f)).length≠0:=fun e=>aly (List.eq_nil_of_length_eq_zero e)
 refine aU.st (s:=By a b f) known mixed hS 3 _ (key (by
  cases hz:Nat.beq (aK (ag a*f)).length 0 with
  |false=>rfl
  |true=>exact absurd (ac hz) hl0) ω (by
  obtain⟨k,hk⟩:∃k,(aK (ag a*f)).length=k+1:=⟨(aK (ag a*f)).length-1,by omega⟩;rw [hk];rfl) rfl) (by kernel_rfl) ?_
 clear key;refine aU.loop (ι:={x:List Int//x.length<=a.length+1/\aS 1000000000 x/\ag x=ag a*f}) (id:=0) (b:=cat dZ Ny) (rest:=(fl dZ []).drop 10) (by kernel_rfl) (fun x=>sU a (aK (ag b*f)) f x.1) (fun x=>a.length+1-x.1.length)
  ⟨aK (ag a*f),DE,u1,u3⟩ (fun _=>rfl) ?_
 rintro⟨u,hl,iU,NF⟩;by_cases hlt:u.length<a.length+1
 .refine bx (s:=sU a (aK (ag b*f)) f u) hS (akZ a _ f u ω ω ω (rz _ _) (ph _ _)) ?_;refine⟨⟨u++[0],by rw [cQ];simp;omega,iU.app (.cons ⟨Int.le_refl _,by decide⟩ .nil), ?_⟩,by show a.length+1-(u++[0]).length<_;rw [cQ];simp;omega,rfl,rfl⟩;rw [<-NF];show vl _ (u++[0])=vl _ u;rw [yG,Int.mul_zero,Int.add_zero]
 .refine bx (s:=sU a (aK (ag b*f)) f u) hS (ak0 a _ f u ω ω) ?_;refine cy (cF ?_);have fN:u.length=a.length+1:=by omega
  cases u with
  |nil=>cases fN
  |cons x l=>
   have ahK:l.length=a.length:=by simpa using fN
   have em:((l.length:Int)+1-(aK (ag b*f)).length).toNat=a.length+1-(m+2):=by omega
   have alz:(((x::l).length:Int)-(aK (ag b*f)).length).toNat=a.length+1-(m+2):=by rw [List.length_cons];omega
   have alA:((l.length:Int)+1-(aK (ag b*f)).length-1)=((a.length+1-(m+2):Nat):Int)-1:=by omega
   have alB:(((x::l).length:Int)-(aK (ag b*f)).length-1)=((a.length+1-(m+2):Nat):Int)-1:=by rw [List.length_cons];omega
   have key:=ak1 a (aK (ag b*f)) f x l (by rw [List.length_cons];omega) (by rw [List.length_cons];omega);rw [em,alz,alA,alB]at key;refine c6 (s:=sU a (aK (ag b*f)) f (x::l)) hS 2 (key ω ω (pU _).symm rfl (by rw [pU]) rfl (Nt _) (pU _).symm) ?_;refine Pl iU v1 hvl ω ω ω ω ω v3 uN lW NF ?_ alw w F;have h1:=si 1000000000 (x::l) (a.length+1-(m+2)) ω;have h2:=fY (b:=1000000000) δ (iU.take (a.length+1-(m+2)));have VF:=dR (b:=1000000000) δ (a.length+1-(m+2));refine Int.lt_of_mul_lt_mul_left (a:=1000000000^(a.length+1-(m+2))) ?_ (cr VF);have h3:1000000000^(a.length+1-(m+2))*ag ((x::l).drop (a.length+1-(m+2)))<=ag a*f:=by rw [<-NF];unfold ag;omega
   have e1:(1000000000:Int)^a.length=1000000000^(a.length+1-(m+2))*1000000000^(m+1):=by rw [<-Int.pow_add,show a.length+1-(m+2)+(m+1)=a.length by omega]
   have c1:=Int.mul_lt_mul_of_pos_right DG (show 0<f by omega);have c2:=ar alu (show 0<=f by omega);have c3:=dn c2 (cr VF);rw [<-Int.mul_assoc,<-e1]at c3;rw [v3];omega
def LO (hb0:0<ag b):Holds prog false 131 [lv a,lv b] (.tuple [lv (aK (ag a/ag b)),lv (aK (ag a%ag b))]):=by
 obtain⟨ha,ta,la⟩:=fO.1 h;obtain⟨hb,tb,lb⟩:=fO.1 g;have hS:=DZ;have lW:0<=ag a:=eh ha;have hC:(okA a&&okA b)=true:=by rw [h,g];rfl
 refine bL (c:=dZ) func131 rfl rfl fun w F=> ?_
 by_cases hlt:ag a<ag b
 .have e1:aK (ag a/ag b)=[]:=by rw [Int.ediv_eq_zero_of_lt lW hlt];exact alr
  have e2:aK (ag a%ag b)=a:=by rw [Int.emod_eq_of_lt lW hlt];exact BY ha ta
  rw [e1,e2];exact bw hS 3 (akV a b hC (NC.2 hlt))
 .have VG:¬lp (ag a) (ag b)<0:=fun h=>hlt (NC.1 h)
  obtain⟨n,hn⟩:∃n,b.length=n+1:=by
   cases b with
   |nil=>exact absurd hb0 δ
   |cons y r=>exact⟨r.length,rfl⟩
  have DI:=hb.get δ n;have hbz:=tb n hn;cases n with
  |zero=>
   obtain⟨y,rfl⟩:∃y,b=[y]:=List.length_eq_one_iff.1 hn;have hy:y≠0:=hbz;have hy2:0<=y/\y<1000000000:=DI;have Ag:ag [y]=y:=sg _ _;rw [Ag];have hm0:=dr (ag a) hy;have pN:=c7 (ag a) (show 0<y by omega);have et:ew [ag a%y]=aK (ag a%y):=by
    rw [ze (.cons ω .nil)];congr 1;exact sg _ _
   have key:=T0 a [y] hC VG τ τ (by
    rw [oA.2 ⟨ha,by omega⟩];rw [az (show(1:Int)<=List.getD [y] (Int.toNat 0) 0 from show 1<=y by omega),az (show List.getD [y] (Int.toNat 0) 0<(1000000000:Int)from hy2.2)];rfl) (aI 1) τ rfl rfl
   rw [<-et];exact bw hS 5 key
  |succ m=>
   have bJ:((b.length:Int)-1).toNat=m+1:=by omega
   have alC:(0:Int)<=1000000000:=by decide
   have hd:Int.tdiv 1000000000 (b.getD (m+1) 0+1)=1000000000/(b.getD (m+1) 0+1):=Int.tdiv_eq_ediv_of_nonneg alC;obtain⟨⟨f1,f2⟩,f3,f4⟩:=VD (y:=b.getD (m+1) 0) ω;have key:=akW a b hC VG ω ω ω;rw [bJ,hd]at key;refine cJ hS 6 (key ω ω ω ω rfl) ?_;refine aU.uA (fun e=> ?_) (i:=64) (s:=8) (e2:=3) (t:= .int .i64) (xs:=[1000000000/(b.getD (m+1) 0+1)]) (cap:=bH 1) (by kernel_rfl) (by kernel_rfl) ?_
   .have:((fl dZ []).drop 6).isEmpty=false:=by kernel_rfl
    rw [e]at this;cases this
   refine aU.nD (fun e=> ?_) (σ:=[]) (s:=By a b (1000000000/(b.getD (m+1) 0+1))) (akX a b _) ?_
   .have:((fl dZ []).drop 6).isEmpty=false:=by kernel_rfl
    rw [e]at this;cases this
   exact als a b h g ω m hn w F
end
def VH:ND.Ok prog:=fun⟨a,b,_⟩ h=>by
 have h:(okA a&&(okA b&&decide (0<ag b)))=true:=h;rw [ae,ae]at h;exact LO a b h.1 h.2.1 (ap h.2.2)
def VI:=k_a f130
def VJ:=k_a f69
def HB:=k_a f68
def zl:=k_a f76
def sW:=ow [DS,Vt] (bc [Nj,Vu,Np,ND])
def vZ (a:Bool×List Int):Int:=bk a.1 (ag a.2)
def okZ (a:Bool×List Int):Bool:=okA a.2&&(!a.1|| !(Nat.beq a.2.length 0))
def alD (n:Bool) (x:List Int) (h1:(okB x)=true):
  bh sW (fl VI []) 9 9 [rv (n,x)] 1 f130 false (rv (mkR (bk (!n) (ag x)))):=
 wy [af h1] 1
section
variable (n m:Bool) (x y:List Int)
def alE (h1:(okB x&&okB y)=true) (h2:(okB (aK (ag x*ag y)))=true):
  bh sW (fl VJ []) 9 16 [rv (n,x),rv (m,y)] 1 f69 false (rv (mkR (bk (!(n==m)) (ag (aK (ag x*ag y)))))):=
 wy [af (aF (v:=aa.raw (Value.bool n))),af (aF (v:=aa.raw (Value.bool m))),af (aF (v:=aa.bn false (.int .i64) x)),af (aF (v:=aa.bn false (.int .i64) y)),af h1,af h2] 18603807693877377
def alF (h1:n=m) (h2:(w8 x y)=true) (h3:(okB (aK (ag x+ag y)))=true):
  bh sW (fl HB []) 3 40 [rv (n,x),rv (m,y)] 3 f68 false (rv (mkR (bk n (ag (aK (ag x+ag y)))))):=
 wy [cX h1,af (aF (v:=aa.raw (Value.bool n))),af (aF (v:=aa.bn false (.int .i64) x)),af (aF (v:=aa.bn false (.int .i64) y)),af h2,af h3] 414549291137
def alG (h1:¬n=m) (h2:(okA x&&okA y)=true) (h3:lp (ag x) (ag y)>=0) (h4:(w8 x y&&decide (ag y<=ag x))=true) (h5:(okB (aK (ag x-ag y)))=true):
  bh sW (fl HB []) 5 40 [rv (n,x),rv (m,y)] 6 f68 false (rv (mkR (bk n (ag (aK (ag x-ag y)))))):=
 wy [yn h1,af h2,ah h3,af (aF (v:=aa.raw (Value.bool n))),af (aF (v:=aa.bn false (.int .i64) x)),af (aF (v:=aa.bn false (.int .i64) y)),af h4,af h5] 2269879563464833
def alH (h1:¬n=m) (h2:(okA x&&okA y)=true) (h3:¬lp (ag x) (ag y)>=0) (h4:(w8 y x&&decide (ag x<=ag y))=true) (h5:(okB (aK (ag y-ag x)))=true):
  bh sW (fl HB []) 9 40 [rv (n,x),rv (m,y)] 4 f68 false (rv (mkR (bk m (ag (aK (ag y-ag x)))))):=
 wy [yn h1,af h2,aJ h3,af (aF (v:=aa.raw (Value.bool m))),af (aF (v:=aa.bn false (.int .i64) y)),af (aF (v:=aa.bn false (.int .i64) x)),af h4,af h5] 2269879563464833
end
def wl (a b:List Int):bD:={n:=19,sl:=[(0,lv a),(1,lv b)],bJ:=[],next:=64}
abbrev NG:List Nat:=[1,0,0,0]
section
variable (a b:List Int)
def alI:
  cZ sW (fl zl []) 1 19 [lv a,lv b] 1 .normal [] (wl a b):=
 wy [] 0
def co_go (h1:(b.length:Int)>0) (h2:(okA a&&(okA b&&decide (0<ag b)))=true):
  bt sW (fl zl NG) (wl a b) 3 .normal [] (wl b (aK (ag a%ag b))):=
 wy [ah h1,af h2] 129
def alJ (h1:¬(b.length:Int)>0):
  bt sW (fl zl NG) (wl a b) 2 (.exit 0) [] (wl a b):=
 wy [aJ h1] 1
def alK:
  bS sW ((fl zl []).drop 2) (wl a b) 1 f76 false (lv a):=
 wy [] 0
end
def VK:=IN 130 [lZ] [lZ] false (fun d=>okZ d.1) fun d=>(mkR (-vZ d.1),())
def VL:=IN 69 [lZ,lZ] [lZ] false (fun d=>okZ d.1&&okZ d.2.1) fun d=>(mkR (vZ d.1*vZ d.2.1),())
def VM:=IN 68 [lZ,lZ] [lZ] false (fun d=>okZ d.1&&okZ d.2.1) fun d=>(mkR (vZ d.1+vZ d.2.1),())
def NH:=IN 76 [.list false (.int .i64), .list false (.int .i64)] [.list false (.int .i64)] false (fun d=>okA d.1&&okA d.2.1) fun d=>(aK (Int.gcd (ag d.1) (ag d.2.1)),())
def rc:bC prog (bF sW):=uM (fun c hc=>by
 simp only [en,ki,or_false]at hc;rcases hc with rfl |rfl
 .exact tc
 .exact aky) (cK fun c hc=>by
 simp only [en,ki,or_false]at hc;rcases hc with rfl |rfl |rfl |rfl
 .exact Vr
 .exact akA
 .exact Vv
 .exact VH)
def pY {a:Bool×List Int}:okZ a=true↔okA a.2=true/\(a.1=true->0<ag a.2):=by
 unfold okZ;rw [ae];constructor
 .rintro⟨h1,h2⟩;refine⟨h1,fun h=> ?_⟩;rw [h,Bool.not_true,Bool.false_or,Bool.not_eq_true']at h2;obtain⟨hd,ht,_⟩:=fO.1 h1;have h0:=eh hd;have hz:=Gd lq hd ht;rcases Int.lt_or_le 0 (ag a.2)with h3|h3
  .exact h3
  .have:a.2=[]:=hz.1 (by unfold ag at*;omega);rw [this]at h2;cases h2
 .rintro⟨h1,h2⟩;refine⟨h1, ?_⟩;cases hn:a.1 with
  |false=>rfl
  |true=>
   have:=h2 hn;rw [Bool.not_true,Bool.false_or,Bool.not_eq_true'];cases hb:Nat.beq a.2.length 0 with
   |false=>rfl
   |true=>
    rw [List.eq_nil_of_length_eq_zero (ac hb)]at this;exact absurd this δ
def dU (z:Int):vZ (mkR z)=z:=by
 show bk (decide (z<0)) (ag (aK (z.natAbs:Int)))=z;rw [(co (Int.natCast_nonneg _)).2.2];by_cases h:z<0
 .rw [az h];show-(z.natAbs:Int)=z;omega
 .rw [ab h];show(z.natAbs:Int)=z;omega
section
variable {z:Int} {k:Nat} (h:0<=z) (hk:z<1000000000^k)
def HC:(aK z).length<=k:=jn lq h hk
def rf (hb:k<=300000):okB (aK z)=true:=oA.2 ⟨(co h).1,dh (HC h hk) hb⟩
def zr (hb:k<=100000):okA (aK z)=true:=fO.2 ⟨(co h).1,(co h).2.1,dh (HC h hk) hb⟩
end
def jP {z:Int} {k:Nat} (hk:(z.natAbs:Int)<1000000000^k) (hb:k<=100000):okZ (mkR z)=true:=by
 refine pY.2 ⟨zr (Int.natCast_nonneg _) hk hb,fun h=> ?_⟩;have h:decide (z<0)=true:=h;have h:=ap h;show 0<ag (aK (z.natAbs:Int));rw [(co (Int.natCast_nonneg _)).2.2];omega
def NI {x:List Int} (h:okA x=true):okB x=true:=by
 obtain⟨h1,_,h2⟩:=fO.1 h;exact oA.2 ⟨h1,by omega⟩
def pi {x:List Int} (h:okA x=true):ag x<1000000000^x.length:=dt δ (fO.1 h).1
def add_lt {x y:Int} {i j:Nat} (hx:x<1000000000^i) (hy:y<1000000000^j):x+y<1000000000^(max i j+1):=by
 have h1:=iQ (b:=1000000000) δ (show i<=max i j by omega);have h2:=iQ (b:=1000000000) δ (show j<=max i j by omega);have h3:=dR (b:=1000000000) δ (max i j);rw [Int.pow_succ];omega
def VN {x y:Int} {i j:Nat} (hx0:0<=x) (hy0:0<=y) (hx:x<1000000000^i) (hy:y<1000000000^j):x*y<1000000000^(i+j):=by
 rw [Int.pow_add];have h1:x*y<=x*1000000000^j:=dn (cr hy) hx0;have h2:x*1000000000^j<1000000000^i*1000000000^j:=Int.mul_lt_mul_of_pos_right hx (dR δ j);omega
def alL:VK.Ok prog:=fun⟨⟨n,x⟩,_⟩ h=>by
 obtain⟨h1,h2⟩:=pY.1 h;show Holds prog false 130 [rv (n,x)] (rv (mkR (-(bk n (ag x)))));have e: -(bk n (ag x))=bk (!n) (ag x):=by cases n<;>simp [bk]
 rw [e];refine bL (c:=VI) func130 rfl rfl fun w F=> ?_
 exact bw rc 9 (alD n x (NI h1))
def alM:VL.Ok prog:=fun⟨⟨n,x⟩,⟨m,y⟩,_⟩ h=>by
 have h:(okZ (n,x)&&okZ (m,y))=true:=h;rw [ae]at h;obtain⟨h1,h2⟩:=pY.1 h.1;obtain⟨g1,g2⟩:=pY.1 h.2;have l1:=(fO.1 h1).2.2;have l2:=(fO.1 g1).2.2;have hx0:=eh (fO.1 h1).1;have hy0:=eh (fO.1 g1).1;have hp:0<=ag x*ag y:=Int.mul_nonneg hx0 hy0;show Holds prog false 69 [rv (n,x),rv (m,y)] (rv (mkR (bk n (ag x)*bk m (ag y))));have e:bk n (ag x)*bk m (ag y)=bk (!(n==m)) (ag (aK (ag x*ag y))):=by
  rw [(co hp).2.2];cases n<;>cases m
  .rfl
  .exact Int.mul_neg _ _
  .exact Int.neg_mul _ _
  .exact Int.neg_mul_neg _ _
 rw [e];refine bL (c:=VJ) func69 rfl rfl fun w F=> ?_
 have hb:okB (aK (ag x*ag y))=true:=rf hp (VN hx0 hy0 (pi h1) (pi g1)) (by have l1:x.length<=100000:=l1;have l2:y.length<=100000:=l2;omega);exact bw rc 9 (alE n m x y (by rw [NI h1,NI g1];rfl) hb)
def VO {x y:Int}:lp x y>=0↔y<=x:=by
 have:= @NC x y;omega
def alN:VM.Ok prog:=fun⟨⟨n,x⟩,⟨m,y⟩,_⟩ h=>by
 have h:(okZ (n,x)&&okZ (m,y))=true:=h;rw [ae]at h;obtain⟨h1,h2⟩:=pY.1 h.1;obtain⟨g1,g2⟩:=pY.1 h.2;have h1:okA x=true:=h1;have g1:okA y=true:=g1;have l1:=(fO.1 h1).2.2;have l2:=(fO.1 g1).2.2;have hx0:=eh (fO.1 h1).1;have hy0:=eh (fO.1 g1).1;have hx1:=pi h1;have hy1:=pi g1;show Holds prog false 68 [rv (n,x),rv (m,y)] (rv (mkR (bk n (ag x)+bk m (ag y))));refine bL (c:=HB) func68 rfl rfl fun w F=> ?_
 by_cases hnm:n=m
 .have e:bk n (ag x)+bk m (ag y)=bk n (ag (aK (ag x+ag y))):=by
   rw [(co ω).2.2,<-hnm];cases n<;>simp only [bk]<;>omega
  rw [e];exact bw rc 3 (alF n m x y hnm (md.2 ⟨h1,g1⟩) (rf ω (add_lt hx1 hy1) ω))
 .by_cases hle:ag y<=ag x
  .have e:bk n (ag x)+bk m (ag y)=bk n (ag (aK (ag x-ag y))):=by
    rw [(co ω).2.2];cases n<;>cases m<;>first |exact absurd rfl hnm|(simp only [bk];omega)
   rw [e];exact bw rc 5 (alG n m x y hnm (by rw [h1,g1];rfl) (VO.2 hle) (by rw [md.2 ⟨h1,g1⟩,az hle];rfl) (rf (k:=x.length) ω ω ω))
  .have e:bk n (ag x)+bk m (ag y)=bk m (ag (aK (ag y-ag x))):=by
    rw [(co ω).2.2];cases n<;>cases m<;>first |exact absurd rfl hnm|(simp only [bk];omega)
   rw [e];exact bw rc 9 (alH n m x y hnm (by rw [h1,g1];rfl) (fun h=>hle (VO.1 h)) (by rw [md.2 ⟨g1,h1⟩,az (show ag x<=ag y by omega)];rfl) (rf (k:=y.length) ω ω ω))
def LT (a b:List Int) (h:okA a=true) (g:okA b=true):Holds prog false 76 [lv a,lv b] (lv (aK (Int.gcd (ag a) (ag b)))):=by
 have hS:=rc;refine bL (c:=zl) func76 rfl rfl fun w F=> ?_
 refine cJ hS 1 (alI a b) ?_;refine aU.loop (ι:={x:List Int×List Int//okA x.1=true/\okA x.2=true/\Int.gcd (ag x.1) (ag x.2)=Int.gcd (ag a) (ag b)}) (id:=0) (b:=cat zl NG) (rest:=(fl zl []).drop 2) (by kernel_rfl) (fun x=>wl x.1.1 x.1.2) (fun x=>(ag x.1.2).natAbs) ⟨(a,b),h,g,rfl⟩ (fun _=>rfl) ?_;rintro⟨⟨x,y⟩,hx,hy,hg⟩;have hx:okA x=true:=hx;have hy:okA y=true:=hy;have hg:Int.gcd (ag x) (ag y)=Int.gcd (ag a) (ag b):=hg;obtain⟨HD,tx,lx⟩:=fO.1 hx;obtain⟨BA,ty,ly⟩:=fO.1 hy;have hx0:=eh HD;have hy0:=eh BA;have hz:ag y=0↔y=[]:=Gd lq BA ty;by_cases hlt:0<y.length
 .have hyp:0<ag y:=by
   rcases Int.lt_or_le 0 (ag y)with h|h
   .exact h
   .rw [hz.1 ω]at hlt;cases hlt
  have hm0:=dr (ag x) (show ag y≠0 by omega);have pN:=c7 (ag x) hyp;have hk:=pi hy;have ev:ag (aK (ag x%ag y))=ag x%ag y:=(co hm0).2.2;refine bx (s:=wl x y) hS (co_go x y ω (by rw [hx,hy,az hyp];rfl)) ?_;refine⟨⟨(y,aK (ag x%ag y)),hy,zr (k:=y.length) hm0 ω ly, ?_⟩, ?_,rfl,rfl⟩
  .show Int.gcd (ag y) (ag (aK (ag x%ag y)))=_;rw [ev,Uv hx0 hyp,hg]
  .show(ag (aK (ag x%ag y))).natAbs<(ag y).natAbs;rw [ev];omega
 .refine bx (s:=wl x y) hS (alJ x y ω) ?_;refine cy (cF ?_);have hy2:y=[]:=List.eq_nil_of_length_eq_zero ω;have e:aK ((Int.gcd (ag a) (ag b):Nat):Int)=x:=by
   rw [<-hg,hz.2 hy2,Int.gcd_zero_right,Int.natAbs_of_nonneg hx0];exact BY HD tx
  rw [e];exact bX (s:=wl x y) hS (alK x y)
def VP:NH.Ok prog:=fun⟨a,b,_⟩ h=>by
 have h:(okA a&&okA b)=true:=h;rw [ae]at h;exact LT a b h.1 h.2
def zm:=k_a f98
section
variable (a b:Int)
def sX:bD:={n:=12,sl:=[(0,iv a),(1,iv b)],bJ:=[],next:=64}
def alO:
  cZ (bc []) (fl zm []) 1 12 [iv a,iv b] 1 .normal [] (sX a b):=
 wy [] 0
def alP (h1:b>0) (h2:b≠0):
  bt (bc []) (fl zm [1,0,0,0]) (sX a b) 3 .normal [] (sX b (Int.tmod a b)):=
 wy [ah h1,ah h2] 129
def alQ (h1:¬b>0):
  bt (bc []) (fl zm [1,0,0,0]) (sX a b) 2 (.exit 0) [] (sX a b):=
 wy [aJ h1] 1
def Ps:
  bS (bc []) ((fl zm []).drop 2) (sX a b) 1 f98 true (iv a):=
 wy [] 0
end
def alR {x y:Int} (hx:0<=x) (hy:0<=y):Int.gcd y (x%y)=Int.gcd x y:=by
 obtain⟨m,rfl⟩:=Int.eq_ofNat_of_zero_le hx;obtain⟨n,rfl⟩:=Int.eq_ofNat_of_zero_le hy;rw [<-Int.natCast_emod];show Nat.gcd n (m%n)=Nat.gcd m n;rw [Nat.gcd_comm n,<-Nat.gcd_rec,Nat.gcd_comm]
def alS (a b:Int) (ha:0<=a) (hb:0<=b):Holds prog true 98 [iv a,iv b] (iv (Int.gcd a b)):=by
 have hS:=cC;obtain⟨g,hg⟩:∃g:Int,(Int.gcd a b:Int)=g:=⟨_,rfl⟩;rw [hg];refine bL (c:=zm) func98 rfl rfl fun w F=> ?_
 refine cJ hS 1 (alO a b) ?_;refine aU.loop (ι:={p:Int×Int//0<=p.1/\0<=p.2/\(Int.gcd p.1 p.2:Int)=g}) (id:=0) (b:=cat zm [1,0,0,0]) (rest:=(fl zm []).drop 2) (by kernel_rfl) (fun p=>sX p.1.1 p.1.2) (fun p=>p.1.2.toNat) ⟨(a,b),ha,hb,hg⟩ (fun _=>rfl) ?_;rintro⟨⟨x,y⟩,hx,hy,hxy⟩;have hx:0<=x:=hx;have hy:0<=y:=hy;have hxy:(Int.gcd x y:Int)=g:=hxy;by_cases h0:y>0
 .have hm:=c7 x h0;have hm2:=dr x (show y≠0 by omega);have e:Int.tmod x y=x%y:=Int.tmod_eq_emod_of_nonneg hx;refine bx (s:=sX x y) hS (alP x y h0 ω) ?_;refine⟨⟨(y,Int.tmod x y),hy,by show 0<=Int.tmod x y;omega, ?_⟩, ?_,rfl,rfl⟩
  .show(Int.gcd y (Int.tmod x y):Int)=g;rw [e,<-hxy,alR hx hy]
  .show(Int.tmod x y).toNat<y.toNat;omega
 .obtain rfl:y=0:=by omega
  refine bx (s:=sX x 0) hS (alQ x 0 h0) ?_;refine cy (cF ?_);have e:x=g:=by rw [<-hxy,Int.gcd_zero_right];omega
  exact aU.uw (s:=sX x 0) known mixed hS _ (Ps x 0) fun T H h=>e ▸ h
def NJ:=IN 98 [.int .i64, .int .i64] [.int .i64] true (fun d=>decide (0<=d.1)&&decide (0<=d.2.1)) fun d=>((Int.gcd d.1 d.2.1:Int),())
def VQ:NJ.Ok prog:=fun⟨a,b,_⟩ h=>by
 have h:(decide (0<=a)&&decide (0<=b))=true:=h;rw [ae,bE,bE]at h;exact alS a b h.1 h.2
def xe:=k_a f74
def zn:=k_a f129
section
variable (s:AT)
def pZ (k:Nat):bD:={n:=17,sl:=[(0,sv s),(3,iv k)],bJ:=[],next:=64}
def wn (n:Int) (k:Nat):bD:={n:=20,sl:=[(0,sv s),(3,iv n),(4,iv k)],bJ:=[],next:=64}
abbrev aq:List UInt8:=s.data.toList
abbrev b9 (k:Nat):UInt8:=(aq s).getD k 0
def alT:
  cZ (bc []) (fl xe []) 2 17 [sv s] 1 .normal [] (pZ s 0):=
 wy [] 0
def alU (k:Nat) (h1:(k:Int)<(s.size:Int)) (h2:k<s.size) (h3:(↑(UInt8.toNat (s.data.toList.getD k (0:UInt8))):Int)=47):
  bS (bc []) (fl xe [1,0,1,0,0]) (pZ s k) 7 f74 true (iv k):=
 wy [ah h1,ah h2,cX h3] 794625
def alV (k:Nat) (h1:(k:Int)<(s.size:Int)) (h2:k<s.size) (h3:¬(↑(UInt8.toNat (s.data.toList.getD k (0:UInt8))):Int)=47) (h4:i6 ((k:Int)+1)):
  bt (bc []) (fl xe [1,0,1,0,0]) (pZ s k) 5 .normal [] (pZ s (k+1)):=
 wy [ah h1,ah h2,yn h3,yi h4] 67903489
def alW (k:Nat) (h1:¬(k:Int)<(s.size:Int)):
  bt (bc []) (fl xe [1,0,1,0,0]) (pZ s k) 2 (.exit 0) [] (pZ s k):=
 wy [aJ h1] 1
def alX (k:Nat):
  bS (bc []) ((fl xe []).drop 3) (pZ s k) 1 f74 true (iv s.size):=
 wy [] 0
def alY:
  cZ (bc []) (fl zn []) 3 20 [sv s] 1 .normal [] (wn s 0 0):=
 wy [] 0
def alZ (n:Int) (k:Nat) (h1:(k:Int)<(s.size:Int)) (h2:i6 (10*n)) (h3:k<s.size) (h4:i6 (10*n+IntKind.wrap IntKind.i64 (↑(UInt8.toNat (s.data.toList.getD k (0:UInt8))):Int))) (h5:i6 (10*n+IntKind.wrap IntKind.i64 (↑(UInt8.toNat (s.data.toList.getD k (0:UInt8))):Int)-48)) (h6:i6 ((k:Int)+1)):
  bt (bc []) (fl zn [1,1,0,1,0,0]) (wn s n k) 3 .normal [] (wn s (10*n+IntKind.i64.wrap (b9 s k).toNat-48) (k+1)):=
 wy [ah h1,yi h2,ah h3,yi h4,yi h5,yi h6] 417753464961
def al0 (n:Int) (k:Nat) (h1:¬(k:Int)<(s.size:Int)):
  bt (bc []) (fl zn [1,1,0,1,0,0]) (wn s n k) 2 (.exit 0) [] (wn s n k):=
 wy [aJ h1] 1
def al1 (n:Int) (k:Nat):
  bS (bc []) ((fl zn []).drop 4) (wn s n k) 1 f129 true (iv n):=
 wy [] 0
end
def bf:List UInt8->Nat
 |[]=>0
 |b::r=>if b.toNat=47 then 0 else bf r+1
def cP (s:AT):s.size=(aq s).length:=by cases s;rfl
section
variable {l:List UInt8} {k:Nat} (h:k<l.length)
def VR:l.getD k 0=l[k]:=by simp [ao,h]
def zt:l.take (k+1)=l.take k++[l.getD k 0]:=by rw [VR h];simp
end
def zo {s:AT} {k:Nat} (h:k<(aq s).length):b9 s k=(aq s)[k]:=VR h
def al2 (s:AT) (hl:s.size<=1000000000):Holds prog true 74 [sv s] (iv (bf (aq s))):=by
 have hS:=cC;have hz:=cP s;obtain⟨r,hr⟩:∃r,bf (aq s)=r:=⟨_,rfl⟩;rw [hr];refine bL (c:=xe) func74 rfl rfl fun w F=> ?_
 refine cJ hS 2 (alT s) ?_;refine aU.loop (ι:={k:Nat//k<=s.size/\bf ((aq s).drop k)+k=r}) (id:=0) (b:=cat xe [1,0,1,0,0]) (rest:=(fl xe []).drop 3) (by kernel_rfl) (fun k=>pZ s k.1) (fun k=>s.size-k.1) ⟨0,Nat.zero_le _,hr⟩ (fun _=>rfl) ?_;rintro⟨k,hk,hx⟩;have hx:bf ((aq s).drop k)+k=r:=hx;by_cases hlt:k<s.size
 .have hlt2:k<(aq s).length:=by omega
  rw [List.drop_eq_getElem_cons hlt2,bf,<-zo hlt2]at hx;by_cases c:(b9 s k).toNat=47
  .rw [if_pos c,aw]at hx;exact aU.uw (s:=pZ s k) known mixed hS _ (alU s k ω ω (by show((b9 s k).toNat:Int)=47;omega)) fun T H h=>hx ▸ h
  .rw [if_neg c]at hx;refine bx (s:=pZ s k) hS (alV s k ω ω (by show¬((b9 s k).toNat:Int)=47;omega) ω) ?_;exact⟨⟨k+1,hlt,by omega⟩,by simp;omega,rfl,rfl⟩
 .refine bx (s:=pZ s k) hS (alW s k ω) ?_;refine cy (cF ?_);obtain rfl:k=s.size:=by omega
  rw [List.drop_eq_nil_of_le ω,bf,aw]at hx;exact aU.uw (s:=pZ s s.size) known mixed hS _ (alX s _) fun T H h=>hx ▸ h
def bg:List UInt8->Int
 |l=>l.foldl (fun n b=>10*n+((b.toNat:Int)-48)) 0
def bZ (l:List UInt8):Bool:=l.all fun b=>decide (48<=b.toNat)&&decide (b.toNat<=57)
def rh {s:AT} {k:Nat} (h:k<(aq s).length):bg ((aq s).take (k+1))=10*bg ((aq s).take k)+(((b9 s k).toNat:Int)-48):=by
 rw [zt h];unfold bg;rw [List.foldl_append];rfl
def BB {s:AT} (hd:bZ (aq s)=true):∀k,k<=(aq s).length->0<=bg ((aq s).take k)/\bg ((aq s).take k)<10^k
 |0,_=>by rw [List.take_zero];decide
 |k+1,h=>by
  have ih:=BB hd k ω;have hb:=List.all_eq_true.1 hd (b9 s k) (by rw [zo ω];exact List.getElem_mem _);rw [ae,bE,bE]at hb;rw [rh ω,Int.pow_succ];omega
def VS {k:Nat} (h:k<=18):(10:Int)^k<=1000000000000000000:=by
 have:(10:Nat)^k<=10^18:=Nat.pow_le_pow_right δ h;have h2:((10^k:Nat):Int)<=((10^18:Nat):Int):=Int.ofNat_le.2 this;simpa using h2
def al3 (s:AT) (hl:s.size<=17) (hd:bZ (aq s)=true):Holds prog true 129 [sv s] (iv (bg (aq s))):=by
 have hS:=cC;have hz:=cP s;refine bL (c:=zn) func129 rfl rfl fun w F=> ?_
 refine cJ hS 3 (alY s) ?_;refine aU.loop (ι:={k:Nat//k<=s.size}) (id:=0) (b:=cat zn [1,1,0,1,0,0]) (rest:=(fl zn []).drop 4) (by kernel_rfl) (fun k=>wn s (bg ((aq s).take k.1)) k.1) (fun k=>s.size-k.1) ⟨0,Nat.zero_le _⟩ (fun _=>rfl) ?_;rintro⟨k,hk⟩;have hin:=BB hd k ω;have hp:=VS (k:=k) ω;by_cases hlt:k<s.size
 .have hlt2:k<(aq s).length:=by omega
  have hb:=List.all_eq_true.1 hd (b9 s k) (by rw [zo hlt2];exact List.getElem_mem _);rw [ae,bE,bE]at hb;have auJ:=BB hd (k+1) ω;have hp2:=VS (k:=k+1) ω;have hn:=rh hlt2;have hw:IntKind.i64.wrap ((b9 s k).toNat:Int)=((b9 s k).toNat:Int):=IntWalk.i64_in _ ω;have e:10*bg ((aq s).take k)+IntKind.i64.wrap ((b9 s k).toNat:Int)-48=bg ((aq s).take (k+1)):=by rw [hw,hn];omega
  refine bx (s:=wn s (bg ((aq s).take k)) k) hS (alZ s _ k ω ω ω (by show-9223372036854775808<=10*bg ((aq s).take k)+IntKind.i64.wrap ((b9 s k).toNat:Int)/\10*bg ((aq s).take k)+IntKind.i64.wrap ((b9 s k).toNat:Int)<=9223372036854775807;rw [hw];omega) (by show-9223372036854775808<=10*bg ((aq s).take k)+IntKind.i64.wrap ((b9 s k).toNat:Int)-48/\10*bg ((aq s).take k)+IntKind.i64.wrap ((b9 s k).toNat:Int)-48<=9223372036854775807;rw [hw];omega) ω) ?_;rw [e];exact⟨⟨k+1,hlt⟩,by simp;omega,rfl,rfl⟩
 .refine bx (s:=wn s (bg ((aq s).take k)) k) hS (al0 s _ k ω) ?_;refine cy (cF ?_);obtain rfl:k=s.size:=by omega
  rw [eH ω];exact bX (s:=wn s _ s.size) hS (al1 s _ _)
def BC:=IN 74 [.str] [.int .i64] true (fun d=>decide (d.1.size<=1000000000)) fun d=>(((bf (aq d.1):Nat):Int),())
def NK:=IN 129 [.str] [.int .i64] true (fun d=>decide (d.1.size<=17)&&bZ (aq d.1)) fun d=>(bg (aq d.1),())
def D0:BC.Ok prog:=fun⟨s,_⟩ h=>al2 s (ap h)
def VT:NK.Ok prog:=fun⟨s,_⟩ h=>by
 have h:(decide (s.size<=17)&&bZ (aq s))=true:=h;rw [ae,bE]at h;exact al3 s h.1 h.2
end
end Go.Proofs.YtibikmmdbdlafaaGreatDoor
