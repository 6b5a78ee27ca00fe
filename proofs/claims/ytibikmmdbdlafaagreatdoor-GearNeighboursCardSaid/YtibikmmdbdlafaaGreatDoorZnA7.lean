import Derived.Test.YtibikmmdbdlafaaGreatDoorZnVStep3
set_option linter.defProp false
set_option linter.unusedSimpArgs false
set_option linter.unusedVariables false
set_option maxRecDepth 100000
namespace Go.Proofs.YtibikmmdbdlafaaGreatDoor
open Go.RowKit Sv Go.Proofs.Tryz
noncomputable section
def ge:=k_a f178
def kH:=CW [Gy] (Ao [sw] (ov [F5] (a7 [LJ,Mb,Ma])))
abbrev Dm:List Nat:=[1,1,0,1,0]
abbrev Mr:List Nat:=[1,1,0,1,0,1,1,0,1,0,0]
abbrev GH:List Nat:=[1,1,1,1,1,1,1,1,0,1,0,0]
abbrev GI:List Nat:=[1,1,1,1,1,1,1,1,1,0,1,0,0]
abbrev Ms (j:Nat) (l:List Int):af:= .bU 167 aG j 0 l.length .full
abbrev Mt (l:List Int):fS:= .blk (.own 167 aG l)
def sB (a b:List Int):bI:={n:=137,sl:=[(0,bJ a),(1,bJ b),(23,bv ((b.length:Int)==1))],bH:=[],next:=64}
def q4 (a b q:List Int) (r:Int) (k:Nat):bI:={n:=137,sl:=[(0,bJ a),(1,bJ b),(6,qO 64 q),(7,cu r),(8,iv ((k:Int)-1))],bH:=[(64,qP q)],next:=65}
def Mu (a b q:List Int) (r:Int) (k:Nat):bI:={n:=137,sl:=[(0,bJ a),(1,bJ b),(6,qO 64 q),(7,cu r),(8,iv ((k:Int)-1-1))],bH:=[(64,qP q)],next:=65}
def lf (a v u q:List Int) (s:Int) (k:Nat):bI:={n:=137,sl:=[(0,bJ a),(9,iv s),(10,bJ v),(11,Ms 64 u),(12,iv v.length),(13,qO 65 q),(14,iv ((k:Int)-1))],bH:=[(64,Mt u),(65,qP q)],next:=66}
def AV (a v u q:List Int) (s:Int) (k:Nat):bI:={n:=137,sl:=[(0,bJ a),(9,iv s),(10,bJ v),(11,Ms 64 u),(12,iv v.length),(13,qO 65 q),(14,iv ((k:Int)-1-1))],bH:=[(64,Mt u),(65,qP q)],next:=66}
def jL (n:Nat) (u q:List Int) (s:Int) (i:Nat):bI:={n:=137,sl:=[(9,iv s),(11,Ms 64 u),(12,iv n),(13,qO 65 q),(96,iv n),(97,iv i)],bH:=[(64,Mt u),(65,qP q)],next:=66}
abbrev yD:Sv.Ren:=[(64,64,none),(65,65,none)]
def Mv (a v:List Int) (s:Int):bI:={n:=137,sl:=[(0,bJ a),(9,iv s),(10,bJ v)],bH:=[],next:=64}
def aie (a b:List Int) (h1:(mU a b)=true) (h2:k7 (ak a) (ak b)<0):
  aV kH (fl ge []) 3 137 [bJ a,bJ b] 3 f178 false (.tuple [bJ [],bJ a]):=
 wy [aa h1,ah h2] 129
def aif (a b:List Int) (h1:(mU a b)=true) (h2:¬k7 (ak a) (ak b)<0):
  c7 kH (fl ge []) 4 137 [bJ a,bJ b] 2 .normal [] (sB a b):=
 wy [aa h1,aF h2] 129
def aih (a b:List Int) (h1:a.length<=1000000) (h2: -9223372036854775808<=(a.length:Int)-1/\(a.length:Int)-1<=9223372036854775807) (h3:a.length=(cJ a.length).length) (h4:(bM (cJ a.length).length)=(bM a.length)) (h5:(List.flatten (List.replicate a.length (List.map af.raw (Array.toList #[Value.int .u64 (0:Int)]))))=(List.flatMap (fun x=>[af.raw (Value.int .u64 x)]) (cJ a.length))):
  aE.path (Aj prog kH (fl ge Dm) 3 (sB a b)) (dl 1) (ep prog 137 .normal [(64,64,some a.length)] (q4 a b (cJ a.length) 0 a.length)):=
 mp (FO rt rt (show(decide (a.length<=a.length))=true from az (by omega)) (oq (show(bounded a.length (8:Nat))=true from pL h1 (by omega)) (eP h2) (rr a) (rr b) (an h3 (an (rr (bh.known a.length)) h4)) (rr (0:Int)) (rr ((a.length:Int)-1)) (an h5 h3) trivial))
section
variable (a b q:List Int) (r:Int) (k:Nat)
def aii (h1:(k:Int)-1>=0) (h2:0<=(k:Int)-1) (h3:((k:Int)-1).toNat<a.length) (h4:Int.toNat 0<b.length) (h5:(uv r (a.getD ((k:Int)-1).toNat 0) (b.getD (Int.toNat 0) 0))=true) (h6:((k:Int)-1).toNat<q.length) (h7:i6 ((k:Int)-1-1)) (h8:q.length=(q.set ((k:Int)-1).toNat (kE r (a.getD ((k:Int)-1).toNat 0) (b.getD 0 0))).length) (h9:(bM q.length)=(bM (q.set ((k:Int)-1).toNat (kE r (a.getD ((k:Int)-1).toNat 0) (b.getD 0 0))).length)) (h10:(oD r (a.getD ((k:Int)-1).toNat 0) (b.getD (Int.toNat 0) 0))=(oD r (a.getD ((k:Int)-1).toNat 0) (b.getD 0 0))) (h11:(q.set ((k:Int)-1).toNat (kE r (a.getD ((k:Int)-1).toNat 0) (b.getD (Int.toNat 0) 0)))=(q.set ((k:Int)-1).toNat (kE r (a.getD ((k:Int)-1).toNat 0) (b.getD 0 0)))):
  bz kH (fl ge Mr) (q4 a b q r k) 3 .normal kf (Mu a b (q.set ((k:Int)-1).toNat (kE r (a.getD ((k:Int)-1).toNat 0) (b.getD 0 0))) (oD r (a.getD ((k:Int)-1).toNat 0) (b.getD 0 0)) k):=
 wy [ah h1,ah h2,ah h3,aa (aD (v:=af.raw (Value.int IntKind.u64 (a.getD ((k:Int)-(1:Int)).toNat (0:Int))))),ah h4,aa (aD (v:=af.raw (Value.int IntKind.u64 (b.getD (0:Int).toNat (0:Int))))),aa h5,ah h6,jl 167 aG h6,yi h7,ax h8,ax h9,ax h10,mN 167 aG h11] 290835506264453566828585601305948289
def aij (h1:¬(k:Int)-1>=0):
  bz kH (fl ge Mr) (q4 a b q r k) 2 (.exit 0) kf (q4 a b q r k):=
 wy [aF h1] 1
def aik (h1:(Nat.beq q.length 0||bA 167 aG (a8 167 aG q) (q.length-1))=true) (h2:((q.drop 0).take q.length).length<=1000000) (h3:1*1<=(af.raw (Value.int .u64 r)::List.append._f [] PUnit.unit (List.flatten._f [] PUnit.unit)).length) (h4:List.length [r]<=1000000) (h5:(dQ ((q.drop 0).take q.length))=(dQ q)):
  bS kH ((fl ge Dm).drop 4) (q4 a b q r k) 1 f178 false (.tuple [bJ (dQ q),bJ (dQ [r])]):=
 wy [aa (show(Nat.beq q.length (0:Nat)||bA 167 aG (a8 167 aG q) ((0:Nat)+q.length-(1:Nat)))=true from(by simp only [aw]<;>exact h1)),aa (show(decide ((((bP aG (a8 167 aG q)).drop (0:Nat)).take q.length).length<=(1000000:Nat)))=true from(by simp only [eD]<;>exact az h2)),aa (show(Nat.ble ((0:Nat)+(1:Nat)*(1:Nat)) (af.raw (Value.int IntKind.u64 r)::List.append._f [] PUnit.unit (List.flatten._f [] PUnit.unit)).length)=true from(by simp only [aw]<;>exact fK h3)),ah h4,ax (show(dQ (((bP aG (a8 167 aG q)).drop (0:Nat)).take q.length))=(dQ q)from(by simp only [eD]<;>exact h5))] 84947073
end
def ail (a b:List Int) (h1:¬(b.length:Int)=1):
  dV kH ((fl ge []).drop 4) 1 (sB a b) 2 .normal [] (sB a b):=
 wy [yn h1] 1
def aim (a b v:List Int) (s:Int) (h1:i6 ((b.length:Int)-1)) (h2:0<=(b.length:Int)-1) (h3:((b.length:Int)-1).toNat<b.length) (h4:(wh (b.getD ((b.length:Int)-1).toNat 0))=true) (h5:(yw b (dY (b.getD ((b.length:Int)-1).toNat 0)))=true) (h6:(Nat.beq (cK b (dY (b.getD ((b.length:Int)-1).toNat 0))).length 0||bA (qH.e Gy) aG (some (bq.own 167 aG (cK b (dY (b.getD ((b.length:Int)-1).toNat 0))))) ((cK b (dY (b.getD ((b.length:Int)-1).toNat 0))).length-1))=true) (h7:(((cK b (dY (b.getD ((b.length:Int)-1).toNat 0))).drop 0).take (cK b (dY (b.getD ((b.length:Int)-1).toNat 0))).length).length<=1000000) (h8:(dY (b.getD ((b.length:Int)-1).toNat 0))=(s)) (h9:(dQ (((cK b (dY (b.getD ((b.length:Int)-1).toNat 0))).drop 0).take (cK b (dY (b.getD ((b.length:Int)-1).toNat 0))).length))=(v)):
  dV kH ((fl ge []).drop 5) 2 (sB a b) 1 .normal [] (Mv a v s):=
 wy [yi h1,ah h2,ah h3,aa h4,aa h5,aa (show(Nat.beq (cK b (dY (b.getD ((b.length:Int)-(1:Int)).toNat (0:Int)))).length (0:Nat)||bA (qH.e Gy) aG (some (bq.own 167 aG (cK b (dY (b.getD ((b.length:Int)-(1:Int)).toNat (0:Int)))))) ((0:Nat)+(cK b (dY (b.getD ((b.length:Int)-(1:Int)).toNat (0:Int)))).length-(1:Nat)))=true from(by simp only [aw]<;>exact h6)),ah h7,ax h8,ax h9] 164381873962758273
def ain (a v:List Int) (s:Int) (m:Nat) (h1:(yw a s)=true) (h2: -9223372036854775808<=(a.length:Int)-(v.length:Int)/\(a.length:Int)-(v.length:Int)<=9223372036854775807) (h3: -9223372036854775808<=(a.length:Int)-(v.length:Int)+1/\(a.length:Int)-(v.length:Int)+1<=9223372036854775807) (h4:(0:Int)<=(a.length:Int)-(v.length:Int)+1) (h5:((a.length:Int)-(v.length:Int)+1).toNat<=1000000) (h6:(cK a s).length=(cK a s).length) (h7:(((a.length:Int)-(v.length:Int)+1).toNat)=(cJ m).length) (h8:(bh.known ((a.length:Int)-(v.length:Int)+1).toNat)=(bh.known m)) (h9:(bM (cJ m).length)=(bM m)) (h10:((a.length:Int)-(v.length:Int))=((m:Int)-1)) (h11:(List.flatten (List.replicate ((a.length:Int)-(v.length:Int)+1).toNat (List.map af.raw (Array.toList #[Value.int .u64 (0:Int)]))))=(List.flatMap (fun x=>[af.raw (Value.int .u64 x)]) (cJ m))) (h12:(m)=(cJ m).length):
  aE.path (Aj prog kH ((fl ge []).drop 7) 4 (Mv a v s)) (dl 1) (ep prog 137 .normal [(64,64,none),(65,65,some m)] (lf a v (cK a s) (cJ m) s m)):=
 mp (an h1 (oq (eP h2) (eP h3) (az h4) (az h4) (show(decide (((a.length:Int)-(v.length:Int)+1).toNat<=((a.length:Int)-(v.length:Int)+1).toNat))=true from az (by omega)) (show(bounded ((a.length:Int)-(v.length:Int)+1).toNat (8:Nat))=true from pL h5 (by omega)) (eP h2) (rr a) (oq (rr s) (rr v) (an (rr (0:Nat)) (an h6 (rr (bh.full)))) (rr (v.length:Int)) (an h7 (an h8 h9)) h10 (rr (cK a s)) (an h11 h12) trivial)))
section
variable (a v u q:List Int) (s:Int) (k:Nat) (h1:(k:Int)-1>=0) (h2:i6 ((k:Int)-1+(v.length:Int))) (h3:i6 ((k:Int)-1+(v.length:Int)+1)) (h4:0<=(k:Int)-1) (h5:((k:Int)-1+(v.length:Int)+1).toNat<=u.length)
def aio (h6:((k:Int)-1).toNat=0) (h7:(bA (gW.e sw) (gW.t sw) (some (bq.own 167 aG u)) (((k:Int)-1+(v.length:Int)+1).toNat-1)&&Nat.ble 1 ((k:Int)-1+(v.length:Int)+1).toNat)=true) (h8:(se u 0 ((k:Int)-1+(v.length:Int)+1).toNat v)=true) (h9:((k:Int)-1).toNat<q.length) (h10:i6 ((k:Int)-1-1)) (h11:u.length=(ik u 0 ((k:Int)-1+(v.length:Int)+1).toNat v).length) (h12:q.length=(q.set ((k:Int)-1).toNat (jr u 0 ((k:Int)-1+(v.length:Int)+1).toNat v)).length) (dZ:(bM q.length)=(bM (q.set ((k:Int)-1).toNat (jr u 0 ((k:Int)-1+(v.length:Int)+1).toNat v)).length)):
  bz kH (fl ge GH) (lf a v u q s k) 7 .normal yD (AV a v (ik u 0 (((k:Int)-1+v.length+1).toNat) v) (q.set ((k:Int)-1).toNat (jr u 0 (((k:Int)-1+v.length+1).toNat) v)) s k):=
 wy [ah h1,yi h2,yi h3,ah (by omega:(0:Int)<=(k:Int)-(1:Int)+(v.length:Int)+(1:Int)),ah h4,ah (by omega:((k:Int)-(1:Int)).toNat<=((k:Int)-(1:Int)+(v.length:Int)+(1:Int)).toNat),ah h5,aa (ac5 h6),aa (show(bA (gW.e sw) (gW.t sw) (some (bq.own 167 aG u)) ((0:Nat)+((k:Int)-(1:Int)+(v.length:Int)+(1:Int)).toNat-(1:Nat))&&Nat.ble (1:Nat) ((k:Int)-(1:Int)+(v.length:Int)+(1:Int)).toNat)=true from(by simp only [aw]<;>exact h7)),aa h8,ah h9,jl 167 aG h9,yi h10,ax h11,ax h12,ax dZ,mN 167 aG (Eq.refl (q.set ((k:Int)-(1:Int)).toNat (jr u (0:Nat) ((k:Int)-(1:Int)+(v.length:Int)+(1:Int)).toNat v)))] 1552851146518156587532186954369615219962099544193
def aip (h6:(Nat.beq ((k:Int)-1).toNat 0)=false) (h7:((k:Int)-1).toNat<((k:Int)-1+(v.length:Int)+1).toNat) (h8:(bA (gW.e sw) (gW.t sw) (some (bq.own 167 aG u)) (((k:Int)-1).toNat+(((k:Int)-1+(v.length:Int)+1).toNat-Int.toNat ((k:Int)-1))-1)&&Nat.ble 1 (((k:Int)-1+(v.length:Int)+1).toNat-Int.toNat ((k:Int)-1)))=true) (h9:(se u ((k:Int)-1).toNat (((k:Int)-1+(v.length:Int)+1).toNat-Int.toNat ((k:Int)-1)) v)=true) (h10:((k:Int)-1).toNat<q.length) (h11:i6 ((k:Int)-1-1)) (h12:u.length=(ik u ((k:Int)-1).toNat (((k:Int)-1+(v.length:Int)+1).toNat-Int.toNat ((k:Int)-1)) v).length) (dZ:q.length=(q.set ((k:Int)-1).toNat (jr u ((k:Int)-1).toNat (((k:Int)-1+(v.length:Int)+1).toNat-Int.toNat ((k:Int)-1)) v)).length) (iH:(bM q.length)=(bM (q.set ((k:Int)-1).toNat (jr u ((k:Int)-1).toNat (((k:Int)-1+(v.length:Int)+1).toNat-Int.toNat ((k:Int)-1)) v)).length)):
  bz kH (fl ge GH) (lf a v u q s k) 13 .normal yD (AV a v (ik u ((k:Int)-1).toNat ((((k:Int)-1+v.length+1).toNat)-((k:Int)-1).toNat) v) (q.set ((k:Int)-1).toNat (jr u ((k:Int)-1).toNat ((((k:Int)-1+v.length+1).toNat)-((k:Int)-1).toNat) v)) s k):=
 wy [ah h1,yi h2,yi h3,ah (by omega:(0:Int)<=(k:Int)-(1:Int)+(v.length:Int)+(1:Int)),ah h4,ah (by omega:((k:Int)-(1:Int)).toNat<=((k:Int)-(1:Int)+(v.length:Int)+(1:Int)).toNat),ah h5,aa h6,ah h7,aa (show(bA (gW.e sw) (gW.t sw) (some (bq.own 167 aG u)) ((0:Nat)+((k:Int)-(1:Int)).toNat+(((k:Int)-(1:Int)+(v.length:Int)+(1:Int)).toNat-Int.toNat ((k:Int)-(1:Int)))-(1:Nat))&&Nat.ble (1:Nat) (((k:Int)-(1:Int)+(v.length:Int)+(1:Int)).toNat-Int.toNat ((k:Int)-(1:Int))))=true from(by simp only [aw]<;>exact h8)),aa (show(se u ((0:Nat)+((k:Int)-(1:Int)).toNat) (((k:Int)-(1:Int)+(v.length:Int)+(1:Int)).toNat-Int.toNat ((k:Int)-(1:Int))) v)=true from(by simp only [aw]<;>exact h9)),ah h10,jl 167 aG h10,yi h11,ax h12,ax dZ,ax iH,ax (show(ik u ((0:Nat)+((k:Int)-(1:Int)).toNat) (((k:Int)-(1:Int)+(v.length:Int)+(1:Int)).toNat-Int.toNat ((k:Int)-(1:Int))) v)=(ik u ((k:Int)-(1:Int)).toNat (((k:Int)-(1:Int)+(v.length:Int)+(1:Int)).toNat-Int.toNat ((k:Int)-(1:Int))) v)from(by simp only [aw])),pK prog 167 aG (show((bP aG (a8 167 aG q)).set ((0:Nat)+((k:Int)-(1:Int)).toNat) (jr u ((0:Nat)+((k:Int)-(1:Int)).toNat) (((k:Int)-(1:Int)+(v.length:Int)+(1:Int)).toNat-Int.toNat ((k:Int)-(1:Int))) v))=(q.set ((k:Int)-(1:Int)).toNat (jr u ((k:Int)-(1:Int)).toNat (((k:Int)-(1:Int)+(v.length:Int)+(1:Int)).toNat-Int.toNat ((k:Int)-(1:Int))) v))from(by simp only [eD,aw]<;>rfl))] 112718698467000873757520171089483947854851910676609
end
def aiq (a v u q:List Int) (s:Int) (k:Nat) (h1:¬(k:Int)-1>=0):
  bz kH (fl ge GH) (lf a v u q s k) 2 (.exit 2) yD (lf a v u q s k):=
 wy [aF h1] 1
def air (a v u q:List Int) (s:Int) (k:Nat):
  dV kH ((fl ge []).drop 12) 1 (lf a v u q s k) 1 .normal yD (jL v.length u q s 0):=
 wy [] 0
section
variable (n:Nat) (u q:List Int) (s:Int) (i:Nat) (h1:(i:Int)<(n:Int)) (h2:i<u.length) (h3:(bA 167 aG (some (bq.own 167 aG u)) i)=true) (h4:0<=s)
def ais (h5:s>0) (h6:i6 ((i:Int)+1)) (h7:(i:Int)+1<(u.length:Int)) (h8:(bA 167 aG (some (bq.own 167 aG (u.set i (Int.fdiv (u.getD i 0) ((2:Int)^min s.toNat 64))))) i)=true) (h9:((i:Int)+1).toNat<u.length) (h10:(bA 167 aG (some (bq.own 167 aG (u.set i (Int.fdiv (u.getD i 0) ((2:Int)^min s.toNat 64))))) ((i:Int)+1).toNat)=true) (h11:i6 (64-s)) (h12:0<=64-s) (dZ:u.length=((u.set i (dD (u.getD i 0) s)).set i (eX ((u.set i (dD (u.getD i 0) s)).getD i 0) (fF ((u.set i (dD (u.getD i 0) s)).getD (i+1) 0) (64-s)))).length) (iH:((u.set i (Int.fdiv (u.getD i 0) ((2:Int)^min s.toNat 64))).set i (IntKind.wrap IntKind.u64 (↑(BitVec.toNat (BitVec.ofInt 64 ((u.set i (Int.fdiv (u.getD i 0) ((2:Int)^min s.toNat 64))).getD i 0)|||BitVec.ofInt 64 (IntKind.wrap IntKind.u64 ((u.set i (Int.fdiv (u.getD i 0) ((2:Int)^min s.toNat 64))).getD ((i:Int)+1).toNat 0*(2:Int)^min (64-s).toNat 64)))):Int)))=((u.set i (dD (u.getD i 0) s)).set i (eX ((u.set i (dD (u.getD i 0) s)).getD i 0) (fF ((u.set i (dD (u.getD i 0) s)).getD (i+1) 0) (64-s))))):
  bz kH (fl ge GI) (jL n u q s i) 511 .normal yD (jL n ((u.set i (dD (u.getD i 0) s)).set i (eX ((u.set i (dD (u.getD i 0) s)).getD i 0) (fF ((u.set i (dD (u.getD i 0) s)).getD (i+1) 0) (64-s)))) q s (i+1)):=
 wy [ah h1,ah h2,aa (show(bA 167 aG (some (bq.own 167 aG u)) ((0:Nat)+i))=true from(by simp only [aw]<;>exact h3)),ah h4,aa (aL (az h5)),yi h6,ah h5,ah h7,aa (show(bA 167 aG (some (bq.own 167 aG (u.set ((0:Nat)+i) (Int.fdiv (u.getD ((0:Nat)+i) (0:Int)) ((2:Int)^min s.toNat (64:Nat)))))) ((0:Nat)+i))=true from(by simp only [aw]<;>exact h8)),aa (aD (v:=af.raw (Value.int IntKind.u64 ((u.set ((0:Nat)+i) (Int.fdiv (u.getD ((0:Nat)+i) (0:Int)) ((2:Int)^min s.toNat (64:Nat)))).getD ((0:Nat)+i) (0:Int))))),ah h9,aa (show(bA 167 aG (some (bq.own 167 aG (u.set ((0:Nat)+i) (Int.fdiv (u.getD ((0:Nat)+i) (0:Int)) ((2:Int)^min s.toNat (64:Nat)))))) ((0:Nat)+((i:Int)+(1:Int)).toNat))=true from(by simp only [aw]<;>exact h10)),aa (aD (v:=af.raw (Value.int IntKind.u64 ((u.set ((0:Nat)+i) (Int.fdiv (u.getD ((0:Nat)+i) (0:Int)) ((2:Int)^min s.toNat (64:Nat)))).getD ((0:Nat)+((i:Int)+(1:Int)).toNat) (0:Int))))),yi h11,ah h12,ax dZ,ax (show((u.set ((0:Nat)+i) (Int.fdiv (u.getD ((0:Nat)+i) (0:Int)) ((2:Int)^min s.toNat (64:Nat)))).set ((0:Nat)+i) (IntKind.wrap IntKind.u64 (↑(BitVec.toNat (BitVec.ofInt (64:Nat) ((u.set ((0:Nat)+i) (Int.fdiv (u.getD ((0:Nat)+i) (0:Int)) ((2:Int)^min s.toNat (64:Nat)))).getD ((0:Nat)+i) (0:Int))|||BitVec.ofInt (64:Nat) (IntKind.wrap IntKind.u64 ((u.set ((0:Nat)+i) (Int.fdiv (u.getD ((0:Nat)+i) (0:Int)) ((2:Int)^min s.toNat (64:Nat)))).getD ((0:Nat)+((i:Int)+(1:Int)).toNat) (0:Int)*(2:Int)^min ((64:Int)-s).toNat (64:Nat))))):Int)))=((u.set i (dD (u.getD i (0:Int)) s)).set i (eX ((u.set i (dD (u.getD i (0:Int)) s)).getD i (0:Int)) (fF ((u.set i (dD (u.getD i (0:Int)) s)).getD (i+(1:Nat)) (0:Int)) ((64:Int)-s))))from(by simp only [aw]<;>exact iH))] 7873862068137527616914292518417608029408674204502519200453172716118206636105729
def ait (h5:¬s>0) (h6:i6 ((i:Int)+1)) (h7:u.length=(u.set i (dD (u.getD i 0) s)).length) (h8:(u.set i (Int.fdiv (u.getD i 0) ((2:Int)^min s.toNat 64)))=(u.set i (dD (u.getD i 0) s))):
  bz kH (fl ge GI) (jL n u q s i) 257 .normal yD (jL n (u.set i (dD (u.getD i 0) s)) q s (i+1)):=
 wy [ah h1,ah h2,aa (show(bA 167 aG (some (bq.own 167 aG u)) ((0:Nat)+i))=true from(by simp only [aw]<;>exact h3)),ah h4,aa (aL (ab h5)),aF h5,yi h6,ax h7,ax (show(u.set ((0:Nat)+i) (Int.fdiv (u.getD ((0:Nat)+i) (0:Int)) ((2:Int)^min s.toNat (64:Nat))))=(u.set i (dD (u.getD i (0:Int)) s))from(by simp only [aw]<;>exact h8))] 822094670998635487646669403467073943717211283457
end
section
variable (n:Nat) (u q:List Int) (s:Int) (i:Nat)
def aiu (h1:¬(i:Int)<(n:Int)):
  bz kH (fl ge GI) (jL n u q s i) 2 (.exit 4) yD (jL n u q s i):=
 wy [aF h1] 1
def aiv (h1:(Nat.beq q.length 0||bA 167 aG (a8 167 aG q) (q.length-1))=true) (h2:((q.drop 0).take q.length).length<=1000000) (h3:n<=u.length) (h4:(Nat.beq n 0||bA 167 aG (some (bq.own 167 aG u)) (n-1))=true) (h5:((u.drop 0).take n).length<=1000000) (h6:(dQ ((q.drop 0).take q.length))=(dQ q)) (h7:(dQ ((u.drop 0).take n))=(dQ (u.take n))):
  bS kH ((fl ge []).drop 14) (jL n u q s i) 3 f178 false (.tuple [bJ (dQ q),bJ (dQ (u.take n))]):=
 wy [aa (show(Nat.beq q.length (0:Nat)||bA 167 aG (a8 167 aG q) ((0:Nat)+q.length-(1:Nat)))=true from(by simp only [aw]<;>exact h1)),aa (show(decide ((((bP aG (a8 167 aG q)).drop (0:Nat)).take q.length).length<=(1000000:Nat)))=true from(by simp only [eD]<;>exact az h2)),ah h3,aa (show(Nat.beq n (0:Nat)||bA 167 aG (some (bq.own 167 aG u)) ((0:Nat)+n-(1:Nat)))=true from(by simp only [aw]<;>exact h4)),ah h5,ax (show(dQ (((bP aG (a8 167 aG q)).drop (0:Nat)).take q.length))=(dQ q)from(by simp only [eD]<;>exact h6)),ax h7] 127811904587432065
end
def T5 {X:Ext} {P:Program} {w0:World} {F:Sv.Env} {n:Nat} {T:au af} {H:ai} {Q:Exit->au af->ai->Prop} {l rest:List Code} {o:Operand} {x y:Code} (hl:l= .cond o x y::rest) (hb:gR (cq T o)= .mk true)
  (h:cg X P w0 F n (ue x) T H (ig (fun T H=>cg X P w0 F n rest T H Q) Q)):cg X P w0 F n l T H Q:=by
 subst hl;intro a w hs k;obtain⟨ρ,aR,_⟩:=hs.ex;have hc:=xE aR.T aR.G o;rw [EE hb]at hc;exact wpIn_cond hc.cc (vN h a w hs k)
def GJ:bD prog (bF kH):=by
 refine adq (fun c hc=> ?_) (SH (fun c hc=> ?_) (uj (fun c hc=> ?_) (cN fun c hc=> ?_)))
 .rw [List.mem_singleton.1 hc];exact ahu
 .rw [List.mem_singleton.1 hc];exact aid
 .rw [List.mem_singleton.1 hc];exact LG
 .simp only [ew,jU,or_false]at hc;rcases hc with rfl |rfl |rfl
  .exact Tk
  .exact TV
  .exact TE
def pX (a b:List Int):Bool:=mU a b&&(decide (1<=b.length)&&(decide (a.length<=300000)&&decide (b.length<=300000)))
def e9 (a b:List Int):List Int:=cV 18446744073709551616 (ak a/ak b)
def cL (a b:List Int):List Int:=cV 18446744073709551616 (ak a%ak b)
def Mw:=IN 178 [.list false aG, .list false aG] [.list false aG, .list false aG] false (fun d=>pX d.1 d.2.1) fun d=>(e9 d.1 d.2.1,(cL d.1 d.2.1,()))
abbrev Mx (q r:List Int):Exit->au af->ai->Prop:=hJ prog false f178 (.tuple [bJ q,bJ r])
def T6 {l:List Int} {k:Nat} (h:k=l.length):(Nat.beq l.length 0||bA 167 aG (a8 167 aG l) (k-1))=true:=by
 subst h;cases l with
 |nil=>rfl
 |cons x r=>rw [ED];simp
def aiw {a:List Int} {y:Int} (ha:aS 18446744073709551616 a) (hy:1<=y/\y<18446744073709551616) (hla:a.length<=300000) (w:World) (F:Sv.Env):
  aW prog w F 137 (fl ge Dm) (sB a [y]).T (sB a [y]).H (fun e T H=>e= .ret/\Mx (e9 a [y]) (cL a [y]) .ret T H):=by
 have hS:=GJ;refine dP (s:=sB a [y]) hS 3 (aih a [y] (by omega) (by omega) (gO _).symm (by rw [gO]) (yh _)) ?_;refine aW.loop (ι:={x:List Int×Int×Nat//x.2.2<=a.length/\x.1.length=a.length/\aS 18446744073709551616 x.1/\(0<=x.2.1/\x.2.1<y)/\ak (a.drop x.2.2)=ak (x.1.drop x.2.2)*y+x.2.1}) (id:=0) (b:=cat ge Mr) (rest:=(fl ge Dm).drop 4) (by kernel_rfl) (fun x=>q4 a [y] x.1.1 x.1.2.1 x.1.2.2) (fun x=>x.1.2.2)
  ⟨(cJ a.length,0,a.length),aK _,gO _,qS _,⟨Int.le_refl 0,show(0:Int)<y by omega⟩,by
    show ak (a.drop a.length)=ak ((cJ a.length).drop a.length)*y+0;rw [List.drop_length,List.drop_eq_nil_of_le (by rw [gO];exact aK _)];simp [ak,vl]⟩ (fun _=>rfl) ?_
 rintro⟨⟨q,r,k⟩,hk,hq,jt,hr,hv⟩;have hk:k<=a.length:=hk;have hq:q.length=a.length:=hq;have jt:aS 18446744073709551616 q:=jt;have hr:0<=r/\r<y:=hr;have hv:ak (a.drop k)=ak (q.drop k)*y+r:=hv;cases k with
 |zero=>
  refine bC (s:=q4 a [y] q r 0) hS (aij a [y] q r 0 (by omega)) ?_;refine cI (cQ ?_);rw [List.drop_zero,List.drop_zero]at hv;have e1:ak [y]=y:=AF y;obtain⟨g1,g2⟩:=yd (U:=ak a) (V:=y) (t:=ak q) (by omega) (by omega) (by omega);have e2:e9 a [y]=dQ q:=by unfold e9;rw [e1,g1,mi jt]
  have e3:cL a [y]=dQ [r]:=by
   unfold cL;rw [e1,g2,mi (LW (by omega)),AF];congr 1;omega
  rw [e2,e3];have bW:(q.drop 0).take q.length=q:=by simp
  exact aW.rX (s:=q4 a [y] q r 0) known mixed hS _ (aik a [y] q r 0 (T6 rfl) (by rw [bW];omega) (aK 1) (by simp) (by rw [bW])) fun T H h=>⟨rfl,h⟩
 |succ j=>
  have ej:(((j+1:Nat):Int)-1).toNat=j:=by omega
  have haj:=ha.get (by decide) j;have hD:uv r (a.getD j 0) y=true:=by
   unfold uv;rw [si.2 haj,si.2 (by omega),az hr.1,az hr.2];rfl
  have tV:=Int.emod_add_mul_ediv (r*18446744073709551616+a.getD j 0) y;have hm0:=ec (r*18446744073709551616+a.getD j 0) (show y≠0 by omega);have pR:=eL (r*18446744073709551616+a.getD j 0) (show 0<y by omega);have j7:0<=(r*18446744073709551616+a.getD j 0)/y:=Int.ediv_nonneg (by omega) (by omega);have hq1:(r*18446744073709551616+a.getD j 0)/y<18446744073709551616:=(Int.ediv_lt_iff_lt_mul (by omega)).2 (by
   have:(r+1)*18446744073709551616<=y*18446744073709551616:=ar (by omega) (by decide);rw [Int.mul_comm _ y];omega)
  refine bC (s:=q4 a [y] q r (j+1)) hS (aii a [y] q r (j+1) (by omega) (by omega) (by omega) (by simp) (by rw [ej];exact hD) (by omega) (by omega) (by rw [b9]) (by rw [b9]) rfl rfl) ?_;rw [ej];have j6:(((j+1:Nat):Int)-1-1)=(j:Int)-1:=by omega
  refine⟨⟨(q.set j (kE r (a.getD j 0) y),oD r (a.getD j 0) y,j),by show j<=_;omega,by show(q.set j _).length=_;rw [b9];exact hq,jt.set ⟨j7,hq1⟩,⟨hm0,pR⟩, ?_⟩,by show j<j+1;omega, ?_, ?_⟩
  .show ak (a.drop j)=ak ((q.set j (kE r (a.getD j 0) y)).drop j)*y+oD r (a.getD j 0) y;unfold ak at hv ⊢;rw [uu (l:=a) (by omega),uu (l:=q.set j _) (by rw [b9];omega),mc (by omega),hv];have Mj:(q.set j (kE r (a.getD j 0) y)).drop (j+1)=q.drop (j+1):=by rw [List.drop_set];rw [if_pos (by omega)]
   rw [Mj];unfold kE oD;generalize vl 18446744073709551616 (q.drop (j+1))=z at*;generalize (r*18446744073709551616+a.getD j 0)/y=d at*;generalize (r*18446744073709551616+a.getD j 0)%y=e at*;grind
  .show(Mu a [y] _ _ (j+1)).T=(q4 a [y] _ _ j).T;unfold Mu q4;rw [j6];rfl
  .rfl
def dT:=k_a f131
def iI:=Ao [wq] (ov [FY] (a7 [LC,TZ,LP]))
abbrev My:List Nat:=[1,1,1,1,1,1,1,0,0,0]
abbrev Dn:List Nat:=[1,1,1,1,1,1,1,1,1,0,1,0,0]
abbrev uA:List Nat:=[1,1,1,1,1,1,1,1,1,0,1,0,0,1,0,0]
abbrev GK:List Nat:=[1,1,1,1,1,1,1,1,1,0,1,0,0,1,0,0,1,1,0,1,0,0]
abbrev GL:List Nat:=[1,1,1,1,1,1,1,1,1,0,1,0,0,1,0,0,1,1,1,1,0,1,0]
abbrev Mz:List Nat:=[1,1,1,1,1,1,1,1,1,0,1,0,0,1,0,0,1,1,1,1,0,1,0,1,1,0,1,0,0]
def MA (a b:List Int) (f:Int):bI:={n:=206,sl:=[(0,lv a),(1,lv b),(8,mO 64 [f])],bH:=[(64,mP [f])],next:=65}
def AW (a b:List Int) (f:Int):bI:={n:=206,sl:=[(0,lv a),(1,lv b),(8,lv [f])],bH:=[],next:=64}
def sC (a v:List Int) (f:Int) (u:List Int):bI:={n:=206,sl:=[(0,lv a),(8,lv [f]),(9,lv v),(10,iv v.length),(11,mO 64 u)],bH:=[(64,mP u)],next:=65}
abbrev Dp (u:List Int):fS:= .blk (.own 3 (.int .i64) u)
section
variable (v:List Int) (f:Int) (c:bh) (u q:List Int)
def hG (z:Int):bI:={n:=206,sl:=[(8,lv [f]),(9,lv v),(10,iv v.length),(11,wo u.length c),(12,mO 65 q),(13,iv z)],bH:=[(64,Dp u),(65,mP q)],next:=66}
def oG (z t bo:Int) (i:Nat):bI:={n:=206,sl:=[(8,lv [f]),(9,lv v),(10,iv v.length),(11,wo u.length c),(12,mO 65 q),(13,iv z),(14,iv t),(15,iv bo),(16,iv i)],bH:=[(64,Dp u),(65,mP q)],next:=66}
def yE (z t:Int) (x:Bool):bI:={n:=206,sl:=[(8,lv [f]),(9,lv v),(10,iv v.length),(11,wo u.length c),(12,mO 65 q),(13,iv z),(14,iv t),(145,bv x)],bH:=[(64,Dp u),(65,mP q)],next:=66}
def sD (z t cY:Int) (i:Nat):bI:={n:=206,sl:=[(8,lv [f]),(9,lv v),(10,iv v.length),(11,wo u.length c),(12,mO 65 q),(13,iv z),(14,iv t),(19,iv cY),(20,iv i)],bH:=[(64,Dp u),(65,mP q)],next:=66}
def MB (z t:Int):bI:={n:=206,sl:=[(8,lv [f]),(9,lv v),(10,iv v.length),(11,wo u.length c),(12,mO 65 q),(13,iv z),(14,iv t)],bH:=[(64,Dp u),(65,mP q)],next:=66}
end
abbrev nJ:Sv.Ren:=[(64,64,none),(65,65,none)]
section
variable (a b:List Int) (h1:(okA a&&okA b)=true)
def aix (h2:md (ag a) (ag b)<0):
  aV iI (fl dT []) 3 206 [lv a,lv b] 3 f131 false (.tuple [lv [],lv a]):=
 wy [aa h1,ah h2] 129
def aiy (h2:¬md (ag a) (ag b)<0) (h3:(b.length:Int)=1) (h4:Int.toNat 0<b.length) (h5:(okB a&&(decide ((1:av.den (.int .i64))<=b.getD (Int.toNat 0) 0)&&decide (b.getD (Int.toNat 0) 0<(1000000000:av.den (.int .i64)))))=true) (h6:1*1<=(iv (ag a%List.getD b (Int.toNat 0) 0)::List.append._f [] PUnit.unit (List.flatten._f [] PUnit.unit)).length) (h7:List.length [ag a%List.getD b (Int.toNat 0) 0]<=1000000) (h8:(aH (ag a/List.getD b (Int.toNat 0) 0))=(aH (ag a/List.getD b 0 0))) (h9:(er [ag a%List.getD b (Int.toNat 0) 0])=(er [ag a%List.getD b 0 0])):
  aV iI (fl dT []) 5 206 [lv a,lv b] 6 f131 false (.tuple [lv (aH (ag a/b.getD 0 0)),lv (er [ag a%b.getD 0 0])]):=
 wy [aa h1,aF h2,cM h3,ah h4,aa h5,aa (show(Nat.ble ((0:Nat)+(1:Nat)*(1:Nat)) (iv (ag a%List.getD b (0:Int).toNat (0:Int))::List.append._f [] PUnit.unit (List.flatten._f [] PUnit.unit)).length)=true from(by simp only [aw]<;>exact fK h6)),ah h7,ax h8,ax h9] 164412590477291649
def aiz (h2:¬md (ag a) (ag b)<0) (h3:¬(b.length:Int)=1) (h4: -9223372036854775808<=(b.length:Int)-1/\(b.length:Int)-1<=9223372036854775807) (h5:(0:Int)<=(b.length:Int)-1) (h6:((b.length:Int)-1).toNat<b.length) (h7: -9223372036854775808<=b.getD ((b.length:Int)-1).toNat (0:Int)+1/\b.getD ((b.length:Int)-1).toNat (0:Int)+1<=9223372036854775807) (h8:b.getD ((b.length:Int)-1).toNat (0:Int)+1≠0) (h9: -9223372036854775808<=Int.tdiv (1000000000:Int) (b.getD ((b.length:Int)-1).toNat (0:Int)+1)/\Int.tdiv (1000000000:Int) (b.getD ((b.length:Int)-1).toNat (0:Int)+1)<=9223372036854775807) (h10:(iv (Int.tdiv (1000000000:Int) (b.getD ((b.length:Int)-1).toNat (0:Int)+1))::List.append._f [] PUnit.unit (List.flatten._f [] PUnit.unit))=(List.flatMap (fun x=>[iv x]) [Int.tdiv (1000000000:Int) (b.getD ((b.length:Int)-1).toNat (0:Int)+1)])):
  aE.path (om prog iI (fl dT []) 6 206 [lv a,lv b]) (dl 4) (ep prog 206 .normal [(64,64,some 1)] (MA a b (Int.tdiv 1000000000 (b.getD ((b.length:Int)-1).toNat 0+1)))):=
 mp (Ln h1 (ab h2) (eB.mpr h3) (eP h4) (az h5) (oq (az h6) (eP h7) (az h8) (eP h9) (rr a) (rr b) (an (rr (1:Nat)) (an (rr (bh.known (1:Nat))) (rr (bM (List.length [Int.tdiv (1000000000:Int) (b.getD ((b.length:Int)-1).toNat (0:Int)+1)]))))) (an h10 (rr (1:Nat))) trivial))
end
def aiA (a b:List Int) (f:Int):
  aE.path (aE.ret (R.normal ((MA a b f).T.set 8 (some (lv [f]))) ((MA a b f).H.drop 64) []):aE R) (dl 1) (ep prog 206 .normal [] (AW a b f)):=
 wy [] 0
def aiB (a b:List Int) (f:Int) (h1:(okB b&&okB [f])=true) (h2:(okB a&&okB [f])=true) (h3:(Nat.beq (aH (ag a*ag [f])).length 0)=false) (h4:(aH (ag a*ag [f])).length<=1000000) (h5:(bh.full)=(bM (aH (ag a*ag [f])).length)) (h6:(bP (.int .i64) none++aH (ag a*ag [f]))=(aH (ag a*ag [f]))):
  dV iI ((fl dT []).drop 6) 3 (AW a b f) 2 .normal [(64,65,none)] (sC a (aH (ag b*ag [f])) f (aH (ag a*ag [f]))):=
 wy [aa h1,aa h2,aa h3,aa (show(bounded ((0:Nat)+(aH (ag a*ag [f])).length) (8:Nat))=true from(by simp only [aw]<;>exact pL h4 (by omega))),ax (show((0:Nat)+(aH (ag a*ag [f])).length)=((aH (ag a*ag [f])).length)from(by simp only [aw]<;>rfl)),ax h5,pK prog 3 (.int .i64) h6] 2144323318104297413804161
section
variable (a v:List Int) (f:Int) (u:List Int) (h1:i6 ((a.length:Int)+1))
def aiC (h2:(u.length:Int)<(a.length:Int)+1) (h3:u.length+1<=1000000) (h4:(u.length+1)=(u++[0]).length) (h5:(bh.full)=(bM (u++[0]).length)):
  bz iI (fl dT My) (sC a v f u) 5 .normal [(64,66,none)] (sC a v f (u++[0])):=
 wy [yi h1,ah h2,yk 3 (.int .i64) u,lT 8 h3,ax h4,ax h5,ot 3 (.int .i64) (Eq.refl (u++[(0:Int)]))] 2144323318104297463349377
def aiD (h2:¬(u.length:Int)<(a.length:Int)+1):
  bz iI (fl dT My) (sC a v f u) 2 (.exit 0) [(64,64,none)] (sC a v f u):=
 wy [yi h1,aF h2] 129
end
def aiE (a v:List Int) (f:Int) (x:Int) (l:List Int) (h1: -9223372036854775808<=(↑(x::l).length:Int)-(v.length:Int)/\(↑(x::l).length:Int)-(v.length:Int)<=9223372036854775807) (h2:(0:Int)<=(↑(x::l).length:Int)-(v.length:Int)) (h3:((↑(x::l).length:Int)-(v.length:Int)).toNat<=1000000) (h4: -9223372036854775808<=(↑(x::l).length:Int)-(v.length:Int)-1/\(↑(x::l).length:Int)-(v.length:Int)-1<=9223372036854775807) (h5:(((↑(x::l).length:Int)-(v.length:Int)).toNat)=(gw ((l.length:Int)+1-(v.length:Int)).toNat).length) (h6:(bh.known ((↑(x::l).length:Int)-(v.length:Int)).toNat)=(bh.known ((l.length:Int)+1-(v.length:Int)).toNat)) (h7:(bM (gw ((l.length:Int)+1-(v.length:Int)).toNat).length)=(bM ((l.length:Int)+1-(v.length:Int)).toNat)) (h8:((↑(x::l).length:Int)-(v.length:Int)-1)=((l.length:Int)+1-(v.length:Int)-1)) (h9:(List.flatten (List.replicate ((↑(x::l).length:Int)-(v.length:Int)).toNat (List.map af.raw (Array.toList #[Value.int .i64 (0:Int)]))))=(List.flatMap (fun x=>[iv x]) (gw ((l.length:Int)+1-(v.length:Int)).toNat))) (h10:(((l.length:Int)+1-(v.length:Int)).toNat)=(gw ((l.length:Int)+1-(v.length:Int)).toNat).length):
  aE.path (Aj prog iI ((fl dT []).drop 10) 2 (sC a v f (x::l))) (dl 1) (ep prog 206 .normal [(64,64,none),(65,65,some ((l.length:Int)+1-v.length).toNat)] (hG v f (bM (l.length+1)) (x::l) (gw ((l.length:Int)+1-v.length).toNat) ((l.length:Int)+1-v.length-1))):=
 mp (adB (eP h1) (az h2) (az h2) (show(decide (((↑(x::l).length:Int)-(v.length:Int)).toNat<=((↑(x::l).length:Int)-(v.length:Int)).toNat))=true from az (by omega)) (show(bounded ((↑(x::l).length:Int)-(v.length:Int)).toNat (8:Nat))=true from pL h3 (by omega)) (eP h1) (eP h4) (oq (rr ([f])) (rr v) (rr (v.length:Int)) (an (rr (0:Nat)) (an (rr (x::l).length) (rr (bM (x::l).length)))) (an h5 (an h6 h7)) h8 (rr (x::l)) (an h9 h10) trivial))
section
variable (v:List Int) (f:Int) (c:bh) (u q:List Int)
def aiF (z:Int) (h1:z>=0):
  dV iI (fl dT Dn) 2 (hG v f c u q z) 3 .normal nJ (hG v f c u q z):=
 wy [ah h1] 1
def aiG (z:Int) (h1:¬z>=0):
  dV iI (fl dT Dn) 2 (hG v f c u q z) 2 (.exit 2) nJ (hG v f c u q z):=
 wy [aF h1] 1
def aiH (z:Int) (h1:(bA (gW.e wq) (gW.t wq) (some (bq.own 3 (.int .i64) u)) (u.length-1)&&Nat.ble 1 u.length)=true) (h2:(AR u 0 u.length v z)=true):
  dV iI (fl dT uA) 3 (hG v f c u q z) 1 .normal nJ (oG v f c u q z (q2 u v z) 0 0):=
 wy [aa (show(bA (gW.e wq) (gW.t wq) (some (bq.own 3 (.int .i64) u)) ((0:Nat)+u.length-(1:Nat))&&Nat.ble (1:Nat) u.length)=true from(by simp only [aw]<;>exact h1)),aa h2] 129
def aiI (z t bo:Int) (i:Nat) (h1:(i:Int)<(v.length:Int)) (h2:i<v.length) (h3:i6 (t*v.getD i 0)) (h4:i6 (t*v.getD i 0+bo)) (h5:i6 ((i:Int)+z)) (h6:0<=(i:Int)+z) (h7:((i:Int)+z).toNat<u.length) (h8:(bA 3 (.int .i64) (some (bq.own 3 (.int .i64) u)) ((i:Int)+z).toNat)=true) (h9:i6 (u.getD ((i:Int)+z).toNat 0-Int.tmod (t*v.getD i 0+bo) 1000000000)) (h10:i6 (Int.tdiv (t*v.getD i 0+bo) 1000000000)) (h11:u.getD ((i:Int)+z).toNat 0-Int.tmod (t*v.getD i 0+bo) 1000000000<0) (h12:i6 (u.getD ((i:Int)+z).toNat 0-Int.tmod (t*v.getD i 0+bo) 1000000000+1000000000)) (dZ:i6 (Int.tdiv (t*v.getD i 0+bo) 1000000000+1)) (iH:i6 ((i:Int)+1)) (ke:u.length=(u.set ((i:Int)+z).toNat (u.getD ((i:Int)+z).toNat 0-Int.tmod (t*v.getD i 0+bo) 1000000000+1000000000)).length):
  bz iI (fl dT GK) (oG v f c u q z t bo i) 7 .normal nJ (oG v f c (u.set ((i:Int)+z).toNat (u.getD ((i:Int)+z).toNat 0-Int.tmod (t*v.getD i 0+bo) 1000000000+1000000000)) q z t (Int.tdiv (t*v.getD i 0+bo) 1000000000+1) (i+1)):=
 wy [ah h1,ah h2,yi h3,yi h4,yi h5,ah h6,ah h7,aa (show(bA 3 (.int .i64) (some (bq.own 3 (.int .i64) u)) ((0:Nat)+((i:Int)+z).toNat))=true from(by simp only [aw]<;>exact h8)),aa (show(fits IntKind.i64 (u.getD ((0:Nat)+((i:Int)+z).toNat) (0:Int)-Int.tmod (t*v.getD i (0:Int)+bo) (1000000000:Int)))=true from(by simp only [aw]<;>exact eP h9)),yi h10,aa (show(decide (u.getD ((0:Nat)+((i:Int)+z).toNat) (0:Int)-Int.tmod (t*v.getD i (0:Int)+bo) (1000000000:Int)<(0:Int)))=true from(by simp only [aw]<;>exact az h11)),aa (show(fits IntKind.i64 (u.getD ((0:Nat)+((i:Int)+z).toNat) (0:Int)-Int.tmod (t*v.getD i (0:Int)+bo) (1000000000:Int)+(1000000000:Int)))=true from(by simp only [aw]<;>exact eP h12)),yi dZ,yi iH,ax ke,ax (show(u.set ((0:Nat)+((i:Int)+z).toNat) (u.getD ((0:Nat)+((i:Int)+z).toNat) (0:Int)-Int.tmod (t*v.getD i (0:Int)+bo) (1000000000:Int)+(1000000000:Int)))=(u.set ((i:Int)+z).toNat (u.getD ((i:Int)+z).toNat (0:Int)-Int.tmod (t*v.getD i (0:Int)+bo) (1000000000:Int)+(1000000000:Int)))from(by simp only [aw]<;>rfl))] 411376139330301531947457705006383748541443296955200566048071681
def aiJ (z t bo:Int) (i:Nat) (h1:(i:Int)<(v.length:Int)) (h2:i<v.length) (h3:i6 (t*v.getD i 0)) (h4:i6 (t*v.getD i 0+bo)) (h5:i6 ((i:Int)+z)) (h6:0<=(i:Int)+z) (h7:((i:Int)+z).toNat<u.length) (h8:(bA 3 (.int .i64) (some (bq.own 3 (.int .i64) u)) ((i:Int)+z).toNat)=true) (h9:i6 (u.getD ((i:Int)+z).toNat 0-Int.tmod (t*v.getD i 0+bo) 1000000000)) (h10:i6 (Int.tdiv (t*v.getD i 0+bo) 1000000000)) (h11:¬u.getD ((i:Int)+z).toNat 0-Int.tmod (t*v.getD i 0+bo) 1000000000<0) (h12:i6 ((i:Int)+1)) (dZ:u.length=(u.set ((i:Int)+z).toNat (u.getD ((i:Int)+z).toNat 0-Int.tmod (t*v.getD i 0+bo) 1000000000)).length):
  bz iI (fl dT GK) (oG v f c u q z t bo i) 5 .normal nJ (oG v f c (u.set ((i:Int)+z).toNat (u.getD ((i:Int)+z).toNat 0-Int.tmod (t*v.getD i 0+bo) 1000000000)) q z t (Int.tdiv (t*v.getD i 0+bo) 1000000000) (i+1)):=
 wy [ah h1,ah h2,yi h3,yi h4,yi h5,ah h6,ah h7,aa (show(bA 3 (.int .i64) (some (bq.own 3 (.int .i64) u)) ((0:Nat)+((i:Int)+z).toNat))=true from(by simp only [aw]<;>exact h8)),aa (show(fits IntKind.i64 (u.getD ((0:Nat)+((i:Int)+z).toNat) (0:Int)-Int.tmod (t*v.getD i (0:Int)+bo) (1000000000:Int)))=true from(by simp only [aw]<;>exact eP h9)),yi h10,aa (show(decide (u.getD ((0:Nat)+((i:Int)+z).toNat) (0:Int)-Int.tmod (t*v.getD i (0:Int)+bo) (1000000000:Int)<(0:Int)))=false from(by simp only [aw]<;>exact ab h11)),yi h12,ax dZ,ax (show(u.set ((0:Nat)+((i:Int)+z).toNat) (u.getD ((0:Nat)+((i:Int)+z).toNat) (0:Int)-Int.tmod (t*v.getD i (0:Int)+bo) (1000000000:Int)))=(u.set ((i:Int)+z).toNat (u.getD ((i:Int)+z).toNat (0:Int)-Int.tmod (t*v.getD i (0:Int)+bo) (1000000000:Int)))from(by simp only [aw]<;>rfl))] 87879424295413535223539924311789743421980991760571879399425
def aiK (z t bo:Int) (i:Nat) (h1:¬(i:Int)<(v.length:Int)):
  bz iI (fl dT GK) (oG v f c u q z t bo i) 2 (.exit 4) nJ (oG v f c u q z t bo i):=
 wy [aF h1] 1
def aiL (z t bo:Int) (i:Nat) (h1:i6 (z+(v.length:Int))) (h2:0<=z+(v.length:Int)) (h3:(z+(v.length:Int)).toNat<u.length) (h4:(bA 3 (.int .i64) (some (bq.own 3 (.int .i64) u)) (z+(v.length:Int)).toNat)=true) (h5:i6 (u.getD (z+(v.length:Int)).toNat 0-bo)) (h6:(bA 3 (.int .i64) (some (bq.own 3 (.int .i64) (u.set (z+(v.length:Int)).toNat (u.getD (z+(v.length:Int)).toNat 0-bo)))) (z+(v.length:Int)).toNat)=true) (h7:u.length=(u.set (z+(v.length:Int)).toNat (u.getD (z+(v.length:Int)).toNat 0-bo)).length) (h8:(decide ((u.set (z+(v.length:Int)).toNat (u.getD (z+(v.length:Int)).toNat 0-bo)).getD (z+(v.length:Int)).toNat 0<0))=(decide ((u.set (z+(v.length:Int)).toNat (u.getD (z+(v.length:Int)).toNat 0-bo)).getD (z+(v.length:Int)).toNat 0<0))):
  dV iI ((fl dT uA).drop 4) 2 (oG v f c u q z t bo i) 1 .normal nJ (yE v f c (u.set (z+(v.length:Int)).toNat (u.getD (z+(v.length:Int)).toNat 0-bo)) q z t (decide ((u.set (z+(v.length:Int)).toNat (u.getD (z+(v.length:Int)).toNat 0-bo)).getD (z+(v.length:Int)).toNat 0<0))):=
 wy [yi h1,ah h2,ah h3,aa (show(bA 3 (.int .i64) (some (bq.own 3 (.int .i64) u)) ((0:Nat)+(z+(v.length:Int)).toNat))=true from(by simp only [aw]<;>exact h4)),aa (show(fits IntKind.i64 (u.getD ((0:Nat)+(z+(v.length:Int)).toNat) (0:Int)-bo))=true from(by simp only [aw]<;>exact eP h5)),aa (show(bA 3 (.int .i64) (some (bq.own 3 (.int .i64) (u.set ((0:Nat)+(z+(v.length:Int)).toNat) (u.getD ((0:Nat)+(z+(v.length:Int)).toNat) (0:Int)-bo)))) ((0:Nat)+(z+(v.length:Int)).toNat))=true from(by simp only [aw]<;>exact h6)),ax h7,ax (show(decide ((u.set ((0:Nat)+(z+(v.length:Int)).toNat) (u.getD ((0:Nat)+(z+(v.length:Int)).toNat) (0:Int)-bo)).getD ((0:Nat)+(z+(v.length:Int)).toNat) (0:Int)<(0:Int)))=(decide ((u.set (z+(v.length:Int)).toNat (u.getD (z+(v.length:Int)).toNat (0:Int)-bo)).getD (z+(v.length:Int)).toNat (0:Int)<(0:Int)))from(by simp only [aw]<;>exact h8)),ax (show(u.set ((0:Nat)+(z+(v.length:Int)).toNat) (u.getD ((0:Nat)+(z+(v.length:Int)).toNat) (0:Int)-bo))=(u.set (z+(v.length:Int)).toNat (u.getD (z+(v.length:Int)).toNat (0:Int)-bo))from(by simp only [aw]<;>rfl))] 13023635195941919408873694419534707774213333057
def aiM (z t:Int) (h1:0<=z) (h2:z.toNat<q.length) (h3:q.length=(q.set z.toNat t).length) (h4:(bM q.length)=(bM (q.set z.toNat t).length)):
  bz iI ((fl dT uA).drop 6) (yE v f c u q z t false) 2 .normal nJ (hG v f c u (q.set z.toNat t) z):=
 wy [ah h1,ah h2,jl 3 (.int .i64) h2,ax h3,ax h4,mN 3 (.int .i64) (Eq.refl (q.set z.toNat t))] 7427664142692601176974434368
def aiN (z t:Int) (h1:i6 (t-1)):
  dV iI (fl dT GL) 3 (yE v f c u q z t true) 1 .normal nJ (sD v f c u q z (t-1) 0 0):=
 wy [yi h1] 1
def aiO (z t cY:Int) (i:Nat) (h1:(i:Int)<(v.length:Int)) (h2:i6 ((i:Int)+z)) (h3:0<=(i:Int)+z) (h4:((i:Int)+z).toNat<u.length) (h5:(bA 3 (.int .i64) (some (bq.own 3 (.int .i64) u)) ((i:Int)+z).toNat)=true) (h6:i<v.length) (h7:i6 (u.getD ((i:Int)+z).toNat 0+v.getD i 0)) (h8:i6 (u.getD ((i:Int)+z).toNat 0+v.getD i 0+cY)) (h9:i6 (Int.tdiv (u.getD ((i:Int)+z).toNat 0+v.getD i 0+cY) 1000000000)) (h10:i6 ((i:Int)+1)) (h11:u.length=(u.set ((i:Int)+z).toNat (Int.tmod (u.getD ((i:Int)+z).toNat 0+v.getD i 0+cY) 1000000000)).length):
  bz iI (fl dT Mz) (sD v f c u q z t cY i) 3 .normal nJ (sD v f c (u.set ((i:Int)+z).toNat (Int.tmod (u.getD ((i:Int)+z).toNat 0+v.getD i 0+cY) 1000000000)) q z t (Int.tdiv (u.getD ((i:Int)+z).toNat 0+v.getD i 0+cY) 1000000000) (i+1)):=
 wy [ah h1,yi h2,ah h3,ah h4,aa (show(bA 3 (.int .i64) (some (bq.own 3 (.int .i64) u)) ((0:Nat)+((i:Int)+z).toNat))=true from(by simp only [aw]<;>exact h5)),aa (aD (v:=iv (u.getD ((0:Nat)+((i:Int)+z).toNat) (0:Int)))),ah h6,aa (aD (v:=iv (v.getD i (0:Int)))),aa (show(fits IntKind.i64 (u.getD ((0:Nat)+((i:Int)+z).toNat) (0:Int)+v.getD i (0:Int)))=true from(by simp only [aw]<;>exact eP h7)),aa (show(fits IntKind.i64 (u.getD ((0:Nat)+((i:Int)+z).toNat) (0:Int)+v.getD i (0:Int)+cY))=true from(by simp only [aw]<;>exact eP h8)),aa (show(fits IntKind.i64 (Int.tdiv (u.getD ((0:Nat)+((i:Int)+z).toNat) (0:Int)+v.getD i (0:Int)+cY) (1000000000:Int)))=true from(by simp only [aw]<;>exact eP h9)),yi h10,ax h11,ax (show(Int.tdiv (u.getD ((0:Nat)+((i:Int)+z).toNat) (0:Int)+v.getD i (0:Int)+cY) (1000000000:Int))=(Int.tdiv (u.getD ((i:Int)+z).toNat (0:Int)+v.getD i (0:Int)+cY) (1000000000:Int))from(by simp only [aw]<;>rfl)),ax (show(u.set ((0:Nat)+((i:Int)+z).toNat) (Int.tmod (u.getD ((0:Nat)+((i:Int)+z).toNat) (0:Int)+v.getD i (0:Int)+cY) (1000000000:Int)))=(u.set ((i:Int)+z).toNat (Int.tmod (u.getD ((i:Int)+z).toNat (0:Int)+v.getD i (0:Int)+cY) (1000000000:Int)))from(by simp only [aw]<;>rfl))] 6027390781975829659609134758914141726976902255265616766185601
def aiP (z t cY:Int) (i:Nat) (h1:¬(i:Int)<(v.length:Int)):
  bz iI (fl dT Mz) (sD v f c u q z t cY i) 2 (.exit 6) nJ (sD v f c u q z t cY i):=
 wy [aF h1] 1
def aiQ (z t cY:Int) (i:Nat) (h1:i6 (z+(v.length:Int))) (h2:0<=z+(v.length:Int)) (h3:(z+(v.length:Int)).toNat<u.length) (h4:(bA 3 (.int .i64) (some (bq.own 3 (.int .i64) u)) (z+(v.length:Int)).toNat)=true) (h5:i6 (u.getD (z+(v.length:Int)).toNat 0+cY)) (h6:u.length=(u.set (z+(v.length:Int)).toNat (u.getD (z+(v.length:Int)).toNat 0+cY)).length):
  bz iI ((fl dT GL).drop 4) (sD v f c u q z t cY i) 1 .normal nJ (MB v f c (u.set (z+(v.length:Int)).toNat (u.getD (z+(v.length:Int)).toNat 0+cY)) q z t):=
 wy [yi h1,ah h2,ah h3,aa (show(bA 3 (.int .i64) (some (bq.own 3 (.int .i64) u)) ((0:Nat)+(z+(v.length:Int)).toNat))=true from(by simp only [aw]<;>exact h4)),aa (show(fits IntKind.i64 (u.getD ((0:Nat)+(z+(v.length:Int)).toNat) (0:Int)+cY))=true from(by simp only [aw]<;>exact eP h5)),ax h6,ax (show(u.set ((0:Nat)+(z+(v.length:Int)).toNat) (u.getD ((0:Nat)+(z+(v.length:Int)).toNat) (0:Int)+cY))=(u.set (z+(v.length:Int)).toNat (u.getD (z+(v.length:Int)).toNat (0:Int)+cY))from(by simp only [aw]<;>rfl))] 9304595970496224499057210602646413377
def aiR (z t:Int) (h1:0<=z) (h2:z.toNat<q.length) (h3:q.length=(q.set z.toNat t).length) (h4:(bM q.length)=(bM (q.set z.toNat t).length)):
  bz iI ((fl dT uA).drop 7) (MB v f c u q z t) 1 .normal nJ (hG v f c u (q.set z.toNat t) z):=
 wy [ah h1,ah h2,jl 3 (.int .i64) h2,ax h3,ax h4,mN 3 (.int .i64) (Eq.refl (q.set z.toNat t))] 116057252229571893390225537
def aiS (z:Int) (h1:i6 (z-1)):
  bz iI ((fl dT Dn).drop 3) (hG v f c u q z) 1 .normal nJ (hG v f c u q (z-1)):=
 wy [yi h1] 1
def aiT (z:Int) (h1:v.length<=u.length) (h2:(Nat.beq v.length 0||bA 3 (.int .i64) (some (bq.own 3 (.int .i64) u)) (v.length-1))=true) (h3:((u.drop 0).take v.length).length<=1000000) (h4:Int.toNat 0<List.length [f]) (h5:(okB (er ((u.drop 0).take v.length))&&(decide ((1:av.den (.int .i64))<=List.getD [f] (Int.toNat 0) 0)&&decide (List.getD [f] (Int.toNat 0) 0<(1000000000:av.den (.int .i64)))))=true) (h6:(Nat.beq q.length 0||bA 3 (.int .i64) (a8 3 (.int .i64) q) (q.length-1))=true) (h7:((q.drop 0).take q.length).length<=1000000) (h8:(aH (ag (er ((u.drop 0).take v.length))/List.getD [f] (Int.toNat 0) 0))=(aH (ag (er ((u.drop 0).take v.length))/f))):
  bS iI ((fl dT []).drop 13) (hG v f c u q z) 3 f131 false (.tuple [lv (er ((q.drop 0).take q.length)),lv (aH (ag (er ((u.drop 0).take v.length))/f))]):=
 wy [ah h1,aa (show(Nat.beq v.length (0:Nat)||bA 3 (.int .i64) (some (bq.own 3 (.int .i64) u)) ((0:Nat)+v.length-(1:Nat)))=true from(by simp only [aw]<;>exact h2)),ah h3,ah h4,aa (aD (v:=iv (List.getD [f] (0:Int).toNat (0:Int)))),aa h5,aa (show(Nat.beq q.length (0:Nat)||bA 3 (.int .i64) (a8 3 (.int .i64) q) ((0:Nat)+q.length-(1:Nat)))=true from(by simp only [aw]<;>exact h6)),aa (show(decide ((((bP (.int .i64) (a8 3 (.int .i64) q)).drop (0:Nat)).take q.length).length<=(1000000:Nat)))=true from(by simp only [eD]<;>exact az h7)),ax (show(er (((bP (.int .i64) (a8 3 (.int .i64) q)).drop (0:Nat)).take q.length))=(er ((q.drop (0:Nat)).take q.length))from(by simp only [eD]<;>rfl)),ax h8] 196186516682196595138105344
end
end
def aiU {v1 v2 v' aJ u1 u2 u' s:Int} (p:Au 1000000000 v1 v2 v' aJ u1 u2 u' s) (hn:500000000<=v1) (hlt:nC 1000000000 aJ u1 u2 u' s<1000000000*gM 1000000000 v1 v2 v' s) {Q:Int} (wu:0<=Q) (hQ:Q*gM 1000000000 v1 v2 v' s<=nC 1000000000 aJ u1 u2 u' s) (GM:Q<1000000000) (T7:∀T,(T-1)*gM 1000000000 v1 v2 v' s<=nC 1000000000 aJ u1 u2 u' s->T<=Q+1):
  ∀(f:Nat) (t r:Int),aJ*1000000000+u1=t*v1+r->0<=r->Q<=t->(f=2\/(f=1/\1000000000<=r+v1))->Q<=oF v1 v2 u2 f t r/\oF v1 v2 u2 f t r<=Q+1:=by
 have sF:aJ*1000000000+u1<1000000000*(v1+1):=by
  have hs:=p.s1;have h2:=p.v2;have h3:=p.v';have g2:=p.u2;have g3:=p.u';unfold nC gM at hlt;have a1:((aJ*1000000000+u1)*1000000000+u2)*s=(aJ*1000000000+u1)*(1000000000*s)+u2*s:=by rw [Int.add_mul,Int.mul_assoc]
  have a3:(v1*1000000000+v2)*s=v1*(1000000000*s)+v2*s:=by rw [Int.add_mul,Int.mul_assoc]
  have a2:0<=u2*s:=Int.mul_nonneg g2.1 (by omega);have a4:v2*s<=999999999*s:=ar (by omega) (by omega);have a5:(1000000000*(v1+1))*(1000000000*s)=1000000000*(v1*(1000000000*s)+1000000000*s):=by rw [Int.mul_assoc,Int.add_mul,Int.one_mul]
  rw [a1,a3]at hlt;refine SV (x:=1000000000*s) ?_ (by omega);rw [a5];generalize v1*(1000000000*s)=cT at*;generalize v2*s=z2 at*;generalize u2*s=z3 at*;generalize (aJ*1000000000+u1)*(1000000000*s)=z4 at*;omega
 intro f;induction f with
 |zero=>intro t r _ _ _ hf;omega
 |succ g ih=>
  intro t r he hr aiV hf;have T8:aJ*1000000000+u1-t*v1=r:=by omega
  unfold oF;by_cases hc:1000000000<=t\/r*1000000000+u2<t*v2
  .rw [if_pos hc];have hlt2:Q<t:=by
    rcases hc with hc|hc
    .omega
    .exact SW p (by omega) hQ (by rw [T8];exact hc)
   have et:(t-1)*v1=t*v1-v1:=by rw [Int.sub_mul,Int.one_mul]
   by_cases h4:1000000000<=r+v1
   .rw [if_pos h4];refine⟨by omega, ?_⟩;have T9:t-1<1000000000:=by
     refine Int.not_le.1 fun hh=> ?_
     have:=ar hh (show 0<=v1 by omega);omega
    exact T7 _ (Lq p ⟨by omega,T9⟩ (xa p ⟨by omega,T9⟩ (by omega)))
   .rw [if_neg h4];exact ih (t-1) (r+v1) (by omega) (by omega) (by omega) (by omega)
  .rw [if_neg hc];exact⟨aiV,T7 _ (Lq p ⟨by omega,by omega⟩ (by rw [T8];omega))⟩
def MC {u:List Int} {j m i:Nat} (h:i<m):((u.drop j).take m).getD i 0=u.getD (j+i) 0:=by
 simp only [ao,List.getElem?_take,List.getElem?_drop,if_pos h]
def aiW {u v:List Int} {j n:Nat} (hu:aS 1000000000 u) (hv:aS 1000000000 v) (lv:v.length=n+2) (bJ:j+(n+3)<=u.length) (h1:500000000<=v.getD (n+1) 0) (hW:ag ((u.drop j).take (n+3))<1000000000*ag v):
  ag ((u.drop j).take (n+3))/ag v<=q2 u v j/\q2 u v j<=ag ((u.drop j).take (n+3))/ag v+1:=by
 have hD:aS 1000000000 ((u.drop j).take (n+3)):=(hu.drop _).take _;have MD:((u.drop j).take (n+3)).length=n+3:=by rw [eM,nU];omega
 have p:=Lt (b:=1000000000) (by decide) hD hv MD lv (by omega);have sA:gM 1000000000 (v.getD (n+1) 0) (v.getD n 0) (vl 1000000000 (v.take n)) (1000000000^n)=ag v:=Lu lv;have AU:=Lv (b:=1000000000) MD;have iG:0<ag v:=by
  rw [<-sA];unfold gM;have q1:=p.v1;have aP:=p.v2;have b8:=p.v';have ez:=p.s1;have:1*1<=(v.getD (n+1) 0*1000000000+v.getD n 0)*1000000000^n:=Int.mul_le_mul (by omega) ez (by omega) (by omega);omega
 have GN:0<=ag ((u.drop j).take (n+3)):=gN hD;have i0:((j:Int)+(v.length:Int)).toNat=j+(n+2):=by omega
 have i1:((j:Int)+(v.length:Int)-1).toNat=j+(n+1):=by omega
 have i2:((j:Int)+(v.length:Int)-2).toNat=j+n:=by omega
 have i3:((v.length:Int)-1).toNat=n+1:=by omega
 have i4:((v.length:Int)-2).toNat=n:=by omega
 have d0:=MC (u:=u) (j:=j) (m:=n+3) (i:=n+2) (by omega);have d1:=MC (u:=u) (j:=j) (m:=n+3) (i:=n+1) (by omega);have d2:=MC (u:=u) (j:=j) (m:=n+3) (i:=n) (by omega);have hQ:=Int.ediv_mul_le (ag ((u.drop j).take (n+3))) (show ag v≠0 by omega);have GM:ag ((u.drop j).take (n+3))/ag v<1000000000:=(Int.ediv_lt_iff_lt_mul iG).2 hW;have GO:nC 1000000000 (((u.drop j).take (n+3)).getD (n+2) 0) (((u.drop j).take (n+3)).getD (n+1) 0) (((u.drop j).take (n+3)).getD n 0) (vl 1000000000 (((u.drop j).take (n+3)).take n)) (1000000000^n)=ag ((u.drop j).take (n+3)):=AU;have q1:=p.aJ;have aP:=p.u1;have Dk:0<=((u.drop j).take (n+3)).getD (n+2) 0*1000000000+((u.drop j).take (n+3)).getD (n+1) 0:=by omega
 have key:=aiU p h1 (by rw [GO,sA];exact hW) (Q:=ag ((u.drop j).take (n+3))/ag v) (Int.ediv_nonneg GN (by omega)) (by rw [GO,sA];exact hQ) GM (fun T hT=>by
  rw [GO,sA]at hT;have:=Int.le_ediv_of_mul_le iG hT;omega) 2 ((((u.drop j).take (n+3)).getD (n+2) 0*1000000000+((u.drop j).take (n+3)).getD (n+1) 0)/v.getD (n+1) 0) ((((u.drop j).take (n+3)).getD (n+2) 0*1000000000+((u.drop j).take (n+3)).getD (n+1) 0)%v.getD (n+1) 0) (by
   have:=Int.emod_add_mul_ediv (((u.drop j).take (n+3)).getD (n+2) 0*1000000000+((u.drop j).take (n+3)).getD (n+1) 0) (v.getD (n+1) 0);rw [Int.mul_comm (v.getD (n+1) 0)]at this;omega) (ec _ (by omega)) (by
   have hf:=SX p (q:=ag ((u.drop j).take (n+3))/ag v) (Int.ediv_nonneg GN (by omega)) (by rw [GO,sA];exact hQ);exact Int.le_ediv_of_mul_le (by omega) hf) (.inl rfl)
 have aiX:q2 u v j=oF (v.getD (n+1) 0) (v.getD n 0) (((u.drop j).take (n+3)).getD n 0) 2 ((((u.drop j).take (n+3)).getD (n+2) 0*1000000000+((u.drop j).take (n+3)).getD (n+1) 0)/v.getD (n+1) 0) ((((u.drop j).take (n+3)).getD (n+2) 0*1000000000+((u.drop j).take (n+3)).getD (n+1) 0)%v.getD (n+1) 0):=by
  rw [d0,d1,d2];unfold q2 fG cP nI pU;rw [Int.toNat_natCast,i0,i1,i2,i3,i4]
 rw [aiX];exact key
structure Dq (d0 v:List Int) (t:Int) (n:Nat) (d:List Int) (bo:Int) (i:Nat):Prop where
 len:d.length=n+1
 dg:aS 1000000000 (d.take n)
 top:d.getD n 0=d0.getD n 0
 nt:0<=bo/\bo<=1000000000
 val:ag d-1000000000^i*bo=ag d0-t*ag (v.take i)
def xA {d:List Int} {n i:Nat} (h:i<n):(d.take n).getD i 0=d.getD i 0:=by
 simp only [ao,List.getElem?_take,if_pos h]
def T' {d:List Int} {n i:Nat} (h:aS 1000000000 (d.take n)) (hi:i<n):0<=d.getD i 0/\d.getD i 0<1000000000:=by
 rw [<-xA hi];exact h.get (by decide) i
def Dq.step {d0 v:List Int} {t:Int} {n:Nat} {d:List Int} {bo:Int} {i:Nat} (I:Dq d0 v t n d bo i) (hi:i<n) {x r5:Int} (hx:0<=x/\x<1000000000) (hb:0<=r5/\r5<=1000000000) (he:x-1000000000*r5=d.getD i 0-(t*v.getD i 0+bo)):Dq d0 v t n (d.set i x) r5 (i+1):=by
 have hl:=I.len;refine⟨by rw [b9];exact hl,by rw [List.take_set];exact I.dg.set hx,by rw [fg,if_neg (by omega)];exact I.top,hb, ?_⟩;have hv:=I.val;unfold ag at hv ⊢;rw [qL _ _ _ _ (by omega),k3 v,Int.pow_succ];generalize vl 1000000000 d=cT at*;generalize vl 1000000000 d0=z2 at*;generalize vl 1000000000 (v.take i)=z3 at*;generalize (1000000000:Int)^i=P at*;generalize d.getD i 0=y at*;generalize v.getD i 0=w at*;have e:P*(x-1000000000*r5)=P*(y-(t*w+bo)):=by rw [he]
 grind
def aiY {t w bo:Int} (ht:0<=t/\t<=1000000000) (hw:0<=w/\w<1000000000) (hb:0<=bo/\bo<=1000000000):
  (0<=t*w/\t*w<=999999999000000000)/\Int.tmod (t*w+bo) 1000000000+1000000000*Int.tdiv (t*w+bo) 1000000000=t*w+bo/\(0<=Int.tmod (t*w+bo) 1000000000/\Int.tmod (t*w+bo) 1000000000<1000000000)/\(0<=Int.tdiv (t*w+bo) 1000000000/\Int.tdiv (t*w+bo) 1000000000<=1000000000):=by
 have h0:0<=t*w:=Int.mul_nonneg ht.1 hw.1;have h1:t*w<=1000000000*999999999:=Int.mul_le_mul ht.2 (by omega) hw.1 (by decide);rw [Int.tmod_eq_emod_of_nonneg (by omega),Int.tdiv_eq_ediv_of_nonneg (by omega)];generalize t*w=p at*;omega
structure Dr (d0 v:List Int) (n:Nat) (d:List Int) (cY:Int) (i:Nat):Prop where
 len:d.length=n+1
 dg:aS 1000000000 (d.take n)
 top:d.getD n 0=d0.getD n 0
 nt:0<=cY/\cY<=1
 val:ag d+1000000000^i*cY=ag d0+ag (v.take i)
def Dr.step {d0 v:List Int} {n:Nat} {d:List Int} {cY:Int} {i:Nat} (I:Dr d0 v n d cY i) (hi:i<n) {x AX:Int} (hx:0<=x/\x<1000000000) (hb:0<=AX/\AX<=1) (he:x+1000000000*AX=d.getD i 0+v.getD i 0+cY):Dr d0 v n (d.set i x) AX (i+1):=by
 have hl:=I.len;refine⟨by rw [b9];exact hl,by rw [List.take_set];exact I.dg.set hx,by rw [fg,if_neg (by omega)];exact I.top,hb, ?_⟩;have hv:=I.val;unfold ag at hv ⊢;rw [qL _ _ _ _ (by omega),k3 v,Int.pow_succ];generalize vl 1000000000 d=cT at*;generalize vl 1000000000 d0=z2 at*;generalize vl 1000000000 (v.take i)=z3 at*;generalize (1000000000:Int)^i=P at*;generalize d.getD i 0=y at*;generalize v.getD i 0=w at*;have e:P*(x+1000000000*AX)=P*(y+w+cY):=by rw [he]
 grind
section
variable {d:List Int} {n:Nat}
def tc (hl:d.length=n+1) (hd:aS 1000000000 (d.take n)):ag d=ag (d.take n)+1000000000^n*d.getD n 0/\0<=ag (d.take n)/\ag (d.take n)<1000000000^n:=by
 have h1:=lU (b:=1000000000) (l:=d) (k:=n) (by omega);rw [eZ (by omega)]at h1;have h2:=dC (b:=1000000000) (by decide) hd;rw [eM,Nat.min_eq_left (by omega)]at h2;exact⟨h1,gN hd,h2⟩
def aiZ (hl:d.length=n+1) (hd:aS 1000000000 (d.take n)):d.getD n 0<0↔ag d<0:=by
 obtain⟨h1,h2,h3⟩:=tc hl hd;have hP:=dK (b:=1000000000) (by decide) n;generalize d.getD n 0=x at*;constructor
 .intro hx;have:=eu (show x<= -1 by omega) (ct hP);omega
 .intro hx;refine Int.not_le.1 fun h=> ?_
  have:=Int.mul_nonneg (ct hP) h;omega
def Ua {R:Int} (hl:d.length=n+1) (hd:aS 1000000000 (d.take n)) (hv:ag d=R) (h0:0<=R) (h1:R<1000000000^n):d=fT 1000000000 (n+1) R:=by
 obtain⟨g1,g2,g3⟩:=tc hl hd;have hP:=dK (b:=1000000000) (by decide) n;have hx:d.getD n 0=0:=by
  generalize d.getD n 0=x at*;rcases Int.lt_trichotomy x 0 with h|h|h
  .have:=eu (show x<= -1 by omega) (ct hP);omega
  .exact h
  .have:=eu (show 1<=x by omega) (ct hP);omega
 have hdd:aS 1000000000 d:=by
  have e:=SQ (l:=d) (k:=n) (by omega);rw [eZ (by omega),hx]at e;rw [e];exact hd.app (.cons ⟨Int.le_refl _,by decide⟩ .nil)
 have:=Ls (by decide) hdd;rw [hl]at this;rw [<-hv];exact this
end
noncomputable section
def Ds:bD prog (bF iI):=SH (fun c hc=>by rw [List.mem_singleton.1 hc];exact ah5) (uj (fun c hc=>by rw [List.mem_singleton.1 hc];exact LD) (cN fun c hc=>by
 simp only [ew,jU,or_false]at hc;rcases hc with rfl |rfl |rfl
 .exact S9
 .exact ah1
 .exact Ts))
def yF {p d r:List Int} {n:Nat} (h:d.length=n+1):(p++(d++r)).length=p.length+(n+1)+r.length:=by
 simp only [dy,h];omega
abbrev Ub (v:List Int) (f:Int) (c:bh) (u q:List Int) (z:Int):Exit->au af->ai->Prop:=fun e T H=>e= .normal/\T=(hG v f c u q z).T/\H=(hG v f c u q z).H
section
variable {v:List Int} {f:Int} {c:bh} {p d0 r q:List Int}
def ai0 {t R:Int} {n:Nat} (hv:aS 1000000000 v) (lv:v.length=n) (nw:1<=n) (hn:n<=1000000) (hp:p.length<=1000000) (hq:p.length<q.length) (GP:d0.length=n+1) (hd:aS 1000000000 (d0.take n)) (ht: -1000000000<=d0.getD n 0/\d0.getD n 0<=1000000000) (ht1:0<=t/\t<=1000000000) (hR:ag d0+ag v=R) (h0:0<=R) (h1:R<1000000000^n) (w:World) (F:Sv.Env):
  aW prog w F 206 ((fl dT uA).drop 6) (yE v f c (p++(d0++r)) q (p.length:Int) t true).T (yE v f c (p++(d0++r)) q (p.length:Int) t true).H (Ub v f c (p++(fT 1000000000 (n+1) R++r)) (q.set p.length (t-1)) (p.length:Int)):=by
 have hS:=Ds;refine T5 (X:=pI) (o:= .tmp 145) (x:=cat dT GL) (y:= .skip) (rest:=(fl dT uA).drop 7) (by kernel_rfl) (by kernel_rfl) ?_;refine dP (s:=yE v f c (p++(d0++r)) q (p.length:Int) t true) hS 3 (aiN v f c (p++(d0++r)) q (p.length:Int) t (by omega)) ?_;refine aW.loop (ι:={x:List Int×Int×Nat//x.2.2<=n/\Dr d0 v n x.1 x.2.1 x.2.2}) (id:=6) (b:=cat dT Mz) (rest:=(fl dT GL).drop 4) (by kernel_rfl) (fun x=>sD v f c (p++(x.1.1++r)) q (p.length:Int) (t-1) x.1.2.1 x.1.2.2) (fun x=>n-x.1.2.2)
  ⟨(d0,0,0),Nat.zero_le _,⟨GP,hd,rfl,⟨Int.le_refl 0,show(0:Int)<=1 by decide⟩,by simp [ag,vl]⟩⟩ (fun _=>rfl) ?_
 rintro⟨⟨d,cY,i⟩,hi,I⟩;have hi:i<=n:=hi;have I:Dr d0 v n d cY i:=I;have hl:=I.len;have hc:=I.nt;have hL:=yF (p:=p) (r:=r) hl;have kW:((i:Int)+(p.length:Int)).toNat=p.length+i:=by omega
 have bH:((p.length:Int)+(v.length:Int)).toNat=p.length+n:=by omega
 by_cases hlt:i<n
 .have ai1:=T' I.dg hlt;have wk:=hv.get (by decide) i;have hs0:0<=d.getD i 0+v.getD i 0+cY:=by omega
  have key:=aiO v f c (p++(d++r)) q (p.length:Int) (t-1) cY i (by omega) (by omega) (by omega);rw [kW,oE (by omega),uy (by omega),Int.tmod_eq_emod_of_nonneg hs0,Int.tdiv_eq_ediv_of_nonneg hs0]at key;refine bC (s:=sD v f c (p++(d++r)) q (p.length:Int) (t-1) cY i) hS (key (by omega) (pV (by omega)) (by omega) (by omega) (by omega) (by omega) (by omega) (by simp only [dy,b9])) ?_;have N:=I.step hlt (x:=(d.getD i 0+v.getD i 0+cY)%1000000000) (AX:=(d.getD i 0+v.getD i 0+cY)/1000000000) (by omega) (by omega) (by omega);exact⟨⟨(_,_,i+1),by show i+1<=n;omega,N⟩,by show n-(i+1)<n-i;omega,rfl,rfl⟩
 .obtain rfl:i=n:=by omega
  refine bC (s:=sD v f c (p++(d++r)) q (p.length:Int) (t-1) cY i) hS (aiP v f c _ q _ (t-1) cY i (by omega)) ?_;refine cI (cQ ?_);have sF:=I.top;have key:=aiQ v f c (p++(d++r)) q (p.length:Int) (t-1) cY i (by omega) (by omega);rw [bH,oE (by omega),uy (by omega)]at key;have hval:=I.val;rw [eZ (by omega)]at hval;have l2:(d.set i (d.getD i 0+cY)).length=i+1:=by rw [b9];exact hl
  have g2:aS 1000000000 ((d.set i (d.getD i 0+cY)).take i):=by rw [Av];exact I.dg
  have v2:ag (d.set i (d.getD i 0+cY))=R:=by
   unfold ag at hval hR ⊢;rw [qL _ _ _ _ (by omega),show d.getD i 0+cY-d.getD i 0=cY by omega];omega
  have e2:=Ua l2 g2 v2 h0 h1;rw [e2]at key;refine bC (s:=sD v f c (p++(d++r)) q (p.length:Int) (t-1) cY i) hS (key (by omega) (pV (by omega)) (by omega) (by rw [hL,yF (yc _ _ _)])) ?_;have kY:=aiR v f c (p++(fT 1000000000 (i+1) R++r)) q (p.length:Int) (t-1);rw [Int.toNat_natCast]at kY;refine bC (s:=MB v f c (p++(fT 1000000000 (i+1) R++r)) q (p.length:Int) (t-1)) hS (kY (by omega) hq (by rw [b9]) (by rw [b9])) ?_;exact⟨rfl,rfl,rfl⟩
def ai2 {V:Int} {n:Nat} (hu:aS 1000000000 (p++(d0++r))) (hv:aS 1000000000 v) (lv:v.length=n) (nw:2<=n) (fQ:(p++(d0++r)).length<=1000000) (hq:p.length<q.length) (GP:d0.length=n+1) (hV:ag v=V) (iG:0<V) (sG:V<1000000000^n) (sF:500000000<=v.getD (n-1) 0) (hW:ag d0<1000000000*V) (w:World) (F:Sv.Env):
  aW prog w F 206 (fl dT uA) (hG v f c (p++(d0++r)) q (p.length:Int)).T (hG v f c (p++(d0++r)) q (p.length:Int)).H (Ub v f c (p++(fT 1000000000 (n+1) (ag d0%V)++r)) (q.set p.length (ag d0/V)) (p.length:Int)):=by
 have hS:=Ds;have hL:=yF (p:=p) (r:=r) GP;have CU:aS 1000000000 d0:=hu.right.left;have wA:((p++(d0++r)).drop p.length).take (n+1)=d0:=by
  rw [List.drop_append,Nat.sub_self,List.drop_zero,List.drop_eq_nil_of_le (aK _),List.nil_append,List.take_append,eZ (by omega),show n+1-d0.length=0 by omega,List.take_zero,List.append_nil]
 obtain⟨m,rfl⟩:∃m,n=m+2:=⟨n-2,by omega⟩;have hg:=aiW (u:=p++(d0++r)) (j:=p.length) (n:=m) hu hv lv (by omega) sF (by rw [wA,hV];exact hW);rw [wA,hV]at hg;have GN:0<=ag d0:=gN CU;have GM:ag d0/V<1000000000:=(Int.ediv_lt_iff_lt_mul iG).2 hW;have wu:0<=ag d0/V:=Int.ediv_nonneg GN (ct iG);have tV:=Int.emod_add_mul_ediv (ag d0) V;have hm0:=ec (ag d0) (show V≠0 by omega);have pR:=eL (ag d0) iG;have hpre:AR (p++(d0++r)) 0 (p++(d0++r)).length v (p.length:Int)=true:=by
  unfold AR;have i3:((v.length:Int)-1).toNat=m+1:=by omega
  have h5:500000000<=cP v:=by unfold cP;rw [i3];exact sF
  rw [Nat.beq_refl,Nat.beq_refl,C4.2 hu,C4.2 hv,az (show 2<=v.length by omega),az (show(0:Int)<=(p.length:Int) by omega),az (show(p.length:Int)+(v.length:Int)<((p++(d0++r)).length:Int) by omega),az h5,az fQ];rfl
 have hown:(bA (gW.e wq) (gW.t wq) (some (bq.own 3 (.int .i64) (p++(d0++r)))) ((p++(d0++r)).length-1)&&Nat.ble 1 (p++(d0++r)).length)=true:=by
  rw [fK (by omega),Bool.and_true];exact pV (by omega)
 refine dP (s:=hG v f c (p++(d0++r)) q (p.length:Int)) hS 3 (aiH v f c (p++(d0++r)) q (p.length:Int) hown hpre) ?_;generalize ht:q2 (p++(d0++r)) v (p.length:Int)=t at hg ⊢;refine aW.loop (ι:={x:List Int×Int×Nat//x.2.2<=m+2/\Dq d0 v t (m+2) x.1 x.2.1 x.2.2}) (id:=4) (b:=cat dT GK) (rest:=(fl dT uA).drop 4) (by kernel_rfl) (fun x=>oG v f c (p++(x.1.1++r)) q (p.length:Int) t x.1.2.1 x.1.2.2) (fun x=>m+2-x.1.2.2)
  ⟨(d0,0,0),Nat.zero_le _,⟨GP,CU.take _,rfl,⟨Int.le_refl 0,show(0:Int)<=1000000000 by decide⟩,by simp [ag,vl]⟩⟩ (fun _=>rfl) ?_
 rintro⟨⟨d,bo,i⟩,hi,I⟩;have hi:i<=m+2:=hi;have I:Dq d0 v t (m+2) d bo i:=I;have hl:=I.len;have hc:=I.nt;have hL:=yF (p:=p) (r:=r) hl;have kW:((i:Int)+(p.length:Int)).toNat=p.length+i:=by omega
 have bH:((p.length:Int)+(v.length:Int)).toNat=p.length+(m+2):=by omega
 by_cases hlt:i<m+2
 .have ai1:=T' I.dg hlt;have wk:=hv.get (by decide) i;obtain⟨s1,s2,s3,GQ⟩:=aiY (t:=t) (w:=v.getD i 0) (bo:=bo) (by omega) wk hc;by_cases hneg:d.getD i 0-Int.tmod (t*v.getD i 0+bo) 1000000000<0
  .have key:=aiI v f c (p++(d++r)) q (p.length:Int) t bo i (by omega) (by omega) (by omega) (by omega) (by omega) (by omega);rw [kW,oE (by omega),uy (by omega)]at key;have N:=I.step hlt (x:=d.getD i 0-Int.tmod (t*v.getD i 0+bo) 1000000000+1000000000) (r5:=Int.tdiv (t*v.getD i 0+bo) 1000000000+1) (by omega) (by omega) (by omega);refine bC (s:=oG v f c (p++(d++r)) q (p.length:Int) t bo i) hS (key (by omega) (pV (by omega)) (by omega) (by omega) hneg (by omega) (by omega) (by omega) (by simp only [dy,b9])) ?_;exact⟨⟨(_,_,i+1),by show i+1<=m+2;omega,N⟩,by show m+2-(i+1)<m+2-i;omega,rfl,rfl⟩
  .have key:=aiJ v f c (p++(d++r)) q (p.length:Int) t bo i (by omega) (by omega) (by omega) (by omega) (by omega) (by omega);rw [kW,oE (by omega),uy (by omega)]at key;have N:=I.step hlt (x:=d.getD i 0-Int.tmod (t*v.getD i 0+bo) 1000000000) (r5:=Int.tdiv (t*v.getD i 0+bo) 1000000000) (by omega) (by omega) (by omega);refine bC (s:=oG v f c (p++(d++r)) q (p.length:Int) t bo i) hS (key (by omega) (pV (by omega)) (by omega) (by omega) hneg (by omega) (by simp only [dy,b9])) ?_;exact⟨⟨(_,_,i+1),by show i+1<=m+2;omega,N⟩,by show m+2-(i+1)<m+2-i;omega,rfl,rfl⟩
 .obtain rfl:i=m+2:=by omega
  refine bC (s:=oG v f c (p++(d++r)) q (p.length:Int) t bo (m+2)) hS (aiK v f c _ q _ t bo (m+2) (by omega)) ?_;refine cI (cQ ?_);have auG:=I.top;have hx0:=CU.get (by decide) (m+2);have key:=aiL v f c (p++(d++r)) q (p.length:Int) t bo (m+2) (by omega) (by omega);rw [bH,oE (by omega),uy (by omega),oE (by rw [b9];omega),mc (by omega)]at key;have hval:=I.val;rw [eZ (by omega),hV]at hval;have l2:(d.set (m+2) (d.getD (m+2) 0-bo)).length=m+2+1:=by rw [b9];exact hl
  have g2:aS 1000000000 ((d.set (m+2) (d.getD (m+2) 0-bo)).take (m+2)):=by rw [Av];exact I.dg
  have t2:(d.set (m+2) (d.getD (m+2) 0-bo)).getD (m+2) 0=d.getD (m+2) 0-bo:=mc (by omega);have v2:ag (d.set (m+2) (d.getD (m+2) 0-bo))=ag d0-t*V:=by
   rw [<-hval];unfold ag;rw [qL _ _ _ _ (by omega),show d.getD (m+2) 0-bo-d.getD (m+2) 0= -bo by omega,Int.mul_neg];omega
  have oB:=aiZ l2 g2;rw [t2,v2]at oB;refine dP (s:=oG v f c (p++(d++r)) q (p.length:Int) t bo (m+2)) hS 2 (key (by omega) (pV (by omega)) (by omega) (pV (by rw [yF l2];omega)) (by rw [hL,yF l2]) rfl) ?_;have auH:=yF (p:=p) (r:=r) l2;by_cases hneg:d.getD (m+2) 0-bo<0
  .rw [az hneg];have hR:=oB.1 hneg;have ht:t=ag d0/V+1:=by
    rcases Int.lt_or_le (ag d0/V) t with h|h
    .omega
    .have e:t=ag d0/V:=by omega
     rw [e,Int.mul_comm]at hR;omega
   have e1:ag d0-t*V+V=ag d0%V:=by
    rw [ht,Int.add_mul,Int.one_mul,Int.mul_comm (ag d0/V)];omega
   have e2:t-1=ag d0/V:=by omega
   rw [<-e2];exact ai0 hv lv (by omega) (by omega) (by omega) hq l2 g2 (by rw [t2];omega) (by omega) (by rw [v2,hV];exact e1) hm0 (by omega) w F
  .rw [ab hneg];have hR:¬ag d0-t*V<0:=fun h=>hneg (oB.2 h)
   have ht:t=ag d0/V:=by
    rcases Int.lt_or_le (ag d0/V) t with h|h
    .have e:t=ag d0/V+1:=by omega
     rw [e,Int.add_mul,Int.one_mul,Int.mul_comm (ag d0/V)]at hR;omega
    .omega
   have e1:ag d0-t*V=ag d0%V:=by
    rw [ht,Int.mul_comm (ag d0/V)];omega
   have e2:=Ua l2 g2 (v2.trans e1) hm0 (by omega);have kY:=aiM v f c (p++(fT 1000000000 (m+2+1) (ag d0%V)++r)) q (p.length:Int) t;rw [Int.toNat_natCast]at kY;rw [e2,<-ht];refine bC (s:=yE v f c (p++(fT 1000000000 (m+2+1) (ag d0%V)++r)) q (p.length:Int) t false) hS (kY (by omega) hq (by rw [b9]) (by rw [b9])) ?_;exact⟨rfl,rfl,rfl⟩
end
abbrev Uc (x y:List Int):Exit->au af->ai->Prop:=hJ prog false f131 (.tuple [lv x,lv y])
def ai3 {u:List Int} {j n:Nat} (h:j+(n+1)<=u.length):u=u.take j++((u.drop j).take (n+1)++u.drop (j+(n+1)))/\(u.take j).length=j/\((u.drop j).take (n+1)).length=n+1:=by
 refine⟨?_,by rw [eM];omega,by rw [eM,nU];omega⟩;rw [show u.drop (j+(n+1))=(u.drop j).drop (n+1) by rw [List.drop_drop],List.take_append_drop,List.take_append_drop]
def ai4 {v:List Int} {f A B:Int} {c:bh} {aJ:List Int} {n m:Nat} (AY:aS 1000000000 aJ) (hv:aS 1000000000 v) (lv:v.length=n) (hn:2<=n) (hm:m+n=aJ.length) (pR:1<=m) (fQ:aJ.length<=200000) (hf:1<=f/\f<1000000000)
  (hV:ag v=B*f) (uB:0<B) (l5:0<=A) (AP:ag aJ=A*f) (kI:ag (aJ.drop m)<ag v) (sF:500000000<=v.getD (n-1) 0) (w:World) (F:Sv.Env):
  aW prog w F 206 ((fl dT []).drop 12) (hG v f c aJ (gw m) ((m:Int)-1)).T (hG v f c aJ (gw m) ((m:Int)-1)).H (Uc (aH (A/B)) (aH (A%B))):=by
 have hS:=Ds;have iG:0<ag v:=by rw [hV];exact Int.mul_pos uB (by omega)
 have sG:ag v<1000000000^n:=by rw [<-lv];exact dC (by decide) hv
 have ME:∀k,(gw m).getD k 0=0:=fun k=>by
  unfold gw;rw [ao,List.getElem?_replicate];split<;>rfl
 refine aW.loop (ι:={x:List Int×List Int×Nat//x.2.2<=m/\x.1.length=aJ.length/\aS 1000000000 x.1/\x.2.1.length=m/\aS 1000000000 x.2.1/\ag (x.1.drop x.2.2)<ag v/\ag x.1+ag v*ag x.2.1=A*f/\∀j,j<x.2.2->x.2.1.getD j 0=0}) (id:=2) (b:=cat dT Dn) (rest:=(fl dT []).drop 13) (by kernel_rfl) (fun x=>hG v f c x.1.1 x.1.2.1 ((x.1.2.2:Int)-1)) (fun x=>x.1.2.2)
  ⟨(aJ,gw m,m),aK _,rfl,AY,eI _,LU _,kI, ?_,fun j _=>ME j⟩ (fun _=>rfl) ?_
 .show ag aJ+ag v*ag (gw m)=_;have:ag (gw m)=0:=CX _ m;rw [this,AP];omega
 rintro⟨⟨u,q,k⟩,hk,hl,iZ,hq,jt,kI,hval,hz⟩;have hk:k<=m:=hk;have hl:u.length=aJ.length:=hl;have iZ:aS 1000000000 u:=iZ;have hq:q.length=m:=hq;have jt:aS 1000000000 q:=jt;have kI:ag (u.drop k)<ag v:=kI;have hval:ag u+ag v*ag q=A*f:=hval;have hz:∀j,j<k->q.getD j 0=0:=hz;cases k with
 |zero=>
  refine dP (s:=hG v f c u q ((0:Nat)-1:Int)) hS 2 (aiG v f c u q _ (by omega)) ?_;refine cI (cI (cQ ?_));rw [List.drop_zero]at kI;have pW:0<=ag u:=gN iZ;obtain⟨g1,g2⟩:=L9 (A:=A) (b:=B) (V:=ag v) (S:=f) (U:=ag u) (q:=ag q) (by omega) uB hV hval pW kI;have uz:0<=f*(A%B):=by rw [<-g2];exact pW
  have ht:ag (u.take n)=f*(A%B):=by
   rw [<-g2];exact CZ (by decide) iZ (Int.lt_trans kI sG)
  have e1:er ((u.drop 0).take v.length)=aH (f*(A%B)):=by
   rw [List.drop_zero,lv,yf (iZ.take _),ht]
  have e2:ag (aH (f*(A%B)))/f=A%B:=by
   rw [(gI uz).2.2,Int.mul_ediv_cancel_left _ (by omega)]
  have hlen:(aH (f*(A%B))).length<=n:=yj k4 uz (by rw [<-g2];exact Int.lt_trans kI sG);have key:=aiT v f c u q ((0:Nat)-1:Int) (by omega) (by
   rw [Bool.or_eq_true];exact .inr (pV (by omega))) (by rw [eM,List.drop_zero];omega) (by simp) (by
   rw [e1,ow.2 ⟨(gI uz).1,by omega⟩];rw [az (show(1:Int)<=List.getD [f] (Int.toNat 0) 0 from hf.1),az (show List.getD [f] (Int.toNat 0) 0<(1000000000:Int)from hf.2)];rfl) (AA _ q) (by rw [List.drop_zero,dR];omega) rfl
  rw [e1,e2,List.drop_zero,dR,yf jt,<-g1]at key;exact bY (s:=hG v f c u q ((0:Nat)-1:Int)) hS key
 |succ j=>
  have j6:(((j+1:Nat):Int)-1)=(j:Int):=by omega
  obtain⟨w1,w2,w3⟩:=L8 (b:=1000000000) (by decide) iZ (j:=j) (n:=n) (V:=ag v) (by omega) (ct sG) kI;obtain⟨c1,c2,c3⟩:=ai3 (u:=u) (j:=j) (n:=n) (by omega);obtain⟨n1,n2,n3,su⟩:=TD (b:=1000000000) (by decide) iZ (j:=j) (n:=n) (V:=ag v) (by omega) iG (ct sG) kI rfl;have MF:0<=ag ((u.drop j).take (n+1)):=gN ((iZ.drop j).take _);have wA:ag ((u.drop j).take (n+1))<1000000000*ag v:=by unfold ag;rw [<-w1];exact w2
  have wu:0<=ag ((u.drop j).take (n+1))/ag v:=Int.ediv_nonneg MF (ct iG);have GG:ag ((u.drop j).take (n+1))/ag v<1000000000:=(Int.ediv_lt_iff_lt_mul iG).2 wA;show cg _ _ _ _ _ _ (hG v f c u q (((j+1:Nat):Int)-1)).T (hG v f c u q (((j+1:Nat):Int)-1)).H _;rw [j6];refine dP (s:=hG v f c u q (j:Int)) hS 2 (aiF v f c u q (j:Int) (by omega)) ?_;refine FP (id:=3) (c:=cat dT uA) (rest:=(fl dT Dn).drop 3) (by kernel_rfl) ?_;have hW:=ai2 (f:=f) (c:=c) (p:=u.take j) (d0:=(u.drop j).take (n+1)) (r:=u.drop (j+(n+1))) (q:=q) (V:=ag v) (n:=n) (by rw [<-c1];exact iZ) hv lv hn (by rw [<-c1];omega) (by rw [c2];omega) c3 rfl iG sG sF wA w F;rw [<-c1,c2]at hW;refine aW.mono (fun e T H hQ=> ?_) hW;obtain⟨rfl,rfl,rfl⟩:=hQ;have hnx:=aiS v f c (u.take j++(fT 1000000000 (n+1) (ag ((u.drop j).take (n+1))%ag v)++u.drop (j+(n+1)))) (q.set j (ag ((u.drop j).take (n+1))/ag v)) (j:Int) (by omega);refine bC (s:=hG v f c _ _ (j:Int)) hS hnx ?_;refine⟨⟨(_,_,j),by show j<=m;omega,n1.trans hl,n2,by show(q.set j _).length=m;rw [b9];exact hq,jt.set ⟨wu,GG⟩,su, ?_,fun i hi=> ?_⟩,fL _,rfl,rfl⟩
  .have qK:ag (q.set j (ag ((u.drop j).take (n+1))/ag v))=ag q+1000000000^j*(ag ((u.drop j).take (n+1))/ag v):=by
    have h0:=hz j (fL _);show vl 1000000000 _=vl 1000000000 _+_;rw [qL _ _ _ _ (by omega),h0,Int.sub_zero]
   have MG:ag (u.take j++(fT 1000000000 (n+1) (ag ((u.drop j).take (n+1))%ag v)++u.drop (j+(n+1))))+1000000000^j*(ag ((u.drop j).take (n+1))/ag v)*ag v=ag u:=n3;show ag (u.take j++(fT 1000000000 (n+1) (ag ((u.drop j).take (n+1))%ag v)++u.drop (j+(n+1))))+ag v*ag (q.set j (ag ((u.drop j).take (n+1))/ag v))=_;rw [qK,<-hval,<-MG];generalize ag (u.take j++(fT 1000000000 (n+1) (ag ((u.drop j).take (n+1))%ag v)++u.drop (j+(n+1))))=x1;generalize ag ((u.drop j).take (n+1))/ag v=x2;generalize (1000000000:Int)^j=x3;generalize ag q=qI;generalize ag v=vS;grind
  .have hi:i<j:=hi;show(q.set j _).getD i 0=0;rw [fg,if_neg (by omega)];exact hz i (by omega)
end
end Go.Proofs.YtibikmmdbdlafaaGreatDoor
