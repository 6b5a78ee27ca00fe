/- Package num: long division of words. -/
import Derived.Test.YtibikmmdbdlafaaGreatDoorZxVStep3
import Derived.Test.YtibikmmdbdlafaaGreatDoorZxSvGive
set_option linter.unusedVariables false
set_option linter.unusedSimpArgs false
set_option maxRecDepth 100000
namespace Go.Proofs.YtibikmmdbdlafaaGreatDoor
open Go.RowKit Sv Go.Proofs.Tryz
noncomputable section
noncomputable def fN:Code:=(f178.body).getD .skip
noncomputable def kf:bF:=Cl [Fs] (zR [rF] (nZ [EX] (a7 [Kf,KK,KJ])))
abbrev CJ:List Nat:=[1,1,0,1,0]
abbrev KZ:List Nat:=[1,1,0,1,0,1,1,0,1,0,0]
abbrev FA:List Nat:=[1,1,1,1,1,1,1,1,0,1,0,0]
abbrev FB:List Nat:=[1,1,1,1,1,1,1,1,1,0,1,0,0]
abbrev K0 (j:Nat) (l:List Int):aa:= .bN 167 aB j 0 l.length .full
abbrev K1 (l:List Int):fy:= .blk (.own 167 aB l)
def rI (a b:List Int):bC:={n:=137,sl:=[(0,bE a),(1,bE b),(23,bv ((b.length:Int)==1))],bG:=[],next:=64}
def qE (a b q:List Int) (r:Int) (k:Nat):bC:={n:=137,sl:=[(0,bE a),(1,bE b),(6,qo 64 q),(7,cl r),(8,iv ((k:Int)-1))],bG:=[(64,qp q)],next:=65}
def K2 (a b q:List Int) (r:Int) (k:Nat):bC:={n:=137,sl:=[(0,bE a),(1,bE b),(6,qo 64 q),(7,cl r),(8,iv ((k:Int)-1-1))],bG:=[(64,qp q)],next:=65}
def kX (a v u q:List Int) (s:Int) (k:Nat):bC:={n:=137,sl:=[(0,bE a),(9,iv s),(10,bE v),(11,K0 64 u),(12,iv v.length),(13,qo 65 q),(14,iv ((k:Int)-1))],bG:=[(64,K1 u),(65,qp q)],next:=66}
def Ak (a v u q:List Int) (s:Int) (k:Nat):bC:={n:=137,sl:=[(0,bE a),(9,iv s),(10,bE v),(11,K0 64 u),(12,iv v.length),(13,qo 65 q),(14,iv ((k:Int)-1-1))],bG:=[(64,K1 u),(65,qp q)],next:=66}
def jv (n:Nat) (u q:List Int) (s:Int) (i:Nat):bC:={n:=137,sl:=[(9,iv s),(11,K0 64 u),(12,iv n),(13,qo 65 q),(96,iv n),(97,iv i)],bG:=[(64,K1 u),(65,qp q)],next:=66}
abbrev yb:Sv.Ren:=[(64,64,none),(65,65,none)]
def K3 (a v:List Int) (s:Int):bC:={n:=137,sl:=[(0,bE a),(9,iv s),(10,bE v)],bG:=[],next:=64}
theorem af2 (a b:List Int) (h1:(mH a b)=true) (h2:kP (aj a) (aj b)<0):
  bq kf (fl fN []) 3 137 [bE a,bE b] 3 f178 false (.tuple [bE [],bE a]):=
 wy [af h1,ah h2] 129
theorem af3 (a b:List Int) (h1:(mH a b)=true) (h2:¬kP (aj a) (aj b)<0):
  cT kf (fl fN []) 4 137 [bE a,bE b] 2 .normal [] (rI a b):=
 wy [af h1,aJ h2] 129
theorem af4 (a b:List Int) (h1:a.length<=1000000) (h2: -9223372036854775808<=(a.length:Int)-1/\(a.length:Int)-1<=9223372036854775807) (h3:a.length=(co a.length).length) (h4:(bA (co a.length).length)=(bA a.length)) (h5:(List.flatten (List.replicate a.length (List.map aa.raw (Array.toList #[Value.int .u64 (0:Int)]))))=(List.flatMap (fun x=>[aa.raw (Value.int .u64 x)]) (co a.length))):
  aA.path (zN prog kf (fl fN CJ) 3 (rI a b)) (dl 1) (dX prog 137 .normal [(64,64,some a.length)] (qE a b (co a.length) 0 a.length)):=
 mp (EJ rt rt (show(decide (a.length<=a.length))=true from az (by omega)) (nY (show(bounded a.length (8:Nat))=true from oV h1 (by omega)) (bm h2) (rr a) (rr b) (an h3 (an (rr (aS.known a.length)) h4)) (rr (0:Int)) (rr ((a.length:Int)-1)) (an h5 h3) trivial))
theorem af5 (a b q:List Int) (r:Int) (k:Nat) (h1:(k:Int)-1>=0) (h2:0<=(k:Int)-1) (h3:((k:Int)-1).toNat<a.length) (h4:Int.toNat 0<b.length) (h5:(tJ r (a.getD ((k:Int)-1).toNat 0) (b.getD (Int.toNat 0) 0))=true) (h6:((k:Int)-1).toNat<q.length) (h7:i6 ((k:Int)-1-1)) (h8:q.length=(q.set ((k:Int)-1).toNat (dT r (a.getD ((k:Int)-1).toNat 0) (b.getD 0 0))).length) (h9:(bA q.length)=(bA (q.set ((k:Int)-1).toNat (dT r (a.getD ((k:Int)-1).toNat 0) (b.getD 0 0))).length)) (h10:(n9 r (a.getD ((k:Int)-1).toNat 0) (b.getD (Int.toNat 0) 0))=(n9 r (a.getD ((k:Int)-1).toNat 0) (b.getD 0 0))) (h11:(q.set ((k:Int)-1).toNat (dT r (a.getD ((k:Int)-1).toNat 0) (b.getD (Int.toNat 0) 0)))=(q.set ((k:Int)-1).toNat (dT r (a.getD ((k:Int)-1).toNat 0) (b.getD 0 0)))):
  bh kf (fl fN KZ) (qE a b q r k) 3 .normal jS (K2 a b (q.set ((k:Int)-1).toNat (dT r (a.getD ((k:Int)-1).toNat 0) (b.getD 0 0))) (n9 r (a.getD ((k:Int)-1).toNat 0) (b.getD 0 0)) k):=
 wy [ah h1,ah h2,ah h3,af (aW (v:=aa.raw (Value.int IntKind.u64 (a.getD ((k:Int)-(1:Int)).toNat (0:Int)))) (by kernel_rfl)),ah h4,af (aW (v:=aa.raw (Value.int IntKind.u64 (b.getD (0:Int).toNat (0:Int)))) (by kernel_rfl)),af h5,ah h6,iW 167 aB h6,yi h7,ax h8,ax h9,ax h10,mB 167 aB h11] 290835506264453566828585601305948289
theorem af6 (a b q:List Int) (r:Int) (k:Nat) (h1:¬(k:Int)-1>=0):
  bh kf (fl fN KZ) (qE a b q r k) 2 (.exit 0) jS (qE a b q r k):=
 wy [aJ h1] 1
theorem af7 (a b q:List Int) (r:Int) (k:Nat) (h1:(Nat.beq q.length 0||bt 167 aB (bM 167 aB q) (q.length-1))=true) (h2:((q.drop 0).take q.length).length<=1000000) (h3:1*1<=(aa.raw (Value.int .u64 r)::List.append._f [] PUnit.unit (List.flatten._f [] PUnit.unit)).length) (h4:List.length [r]<=1000000) (h5:(dJ ((q.drop 0).take q.length))=(dJ q)):
  bQ kf ((fl fN CJ).drop 4) (qE a b q r k) 1 f178 false (.tuple [bE (dJ q),bE (dJ [r])]):=
 wy [af (show(Nat.beq q.length (0:Nat)||bt 167 aB (bM 167 aB q) ((0:Nat)+q.length-(1:Nat)))=true from(by simp only [aw]<;>exact h1)),af (show(decide ((((bI aB (bM 167 aB q)).drop (0:Nat)).take q.length).length<=(1000000:Nat)))=true from(by simp only [dI]<;>exact az h2)),af (show(Nat.ble ((0:Nat)+(1:Nat)*(1:Nat)) (aa.raw (Value.int IntKind.u64 r)::List.append._f [] PUnit.unit (List.flatten._f [] PUnit.unit)).length)=true from(by simp only [aw]<;>exact fo h3)),ah h4,ax (show(dJ (((bI aB (bM 167 aB q)).drop (0:Nat)).take q.length))=(dJ q)from(by simp only [dI]<;>exact h5))] 84947073
theorem af8 (a b:List Int) (h1:¬(b.length:Int)=1):
  en kf ((fl fN []).drop 4) 1 (rI a b) 2 .normal [] (rI a b):=
 wy [yn h1] 1
theorem af9 (a b v:List Int) (s:Int) (h1:i6 ((b.length:Int)-1)) (h2:0<=(b.length:Int)-1) (h3:((b.length:Int)-1).toNat<b.length) (h4:(vG (b.getD ((b.length:Int)-1).toNat 0))=true) (h5:(x5 b (dO (b.getD ((b.length:Int)-1).toNat 0)))=true) (h6:(Nat.beq (cB b (dO (b.getD ((b.length:Int)-1).toNat 0))).length 0||bt (qg.e Fs) aB (some (bf.own 167 aB (cB b (dO (b.getD ((b.length:Int)-1).toNat 0))))) ((cB b (dO (b.getD ((b.length:Int)-1).toNat 0))).length-1))=true) (h7:(((cB b (dO (b.getD ((b.length:Int)-1).toNat 0))).drop 0).take (cB b (dO (b.getD ((b.length:Int)-1).toNat 0))).length).length<=1000000) (h8:(dO (b.getD ((b.length:Int)-1).toNat 0))=(s)) (h9:(dJ (((cB b (dO (b.getD ((b.length:Int)-1).toNat 0))).drop 0).take (cB b (dO (b.getD ((b.length:Int)-1).toNat 0))).length))=(v)):
  en kf ((fl fN []).drop 5) 2 (rI a b) 1 .normal [] (K3 a v s):=
 wy [yi h1,ah h2,ah h3,af h4,af h5,af (show(Nat.beq (cB b (dO (b.getD ((b.length:Int)-(1:Int)).toNat (0:Int)))).length (0:Nat)||bt (qg.e Fs) aB (some (bf.own 167 aB (cB b (dO (b.getD ((b.length:Int)-(1:Int)).toNat (0:Int)))))) ((0:Nat)+(cB b (dO (b.getD ((b.length:Int)-(1:Int)).toNat (0:Int)))).length-(1:Nat)))=true from(by simp only [aw]<;>exact h6)),ah h7,ax h8,ax h9] 164381873962758273
theorem aga (a v:List Int) (s:Int) (m:Nat) (h1:(x5 a s)=true) (h2: -9223372036854775808<=(a.length:Int)-(v.length:Int)/\(a.length:Int)-(v.length:Int)<=9223372036854775807) (h3: -9223372036854775808<=(a.length:Int)-(v.length:Int)+1/\(a.length:Int)-(v.length:Int)+1<=9223372036854775807) (h4:(0:Int)<=(a.length:Int)-(v.length:Int)+1) (h5:((a.length:Int)-(v.length:Int)+1).toNat<=1000000) (h6:(cB a s).length=(cB a s).length) (h7:(((a.length:Int)-(v.length:Int)+1).toNat)=(co m).length) (h8:(aS.known ((a.length:Int)-(v.length:Int)+1).toNat)=(aS.known m)) (h9:(bA (co m).length)=(bA m)) (h10:((a.length:Int)-(v.length:Int))=((m:Int)-1)) (h11:(List.flatten (List.replicate ((a.length:Int)-(v.length:Int)+1).toNat (List.map aa.raw (Array.toList #[Value.int .u64 (0:Int)]))))=(List.flatMap (fun x=>[aa.raw (Value.int .u64 x)]) (co m))) (h12:(m)=(co m).length):
  aA.path (zN prog kf ((fl fN []).drop 7) 4 (K3 a v s)) (dl 1) (dX prog 137 .normal [(64,64,none),(65,65,some m)] (kX a v (cB a s) (co m) s m)):=
 mp (an h1 (nY (bm h2) (bm h3) (az h4) (az h4) (show(decide (((a.length:Int)-(v.length:Int)+1).toNat<=((a.length:Int)-(v.length:Int)+1).toNat))=true from az (by omega)) (show(bounded ((a.length:Int)-(v.length:Int)+1).toNat (8:Nat))=true from oV h5 (by omega)) (bm h2) (rr a) (nY (rr s) (rr v) (an (rr (0:Nat)) (an h6 (rr (aS.full)))) (rr (v.length:Int)) (an h7 (an h8 h9)) h10 (rr (cB a s)) (an h11 h12) trivial)))
theorem agb (a v u q:List Int) (s:Int) (k:Nat) (h1:(k:Int)-1>=0) (h2:i6 ((k:Int)-1+(v.length:Int))) (h3:i6 ((k:Int)-1+(v.length:Int)+1)) (h4:0<=(k:Int)-1) (h5:((k:Int)-1+(v.length:Int)+1).toNat<=u.length) (h6:((k:Int)-1).toNat=0) (h7:(bt (gz.e rF) (gz.t rF) (some (bf.own 167 aB u)) (((k:Int)-1+(v.length:Int)+1).toNat-1)&&Nat.ble 1 ((k:Int)-1+(v.length:Int)+1).toNat)=true) (h8:(vH u 0 ((k:Int)-1+(v.length:Int)+1).toNat v)=true) (h9:((k:Int)-1).toNat<q.length) (h10:i6 ((k:Int)-1-1)) (h11:u.length=(gf u 0 ((k:Int)-1+(v.length:Int)+1).toNat v).length) (h12:q.length=(q.set ((k:Int)-1).toNat (ja u 0 ((k:Int)-1+(v.length:Int)+1).toNat v)).length) (dP:(bA q.length)=(bA (q.set ((k:Int)-1).toNat (ja u 0 ((k:Int)-1+(v.length:Int)+1).toNat v)).length)):
  bh kf (fl fN FA) (kX a v u q s k) 7 .normal yb (Ak a v (gf u 0 (((k:Int)-1+v.length+1).toNat) v) (q.set ((k:Int)-1).toNat (ja u 0 (((k:Int)-1+v.length+1).toNat) v)) s k):=
 wy [ah h1,yi h2,yi h3,ah (by omega:(0:Int)<=(k:Int)-(1:Int)+(v.length:Int)+(1:Int)),ah h4,ah (by omega:((k:Int)-(1:Int)).toNat<=((k:Int)-(1:Int)+(v.length:Int)+(1:Int)).toNat),ah h5,af (aaL h6),af (show(bt (gz.e rF) (gz.t rF) (some (bf.own 167 aB u)) ((0:Nat)+((k:Int)-(1:Int)+(v.length:Int)+(1:Int)).toNat-(1:Nat))&&Nat.ble (1:Nat) ((k:Int)-(1:Int)+(v.length:Int)+(1:Int)).toNat)=true from(by simp only [aw]<;>exact h7)),af h8,ah h9,iW 167 aB h9,yi h10,ax h11,ax h12,ax dP,mB 167 aB (Eq.refl (q.set ((k:Int)-(1:Int)).toNat (ja u (0:Nat) ((k:Int)-(1:Int)+(v.length:Int)+(1:Int)).toNat v)))] 1552851146518156587532186954369615219962099544193
theorem agc (a v u q:List Int) (s:Int) (k:Nat) (h1:(k:Int)-1>=0) (h2:i6 ((k:Int)-1+(v.length:Int))) (h3:i6 ((k:Int)-1+(v.length:Int)+1)) (h4:0<=(k:Int)-1) (h5:((k:Int)-1+(v.length:Int)+1).toNat<=u.length) (h6:(Nat.beq ((k:Int)-1).toNat 0)=false) (h7:((k:Int)-1).toNat<((k:Int)-1+(v.length:Int)+1).toNat) (h8:(bt (gz.e rF) (gz.t rF) (some (bf.own 167 aB u)) (((k:Int)-1).toNat+(((k:Int)-1+(v.length:Int)+1).toNat-Int.toNat ((k:Int)-1))-1)&&Nat.ble 1 (((k:Int)-1+(v.length:Int)+1).toNat-Int.toNat ((k:Int)-1)))=true) (h9:(vH u ((k:Int)-1).toNat (((k:Int)-1+(v.length:Int)+1).toNat-Int.toNat ((k:Int)-1)) v)=true) (h10:((k:Int)-1).toNat<q.length) (h11:i6 ((k:Int)-1-1)) (h12:u.length=(gf u ((k:Int)-1).toNat (((k:Int)-1+(v.length:Int)+1).toNat-Int.toNat ((k:Int)-1)) v).length) (dP:q.length=(q.set ((k:Int)-1).toNat (ja u ((k:Int)-1).toNat (((k:Int)-1+(v.length:Int)+1).toNat-Int.toNat ((k:Int)-1)) v)).length) (gD:(bA q.length)=(bA (q.set ((k:Int)-1).toNat (ja u ((k:Int)-1).toNat (((k:Int)-1+(v.length:Int)+1).toNat-Int.toNat ((k:Int)-1)) v)).length)):
  bh kf (fl fN FA) (kX a v u q s k) 13 .normal yb (Ak a v (gf u ((k:Int)-1).toNat ((((k:Int)-1+v.length+1).toNat)-((k:Int)-1).toNat) v) (q.set ((k:Int)-1).toNat (ja u ((k:Int)-1).toNat ((((k:Int)-1+v.length+1).toNat)-((k:Int)-1).toNat) v)) s k):=
 wy [ah h1,yi h2,yi h3,ah (by omega:(0:Int)<=(k:Int)-(1:Int)+(v.length:Int)+(1:Int)),ah h4,ah (by omega:((k:Int)-(1:Int)).toNat<=((k:Int)-(1:Int)+(v.length:Int)+(1:Int)).toNat),ah h5,af h6,ah h7,af (show(bt (gz.e rF) (gz.t rF) (some (bf.own 167 aB u)) ((0:Nat)+((k:Int)-(1:Int)).toNat+(((k:Int)-(1:Int)+(v.length:Int)+(1:Int)).toNat-Int.toNat ((k:Int)-(1:Int)))-(1:Nat))&&Nat.ble (1:Nat) (((k:Int)-(1:Int)+(v.length:Int)+(1:Int)).toNat-Int.toNat ((k:Int)-(1:Int))))=true from(by simp only [aw]<;>exact h8)),af (show(vH u ((0:Nat)+((k:Int)-(1:Int)).toNat) (((k:Int)-(1:Int)+(v.length:Int)+(1:Int)).toNat-Int.toNat ((k:Int)-(1:Int))) v)=true from(by simp only [aw]<;>exact h9)),ah h10,iW 167 aB h10,yi h11,ax h12,ax dP,ax gD,ax (show(gf u ((0:Nat)+((k:Int)-(1:Int)).toNat) (((k:Int)-(1:Int)+(v.length:Int)+(1:Int)).toNat-Int.toNat ((k:Int)-(1:Int))) v)=(gf u ((k:Int)-(1:Int)).toNat (((k:Int)-(1:Int)+(v.length:Int)+(1:Int)).toNat-Int.toNat ((k:Int)-(1:Int))) v)from(by simp only [aw])),oU prog 167 aB (show((bI aB (bM 167 aB q)).set ((0:Nat)+((k:Int)-(1:Int)).toNat) (ja u ((0:Nat)+((k:Int)-(1:Int)).toNat) (((k:Int)-(1:Int)+(v.length:Int)+(1:Int)).toNat-Int.toNat ((k:Int)-(1:Int))) v))=(q.set ((k:Int)-(1:Int)).toNat (ja u ((k:Int)-(1:Int)).toNat (((k:Int)-(1:Int)+(v.length:Int)+(1:Int)).toNat-Int.toNat ((k:Int)-(1:Int))) v))from(by simp only [dI,aw]<;>rfl))] 112718698467000873757520171089483947854851910676609
theorem agd (a v u q:List Int) (s:Int) (k:Nat) (h1:¬(k:Int)-1>=0):
  bh kf (fl fN FA) (kX a v u q s k) 2 (.exit 2) yb (kX a v u q s k):=
 wy [aJ h1] 1
theorem age (a v u q:List Int) (s:Int) (k:Nat):
  en kf ((fl fN []).drop 12) 1 (kX a v u q s k) 1 .normal yb (jv v.length u q s 0):=
 wy [] 0
theorem agf (n:Nat) (u q:List Int) (s:Int) (i:Nat) (h1:(i:Int)<(n:Int)) (h2:i<u.length) (h3:(bt 167 aB (some (bf.own 167 aB u)) i)=true) (h4:0<=s) (h5:s>0) (h6:i6 ((i:Int)+1)) (h7:(i:Int)+1<(u.length:Int)) (h8:(bt 167 aB (some (bf.own 167 aB (u.set i (Int.fdiv (u.getD i 0) ((2:Int)^min s.toNat 64))))) i)=true) (h9:((i:Int)+1).toNat<u.length) (h10:(bt 167 aB (some (bf.own 167 aB (u.set i (Int.fdiv (u.getD i 0) ((2:Int)^min s.toNat 64))))) ((i:Int)+1).toNat)=true) (h11:i6 (64-s)) (h12:0<=64-s) (dP:u.length=((u.set i (dn (u.getD i 0) s)).set i (eH ((u.set i (dn (u.getD i 0) s)).getD i 0) (ff ((u.set i (dn (u.getD i 0) s)).getD (i+1) 0) (64-s)))).length) (gD:((u.set i (Int.fdiv (u.getD i 0) ((2:Int)^min s.toNat 64))).set i (IntKind.wrap IntKind.u64 (↑(BitVec.toNat (BitVec.ofInt 64 ((u.set i (Int.fdiv (u.getD i 0) ((2:Int)^min s.toNat 64))).getD i 0)|||BitVec.ofInt 64 (IntKind.wrap IntKind.u64 ((u.set i (Int.fdiv (u.getD i 0) ((2:Int)^min s.toNat 64))).getD ((i:Int)+1).toNat 0*(2:Int)^min (64-s).toNat 64)))):Int)))=((u.set i (dn (u.getD i 0) s)).set i (eH ((u.set i (dn (u.getD i 0) s)).getD i 0) (ff ((u.set i (dn (u.getD i 0) s)).getD (i+1) 0) (64-s))))):
  bh kf (fl fN FB) (jv n u q s i) 511 .normal yb (jv n ((u.set i (dn (u.getD i 0) s)).set i (eH ((u.set i (dn (u.getD i 0) s)).getD i 0) (ff ((u.set i (dn (u.getD i 0) s)).getD (i+1) 0) (64-s)))) q s (i+1)):=
 wy [ah h1,ah h2,af (show(bt 167 aB (some (bf.own 167 aB u)) ((0:Nat)+i))=true from(by simp only [aw]<;>exact h3)),ah h4,af (aQ (az h5)),yi h6,ah h5,ah h7,af (show(bt 167 aB (some (bf.own 167 aB (u.set ((0:Nat)+i) (Int.fdiv (u.getD ((0:Nat)+i) (0:Int)) ((2:Int)^min s.toNat (64:Nat)))))) ((0:Nat)+i))=true from(by simp only [aw]<;>exact h8)),af (aW (v:=aa.raw (Value.int IntKind.u64 ((u.set ((0:Nat)+i) (Int.fdiv (u.getD ((0:Nat)+i) (0:Int)) ((2:Int)^min s.toNat (64:Nat)))).getD ((0:Nat)+i) (0:Int)))) (by kernel_rfl)),ah h9,af (show(bt 167 aB (some (bf.own 167 aB (u.set ((0:Nat)+i) (Int.fdiv (u.getD ((0:Nat)+i) (0:Int)) ((2:Int)^min s.toNat (64:Nat)))))) ((0:Nat)+((i:Int)+(1:Int)).toNat))=true from(by simp only [aw]<;>exact h10)),af (aW (v:=aa.raw (Value.int IntKind.u64 ((u.set ((0:Nat)+i) (Int.fdiv (u.getD ((0:Nat)+i) (0:Int)) ((2:Int)^min s.toNat (64:Nat)))).getD ((0:Nat)+((i:Int)+(1:Int)).toNat) (0:Int)))) (by kernel_rfl)),yi h11,ah h12,ax dP,ax (show((u.set ((0:Nat)+i) (Int.fdiv (u.getD ((0:Nat)+i) (0:Int)) ((2:Int)^min s.toNat (64:Nat)))).set ((0:Nat)+i) (IntKind.wrap IntKind.u64 (↑(BitVec.toNat (BitVec.ofInt (64:Nat) ((u.set ((0:Nat)+i) (Int.fdiv (u.getD ((0:Nat)+i) (0:Int)) ((2:Int)^min s.toNat (64:Nat)))).getD ((0:Nat)+i) (0:Int))|||BitVec.ofInt (64:Nat) (IntKind.wrap IntKind.u64 ((u.set ((0:Nat)+i) (Int.fdiv (u.getD ((0:Nat)+i) (0:Int)) ((2:Int)^min s.toNat (64:Nat)))).getD ((0:Nat)+((i:Int)+(1:Int)).toNat) (0:Int)*(2:Int)^min ((64:Int)-s).toNat (64:Nat))))):Int)))=((u.set i (dn (u.getD i (0:Int)) s)).set i (eH ((u.set i (dn (u.getD i (0:Int)) s)).getD i (0:Int)) (ff ((u.set i (dn (u.getD i (0:Int)) s)).getD (i+(1:Nat)) (0:Int)) ((64:Int)-s))))from(by simp only [aw]<;>exact gD))] 7873862068137527616914292518417608029408674204502519200453172716118206636105729
theorem agh (n:Nat) (u q:List Int) (s:Int) (i:Nat) (h1:(i:Int)<(n:Int)) (h2:i<u.length) (h3:(bt 167 aB (some (bf.own 167 aB u)) i)=true) (h4:0<=s) (h5:¬s>0) (h6:i6 ((i:Int)+1)) (h7:u.length=(u.set i (dn (u.getD i 0) s)).length) (h8:(u.set i (Int.fdiv (u.getD i 0) ((2:Int)^min s.toNat 64)))=(u.set i (dn (u.getD i 0) s))):
  bh kf (fl fN FB) (jv n u q s i) 257 .normal yb (jv n (u.set i (dn (u.getD i 0) s)) q s (i+1)):=
 wy [ah h1,ah h2,af (show(bt 167 aB (some (bf.own 167 aB u)) ((0:Nat)+i))=true from(by simp only [aw]<;>exact h3)),ah h4,af (aQ (ab h5)),aJ h5,yi h6,ax h7,ax (show(u.set ((0:Nat)+i) (Int.fdiv (u.getD ((0:Nat)+i) (0:Int)) ((2:Int)^min s.toNat (64:Nat))))=(u.set i (dn (u.getD i (0:Int)) s))from(by simp only [aw]<;>exact h8))] 822094670998635487646669403467073943717211283457
theorem agi (n:Nat) (u q:List Int) (s:Int) (i:Nat) (h1:¬(i:Int)<(n:Int)):
  bh kf (fl fN FB) (jv n u q s i) 2 (.exit 4) yb (jv n u q s i):=
 wy [aJ h1] 1
theorem agj (n:Nat) (u q:List Int) (s:Int) (i:Nat) (h1:(Nat.beq q.length 0||bt 167 aB (bM 167 aB q) (q.length-1))=true) (h2:((q.drop 0).take q.length).length<=1000000) (h3:n<=u.length) (h4:(Nat.beq n 0||bt 167 aB (some (bf.own 167 aB u)) (n-1))=true) (h5:((u.drop 0).take n).length<=1000000) (h6:(dJ ((q.drop 0).take q.length))=(dJ q)) (h7:(dJ ((u.drop 0).take n))=(dJ (u.take n))):
  bQ kf ((fl fN []).drop 14) (jv n u q s i) 3 f178 false (.tuple [bE (dJ q),bE (dJ (u.take n))]):=
 wy [af (show(Nat.beq q.length (0:Nat)||bt 167 aB (bM 167 aB q) ((0:Nat)+q.length-(1:Nat)))=true from(by simp only [aw]<;>exact h1)),af (show(decide ((((bI aB (bM 167 aB q)).drop (0:Nat)).take q.length).length<=(1000000:Nat)))=true from(by simp only [dI]<;>exact az h2)),ah h3,af (show(Nat.beq n (0:Nat)||bt 167 aB (some (bf.own 167 aB u)) ((0:Nat)+n-(1:Nat)))=true from(by simp only [aw]<;>exact h4)),ah h5,ax (show(dJ (((bI aB (bM 167 aB q)).drop (0:Nat)).take q.length))=(dJ q)from(by simp only [dI]<;>exact h6)),ax h7] 127811904587432065
end
noncomputable section
theorem te {X:Ext} {P:Program} {w0:World} {F:Sv.Env} {n:Nat} {T:av aa} {H:ai} {Q:Exit->av aa->ai->Prop} {l rest:List Code} {o:Operand} {x y:Code} (hl:l= .cond o x y::rest) (hb:gq (cc T o)= .mk true)
  (h:a8 X P w0 F n (q9 x) T H (gP (fun T H=>a8 X P w0 F n rest T H Q) Q)):a8 X P w0 F n l T H Q:=by
 subst hl;intro a w hs k;obtain⟨ρ,aN,_⟩:=hs.ex;have hc:=w9 aN.T aN.G o;rw [DI hb]at hc;exact wpIn_cond hc.b7 (tr h a w hs k)
theorem FC:bB prog (bD kf):=by
 refine aa5 (fun c hc=> ?_) (QO (fun c hc=> ?_) (tD (fun c hc=> ?_) (cR fun c hc=> ?_)))
 .rw [List.mem_singleton.1 hc];exact afi
 .rw [List.mem_singleton.1 hc];exact af1
 .rw [List.mem_singleton.1 hc];exact Kb
 .simp only [dV,jY,or_false]at hc;rcases hc with rfl |rfl |rfl
  .exact Rr
  .exact R4
  .exact RN
def pq (a b:List Int):Bool:=mH a b&&(decide (1<=b.length)&&(decide (a.length<=300000)&&decide (b.length<=300000)))
def eT (a b:List Int):List Int:=cM 18446744073709551616 (aj a/aj b)
def cC (a b:List Int):List Int:=cM 18446744073709551616 (aj a%aj b)
noncomputable def K4:bn:={f:=178,ps:=[.list false aB, .list false aB],rs:=[.list false aB, .list false aB],fresh:=false,pre:=fun d=>pq d.1 d.2.1,fn:=fun d=>(eT d.1 d.2.1,(cC d.1 d.2.1,()))}
abbrev K5 (q r:List Int):Exit->av aa->ai->Prop:=gk prog false f178 (.tuple [bE q,bE r])
theorem Sb {l:List Int} {k:Nat} (h:k=l.length):(Nat.beq l.length 0||bt 167 aB (bM 167 aB l) (k-1))=true:=by
 subst h;cases l with
 |nil=>rfl
 |cons x r=>rw [Bx];simp
theorem agk {a:List Int} {y:Int} (ha:aP 18446744073709551616 a) (hy:1<=y/\y<18446744073709551616) (hla:a.length<=300000) (w:World) (F:Sv.Env):
  aR prog w F 137 (fl fN CJ) (rI a [y]).T (rI a [y]).H (fun e T H=>e= .ret/\K5 (eT a [y]) (cC a [y]) .ret T H):=by
 have hS:=FC;refine dZ (s:=rI a [y]) hS 3 (af4 a [y] (by omega) (by omega) (gm _).symm (by rw [gm]) (xS _)) ?_;refine aR.loop (ι:={x:List Int×Int×Nat//x.2.2<=a.length/\x.1.length=a.length/\aP 18446744073709551616 x.1/\(0<=x.2.1/\x.2.1<y)/\aj (a.drop x.2.2)=aj (x.1.drop x.2.2)*y+x.2.1}) (id:=0) (b:=cat fN KZ) (rest:=(fl fN CJ).drop 4) (by kernel_rfl) (fun x=>qE a [y] x.1.1 x.1.2.1 x.1.2.2) (fun x=>x.1.2.2)
  ⟨(co a.length,0,a.length),aE _,gm _,pf _,⟨Int.le_refl 0,show(0:Int)<y by omega⟩,by
    show aj (a.drop a.length)=aj ((co a.length).drop a.length)*y+0;rw [List.drop_length,List.drop_eq_nil_of_le (by rw [gm];exact aE _)];simp [aj,vl]⟩ (fun _=>rfl) ?_
 rintro⟨⟨q,r,k⟩,hk,hq,jc,hr,hv⟩;have hk:k<=a.length:=hk;have hq:q.length=a.length:=hq;have jc:aP 18446744073709551616 q:=jc;have hr:0<=r/\r<y:=hr;have hv:aj (a.drop k)=aj (q.drop k)*y+r:=hv;cases k with
 |zero=>
  refine bp (s:=qE a [y] q r 0) hS (af6 a [y] q r 0 (by omega)) ?_;refine cv (cD ?_);rw [List.drop_zero,List.drop_zero]at hv;have e1:aj [y]=y:=pk y;obtain⟨g1,g2⟩:=xO (U:=aj a) (V:=y) (t:=aj q) (by omega) (by omega) (by omega);have e2:eT a [y]=dJ q:=by unfold eT;rw [e1,g1,vt jc]
  have e3:cC a [y]=dJ [r]:=by
   unfold cC;rw [e1,g2,vt (Kq (by omega)),pk];congr 1;omega
  rw [e2,e3];have bP:(q.drop 0).take q.length=q:=by simp
  exact aR.tv (s:=qE a [y] q r 0) known mixed hS _ (af7 a [y] q r 0 (Sb rfl) (by rw [bP];omega) (aE 1) (by simp) (by rw [bP])) fun T H h=>⟨rfl,h⟩
 |succ j=>
  have ej:(((j+1:Nat):Int)-1).toNat=j:=by omega
  have haj:=ha.get (by decide) j;have hD:tJ r (a.getD j 0) y=true:=by
   unfold tJ;rw [f6.2 haj,f6.2 (by omega),az hr.1,az hr.2];rfl
  have s7:=Int.emod_add_mul_ediv (r*18446744073709551616+a.getD j 0) y;have hm0:=c6 (r*18446744073709551616+a.getD j 0) (show y≠0 by omega);have o8:=cS (r*18446744073709551616+a.getD j 0) (show 0<y by omega);have jO:0<=(r*18446744073709551616+a.getD j 0)/y:=Int.ediv_nonneg (by omega) (by omega);have hq1:(r*18446744073709551616+a.getD j 0)/y<18446744073709551616:=(Int.ediv_lt_iff_lt_mul (by omega)).2 (by
   have:(r+1)*18446744073709551616<=y*18446744073709551616:=ar (by omega) (by decide);rw [Int.mul_comm _ y];omega)
  refine bp (s:=qE a [y] q r (j+1)) hS (af5 a [y] q r (j+1) (by omega) (by omega) (by omega) (by simp) (by rw [ej];exact hD) (by omega) (by omega) (by rw [bY]) (by rw [bY]) rfl rfl) ?_;rw [ej];have jt:(((j+1:Nat):Int)-1-1)=(j:Int)-1:=by omega
  refine⟨⟨(q.set j (dT r (a.getD j 0) y),n9 r (a.getD j 0) y,j),by show j<=_;omega,by show(q.set j _).length=_;rw [bY];exact hq,jc.set ⟨jO,hq1⟩,⟨hm0,o8⟩, ?_⟩,by show j<j+1;omega, ?_, ?_⟩
  .show aj (a.drop j)=aj ((q.set j (dT r (a.getD j 0) y)).drop j)*y+n9 r (a.getD j 0) y;unfold aj at hv ⊢;rw [tI (l:=a) (by omega),tI (l:=q.set j _) (by rw [bY];omega),vn (by omega),hv];have qC:(q.set j (dT r (a.getD j 0) y)).drop (j+1)=q.drop (j+1):=by rw [List.drop_set];rw [if_pos (by omega)]
   rw [qC];unfold dT n9;generalize vl 18446744073709551616 (q.drop (j+1))=z at*;generalize (r*18446744073709551616+a.getD j 0)/y=d at*;generalize (r*18446744073709551616+a.getD j 0)%y=e at*;grind
  .show(K2 a [y] _ _ (j+1)).T=(qE a [y] _ _ j).T;unfold K2 qE;rw [jt];rfl
  .rfl
end
noncomputable section
noncomputable def dQ:Code:=(f131.body).getD .skip
noncomputable def ij:bF:=zR [vM] (nZ [ER] (a7 [J9,R9,Kj]))
abbrev K6:List Nat:=[1,1,1,1,1,1,1,0,0,0]
abbrev CK:List Nat:=[1,1,1,1,1,1,1,1,1,0,1,0,0]
abbrev tQ:List Nat:=[1,1,1,1,1,1,1,1,1,0,1,0,0,1,0,0]
abbrev FD:List Nat:=[1,1,1,1,1,1,1,1,1,0,1,0,0,1,0,0,1,1,0,1,0,0]
abbrev FE:List Nat:=[1,1,1,1,1,1,1,1,1,0,1,0,0,1,0,0,1,1,1,1,0,1,0]
abbrev K7:List Nat:=[1,1,1,1,1,1,1,1,1,0,1,0,0,1,0,0,1,1,1,1,0,1,0,1,1,0,1,0,0]
def K8 (a b:List Int) (f:Int):bC:={n:=206,sl:=[(0,lv a),(1,lv b),(8,mC 64 [f])],bG:=[(64,mD [f])],next:=65}
def Al (a b:List Int) (f:Int):bC:={n:=206,sl:=[(0,lv a),(1,lv b),(8,lv [f])],bG:=[],next:=64}
def rJ (a v:List Int) (f:Int) (u:List Int):bC:={n:=206,sl:=[(0,lv a),(8,lv [f]),(9,lv v),(10,iv v.length),(11,mC 64 u)],bG:=[(64,mD u)],next:=65}
abbrev CL (u:List Int):fy:= .blk (.own 3 (.int .i64) u)
def gF (v:List Int) (f:Int) (c:aS) (u q:List Int) (z:Int):bC:={n:=206,sl:=[(8,lv [f]),(9,lv v),(10,iv v.length),(11,vL u.length c),(12,mC 65 q),(13,iv z)],bG:=[(64,CL u),(65,mD q)],next:=66}
def od (v:List Int) (f:Int) (c:aS) (u q:List Int) (z t bo:Int) (i:Nat):bC:={n:=206,sl:=[(8,lv [f]),(9,lv v),(10,iv v.length),(11,vL u.length c),(12,mC 65 q),(13,iv z),(14,iv t),(15,iv bo),(16,iv i)],bG:=[(64,CL u),(65,mD q)],next:=66}
def yc (v:List Int) (f:Int) (c:aS) (u q:List Int) (z t:Int) (x:Bool):bC:={n:=206,sl:=[(8,lv [f]),(9,lv v),(10,iv v.length),(11,vL u.length c),(12,mC 65 q),(13,iv z),(14,iv t),(145,bv x)],bG:=[(64,CL u),(65,mD q)],next:=66}
def rK (v:List Int) (f:Int) (c:aS) (u q:List Int) (z t cP:Int) (i:Nat):bC:={n:=206,sl:=[(8,lv [f]),(9,lv v),(10,iv v.length),(11,vL u.length c),(12,mC 65 q),(13,iv z),(14,iv t),(19,iv cP),(20,iv i)],bG:=[(64,CL u),(65,mD q)],next:=66}
def K9 (v:List Int) (f:Int) (c:aS) (u q:List Int) (z t:Int):bC:={n:=206,sl:=[(8,lv [f]),(9,lv v),(10,iv v.length),(11,vL u.length c),(12,mC 65 q),(13,iv z),(14,iv t)],bG:=[(64,CL u),(65,mD q)],next:=66}
abbrev nv:Sv.Ren:=[(64,64,none),(65,65,none)]
theorem agl (a b:List Int) (h1:(okA a&&okA b)=true) (h2:kK (ag a) (ag b)<0):
  bq ij (fl dQ []) 3 206 [lv a,lv b] 3 f131 false (.tuple [lv [],lv a]):=
 wy [af h1,ah h2] 129
theorem agm (a b:List Int) (h1:(okA a&&okA b)=true) (h2:¬kK (ag a) (ag b)<0) (h3:(b.length:Int)=1) (h4:Int.toNat 0<b.length) (h5:(okB a&&(decide ((1:au.den (.int .i64))<=b.getD (Int.toNat 0) 0)&&decide (b.getD (Int.toNat 0) 0<(1000000000:au.den (.int .i64)))))=true) (h6:1*1<=(iv (ag a%List.getD b (Int.toNat 0) 0)::List.append._f [] PUnit.unit (List.flatten._f [] PUnit.unit)).length) (h7:List.length [ag a%List.getD b (Int.toNat 0) 0]<=1000000) (h8:(aC (ag a/List.getD b (Int.toNat 0) 0))=(aC (ag a/List.getD b 0 0))) (h9:(ec [ag a%List.getD b (Int.toNat 0) 0])=(ec [ag a%List.getD b 0 0])):
  bq ij (fl dQ []) 5 206 [lv a,lv b] 6 f131 false (.tuple [lv (aC (ag a/b.getD 0 0)),lv (ec [ag a%b.getD 0 0])]):=
 wy [af h1,aJ h2,c8 h3,ah h4,af h5,af (show(Nat.ble ((0:Nat)+(1:Nat)*(1:Nat)) (iv (ag a%List.getD b (0:Int).toNat (0:Int))::List.append._f [] PUnit.unit (List.flatten._f [] PUnit.unit)).length)=true from(by simp only [aw]<;>exact fo h6)),ah h7,ax h8,ax h9] 164412590477291649
theorem agn (a b:List Int) (h1:(okA a&&okA b)=true) (h2:¬kK (ag a) (ag b)<0) (h3:¬(b.length:Int)=1) (h4: -9223372036854775808<=(b.length:Int)-1/\(b.length:Int)-1<=9223372036854775807) (h5:(0:Int)<=(b.length:Int)-1) (h6:((b.length:Int)-1).toNat<b.length) (h7: -9223372036854775808<=b.getD ((b.length:Int)-1).toNat (0:Int)+1/\b.getD ((b.length:Int)-1).toNat (0:Int)+1<=9223372036854775807) (h8:b.getD ((b.length:Int)-1).toNat (0:Int)+1≠0) (h9: -9223372036854775808<=Int.tdiv (1000000000:Int) (b.getD ((b.length:Int)-1).toNat (0:Int)+1)/\Int.tdiv (1000000000:Int) (b.getD ((b.length:Int)-1).toNat (0:Int)+1)<=9223372036854775807) (h10:(iv (Int.tdiv (1000000000:Int) (b.getD ((b.length:Int)-1).toNat (0:Int)+1))::List.append._f [] PUnit.unit (List.flatten._f [] PUnit.unit))=(List.flatMap (fun x=>[iv x]) [Int.tdiv (1000000000:Int) (b.getD ((b.length:Int)-1).toNat (0:Int)+1)])):
  aA.path (oS prog ij (fl dQ []) 6 206 [lv a,lv b]) (dl 4) (dX prog 206 .normal [(64,64,some 1)] (K8 a b (Int.tdiv 1000000000 (b.getD ((b.length:Int)-1).toNat 0+1)))):=
 mp (JW h1 (ab h2) (fP.mpr h3) (bm h4) (az h5) (nY (az h6) (bm h7) (az h8) (bm h9) (rr a) (rr b) (an (rr (1:Nat)) (an (rr (aS.known (1:Nat))) (rr (bA (List.length [Int.tdiv (1000000000:Int) (b.getD ((b.length:Int)-1).toNat (0:Int)+1)]))))) (an h10 (rr (1:Nat))) trivial))
theorem ago (a b:List Int) (f:Int):
  aA.path (aA.ret (R.normal ((K8 a b f).T.set 8 (some (lv [f]))) ((K8 a b f).H.drop 64) []):aA R) (dl 1) (dX prog 206 .normal [] (Al a b f)):=
 wy [] 0
theorem agp (a b:List Int) (f:Int) (h1:(okB b&&okB [f])=true) (h2:(okB a&&okB [f])=true) (h3:(Nat.beq (aC (ag a*ag [f])).length 0)=false) (h4:(aC (ag a*ag [f])).length<=1000000) (h5:(aS.full)=(bA (aC (ag a*ag [f])).length)) (h6:(bI (.int .i64) none++aC (ag a*ag [f]))=(aC (ag a*ag [f]))):
  en ij ((fl dQ []).drop 6) 3 (Al a b f) 2 .normal [(64,65,none)] (rJ a (aC (ag b*ag [f])) f (aC (ag a*ag [f]))):=
 wy [af h1,af h2,af h3,af (show(bounded ((0:Nat)+(aC (ag a*ag [f])).length) (8:Nat))=true from(by simp only [aw]<;>exact oV h4 (by omega))),ax (show((0:Nat)+(aC (ag a*ag [f])).length)=((aC (ag a*ag [f])).length)from(by simp only [aw]<;>rfl)),ax h5,oU prog 3 (.int .i64) h6] 2144323318104297413804161
theorem agq (a v:List Int) (f:Int) (u:List Int) (h1:i6 ((a.length:Int)+1)) (h2:(u.length:Int)<(a.length:Int)+1) (h3:u.length+1<=1000000) (h4:(u.length+1)=(u++[0]).length) (h5:(aS.full)=(bA (u++[0]).length)):
  bh ij (fl dQ K6) (rJ a v f u) 5 .normal [(64,66,none)] (rJ a v f (u++[0])):=
 wy [yi h1,ah h2,yk 3 (.int .i64) u,ia 8 h3,ax h4,ax h5,jN 3 (.int .i64) (Eq.refl (u++[(0:Int)]))] 2144323318104297463349377
theorem agr (a v:List Int) (f:Int) (u:List Int) (h1:i6 ((a.length:Int)+1)) (h2:¬(u.length:Int)<(a.length:Int)+1):
  bh ij (fl dQ K6) (rJ a v f u) 2 (.exit 0) [(64,64,none)] (rJ a v f u):=
 wy [yi h1,aJ h2] 129
theorem ags (a v:List Int) (f:Int) (x:Int) (l:List Int) (h1: -9223372036854775808<=(↑(x::l).length:Int)-(v.length:Int)/\(↑(x::l).length:Int)-(v.length:Int)<=9223372036854775807) (h2:(0:Int)<=(↑(x::l).length:Int)-(v.length:Int)) (h3:((↑(x::l).length:Int)-(v.length:Int)).toNat<=1000000) (h4: -9223372036854775808<=(↑(x::l).length:Int)-(v.length:Int)-1/\(↑(x::l).length:Int)-(v.length:Int)-1<=9223372036854775807) (h5:(((↑(x::l).length:Int)-(v.length:Int)).toNat)=(fS ((l.length:Int)+1-(v.length:Int)).toNat).length) (h6:(aS.known ((↑(x::l).length:Int)-(v.length:Int)).toNat)=(aS.known ((l.length:Int)+1-(v.length:Int)).toNat)) (h7:(bA (fS ((l.length:Int)+1-(v.length:Int)).toNat).length)=(bA ((l.length:Int)+1-(v.length:Int)).toNat)) (h8:((↑(x::l).length:Int)-(v.length:Int)-1)=((l.length:Int)+1-(v.length:Int)-1)) (h9:(List.flatten (List.replicate ((↑(x::l).length:Int)-(v.length:Int)).toNat (List.map aa.raw (Array.toList #[Value.int .i64 (0:Int)]))))=(List.flatMap (fun x=>[iv x]) (fS ((l.length:Int)+1-(v.length:Int)).toNat))) (h10:(((l.length:Int)+1-(v.length:Int)).toNat)=(fS ((l.length:Int)+1-(v.length:Int)).toNat).length):
  aA.path (zN prog ij ((fl dQ []).drop 10) 2 (rJ a v f (x::l))) (dl 1) (dX prog 206 .normal [(64,64,none),(65,65,some ((l.length:Int)+1-v.length).toNat)] (gF v f (bA (l.length+1)) (x::l) (fS ((l.length:Int)+1-v.length).toNat) ((l.length:Int)+1-v.length-1))):=
 mp (abh (bm h1) (az h2) (az h2) (show(decide (((↑(x::l).length:Int)-(v.length:Int)).toNat<=((↑(x::l).length:Int)-(v.length:Int)).toNat))=true from az (by omega)) (show(bounded ((↑(x::l).length:Int)-(v.length:Int)).toNat (8:Nat))=true from oV h3 (by omega)) (bm h1) (bm h4) (nY (rr ([f])) (rr v) (rr (v.length:Int)) (an (rr (0:Nat)) (an (rr (x::l).length) (rr (bA (x::l).length)))) (an h5 (an h6 h7)) h8 (rr (x::l)) (an h9 h10) trivial))
theorem agt (v:List Int) (f:Int) (c:aS) (u q:List Int) (z:Int) (h1:z>=0):
  en ij (fl dQ CK) 2 (gF v f c u q z) 3 .normal nv (gF v f c u q z):=
 wy [ah h1] 1
theorem agu (v:List Int) (f:Int) (c:aS) (u q:List Int) (z:Int) (h1:¬z>=0):
  en ij (fl dQ CK) 2 (gF v f c u q z) 2 (.exit 2) nv (gF v f c u q z):=
 wy [aJ h1] 1
theorem agv (v:List Int) (f:Int) (c:aS) (u q:List Int) (z:Int) (h1:(bt (gz.e vM) (gz.t vM) (some (bf.own 3 (.int .i64) u)) (u.length-1)&&Nat.ble 1 u.length)=true) (h2:(Ai u 0 u.length v z)=true):
  en ij (fl dQ tQ) 3 (gF v f c u q z) 1 .normal nv (od v f c u q z (qA u v z) 0 0):=
 wy [af (show(bt (gz.e vM) (gz.t vM) (some (bf.own 3 (.int .i64) u)) ((0:Nat)+u.length-(1:Nat))&&Nat.ble (1:Nat) u.length)=true from(by simp only [aw]<;>exact h1)),af h2] 129
theorem agw (v:List Int) (f:Int) (c:aS) (u q:List Int) (z t bo:Int) (i:Nat) (h1:(i:Int)<(v.length:Int)) (h2:i<v.length) (h3:i6 (t*v.getD i 0)) (h4:i6 (t*v.getD i 0+bo)) (h5:i6 ((i:Int)+z)) (h6:0<=(i:Int)+z) (h7:((i:Int)+z).toNat<u.length) (h8:(bt 3 (.int .i64) (some (bf.own 3 (.int .i64) u)) ((i:Int)+z).toNat)=true) (h9:i6 (u.getD ((i:Int)+z).toNat 0-Int.tmod (t*v.getD i 0+bo) 1000000000)) (h10:i6 (Int.tdiv (t*v.getD i 0+bo) 1000000000)) (h11:u.getD ((i:Int)+z).toNat 0-Int.tmod (t*v.getD i 0+bo) 1000000000<0) (h12:i6 (u.getD ((i:Int)+z).toNat 0-Int.tmod (t*v.getD i 0+bo) 1000000000+1000000000)) (dP:i6 (Int.tdiv (t*v.getD i 0+bo) 1000000000+1)) (gD:i6 ((i:Int)+1)) (iZ:u.length=(u.set ((i:Int)+z).toNat (u.getD ((i:Int)+z).toNat 0-Int.tmod (t*v.getD i 0+bo) 1000000000+1000000000)).length):
  bh ij (fl dQ FD) (od v f c u q z t bo i) 7 .normal nv (od v f c (u.set ((i:Int)+z).toNat (u.getD ((i:Int)+z).toNat 0-Int.tmod (t*v.getD i 0+bo) 1000000000+1000000000)) q z t (Int.tdiv (t*v.getD i 0+bo) 1000000000+1) (i+1)):=
 wy [ah h1,ah h2,yi h3,yi h4,yi h5,ah h6,ah h7,af (show(bt 3 (.int .i64) (some (bf.own 3 (.int .i64) u)) ((0:Nat)+((i:Int)+z).toNat))=true from(by simp only [aw]<;>exact h8)),af (show(fits IntKind.i64 (u.getD ((0:Nat)+((i:Int)+z).toNat) (0:Int)-Int.tmod (t*v.getD i (0:Int)+bo) (1000000000:Int)))=true from(by simp only [aw]<;>exact bm h9)),yi h10,af (show(decide (u.getD ((0:Nat)+((i:Int)+z).toNat) (0:Int)-Int.tmod (t*v.getD i (0:Int)+bo) (1000000000:Int)<(0:Int)))=true from(by simp only [aw]<;>exact az h11)),af (show(fits IntKind.i64 (u.getD ((0:Nat)+((i:Int)+z).toNat) (0:Int)-Int.tmod (t*v.getD i (0:Int)+bo) (1000000000:Int)+(1000000000:Int)))=true from(by simp only [aw]<;>exact bm h12)),yi dP,yi gD,ax iZ,ax (show(u.set ((0:Nat)+((i:Int)+z).toNat) (u.getD ((0:Nat)+((i:Int)+z).toNat) (0:Int)-Int.tmod (t*v.getD i (0:Int)+bo) (1000000000:Int)+(1000000000:Int)))=(u.set ((i:Int)+z).toNat (u.getD ((i:Int)+z).toNat (0:Int)-Int.tmod (t*v.getD i (0:Int)+bo) (1000000000:Int)+(1000000000:Int)))from(by simp only [aw]<;>rfl))] 411376139330301531947457705006383748541443296955200566048071681
theorem agx (v:List Int) (f:Int) (c:aS) (u q:List Int) (z t bo:Int) (i:Nat) (h1:(i:Int)<(v.length:Int)) (h2:i<v.length) (h3:i6 (t*v.getD i 0)) (h4:i6 (t*v.getD i 0+bo)) (h5:i6 ((i:Int)+z)) (h6:0<=(i:Int)+z) (h7:((i:Int)+z).toNat<u.length) (h8:(bt 3 (.int .i64) (some (bf.own 3 (.int .i64) u)) ((i:Int)+z).toNat)=true) (h9:i6 (u.getD ((i:Int)+z).toNat 0-Int.tmod (t*v.getD i 0+bo) 1000000000)) (h10:i6 (Int.tdiv (t*v.getD i 0+bo) 1000000000)) (h11:¬u.getD ((i:Int)+z).toNat 0-Int.tmod (t*v.getD i 0+bo) 1000000000<0) (h12:i6 ((i:Int)+1)) (dP:u.length=(u.set ((i:Int)+z).toNat (u.getD ((i:Int)+z).toNat 0-Int.tmod (t*v.getD i 0+bo) 1000000000)).length):
  bh ij (fl dQ FD) (od v f c u q z t bo i) 5 .normal nv (od v f c (u.set ((i:Int)+z).toNat (u.getD ((i:Int)+z).toNat 0-Int.tmod (t*v.getD i 0+bo) 1000000000)) q z t (Int.tdiv (t*v.getD i 0+bo) 1000000000) (i+1)):=
 wy [ah h1,ah h2,yi h3,yi h4,yi h5,ah h6,ah h7,af (show(bt 3 (.int .i64) (some (bf.own 3 (.int .i64) u)) ((0:Nat)+((i:Int)+z).toNat))=true from(by simp only [aw]<;>exact h8)),af (show(fits IntKind.i64 (u.getD ((0:Nat)+((i:Int)+z).toNat) (0:Int)-Int.tmod (t*v.getD i (0:Int)+bo) (1000000000:Int)))=true from(by simp only [aw]<;>exact bm h9)),yi h10,af (show(decide (u.getD ((0:Nat)+((i:Int)+z).toNat) (0:Int)-Int.tmod (t*v.getD i (0:Int)+bo) (1000000000:Int)<(0:Int)))=false from(by simp only [aw]<;>exact ab h11)),yi h12,ax dP,ax (show(u.set ((0:Nat)+((i:Int)+z).toNat) (u.getD ((0:Nat)+((i:Int)+z).toNat) (0:Int)-Int.tmod (t*v.getD i (0:Int)+bo) (1000000000:Int)))=(u.set ((i:Int)+z).toNat (u.getD ((i:Int)+z).toNat (0:Int)-Int.tmod (t*v.getD i (0:Int)+bo) (1000000000:Int)))from(by simp only [aw]<;>rfl))] 87879424295413535223539924311789743421980991760571879399425
theorem agy (v:List Int) (f:Int) (c:aS) (u q:List Int) (z t bo:Int) (i:Nat) (h1:¬(i:Int)<(v.length:Int)):
  bh ij (fl dQ FD) (od v f c u q z t bo i) 2 (.exit 4) nv (od v f c u q z t bo i):=
 wy [aJ h1] 1
theorem Rd (v:List Int) (f:Int) (c:aS) (u q:List Int) (z t bo:Int) (i:Nat) (h1:i6 (z+(v.length:Int))) (h2:0<=z+(v.length:Int)) (h3:(z+(v.length:Int)).toNat<u.length) (h4:(bt 3 (.int .i64) (some (bf.own 3 (.int .i64) u)) (z+(v.length:Int)).toNat)=true) (h5:i6 (u.getD (z+(v.length:Int)).toNat 0-bo)) (h6:(bt 3 (.int .i64) (some (bf.own 3 (.int .i64) (u.set (z+(v.length:Int)).toNat (u.getD (z+(v.length:Int)).toNat 0-bo)))) (z+(v.length:Int)).toNat)=true) (h7:u.length=(u.set (z+(v.length:Int)).toNat (u.getD (z+(v.length:Int)).toNat 0-bo)).length) (h8:(decide ((u.set (z+(v.length:Int)).toNat (u.getD (z+(v.length:Int)).toNat 0-bo)).getD (z+(v.length:Int)).toNat 0<0))=(decide ((u.set (z+(v.length:Int)).toNat (u.getD (z+(v.length:Int)).toNat 0-bo)).getD (z+(v.length:Int)).toNat 0<0))):
  en ij ((fl dQ tQ).drop 4) 2 (od v f c u q z t bo i) 1 .normal nv (yc v f c (u.set (z+(v.length:Int)).toNat (u.getD (z+(v.length:Int)).toNat 0-bo)) q z t (decide ((u.set (z+(v.length:Int)).toNat (u.getD (z+(v.length:Int)).toNat 0-bo)).getD (z+(v.length:Int)).toNat 0<0))):=
 wy [yi h1,ah h2,ah h3,af (show(bt 3 (.int .i64) (some (bf.own 3 (.int .i64) u)) ((0:Nat)+(z+(v.length:Int)).toNat))=true from(by simp only [aw]<;>exact h4)),af (show(fits IntKind.i64 (u.getD ((0:Nat)+(z+(v.length:Int)).toNat) (0:Int)-bo))=true from(by simp only [aw]<;>exact bm h5)),af (show(bt 3 (.int .i64) (some (bf.own 3 (.int .i64) (u.set ((0:Nat)+(z+(v.length:Int)).toNat) (u.getD ((0:Nat)+(z+(v.length:Int)).toNat) (0:Int)-bo)))) ((0:Nat)+(z+(v.length:Int)).toNat))=true from(by simp only [aw]<;>exact h6)),ax h7,ax (show(decide ((u.set ((0:Nat)+(z+(v.length:Int)).toNat) (u.getD ((0:Nat)+(z+(v.length:Int)).toNat) (0:Int)-bo)).getD ((0:Nat)+(z+(v.length:Int)).toNat) (0:Int)<(0:Int)))=(decide ((u.set (z+(v.length:Int)).toNat (u.getD (z+(v.length:Int)).toNat (0:Int)-bo)).getD (z+(v.length:Int)).toNat (0:Int)<(0:Int)))from(by simp only [aw]<;>exact h8)),ax (show(u.set ((0:Nat)+(z+(v.length:Int)).toNat) (u.getD ((0:Nat)+(z+(v.length:Int)).toNat) (0:Int)-bo))=(u.set (z+(v.length:Int)).toNat (u.getD (z+(v.length:Int)).toNat (0:Int)-bo))from(by simp only [aw]<;>rfl))] 13023635195941919408873694419534707774213333057
theorem agz (v:List Int) (f:Int) (c:aS) (u q:List Int) (z t:Int) (h1:0<=z) (h2:z.toNat<q.length) (h3:q.length=(q.set z.toNat t).length) (h4:(bA q.length)=(bA (q.set z.toNat t).length)):
  bh ij ((fl dQ tQ).drop 6) (yc v f c u q z t false) 2 .normal nv (gF v f c u (q.set z.toNat t) z):=
 wy [ah h1,ah h2,iW 3 (.int .i64) h2,ax h3,ax h4,mB 3 (.int .i64) (Eq.refl (q.set z.toNat t))] 7427664142692601176974434368
theorem agA (v:List Int) (f:Int) (c:aS) (u q:List Int) (z t:Int) (h1:i6 (t-1)):
  en ij (fl dQ FE) 3 (yc v f c u q z t true) 1 .normal nv (rK v f c u q z (t-1) 0 0):=
 wy [yi h1] 1
theorem agB (v:List Int) (f:Int) (c:aS) (u q:List Int) (z t cP:Int) (i:Nat) (h1:(i:Int)<(v.length:Int)) (h2:i6 ((i:Int)+z)) (h3:0<=(i:Int)+z) (h4:((i:Int)+z).toNat<u.length) (h5:(bt 3 (.int .i64) (some (bf.own 3 (.int .i64) u)) ((i:Int)+z).toNat)=true) (h6:i<v.length) (h7:i6 (u.getD ((i:Int)+z).toNat 0+v.getD i 0)) (h8:i6 (u.getD ((i:Int)+z).toNat 0+v.getD i 0+cP)) (h9:i6 (Int.tdiv (u.getD ((i:Int)+z).toNat 0+v.getD i 0+cP) 1000000000)) (h10:i6 ((i:Int)+1)) (h11:u.length=(u.set ((i:Int)+z).toNat (Int.tmod (u.getD ((i:Int)+z).toNat 0+v.getD i 0+cP) 1000000000)).length):
  bh ij (fl dQ K7) (rK v f c u q z t cP i) 3 .normal nv (rK v f c (u.set ((i:Int)+z).toNat (Int.tmod (u.getD ((i:Int)+z).toNat 0+v.getD i 0+cP) 1000000000)) q z t (Int.tdiv (u.getD ((i:Int)+z).toNat 0+v.getD i 0+cP) 1000000000) (i+1)):=
 wy [ah h1,yi h2,ah h3,ah h4,af (show(bt 3 (.int .i64) (some (bf.own 3 (.int .i64) u)) ((0:Nat)+((i:Int)+z).toNat))=true from(by simp only [aw]<;>exact h5)),af (aW (v:=iv (u.getD ((0:Nat)+((i:Int)+z).toNat) (0:Int))) (by kernel_rfl)),ah h6,af (aW (v:=iv (v.getD i (0:Int))) (by kernel_rfl)),af (show(fits IntKind.i64 (u.getD ((0:Nat)+((i:Int)+z).toNat) (0:Int)+v.getD i (0:Int)))=true from(by simp only [aw]<;>exact bm h7)),af (show(fits IntKind.i64 (u.getD ((0:Nat)+((i:Int)+z).toNat) (0:Int)+v.getD i (0:Int)+cP))=true from(by simp only [aw]<;>exact bm h8)),af (show(fits IntKind.i64 (Int.tdiv (u.getD ((0:Nat)+((i:Int)+z).toNat) (0:Int)+v.getD i (0:Int)+cP) (1000000000:Int)))=true from(by simp only [aw]<;>exact bm h9)),yi h10,ax h11,ax (show(Int.tdiv (u.getD ((0:Nat)+((i:Int)+z).toNat) (0:Int)+v.getD i (0:Int)+cP) (1000000000:Int))=(Int.tdiv (u.getD ((i:Int)+z).toNat (0:Int)+v.getD i (0:Int)+cP) (1000000000:Int))from(by simp only [aw]<;>rfl)),ax (show(u.set ((0:Nat)+((i:Int)+z).toNat) (Int.tmod (u.getD ((0:Nat)+((i:Int)+z).toNat) (0:Int)+v.getD i (0:Int)+cP) (1000000000:Int)))=(u.set ((i:Int)+z).toNat (Int.tmod (u.getD ((i:Int)+z).toNat (0:Int)+v.getD i (0:Int)+cP) (1000000000:Int)))from(by simp only [aw]<;>rfl))] 6027390781975829659609134758914141726976902255265616766185601
theorem agC (v:List Int) (f:Int) (c:aS) (u q:List Int) (z t cP:Int) (i:Nat) (h1:¬(i:Int)<(v.length:Int)):
  bh ij (fl dQ K7) (rK v f c u q z t cP i) 2 (.exit 6) nv (rK v f c u q z t cP i):=
 wy [aJ h1] 1
theorem agD (v:List Int) (f:Int) (c:aS) (u q:List Int) (z t cP:Int) (i:Nat) (h1:i6 (z+(v.length:Int))) (h2:0<=z+(v.length:Int)) (h3:(z+(v.length:Int)).toNat<u.length) (h4:(bt 3 (.int .i64) (some (bf.own 3 (.int .i64) u)) (z+(v.length:Int)).toNat)=true) (h5:i6 (u.getD (z+(v.length:Int)).toNat 0+cP)) (h6:u.length=(u.set (z+(v.length:Int)).toNat (u.getD (z+(v.length:Int)).toNat 0+cP)).length):
  bh ij ((fl dQ FE).drop 4) (rK v f c u q z t cP i) 1 .normal nv (K9 v f c (u.set (z+(v.length:Int)).toNat (u.getD (z+(v.length:Int)).toNat 0+cP)) q z t):=
 wy [yi h1,ah h2,ah h3,af (show(bt 3 (.int .i64) (some (bf.own 3 (.int .i64) u)) ((0:Nat)+(z+(v.length:Int)).toNat))=true from(by simp only [aw]<;>exact h4)),af (show(fits IntKind.i64 (u.getD ((0:Nat)+(z+(v.length:Int)).toNat) (0:Int)+cP))=true from(by simp only [aw]<;>exact bm h5)),ax h6,ax (show(u.set ((0:Nat)+(z+(v.length:Int)).toNat) (u.getD ((0:Nat)+(z+(v.length:Int)).toNat) (0:Int)+cP))=(u.set (z+(v.length:Int)).toNat (u.getD (z+(v.length:Int)).toNat (0:Int)+cP))from(by simp only [aw]<;>rfl))] 9304595970496224499057210602646413377
theorem agE (v:List Int) (f:Int) (c:aS) (u q:List Int) (z t:Int) (h1:0<=z) (h2:z.toNat<q.length) (h3:q.length=(q.set z.toNat t).length) (h4:(bA q.length)=(bA (q.set z.toNat t).length)):
  bh ij ((fl dQ tQ).drop 7) (K9 v f c u q z t) 1 .normal nv (gF v f c u (q.set z.toNat t) z):=
 wy [ah h1,ah h2,iW 3 (.int .i64) h2,ax h3,ax h4,mB 3 (.int .i64) (Eq.refl (q.set z.toNat t))] 116057252229571893390225537
theorem agF (v:List Int) (f:Int) (c:aS) (u q:List Int) (z:Int) (h1:i6 (z-1)):
  bh ij ((fl dQ CK).drop 3) (gF v f c u q z) 1 .normal nv (gF v f c u q (z-1)):=
 wy [yi h1] 1
theorem agG (v:List Int) (f:Int) (c:aS) (u q:List Int) (z:Int) (h1:v.length<=u.length) (h2:(Nat.beq v.length 0||bt 3 (.int .i64) (some (bf.own 3 (.int .i64) u)) (v.length-1))=true) (h3:((u.drop 0).take v.length).length<=1000000) (h4:Int.toNat 0<List.length [f]) (h5:(okB (ec ((u.drop 0).take v.length))&&(decide ((1:au.den (.int .i64))<=List.getD [f] (Int.toNat 0) 0)&&decide (List.getD [f] (Int.toNat 0) 0<(1000000000:au.den (.int .i64)))))=true) (h6:(Nat.beq q.length 0||bt 3 (.int .i64) (bM 3 (.int .i64) q) (q.length-1))=true) (h7:((q.drop 0).take q.length).length<=1000000) (h8:(aC (ag (ec ((u.drop 0).take v.length))/List.getD [f] (Int.toNat 0) 0))=(aC (ag (ec ((u.drop 0).take v.length))/f))):
  bQ ij ((fl dQ []).drop 13) (gF v f c u q z) 3 f131 false (.tuple [lv (ec ((q.drop 0).take q.length)),lv (aC (ag (ec ((u.drop 0).take v.length))/f))]):=
 wy [ah h1,af (show(Nat.beq v.length (0:Nat)||bt 3 (.int .i64) (some (bf.own 3 (.int .i64) u)) ((0:Nat)+v.length-(1:Nat)))=true from(by simp only [aw]<;>exact h2)),ah h3,ah h4,af (aW (v:=iv (List.getD [f] (0:Int).toNat (0:Int))) (by kernel_rfl)),af h5,af (show(Nat.beq q.length (0:Nat)||bt 3 (.int .i64) (bM 3 (.int .i64) q) ((0:Nat)+q.length-(1:Nat)))=true from(by simp only [aw]<;>exact h6)),af (show(decide ((((bI (.int .i64) (bM 3 (.int .i64) q)).drop (0:Nat)).take q.length).length<=(1000000:Nat)))=true from(by simp only [dI]<;>exact az h7)),ax (show(ec (((bI (.int .i64) (bM 3 (.int .i64) q)).drop (0:Nat)).take q.length))=(ec ((q.drop (0:Nat)).take q.length))from(by simp only [dI]<;>rfl)),ax h8] 196186516682196595138105344
end
theorem agH {v1 v2 v' aG u1 u2 u' s:Int} (p:zU 1000000000 v1 v2 v' aG u1 u2 u' s) (hn:500000000<=v1) (hlt:ni 1000000000 aG u1 u2 u' s<1000000000*gj 1000000000 v1 v2 v' s) {Q:Int} (vN:0<=Q) (hQ:Q*gj 1000000000 v1 v2 v' s<=ni 1000000000 aG u1 u2 u' s) (FF:Q<1000000000) (Sc:∀T,(T-1)*gj 1000000000 v1 v2 v' s<=ni 1000000000 aG u1 u2 u' s->T<=Q+1):
  ∀(f:Nat) (t r:Int),aG*1000000000+u1=t*v1+r->0<=r->Q<=t->(f=2\/(f=1/\1000000000<=r+v1))->Q<=oc v1 v2 u2 f t r/\oc v1 v2 u2 f t r<=Q+1:=by
 have rL:aG*1000000000+u1<1000000000*(v1+1):=by
  have hs:=p.s1;have h2:=p.v2;have h3:=p.v';have g2:=p.u2;have g3:=p.u';unfold ni gj at hlt;have a1:((aG*1000000000+u1)*1000000000+u2)*s=(aG*1000000000+u1)*(1000000000*s)+u2*s:=by rw [Int.add_mul,Int.mul_assoc]
  have a3:(v1*1000000000+v2)*s=v1*(1000000000*s)+v2*s:=by rw [Int.add_mul,Int.mul_assoc]
  have a2:0<=u2*s:=Int.mul_nonneg g2.1 (by omega);have a4:v2*s<=999999999*s:=ar (by omega) (by omega);have a5:(1000000000*(v1+1))*(1000000000*s)=1000000000*(v1*(1000000000*s)+1000000000*s):=by rw [Int.mul_assoc,Int.add_mul,Int.one_mul]
  rw [a1,a3]at hlt;refine Q2 (x:=1000000000*s) ?_ (by omega);rw [a5];generalize v1*(1000000000*s)=dD at*;generalize v2*s=z2 at*;generalize u2*s=z3 at*;generalize (aG*1000000000+u1)*(1000000000*s)=z4 at*;omega
 intro f;induction f with
 |zero=>intro t r _ _ _ hf;omega
 |succ g ih=>
  intro t r he hr agI hf;have Sd:aG*1000000000+u1-t*v1=r:=by omega
  unfold oc;by_cases hc:1000000000<=t\/r*1000000000+u2<t*v2
  .rw [if_pos hc];have hlt2:Q<t:=by
    rcases hc with hc|hc
    .omega
    .exact Q3 p (by omega) hQ (by rw [Sd];exact hc)
   have et:(t-1)*v1=t*v1-v1:=by rw [Int.sub_mul,Int.one_mul]
   by_cases h4:1000000000<=r+v1
   .rw [if_pos h4];refine⟨by omega, ?_⟩;have Se:t-1<1000000000:=by
     refine Int.not_le.1 fun hh=> ?_
     have:=ar hh (show 0<=v1 by omega);omega
    exact Sc _ (JZ p ⟨by omega,Se⟩ (Q4 p ⟨by omega,Se⟩ (by omega)))
   .rw [if_neg h4];exact ih (t-1) (r+v1) (by omega) (by omega) (by omega) (by omega)
  .rw [if_neg hc];exact⟨agI,Sc _ (JZ p ⟨by omega,by omega⟩ (by rw [Sd];omega))⟩
theorem xn {u:List Int} {j m i:Nat} (h:i<m):((u.drop j).take m).getD i 0=u.getD (j+i) 0:=by
 simp only [ao,List.getElem?_take,List.getElem?_drop,if_pos h]
theorem agJ {u v:List Int} {j n:Nat} (hu:aP 1000000000 u) (hv:aP 1000000000 v) (lv:v.length=n+2) (bE:j+(n+3)<=u.length) (h1:500000000<=v.getD (n+1) 0) (hW:ag ((u.drop j).take (n+3))<1000000000*ag v):
  ag ((u.drop j).take (n+3))/ag v<=qA u v j/\qA u v j<=ag ((u.drop j).take (n+3))/ag v+1:=by
 have hD:aP 1000000000 ((u.drop j).take (n+3)):=(hu.drop _).take _;have La:((u.drop j).take (n+3)).length=n+3:=by rw [dK,mQ];omega
 have p:=J2 (b:=1000000000) (by decide) hD hv La lv (by omega);have rH:gj 1000000000 (v.getD (n+1) 0) (v.getD n 0) (vl 1000000000 (v.take n)) (1000000000^n)=ag v:=w7 lv;have Aj:=J3 (b:=1000000000) La;have ig:0<ag v:=by
  rw [<-rH];unfold gj;have q1:=p.v1;have aO:=p.v2;have bZ:=p.v';have ei:=p.s1;have:1*1<=(v.getD (n+1) 0*1000000000+v.getD n 0)*1000000000^n:=Int.mul_le_mul (by omega) ei (by omega) (by omega);omega
 have FG:0<=ag ((u.drop j).take (n+3)):=dC hD;have i0:((j:Int)+(v.length:Int)).toNat=j+(n+2):=by omega
 have i1:((j:Int)+(v.length:Int)-1).toNat=j+(n+1):=by omega
 have i2:((j:Int)+(v.length:Int)-2).toNat=j+n:=by omega
 have i3:((v.length:Int)-1).toNat=n+1:=by omega
 have i4:((v.length:Int)-2).toNat=n:=by omega
 have d0:=xn (u:=u) (j:=j) (m:=n+3) (i:=n+2) (by omega);have d1:=xn (u:=u) (j:=j) (m:=n+3) (i:=n+1) (by omega);have d2:=xn (u:=u) (j:=j) (m:=n+3) (i:=n) (by omega);have hQ:=Int.ediv_mul_le (ag ((u.drop j).take (n+3))) (show ag v≠0 by omega);have FF:ag ((u.drop j).take (n+3))/ag v<1000000000:=(Int.ediv_lt_iff_lt_mul ig).2 hW;have FH:ni 1000000000 (((u.drop j).take (n+3)).getD (n+2) 0) (((u.drop j).take (n+3)).getD (n+1) 0) (((u.drop j).take (n+3)).getD n 0) (vl 1000000000 (((u.drop j).take (n+3)).take n)) (1000000000^n)=ag ((u.drop j).take (n+3)):=Aj;have q1:=p.aG;have aO:=p.u1;have CG:0<=((u.drop j).take (n+3)).getD (n+2) 0*1000000000+((u.drop j).take (n+3)).getD (n+1) 0:=by omega
 have key:=agH p h1 (by rw [FH,rH];exact hW) (Q:=ag ((u.drop j).take (n+3))/ag v) (Int.ediv_nonneg FG (by omega)) (by rw [FH,rH];exact hQ) FF (fun T hT=>by
  rw [FH,rH]at hT;have:=Int.le_ediv_of_mul_le ig hT;omega) 2 ((((u.drop j).take (n+3)).getD (n+2) 0*1000000000+((u.drop j).take (n+3)).getD (n+1) 0)/v.getD (n+1) 0) ((((u.drop j).take (n+3)).getD (n+2) 0*1000000000+((u.drop j).take (n+3)).getD (n+1) 0)%v.getD (n+1) 0) (by
   have:=Int.emod_add_mul_ediv (((u.drop j).take (n+3)).getD (n+2) 0*1000000000+((u.drop j).take (n+3)).getD (n+1) 0) (v.getD (n+1) 0);rw [Int.mul_comm (v.getD (n+1) 0)]at this;omega) (c6 _ (by omega)) (by
   have hf:=Q5 p (q:=ag ((u.drop j).take (n+3))/ag v) (Int.ediv_nonneg FG (by omega)) (by rw [FH,rH];exact hQ);exact Int.le_ediv_of_mul_le (by omega) hf) (.inl rfl)
 have agK:qA u v j=oc (v.getD (n+1) 0) (v.getD n 0) (((u.drop j).take (n+3)).getD n 0) 2 ((((u.drop j).take (n+3)).getD (n+2) 0*1000000000+((u.drop j).take (n+3)).getD (n+1) 0)/v.getD (n+1) 0) ((((u.drop j).take (n+3)).getD (n+2) 0*1000000000+((u.drop j).take (n+3)).getD (n+1) 0)%v.getD (n+1) 0):=by
  rw [d0,d1,d2];unfold qA fh cI nu pg;rw [Int.toNat_natCast,i0,i1,i2,i3,i4]
 rw [agK];exact key
structure CN (d0 v:List Int) (t:Int) (n:Nat) (d:List Int) (bo:Int) (i:Nat):Prop where
 len:d.length=n+1
 dg:aP 1000000000 (d.take n)
 top:d.getD n 0=d0.getD n 0
 pV:0<=bo/\bo<=1000000000
 val:ag d-1000000000^i*bo=ag d0-t*ag (v.take i)
theorem w4 {d:List Int} {n i:Nat} (h:i<n):(d.take n).getD i 0=d.getD i 0:=by
 simp only [ao,List.getElem?_take,if_pos h]
theorem Sf {d:List Int} {n i:Nat} (h:aP 1000000000 (d.take n)) (hi:i<n):0<=d.getD i 0/\d.getD i 0<1000000000:=by
 rw [<-w4 hi];exact h.get (by decide) i
theorem CN.step {d0 v:List Int} {t:Int} {n:Nat} {d:List Int} {bo:Int} {i:Nat} (I:CN d0 v t n d bo i) (hi:i<n) {x ru:Int} (hx:0<=x/\x<1000000000) (hb:0<=ru/\ru<=1000000000) (he:x-1000000000*ru=d.getD i 0-(t*v.getD i 0+bo)):CN d0 v t n (d.set i x) ru (i+1):=by
 have hl:=I.len;refine⟨by rw [bY];exact hl,by rw [List.take_set];exact I.dg.set hx,by rw [oa,if_neg (by omega)];exact I.top,hb, ?_⟩;have hv:=I.val;unfold ag at hv ⊢;rw [qj _ _ _ _ (by omega),kJ v,Int.pow_succ];generalize vl 1000000000 d=dD at*;generalize vl 1000000000 d0=z2 at*;generalize vl 1000000000 (v.take i)=z3 at*;generalize (1000000000:Int)^i=P at*;generalize d.getD i 0=y at*;generalize v.getD i 0=w at*;have e:P*(x-1000000000*ru)=P*(y-(t*w+bo)):=by rw [he]
 grind
theorem agL {t w bo:Int} (ht:0<=t/\t<=1000000000) (hw:0<=w/\w<1000000000) (hb:0<=bo/\bo<=1000000000):
  (0<=t*w/\t*w<=999999999000000000)/\Int.tmod (t*w+bo) 1000000000+1000000000*Int.tdiv (t*w+bo) 1000000000=t*w+bo/\(0<=Int.tmod (t*w+bo) 1000000000/\Int.tmod (t*w+bo) 1000000000<1000000000)/\(0<=Int.tdiv (t*w+bo) 1000000000/\Int.tdiv (t*w+bo) 1000000000<=1000000000):=by
 have h0:0<=t*w:=Int.mul_nonneg ht.1 hw.1;have h1:t*w<=1000000000*999999999:=Int.mul_le_mul ht.2 (by omega) hw.1 (by decide);rw [Int.tmod_eq_emod_of_nonneg (by omega),Int.tdiv_eq_ediv_of_nonneg (by omega)];generalize t*w=p at*;omega
structure CO (d0 v:List Int) (n:Nat) (d:List Int) (cP:Int) (i:Nat):Prop where
 len:d.length=n+1
 dg:aP 1000000000 (d.take n)
 top:d.getD n 0=d0.getD n 0
 pV:0<=cP/\cP<=1
 val:ag d+1000000000^i*cP=ag d0+ag (v.take i)
theorem CO.step {d0 v:List Int} {n:Nat} {d:List Int} {cP:Int} {i:Nat} (I:CO d0 v n d cP i) (hi:i<n) {x Am:Int} (hx:0<=x/\x<1000000000) (hb:0<=Am/\Am<=1) (he:x+1000000000*Am=d.getD i 0+v.getD i 0+cP):CO d0 v n (d.set i x) Am (i+1):=by
 have hl:=I.len;refine⟨by rw [bY];exact hl,by rw [List.take_set];exact I.dg.set hx,by rw [oa,if_neg (by omega)];exact I.top,hb, ?_⟩;have hv:=I.val;unfold ag at hv ⊢;rw [qj _ _ _ _ (by omega),kJ v,Int.pow_succ];generalize vl 1000000000 d=dD at*;generalize vl 1000000000 d0=z2 at*;generalize vl 1000000000 (v.take i)=z3 at*;generalize (1000000000:Int)^i=P at*;generalize d.getD i 0=y at*;generalize v.getD i 0=w at*;have e:P*(x+1000000000*Am)=P*(y+w+cP):=by rw [he]
 grind
theorem FI {d:List Int} {n:Nat} (hl:d.length=n+1) (hd:aP 1000000000 (d.take n)):ag d=ag (d.take n)+1000000000^n*d.getD n 0/\0<=ag (d.take n)/\ag (d.take n)<1000000000^n:=by
 have h1:=lC (b:=1000000000) (l:=d) (k:=n) (by omega);rw [ef (by omega)]at h1;have h2:=fC (b:=1000000000) (by decide) hd;rw [dK,Nat.min_eq_left (by omega)]at h2;exact⟨h1,dC hd,h2⟩
theorem agM {d:List Int} {n:Nat} (hl:d.length=n+1) (hd:aP 1000000000 (d.take n)):d.getD n 0<0↔ag d<0:=by
 obtain⟨h1,h2,h3⟩:=FI hl hd;have hP:=bc (b:=1000000000) (by decide) n;generalize d.getD n 0=x at*;constructor
 .intro hx;have:=dU (show x<= -1 by omega) (ck hP);omega
 .intro hx;refine Int.not_le.1 fun h=> ?_
  have:=Int.mul_nonneg (ck hP) h;omega
theorem Sg {d:List Int} {n:Nat} {R:Int} (hl:d.length=n+1) (hd:aP 1000000000 (d.take n)) (hv:ag d=R) (h0:0<=R) (h1:R<1000000000^n):d=fx 1000000000 (n+1) R:=by
 obtain⟨g1,g2,g3⟩:=FI hl hd;have hP:=bc (b:=1000000000) (by decide) n;have hx:d.getD n 0=0:=by
  generalize d.getD n 0=x at*;rcases Int.lt_trichotomy x 0 with h|h|h
  .have:=dU (show x<= -1 by omega) (ck hP);omega
  .exact h
  .have:=dU (show 1<=x by omega) (ck hP);omega
 have hdd:aP 1000000000 d:=by
  have e:=QY (l:=d) (k:=n) (by omega);rw [ef (by omega),hx]at e;rw [e];exact hd.app (.cons ⟨Int.le_refl _,by decide⟩ .nil)
 have:=J1 (by decide) hdd;rw [hl]at this;rw [<-hv];exact this
noncomputable section
theorem tf:bB prog (bD ij):=QO (fun c hc=>by rw [List.mem_singleton.1 hc];exact afT) (tD (fun c hc=>by rw [List.mem_singleton.1 hc];exact J') (cR fun c hc=>by
 simp only [dV,jY,or_false]at hc;rcases hc with rfl |rfl |rfl
 .exact Rg
 .exact afP
 .exact Rz))
theorem yd {p d r:List Int} {n:Nat} (h:d.length=n+1):(p++(d++r)).length=p.length+(n+1)+r.length:=by
 simp only [cG,h];omega
abbrev Sh (v:List Int) (f:Int) (c:aS) (u q:List Int) (z:Int):Exit->av aa->ai->Prop:=fun e T H=>e= .normal/\T=(gF v f c u q z).T/\H=(gF v f c u q z).H
theorem agN {v:List Int} {f:Int} {c:aS} {p d0 r q:List Int} {t R:Int} {n:Nat} (hv:aP 1000000000 v) (lv:v.length=n) (mX:1<=n) (hn:n<=1000000) (hp:p.length<=1000000) (hq:p.length<q.length) (FJ:d0.length=n+1) (hd:aP 1000000000 (d0.take n)) (ht: -1000000000<=d0.getD n 0/\d0.getD n 0<=1000000000) (ht1:0<=t/\t<=1000000000) (hR:ag d0+ag v=R) (h0:0<=R) (h1:R<1000000000^n) (w:World) (F:Sv.Env):
  aR prog w F 206 ((fl dQ tQ).drop 6) (yc v f c (p++(d0++r)) q (p.length:Int) t true).T (yc v f c (p++(d0++r)) q (p.length:Int) t true).H (Sh v f c (p++(fx 1000000000 (n+1) R++r)) (q.set p.length (t-1)) (p.length:Int)):=by
 have hS:=tf;refine te (X:=oQ) (o:= .tmp 145) (x:=cat dQ FE) (y:= .skip) (rest:=(fl dQ tQ).drop 7) (by kernel_rfl) (by kernel_rfl) ?_;refine dZ (s:=yc v f c (p++(d0++r)) q (p.length:Int) t true) hS 3 (agA v f c (p++(d0++r)) q (p.length:Int) t (by omega)) ?_;refine aR.loop (ι:={x:List Int×Int×Nat//x.2.2<=n/\CO d0 v n x.1 x.2.1 x.2.2}) (id:=6) (b:=cat dQ K7) (rest:=(fl dQ FE).drop 4) (by kernel_rfl) (fun x=>rK v f c (p++(x.1.1++r)) q (p.length:Int) (t-1) x.1.2.1 x.1.2.2) (fun x=>n-x.1.2.2)
  ⟨(d0,0,0),Nat.zero_le _,⟨FJ,hd,rfl,⟨Int.le_refl 0,show(0:Int)<=1 by decide⟩,by simp [ag,vl]⟩⟩ (fun _=>rfl) ?_
 rintro⟨⟨d,cP,i⟩,hi,I⟩;have hi:i<=n:=hi;have I:CO d0 v n d cP i:=I;have hl:=I.len;have hc:=I.pV;have hL:=yd (p:=p) (r:=r) hl;have kG:((i:Int)+(p.length:Int)).toNat=p.length+i:=by omega
 have bG:((p.length:Int)+(v.length:Int)).toNat=p.length+n:=by omega
 by_cases hlt:i<n
 .have agO:=Sf I.dg hlt;have vJ:=hv.get (by decide) i;have hs0:0<=d.getD i 0+v.getD i 0+cP:=by omega
  have key:=agB v f c (p++(d++r)) q (p.length:Int) (t-1) cP i (by omega) (by omega) (by omega);rw [kG,ob (by omega),tN (by omega),Int.tmod_eq_emod_of_nonneg hs0,Int.tdiv_eq_ediv_of_nonneg hs0]at key;refine bp (s:=rK v f c (p++(d++r)) q (p.length:Int) (t-1) cP i) hS (key (by omega) (fa (by omega)) (by omega) (by omega) (by omega) (by omega) (by omega) (by simp only [cG,bY])) ?_;have N:=I.step hlt (x:=(d.getD i 0+v.getD i 0+cP)%1000000000) (Am:=(d.getD i 0+v.getD i 0+cP)/1000000000) (by omega) (by omega) (by omega);exact⟨⟨(_,_,i+1),by show i+1<=n;omega,N⟩,by show n-(i+1)<n-i;omega,rfl,rfl⟩
 .obtain rfl:i=n:=by omega
  refine bp (s:=rK v f c (p++(d++r)) q (p.length:Int) (t-1) cP i) hS (agC v f c _ q _ (t-1) cP i (by omega)) ?_;refine cv (cD ?_);have rL:=I.top;have key:=agD v f c (p++(d++r)) q (p.length:Int) (t-1) cP i (by omega) (by omega);rw [bG,ob (by omega),tN (by omega)]at key;have hval:=I.val;rw [ef (by omega)]at hval;have l2:(d.set i (d.getD i 0+cP)).length=i+1:=by rw [bY];exact hl
  have g2:aP 1000000000 ((d.set i (d.getD i 0+cP)).take i):=by rw [zV];exact I.dg
  have v2:ag (d.set i (d.getD i 0+cP))=R:=by
   unfold ag at hval hR ⊢;rw [qj _ _ _ _ (by omega),show d.getD i 0+cP-d.getD i 0=cP by omega];omega
  have e2:=Sg l2 g2 v2 h0 h1;rw [e2]at key;refine bp (s:=rK v f c (p++(d++r)) q (p.length:Int) (t-1) cP i) hS (key (by omega) (fa (by omega)) (by omega) (by rw [hL,yd (xN _ _ _)])) ?_;have kI:=agE v f c (p++(fx 1000000000 (i+1) R++r)) q (p.length:Int) (t-1);rw [Int.toNat_natCast]at kI;refine bp (s:=K9 v f c (p++(fx 1000000000 (i+1) R++r)) q (p.length:Int) (t-1)) hS (kI (by omega) hq (by rw [bY]) (by rw [bY])) ?_;exact⟨rfl,rfl,rfl⟩
theorem agP {v:List Int} {f:Int} {c:aS} {p d0 r q:List Int} {V:Int} {n:Nat} (hu:aP 1000000000 (p++(d0++r))) (hv:aP 1000000000 v) (lv:v.length=n) (mX:2<=n) (fB:(p++(d0++r)).length<=1000000) (hq:p.length<q.length) (FJ:d0.length=n+1) (hV:ag v=V) (ig:0<V) (rM:V<1000000000^n) (rL:500000000<=v.getD (n-1) 0) (hW:ag d0<1000000000*V) (w:World) (F:Sv.Env):
  aR prog w F 206 (fl dQ tQ) (gF v f c (p++(d0++r)) q (p.length:Int)).T (gF v f c (p++(d0++r)) q (p.length:Int)).H (Sh v f c (p++(fx 1000000000 (n+1) (ag d0%V)++r)) (q.set p.length (ag d0/V)) (p.length:Int)):=by
 have hS:=tf;have hL:=yd (p:=p) (r:=r) FJ;have Ci:aP 1000000000 d0:=hu.right.left;have vP:((p++(d0++r)).drop p.length).take (n+1)=d0:=by
  rw [List.drop_append,Nat.sub_self,List.drop_zero,List.drop_eq_nil_of_le (aE _),List.nil_append,List.take_append,ef (by omega),show n+1-d0.length=0 by omega,List.take_zero,List.append_nil]
 obtain⟨m,rfl⟩:∃m,n=m+2:=⟨n-2,by omega⟩;have hg:=agJ (u:=p++(d0++r)) (j:=p.length) (n:=m) hu hv lv (by omega) rL (by rw [vP,hV];exact hW);rw [vP,hV]at hg;have FG:0<=ag d0:=dC Ci;have FF:ag d0/V<1000000000:=(Int.ediv_lt_iff_lt_mul ig).2 hW;have vN:0<=ag d0/V:=Int.ediv_nonneg FG (ck ig);have s7:=Int.emod_add_mul_ediv (ag d0) V;have hm0:=c6 (ag d0) (show V≠0 by omega);have o8:=cS (ag d0) ig;have hpre:Ai (p++(d0++r)) 0 (p++(d0++r)).length v (p.length:Int)=true:=by
  unfold Ai;have i3:((v.length:Int)-1).toNat=m+1:=by omega
  have h5:500000000<=cI v:=by unfold cI;rw [i3];exact rL
  rw [Nat.beq_refl,Nat.beq_refl,nz.2 hu,nz.2 hv,az (show 2<=v.length by omega),az (show(0:Int)<=(p.length:Int) by omega),az (show(p.length:Int)+(v.length:Int)<((p++(d0++r)).length:Int) by omega),az h5,az fB];rfl
 have hown:(bt (gz.e vM) (gz.t vM) (some (bf.own 3 (.int .i64) (p++(d0++r)))) ((p++(d0++r)).length-1)&&Nat.ble 1 (p++(d0++r)).length)=true:=by
  rw [fo (by omega),Bool.and_true];exact fa (by omega)
 refine dZ (s:=gF v f c (p++(d0++r)) q (p.length:Int)) hS 3 (agv v f c (p++(d0++r)) q (p.length:Int) hown hpre) ?_;generalize ht:qA (p++(d0++r)) v (p.length:Int)=t at hg ⊢;refine aR.loop (ι:={x:List Int×Int×Nat//x.2.2<=m+2/\CN d0 v t (m+2) x.1 x.2.1 x.2.2}) (id:=4) (b:=cat dQ FD) (rest:=(fl dQ tQ).drop 4) (by kernel_rfl) (fun x=>od v f c (p++(x.1.1++r)) q (p.length:Int) t x.1.2.1 x.1.2.2) (fun x=>m+2-x.1.2.2)
  ⟨(d0,0,0),Nat.zero_le _,⟨FJ,Ci.take _,rfl,⟨Int.le_refl 0,show(0:Int)<=1000000000 by decide⟩,by simp [ag,vl]⟩⟩ (fun _=>rfl) ?_
 rintro⟨⟨d,bo,i⟩,hi,I⟩;have hi:i<=m+2:=hi;have I:CN d0 v t (m+2) d bo i:=I;have hl:=I.len;have hc:=I.pV;have hL:=yd (p:=p) (r:=r) hl;have kG:((i:Int)+(p.length:Int)).toNat=p.length+i:=by omega
 have bG:((p.length:Int)+(v.length:Int)).toNat=p.length+(m+2):=by omega
 by_cases hlt:i<m+2
 .have agO:=Sf I.dg hlt;have vJ:=hv.get (by decide) i;obtain⟨s1,s2,s3,FK⟩:=agL (t:=t) (w:=v.getD i 0) (bo:=bo) (by omega) vJ hc;by_cases hneg:d.getD i 0-Int.tmod (t*v.getD i 0+bo) 1000000000<0
  .have key:=agw v f c (p++(d++r)) q (p.length:Int) t bo i (by omega) (by omega) (by omega) (by omega) (by omega) (by omega);rw [kG,ob (by omega),tN (by omega)]at key;have N:=I.step hlt (x:=d.getD i 0-Int.tmod (t*v.getD i 0+bo) 1000000000+1000000000) (ru:=Int.tdiv (t*v.getD i 0+bo) 1000000000+1) (by omega) (by omega) (by omega);refine bp (s:=od v f c (p++(d++r)) q (p.length:Int) t bo i) hS (key (by omega) (fa (by omega)) (by omega) (by omega) hneg (by omega) (by omega) (by omega) (by simp only [cG,bY])) ?_;exact⟨⟨(_,_,i+1),by show i+1<=m+2;omega,N⟩,by show m+2-(i+1)<m+2-i;omega,rfl,rfl⟩
  .have key:=agx v f c (p++(d++r)) q (p.length:Int) t bo i (by omega) (by omega) (by omega) (by omega) (by omega) (by omega);rw [kG,ob (by omega),tN (by omega)]at key;have N:=I.step hlt (x:=d.getD i 0-Int.tmod (t*v.getD i 0+bo) 1000000000) (ru:=Int.tdiv (t*v.getD i 0+bo) 1000000000) (by omega) (by omega) (by omega);refine bp (s:=od v f c (p++(d++r)) q (p.length:Int) t bo i) hS (key (by omega) (fa (by omega)) (by omega) (by omega) hneg (by omega) (by simp only [cG,bY])) ?_;exact⟨⟨(_,_,i+1),by show i+1<=m+2;omega,N⟩,by show m+2-(i+1)<m+2-i;omega,rfl,rfl⟩
 .obtain rfl:i=m+2:=by omega
  refine bp (s:=od v f c (p++(d++r)) q (p.length:Int) t bo (m+2)) hS (agy v f c _ q _ t bo (m+2) (by omega)) ?_;refine cv (cD ?_);have aqZ:=I.top;have hx0:=Ci.get (by decide) (m+2);have key:=Rd v f c (p++(d++r)) q (p.length:Int) t bo (m+2) (by omega) (by omega);rw [bG,ob (by omega),tN (by omega),ob (by rw [bY];omega),vn (by omega)]at key;have hval:=I.val;rw [ef (by omega),hV]at hval;have l2:(d.set (m+2) (d.getD (m+2) 0-bo)).length=m+2+1:=by rw [bY];exact hl
  have g2:aP 1000000000 ((d.set (m+2) (d.getD (m+2) 0-bo)).take (m+2)):=by rw [zV];exact I.dg
  have t2:(d.set (m+2) (d.getD (m+2) 0-bo)).getD (m+2) 0=d.getD (m+2) 0-bo:=vn (by omega);have v2:ag (d.set (m+2) (d.getD (m+2) 0-bo))=ag d0-t*V:=by
   rw [<-hval];unfold ag;rw [qj _ _ _ _ (by omega),show d.getD (m+2) 0-bo-d.getD (m+2) 0= -bo by omega,Int.mul_neg];omega
  have n6:=agM l2 g2;rw [t2,v2]at n6;refine dZ (s:=od v f c (p++(d++r)) q (p.length:Int) t bo (m+2)) hS 2 (key (by omega) (fa (by omega)) (by omega) (fa (by rw [yd l2];omega)) (by rw [hL,yd l2]) rfl) ?_;have aq0:=yd (p:=p) (r:=r) l2;by_cases hneg:d.getD (m+2) 0-bo<0
  .rw [az hneg];have hR:=n6.1 hneg;have ht:t=ag d0/V+1:=by
    rcases Int.lt_or_le (ag d0/V) t with h|h
    .omega
    .have e:t=ag d0/V:=by omega
     rw [e,Int.mul_comm]at hR;omega
   have e1:ag d0-t*V+V=ag d0%V:=by
    rw [ht,Int.add_mul,Int.one_mul,Int.mul_comm (ag d0/V)];omega
   have e2:t-1=ag d0/V:=by omega
   rw [<-e2];exact agN hv lv (by omega) (by omega) (by omega) hq l2 g2 (by rw [t2];omega) (by omega) (by rw [v2,hV];exact e1) hm0 (by omega) w F
  .rw [ab hneg];have hR:¬ag d0-t*V<0:=fun h=>hneg (n6.2 h)
   have ht:t=ag d0/V:=by
    rcases Int.lt_or_le (ag d0/V) t with h|h
    .have e:t=ag d0/V+1:=by omega
     rw [e,Int.add_mul,Int.one_mul,Int.mul_comm (ag d0/V)]at hR;omega
    .omega
   have e1:ag d0-t*V=ag d0%V:=by
    rw [ht,Int.mul_comm (ag d0/V)];omega
   have e2:=Sg l2 g2 (v2.trans e1) hm0 (by omega);have kI:=agz v f c (p++(fx 1000000000 (m+2+1) (ag d0%V)++r)) q (p.length:Int) t;rw [Int.toNat_natCast]at kI;rw [e2,<-ht];refine bp (s:=yc v f c (p++(fx 1000000000 (m+2+1) (ag d0%V)++r)) q (p.length:Int) t false) hS (kI (by omega) hq (by rw [bY]) (by rw [bY])) ?_;exact⟨rfl,rfl,rfl⟩
end
noncomputable section
abbrev Si (x y:List Int):Exit->av aa->ai->Prop:=gk prog false f131 (.tuple [lv x,lv y])
theorem agQ {u:List Int} {j n:Nat} (h:j+(n+1)<=u.length):u=u.take j++((u.drop j).take (n+1)++u.drop (j+(n+1)))/\(u.take j).length=j/\((u.drop j).take (n+1)).length=n+1:=by
 refine⟨?_,by rw [dK];omega,by rw [dK,mQ];omega⟩;rw [show u.drop (j+(n+1))=(u.drop j).drop (n+1) by rw [List.drop_drop],List.take_append_drop,List.take_append_drop]
theorem agR {v:List Int} {f A B:Int} {c:aS} {aG:List Int} {n m:Nat} (An:aP 1000000000 aG) (hv:aP 1000000000 v) (lv:v.length=n) (hn:2<=n) (hm:m+n=aG.length) (o8:1<=m) (fB:aG.length<=200000) (hf:1<=f/\f<1000000000)
  (hV:ag v=B*f) (tR:0<B) (lI:0<=A) (Ag:ag aG=A*f) (kg:ag (aG.drop m)<ag v) (rL:500000000<=v.getD (n-1) 0) (w:World) (F:Sv.Env):
  aR prog w F 206 ((fl dQ []).drop 12) (gF v f c aG (fS m) ((m:Int)-1)).T (gF v f c aG (fS m) ((m:Int)-1)).H (Si (aC (A/B)) (aC (A%B))):=by
 have hS:=tf;have ig:0<ag v:=by rw [hV];exact Int.mul_pos tR (by omega)
 have rM:ag v<1000000000^n:=by rw [<-lv];exact fC (by decide) hv
 have Lb:∀k,(fS m).getD k 0=0:=fun k=>by
  unfold fS;rw [ao,List.getElem?_replicate];split<;>rfl
 refine aR.loop (ι:={x:List Int×List Int×Nat//x.2.2<=m/\x.1.length=aG.length/\aP 1000000000 x.1/\x.2.1.length=m/\aP 1000000000 x.2.1/\ag (x.1.drop x.2.2)<ag v/\ag x.1+ag v*ag x.2.1=A*f/\∀j,j<x.2.2->x.2.1.getD j 0=0}) (id:=2) (b:=cat dQ CK) (rest:=(fl dQ []).drop 13) (by kernel_rfl) (fun x=>gF v f c x.1.1 x.1.2.1 ((x.1.2.2:Int)-1)) (fun x=>x.1.2.2)
  ⟨(aG,fS m,m),aE _,rfl,An,o5 _,Kn _,kg, ?_,fun j _=>Lb j⟩ (fun _=>rfl) ?_
 .show ag aG+ag v*ag (fS m)=_;have:ag (fS m)=0:=Cn _ m;rw [this,Ag];omega
 rintro⟨⟨u,q,k⟩,hk,hl,iI,hq,jc,kg,hval,hz⟩;have hk:k<=m:=hk;have hl:u.length=aG.length:=hl;have iI:aP 1000000000 u:=iI;have hq:q.length=m:=hq;have jc:aP 1000000000 q:=jc;have kg:ag (u.drop k)<ag v:=kg;have hval:ag u+ag v*ag q=A*f:=hval;have hz:∀j,j<k->q.getD j 0=0:=hz;cases k with
 |zero=>
  refine dZ (s:=gF v f c u q ((0:Nat)-1:Int)) hS 2 (agu v f c u q _ (by omega)) ?_;refine cv (cv (cD ?_));rw [List.drop_zero]at kg;have pn:0<=ag u:=dC iI;obtain⟨g1,g2⟩:=KI (A:=A) (b:=B) (V:=ag v) (S:=f) (U:=ag u) (q:=ag q) (by omega) tR hV hval pn kg;have tO:0<=f*(A%B):=by rw [<-g2];exact pn
  have ht:ag (u.take n)=f*(A%B):=by
   rw [<-g2];exact Cp (by decide) iI (Int.lt_trans kg rM)
  have e1:ec ((u.drop 0).take v.length)=aC (f*(A%B)):=by
   rw [List.drop_zero,lv,xQ (iI.take _),ht]
  have e2:ag (aC (f*(A%B)))/f=A%B:=by
   rw [(fY tO).2.2,Int.mul_ediv_cancel_left _ (by omega)]
  have hlen:(aC (f*(A%B))).length<=n:=vA kM tO (by rw [<-g2];exact Int.lt_trans kg rM);have key:=agG v f c u q ((0:Nat)-1:Int) (by omega) (by
   rw [Bool.or_eq_true];exact .inr (fa (by omega))) (by rw [dK,List.drop_zero];omega) (by simp) (by
   rw [e1,n4.2 ⟨(fY tO).1,by omega⟩];rw [az (show(1:Int)<=List.getD [f] (Int.toNat 0) 0 from hf.1),az (show List.getD [f] (Int.toNat 0) 0<(1000000000:Int)from hf.2)];rfl) (vy _ q) (by rw [List.drop_zero,dA];omega) rfl
  rw [e1,e2,List.drop_zero,dA,xQ jc,<-g1]at key;exact bT (s:=gF v f c u q ((0:Nat)-1:Int)) hS key
 |succ j=>
  have jt:(((j+1:Nat):Int)-1)=(j:Int):=by omega
  obtain⟨w1,w2,w3⟩:=KH (b:=1000000000) (by decide) iI (j:=j) (n:=n) (V:=ag v) (by omega) (ck rM) kg;obtain⟨c1,c2,c3⟩:=agQ (u:=u) (j:=j) (n:=n) (by omega);obtain⟨n1,n2,n3,Ae⟩:=RM (b:=1000000000) (by decide) iI (j:=j) (n:=n) (V:=ag v) (by omega) ig (ck rM) kg rfl;have Lc:0<=ag ((u.drop j).take (n+1)):=dC ((iI.drop j).take _);have vP:ag ((u.drop j).take (n+1))<1000000000*ag v:=by unfold ag;rw [<-w1];exact w2
  have vN:0<=ag ((u.drop j).take (n+1))/ag v:=Int.ediv_nonneg Lc (ck ig);have Fz:ag ((u.drop j).take (n+1))/ag v<1000000000:=(Int.ediv_lt_iff_lt_mul ig).2 vP;show a8 _ _ _ _ _ _ (gF v f c u q (((j+1:Nat):Int)-1)).T (gF v f c u q (((j+1:Nat):Int)-1)).H _;rw [jt];refine dZ (s:=gF v f c u q (j:Int)) hS 2 (agt v f c u q (j:Int) (by omega)) ?_;refine EK (id:=3) (c:=cat dQ tQ) (rest:=(fl dQ CK).drop 3) (by kernel_rfl) ?_;have hW:=agP (f:=f) (c:=c) (p:=u.take j) (d0:=(u.drop j).take (n+1)) (r:=u.drop (j+(n+1))) (q:=q) (V:=ag v) (n:=n) (by rw [<-c1];exact iI) hv lv hn (by rw [<-c1];omega) (by rw [c2];omega) c3 rfl ig rM rL vP w F;rw [<-c1,c2]at hW;refine aR.mono (fun e T H hQ=> ?_) hW;obtain⟨rfl,rfl,rfl⟩:=hQ;have hnx:=agF v f c (u.take j++(fx 1000000000 (n+1) (ag ((u.drop j).take (n+1))%ag v)++u.drop (j+(n+1)))) (q.set j (ag ((u.drop j).take (n+1))/ag v)) (j:Int) (by omega);refine bp (s:=gF v f c _ _ (j:Int)) hS hnx ?_;refine⟨⟨(_,_,j),by show j<=m;omega,n1.trans hl,n2,by show(q.set j _).length=m;rw [bY];exact hq,jc.set ⟨vN,Fz⟩,Ae, ?_,fun i hi=> ?_⟩,e7 _,rfl,rfl⟩
  .have qi:ag (q.set j (ag ((u.drop j).take (n+1))/ag v))=ag q+1000000000^j*(ag ((u.drop j).take (n+1))/ag v):=by
    have h0:=hz j (e7 _);show vl 1000000000 _=vl 1000000000 _+_;rw [qj _ _ _ _ (by omega),h0,Int.sub_zero]
   have Ld:ag (u.take j++(fx 1000000000 (n+1) (ag ((u.drop j).take (n+1))%ag v)++u.drop (j+(n+1))))+1000000000^j*(ag ((u.drop j).take (n+1))/ag v)*ag v=ag u:=n3;show ag (u.take j++(fx 1000000000 (n+1) (ag ((u.drop j).take (n+1))%ag v)++u.drop (j+(n+1))))+ag v*ag (q.set j (ag ((u.drop j).take (n+1))/ag v))=_;rw [qi,<-hval,<-Ld];generalize ag (u.take j++(fx 1000000000 (n+1) (ag ((u.drop j).take (n+1))%ag v)++u.drop (j+(n+1))))=x1;generalize ag ((u.drop j).take (n+1))/ag v=x2;generalize (1000000000:Int)^j=x3;generalize ag q=qh;generalize ag v=vg;grind
  .have hi:i<j:=hi;show(q.set j _).getD i 0=0;rw [oa,if_neg (by omega)];exact hz i (by omega)
end
end Go.Proofs.YtibikmmdbdlafaaGreatDoor
