import Derived.Test.YtibikmmdbdlafaaGreatDoorZfVStep3
set_option linter.defProp false
set_option linter.unusedSimpArgs false
set_option linter.unusedVariables false
set_option maxRecDepth 100000
namespace Go.Proofs.YtibikmmdbdlafaaGreatDoor
open Go.RowKit Sv Go.Proofs.Tryz
noncomputable section
def fU:=k_a f178
def gd:=CX [GA] (Ap [sx] (og [F5] (a8 [LQ,Mm,Ml])))
abbrev Dm:List Nat:=[1,1,0,1,0]
abbrev MC:List Nat:=[1,1,0,1,0,1,1,0,1,0,0]
abbrev GJ:List Nat:=[1,1,1,1,1,1,1,1,0,1,0,0]
abbrev GK:List Nat:=[1,1,1,1,1,1,1,1,1,0,1,0,0]
abbrev MD (j:Nat) (l:List Int):af:= .bT 167 aE j 0 l.length .full
abbrev ME (l:List Int):fE:= .blk (.own 167 aE l)
def sC (a b:List Int):bH:={n:=137,sl:=[(0,bI a),(1,bI b),(23,bv ((b.length:Int)==1))],bJ:=[],next:=64}
def q8 (a b q:List Int) (r:Int) (k:Nat):bH:={n:=137,sl:=[(0,bI a),(1,bI b),(6,qQ 64 q),(7,cr r),(8,iv ((k:Int)-1))],bJ:=[(64,qR q)],next:=65}
def MF (a b q:List Int) (r:Int) (k:Nat):bH:={n:=137,sl:=[(0,bI a),(1,bI b),(6,qQ 64 q),(7,cr r),(8,iv ((k:Int)-1-1))],bJ:=[(64,qR q)],next:=65}
def k5 (a v u q:List Int) (s:Int) (k:Nat):bH:={n:=137,sl:=[(0,bI a),(9,iv s),(10,bI v),(11,MD 64 u),(12,iv v.length),(13,qQ 65 q),(14,iv ((k:Int)-1))],bJ:=[(64,ME u),(65,qR q)],next:=66}
def AY (a v u q:List Int) (s:Int) (k:Nat):bH:={n:=137,sl:=[(0,bI a),(9,iv s),(10,bI v),(11,MD 64 u),(12,iv v.length),(13,qQ 65 q),(14,iv ((k:Int)-1-1))],bJ:=[(64,ME u),(65,qR q)],next:=66}
def jE (n:Nat) (u q:List Int) (s:Int) (i:Nat):bH:={n:=137,sl:=[(9,iv s),(11,MD 64 u),(12,iv n),(13,qQ 65 q),(96,iv n),(97,iv i)],bJ:=[(64,ME u),(65,qR q)],next:=66}
abbrev yF:Sv.Ren:=[(64,64,none),(65,65,none)]
def MG (a v:List Int) (s:Int):bH:={n:=137,sl:=[(0,bI a),(9,iv s),(10,bI v)],bJ:=[],next:=64}
def ain (a b:List Int) (h1:(mK a b)=true) (h2:kW (ak a) (ak b)<0):
  bf gd (fl fU []) 3 137 [bI a,bI b] 3 f178 false (.tuple [bI [],bI a]):=
 wy [aa h1,ah h2] 129
def aio (a b:List Int) (h1:(mK a b)=true) (h2:¬kW (ak a) (ak b)<0):
  dy gd (fl fU []) 4 137 [bI a,bI b] 2 .normal [] (sC a b):=
 wy [aa h1,aK h2] 129
def aip (a b:List Int) (h1:a.length<=1000000) (h2: -9223372036854775808<=(a.length:Int)-1/\(a.length:Int)-1<=9223372036854775807) (h3:a.length=(cD a.length).length) (h4:(bK (cD a.length).length)=(bK a.length)) (h5:(List.flatten (List.replicate a.length (List.map af.raw (Array.toList #[Value.int .u64 (0:Int)]))))=(List.flatMap (fun x=>[af.raw (Value.int .u64 x)]) (cD a.length))):
  aD.path (vM prog gd (fl fU Dm) 3 (sC a b)) (dl 1) (dU prog 137 .normal [(64,64,some a.length)] (q8 a b (cD a.length) 0 a.length)):=
 mp (FO rt rt (show(decide (a.length<=a.length))=true from ay ω) (oc (show(bounded a.length (8:Nat))=true from pI h1 ω) (eL h2) (rr a) (rr b) (an h3 (an (rr (aZ.known a.length)) h4)) (rr (0:Int)) (rr ((a.length:Int)-1)) (an h5 h3) trivial))
section
variable (a b q:List Int) (r:Int) (k:Nat)
def aiq (h1:(k:Int)-1>=0) (h2:0<=(k:Int)-1) (h3:((k:Int)-1).toNat<a.length) (h4:Int.toNat 0<b.length) (h5:(ur r (a.getD ((k:Int)-1).toNat 0) (b.getD (Int.toNat 0) 0))=true) (h6:((k:Int)-1).toNat<q.length) (h7:i6 ((k:Int)-1-1)) (h8:q.length=(q.set ((k:Int)-1).toNat (ku r (a.getD ((k:Int)-1).toNat 0) (b.getD 0 0))).length) (h9:(bK q.length)=(bK (q.set ((k:Int)-1).toNat (ku r (a.getD ((k:Int)-1).toNat 0) (b.getD 0 0))).length)) (h10:(ow r (a.getD ((k:Int)-1).toNat 0) (b.getD (Int.toNat 0) 0))=(ow r (a.getD ((k:Int)-1).toNat 0) (b.getD 0 0))) (h11:(q.set ((k:Int)-1).toNat (ku r (a.getD ((k:Int)-1).toNat 0) (b.getD (Int.toNat 0) 0)))=(q.set ((k:Int)-1).toNat (ku r (a.getD ((k:Int)-1).toNat 0) (b.getD 0 0)))):
  bB gd (fl fU MC) (q8 a b q r k) 3 .normal j8 (MF a b (q.set ((k:Int)-1).toNat (ku r (a.getD ((k:Int)-1).toNat 0) (b.getD 0 0))) (ow r (a.getD ((k:Int)-1).toNat 0) (b.getD 0 0)) k):=
 wy [ah h1,ah h2,ah h3,aa (aF (v:=af.raw (Value.int IntKind.u64 (a.getD ((k:Int)-(1:Int)).toNat (0:Int))))),ah h4,aa (aF (v:=af.raw (Value.int IntKind.u64 (b.getD (0:Int).toNat (0:Int))))),aa h5,ah h6,ja 167 aE h6,yi h7,ax h8,ax h9,ax h10,mE 167 aE h11] 290835506264453566828585601305948289
def air (h1:¬(k:Int)-1>=0):
  bB gd (fl fU MC) (q8 a b q r k) 2 (.exit 0) j8 (q8 a b q r k):=
 wy [aK h1] 1
def ais (h1:(Nat.beq q.length 0||bz 167 aE (a7 167 aE q) (q.length-1))=true) (h2:((q.drop 0).take q.length).length<=1000000) (h3:1*1<=(af.raw (Value.int .u64 r)::List.append._f [] PUnit.unit (List.flatten._f [] PUnit.unit)).length) (h4:List.length [r]<=1000000) (h5:(dK ((q.drop 0).take q.length))=(dK q)):
  bW gd ((fl fU Dm).drop 4) (q8 a b q r k) 1 f178 false (.tuple [bI (dK q),bI (dK [r])]):=
 wy [aa (show(Nat.beq q.length (0:Nat)||bz 167 aE (a7 167 aE q) ((0:Nat)+q.length-(1:Nat)))=true from(by simp only [aw]<;>exact h1)),aa (show(decide ((((bQ aE (a7 167 aE q)).drop (0:Nat)).take q.length).length<=(1000000:Nat)))=true from(by simp only [ey]<;>exact ay h2)),aa (show(Nat.ble ((0:Nat)+(1:Nat)*(1:Nat)) (af.raw (Value.int IntKind.u64 r)::List.append._f [] PUnit.unit (List.flatten._f [] PUnit.unit)).length)=true from(by simp only [aw]<;>exact fA h3)),ah h4,ax (show(dK (((bQ aE (a7 167 aE q)).drop (0:Nat)).take q.length))=(dK q)from(by simp only [ey]<;>exact h5))] 84947073
end
def OR (a b:List Int) (h1:¬(b.length:Int)=1):
  cV gd ((fl fU []).drop 4) 1 (sC a b) 2 .normal [] (sC a b):=
 wy [yn h1] 1
def ait (a b v:List Int) (s:Int) (h1:i6 ((b.length:Int)-1)) (h2:0<=(b.length:Int)-1) (h3:((b.length:Int)-1).toNat<b.length) (h4:(wA (b.getD ((b.length:Int)-1).toNat 0))=true) (h5:(yy b (dQ (b.getD ((b.length:Int)-1).toNat 0)))=true) (h6:(Nat.beq (cE b (dQ (b.getD ((b.length:Int)-1).toNat 0))).length 0||bz (qI.e GA) aE (some (bq.own 167 aE (cE b (dQ (b.getD ((b.length:Int)-1).toNat 0))))) ((cE b (dQ (b.getD ((b.length:Int)-1).toNat 0))).length-1))=true) (h7:(((cE b (dQ (b.getD ((b.length:Int)-1).toNat 0))).drop 0).take (cE b (dQ (b.getD ((b.length:Int)-1).toNat 0))).length).length<=1000000) (h8:(dQ (b.getD ((b.length:Int)-1).toNat 0))=(s)) (h9:(dK (((cE b (dQ (b.getD ((b.length:Int)-1).toNat 0))).drop 0).take (cE b (dQ (b.getD ((b.length:Int)-1).toNat 0))).length))=(v)):
  cV gd ((fl fU []).drop 5) 2 (sC a b) 1 .normal [] (MG a v s):=
 wy [yi h1,ah h2,ah h3,aa h4,aa h5,aa (show(Nat.beq (cE b (dQ (b.getD ((b.length:Int)-(1:Int)).toNat (0:Int)))).length (0:Nat)||bz (qI.e GA) aE (some (bq.own 167 aE (cE b (dQ (b.getD ((b.length:Int)-(1:Int)).toNat (0:Int)))))) ((0:Nat)+(cE b (dQ (b.getD ((b.length:Int)-(1:Int)).toNat (0:Int)))).length-(1:Nat)))=true from(by simp only [aw]<;>exact h6)),ah h7,ax h8,ax h9] 164381873962758273
def aiu (a v:List Int) (s:Int) (m:Nat) (h1:(yy a s)=true) (h2: -9223372036854775808<=(a.length:Int)-(v.length:Int)/\(a.length:Int)-(v.length:Int)<=9223372036854775807) (h3: -9223372036854775808<=(a.length:Int)-(v.length:Int)+1/\(a.length:Int)-(v.length:Int)+1<=9223372036854775807) (h4:(0:Int)<=(a.length:Int)-(v.length:Int)+1) (h5:((a.length:Int)-(v.length:Int)+1).toNat<=1000000) (h6:(cE a s).length=(cE a s).length) (h7:(((a.length:Int)-(v.length:Int)+1).toNat)=(cD m).length) (h8:(aZ.known ((a.length:Int)-(v.length:Int)+1).toNat)=(aZ.known m)) (h9:(bK (cD m).length)=(bK m)) (h10:((a.length:Int)-(v.length:Int))=((m:Int)-1)) (h11:(List.flatten (List.replicate ((a.length:Int)-(v.length:Int)+1).toNat (List.map af.raw (Array.toList #[Value.int .u64 (0:Int)]))))=(List.flatMap (fun x=>[af.raw (Value.int .u64 x)]) (cD m))) (h12:(m)=(cD m).length):
  aD.path (vM prog gd ((fl fU []).drop 7) 4 (MG a v s)) (dl 1) (dU prog 137 .normal [(64,64,none),(65,65,some m)] (k5 a v (cE a s) (cD m) s m)):=
 mp (an h1 (oc (eL h2) (eL h3) (ay h4) (ay h4) (show(decide (((a.length:Int)-(v.length:Int)+1).toNat<=((a.length:Int)-(v.length:Int)+1).toNat))=true from ay ω) (show(bounded ((a.length:Int)-(v.length:Int)+1).toNat (8:Nat))=true from pI h5 ω) (eL h2) (rr a) (oc (rr s) (rr v) (an (rr (0:Nat)) (an h6 (rr (aZ.full)))) (rr (v.length:Int)) (an h7 (an h8 h9)) h10 (rr (cE a s)) (an h11 h12) trivial)))
section
variable (a v u q:List Int) (s:Int) (k:Nat) (h1:(k:Int)-1>=0) (h2:i6 ((k:Int)-1+(v.length:Int))) (h3:i6 ((k:Int)-1+(v.length:Int)+1)) (h4:0<=(k:Int)-1) (h5:((k:Int)-1+(v.length:Int)+1).toNat<=u.length)
def aiv (h6:((k:Int)-1).toNat=0) (h7:(bz (gN.e sx) (gN.t sx) (some (bq.own 167 aE u)) (((k:Int)-1+(v.length:Int)+1).toNat-1)&&Nat.ble 1 ((k:Int)-1+(v.length:Int)+1).toNat)=true) (h8:(wB u 0 ((k:Int)-1+(v.length:Int)+1).toNat v)=true) (h9:((k:Int)-1).toNat<q.length) (h10:i6 ((k:Int)-1-1)) (h11:u.length=(k4 u 0 ((k:Int)-1+(v.length:Int)+1).toNat v).length) (h12:q.length=(q.set ((k:Int)-1).toNat (jf u 0 ((k:Int)-1+(v.length:Int)+1).toNat v)).length) (dL:(bK q.length)=(bK (q.set ((k:Int)-1).toNat (jf u 0 ((k:Int)-1+(v.length:Int)+1).toNat v)).length)):
  bB gd (fl fU GJ) (k5 a v u q s k) 7 .normal yF (AY a v (k4 u 0 (((k:Int)-1+v.length+1).toNat) v) (q.set ((k:Int)-1).toNat (jf u 0 (((k:Int)-1+v.length+1).toNat) v)) s k):=
 wy [ah h1,yi h2,yi h3,ah (by omega:(0:Int)<=(k:Int)-(1:Int)+(v.length:Int)+(1:Int)),ah h4,ah (by omega:((k:Int)-(1:Int)).toNat<=((k:Int)-(1:Int)+(v.length:Int)+(1:Int)).toNat),ah h5,aa (ada h6),aa (show(bz (gN.e sx) (gN.t sx) (some (bq.own 167 aE u)) ((0:Nat)+((k:Int)-(1:Int)+(v.length:Int)+(1:Int)).toNat-(1:Nat))&&Nat.ble (1:Nat) ((k:Int)-(1:Int)+(v.length:Int)+(1:Int)).toNat)=true from(by simp only [aw]<;>exact h7)),aa h8,ah h9,ja 167 aE h9,yi h10,ax h11,ax h12,ax dL,mE 167 aE (Eq.refl (q.set ((k:Int)-(1:Int)).toNat (jf u (0:Nat) ((k:Int)-(1:Int)+(v.length:Int)+(1:Int)).toNat v)))] 1552851146518156587532186954369615219962099544193
def aiw (h6:(Nat.beq ((k:Int)-1).toNat 0)=false) (h7:((k:Int)-1).toNat<((k:Int)-1+(v.length:Int)+1).toNat) (h8:(bz (gN.e sx) (gN.t sx) (some (bq.own 167 aE u)) (((k:Int)-1).toNat+(((k:Int)-1+(v.length:Int)+1).toNat-Int.toNat ((k:Int)-1))-1)&&Nat.ble 1 (((k:Int)-1+(v.length:Int)+1).toNat-Int.toNat ((k:Int)-1)))=true) (h9:(wB u ((k:Int)-1).toNat (((k:Int)-1+(v.length:Int)+1).toNat-Int.toNat ((k:Int)-1)) v)=true) (h10:((k:Int)-1).toNat<q.length) (h11:i6 ((k:Int)-1-1)) (h12:u.length=(k4 u ((k:Int)-1).toNat (((k:Int)-1+(v.length:Int)+1).toNat-Int.toNat ((k:Int)-1)) v).length) (dL:q.length=(q.set ((k:Int)-1).toNat (jf u ((k:Int)-1).toNat (((k:Int)-1+(v.length:Int)+1).toNat-Int.toNat ((k:Int)-1)) v)).length) (gQ:(bK q.length)=(bK (q.set ((k:Int)-1).toNat (jf u ((k:Int)-1).toNat (((k:Int)-1+(v.length:Int)+1).toNat-Int.toNat ((k:Int)-1)) v)).length)):
  bB gd (fl fU GJ) (k5 a v u q s k) 13 .normal yF (AY a v (k4 u ((k:Int)-1).toNat ((((k:Int)-1+v.length+1).toNat)-((k:Int)-1).toNat) v) (q.set ((k:Int)-1).toNat (jf u ((k:Int)-1).toNat ((((k:Int)-1+v.length+1).toNat)-((k:Int)-1).toNat) v)) s k):=
 wy [ah h1,yi h2,yi h3,ah (by omega:(0:Int)<=(k:Int)-(1:Int)+(v.length:Int)+(1:Int)),ah h4,ah (by omega:((k:Int)-(1:Int)).toNat<=((k:Int)-(1:Int)+(v.length:Int)+(1:Int)).toNat),ah h5,aa h6,ah h7,aa (show(bz (gN.e sx) (gN.t sx) (some (bq.own 167 aE u)) ((0:Nat)+((k:Int)-(1:Int)).toNat+(((k:Int)-(1:Int)+(v.length:Int)+(1:Int)).toNat-Int.toNat ((k:Int)-(1:Int)))-(1:Nat))&&Nat.ble (1:Nat) (((k:Int)-(1:Int)+(v.length:Int)+(1:Int)).toNat-Int.toNat ((k:Int)-(1:Int))))=true from(by simp only [aw]<;>exact h8)),aa (show(wB u ((0:Nat)+((k:Int)-(1:Int)).toNat) (((k:Int)-(1:Int)+(v.length:Int)+(1:Int)).toNat-Int.toNat ((k:Int)-(1:Int))) v)=true from(by simp only [aw]<;>exact h9)),ah h10,ja 167 aE h10,yi h11,ax h12,ax dL,ax gQ,ax (show(k4 u ((0:Nat)+((k:Int)-(1:Int)).toNat) (((k:Int)-(1:Int)+(v.length:Int)+(1:Int)).toNat-Int.toNat ((k:Int)-(1:Int))) v)=(k4 u ((k:Int)-(1:Int)).toNat (((k:Int)-(1:Int)+(v.length:Int)+(1:Int)).toNat-Int.toNat ((k:Int)-(1:Int))) v)from(by simp only [aw])),pH prog 167 aE (show((bQ aE (a7 167 aE q)).set ((0:Nat)+((k:Int)-(1:Int)).toNat) (jf u ((0:Nat)+((k:Int)-(1:Int)).toNat) (((k:Int)-(1:Int)+(v.length:Int)+(1:Int)).toNat-Int.toNat ((k:Int)-(1:Int))) v))=(q.set ((k:Int)-(1:Int)).toNat (jf u ((k:Int)-(1:Int)).toNat (((k:Int)-(1:Int)+(v.length:Int)+(1:Int)).toNat-Int.toNat ((k:Int)-(1:Int))) v))from(by simp only [ey,aw]<;>rfl))] 112718698467000873757520171089483947854851910676609
end
def aix (a v u q:List Int) (s:Int) (k:Nat) (h1:¬(k:Int)-1>=0):
  bB gd (fl fU GJ) (k5 a v u q s k) 2 (.exit 2) yF (k5 a v u q s k):=
 wy [aK h1] 1
def aiy (a v u q:List Int) (s:Int) (k:Nat):
  cV gd ((fl fU []).drop 12) 1 (k5 a v u q s k) 1 .normal yF (jE v.length u q s 0):=
 wy [] 0
section
variable (n:Nat) (u q:List Int) (s:Int) (i:Nat) (h1:(i:Int)<(n:Int)) (h2:i<u.length) (h3:(bz 167 aE (some (bq.own 167 aE u)) i)=true) (h4:0<=s)
def aiz (h5:s>0) (h6:i6 ((i:Int)+1)) (h7:(i:Int)+1<(u.length:Int)) (h8:(bz 167 aE (some (bq.own 167 aE (u.set i (Int.fdiv (u.getD i 0) ((2:Int)^min s.toNat 64))))) i)=true) (h9:((i:Int)+1).toNat<u.length) (h10:(bz 167 aE (some (bq.own 167 aE (u.set i (Int.fdiv (u.getD i 0) ((2:Int)^min s.toNat 64))))) ((i:Int)+1).toNat)=true) (h11:i6 (64-s)) (h12:0<=64-s) (dL:u.length=((u.set i (dp (u.getD i 0) s)).set i (eS ((u.set i (dp (u.getD i 0) s)).getD i 0) (fq ((u.set i (dp (u.getD i 0) s)).getD (i+1) 0) (64-s)))).length) (gQ:((u.set i (Int.fdiv (u.getD i 0) ((2:Int)^min s.toNat 64))).set i (IntKind.wrap IntKind.u64 (↑(BitVec.toNat (BitVec.ofInt 64 ((u.set i (Int.fdiv (u.getD i 0) ((2:Int)^min s.toNat 64))).getD i 0)|||BitVec.ofInt 64 (IntKind.wrap IntKind.u64 ((u.set i (Int.fdiv (u.getD i 0) ((2:Int)^min s.toNat 64))).getD ((i:Int)+1).toNat 0*(2:Int)^min (64-s).toNat 64)))):Int)))=((u.set i (dp (u.getD i 0) s)).set i (eS ((u.set i (dp (u.getD i 0) s)).getD i 0) (fq ((u.set i (dp (u.getD i 0) s)).getD (i+1) 0) (64-s))))):
  bB gd (fl fU GK) (jE n u q s i) 511 .normal yF (jE n ((u.set i (dp (u.getD i 0) s)).set i (eS ((u.set i (dp (u.getD i 0) s)).getD i 0) (fq ((u.set i (dp (u.getD i 0) s)).getD (i+1) 0) (64-s)))) q s (i+1)):=
 wy [ah h1,ah h2,aa (show(bz 167 aE (some (bq.own 167 aE u)) ((0:Nat)+i))=true from(by simp only [aw]<;>exact h3)),ah h4,aa (aL (ay h5)),yi h6,ah h5,ah h7,aa (show(bz 167 aE (some (bq.own 167 aE (u.set ((0:Nat)+i) (Int.fdiv (u.getD ((0:Nat)+i) (0:Int)) ((2:Int)^min s.toNat (64:Nat)))))) ((0:Nat)+i))=true from(by simp only [aw]<;>exact h8)),aa (aF (v:=af.raw (Value.int IntKind.u64 ((u.set ((0:Nat)+i) (Int.fdiv (u.getD ((0:Nat)+i) (0:Int)) ((2:Int)^min s.toNat (64:Nat)))).getD ((0:Nat)+i) (0:Int))))),ah h9,aa (show(bz 167 aE (some (bq.own 167 aE (u.set ((0:Nat)+i) (Int.fdiv (u.getD ((0:Nat)+i) (0:Int)) ((2:Int)^min s.toNat (64:Nat)))))) ((0:Nat)+((i:Int)+(1:Int)).toNat))=true from(by simp only [aw]<;>exact h10)),aa (aF (v:=af.raw (Value.int IntKind.u64 ((u.set ((0:Nat)+i) (Int.fdiv (u.getD ((0:Nat)+i) (0:Int)) ((2:Int)^min s.toNat (64:Nat)))).getD ((0:Nat)+((i:Int)+(1:Int)).toNat) (0:Int))))),yi h11,ah h12,ax dL,ax (show((u.set ((0:Nat)+i) (Int.fdiv (u.getD ((0:Nat)+i) (0:Int)) ((2:Int)^min s.toNat (64:Nat)))).set ((0:Nat)+i) (IntKind.wrap IntKind.u64 (↑(BitVec.toNat (BitVec.ofInt (64:Nat) ((u.set ((0:Nat)+i) (Int.fdiv (u.getD ((0:Nat)+i) (0:Int)) ((2:Int)^min s.toNat (64:Nat)))).getD ((0:Nat)+i) (0:Int))|||BitVec.ofInt (64:Nat) (IntKind.wrap IntKind.u64 ((u.set ((0:Nat)+i) (Int.fdiv (u.getD ((0:Nat)+i) (0:Int)) ((2:Int)^min s.toNat (64:Nat)))).getD ((0:Nat)+((i:Int)+(1:Int)).toNat) (0:Int)*(2:Int)^min ((64:Int)-s).toNat (64:Nat))))):Int)))=((u.set i (dp (u.getD i (0:Int)) s)).set i (eS ((u.set i (dp (u.getD i (0:Int)) s)).getD i (0:Int)) (fq ((u.set i (dp (u.getD i (0:Int)) s)).getD (i+(1:Nat)) (0:Int)) ((64:Int)-s))))from(by simp only [aw]<;>exact gQ))] 7873862068137527616914292518417608029408674204502519200453172716118206636105729
def aiA (h5:¬s>0) (h6:i6 ((i:Int)+1)) (h7:u.length=(u.set i (dp (u.getD i 0) s)).length) (h8:(u.set i (Int.fdiv (u.getD i 0) ((2:Int)^min s.toNat 64)))=(u.set i (dp (u.getD i 0) s))):
  bB gd (fl fU GK) (jE n u q s i) 257 .normal yF (jE n (u.set i (dp (u.getD i 0) s)) q s (i+1)):=
 wy [ah h1,ah h2,aa (show(bz 167 aE (some (bq.own 167 aE u)) ((0:Nat)+i))=true from(by simp only [aw]<;>exact h3)),ah h4,aa (aL (ab h5)),aK h5,yi h6,ax h7,ax (show(u.set ((0:Nat)+i) (Int.fdiv (u.getD ((0:Nat)+i) (0:Int)) ((2:Int)^min s.toNat (64:Nat))))=(u.set i (dp (u.getD i (0:Int)) s))from(by simp only [aw]<;>exact h8))] 822094670998635487646669403467073943717211283457
end
section
variable (n:Nat) (u q:List Int) (s:Int) (i:Nat)
def aiB (h1:¬(i:Int)<(n:Int)):
  bB gd (fl fU GK) (jE n u q s i) 2 (.exit 4) yF (jE n u q s i):=
 wy [aK h1] 1
def aiC (h1:(Nat.beq q.length 0||bz 167 aE (a7 167 aE q) (q.length-1))=true) (h2:((q.drop 0).take q.length).length<=1000000) (h3:n<=u.length) (h4:(Nat.beq n 0||bz 167 aE (some (bq.own 167 aE u)) (n-1))=true) (h5:((u.drop 0).take n).length<=1000000) (h6:(dK ((q.drop 0).take q.length))=(dK q)) (h7:(dK ((u.drop 0).take n))=(dK (u.take n))):
  bW gd ((fl fU []).drop 14) (jE n u q s i) 3 f178 false (.tuple [bI (dK q),bI (dK (u.take n))]):=
 wy [aa (show(Nat.beq q.length (0:Nat)||bz 167 aE (a7 167 aE q) ((0:Nat)+q.length-(1:Nat)))=true from(by simp only [aw]<;>exact h1)),aa (show(decide ((((bQ aE (a7 167 aE q)).drop (0:Nat)).take q.length).length<=(1000000:Nat)))=true from(by simp only [ey]<;>exact ay h2)),ah h3,aa (show(Nat.beq n (0:Nat)||bz 167 aE (some (bq.own 167 aE u)) ((0:Nat)+n-(1:Nat)))=true from(by simp only [aw]<;>exact h4)),ah h5,ax (show(dK (((bQ aE (a7 167 aE q)).drop (0:Nat)).take q.length))=(dK q)from(by simp only [ey]<;>exact h6)),ax h7] 127811904587432065
end
def Ug {X:Ext} {P:Program} {w0:World} {F:Sv.Env} {n:Nat} {T:au af} {H:ai} {Q:Exit->au af->ai->Prop} {l rest:List Code} {o:Operand} {x y:Code} (hl:l= .cond o x y::rest) (hb:gI (cm T o)= .mk true)
  (h:cg X P w0 F n (tZ x) T H (gY (fun T H=>cg X P w0 F n rest T H Q) Q)):cg X P w0 F n l T H Q:=by
 subst hl;intro a w hs k;obtain⟨ρ,aR,_⟩:=hs.ex;have hc:=nF aR.T aR.G o;rw [EG hb]at hc;exact wpIn_cond hc.cc (vN h a w hs k)
def GL:bD prog (bF gd):=by
 refine adu (fun c hc=> ?_) (SS (fun c hc=> ?_) (uf (fun c hc=> ?_) (cM fun c hc=> ?_)))
 .rw [List.mem_singleton.1 hc];exact ahB
 .rw [List.mem_singleton.1 hc];exact aim
 .rw [List.mem_singleton.1 hc];exact LM
 .simp only [ek,jO,or_false]at hc;rcases hc with rfl |rfl |rfl
  .exact Tx
  .exact T'
  .exact TR
def pT (a b:List Int):Bool:=mK a b&&(decide (1<=b.length)&&(decide (a.length<=300000)&&decide (b.length<=300000)))
def e4 (a b:List Int):List Int:=cQ 18446744073709551616 (ak a/ak b)
def cF (a b:List Int):List Int:=cQ 18446744073709551616 (ak a%ak b)
def MH:=IN 178 [.list false aE, .list false aE] [.list false aE, .list false aE] false (fun d=>pT d.1 d.2.1) fun d=>(e4 d.1 d.2.1,(cF d.1 d.2.1,()))
abbrev MI (q r:List Int):Exit->au af->ai->Prop:=gZ prog false f178 (.tuple [bI q,bI r])
def Lk {l:List Int} {k:Nat} (h:k=l.length):(Nat.beq l.length 0||bz 167 aE (a7 167 aE l) (k-1))=true:=by
 subst h;cases l with
 |nil=>rfl
 |cons x r=>rw [EF];simp
def aiD {a:List Int} {y:Int} (ha:aS 18446744073709551616 a) (hy:1<=y/\y<18446744073709551616) (hla:a.length<=300000) (w:World) (F:Sv.Env):
  aW prog w F 137 (fl fU Dm) (sC a [y]).T (sC a [y]).H (fun e T H=>e= .ret/\MI (e4 a [y]) (cF a [y]) .ret T H):=by
 have hS:=GL;refine cX (s:=sC a [y]) hS 3 (aip a [y] ω ω (cf _).symm (by rw [cf]) (ym _)) ?_;refine aW.loop (ι:={x:List Int×Int×Nat//x.2.2<=a.length/\x.1.length=a.length/\aS 18446744073709551616 x.1/\(0<=x.2.1/\x.2.1<y)/\ak (a.drop x.2.2)=ak (x.1.drop x.2.2)*y+x.2.1}) (id:=0) (b:=cat fU MC) (rest:=(fl fU Dm).drop 4) (by kernel_rfl) (fun x=>q8 a [y] x.1.1 x.1.2.1 x.1.2.2) (fun x=>x.1.2.2)
  ⟨(cD a.length,0,a.length),aJ _,cf _,AF _,⟨Int.le_refl 0,show(0:Int)<y by omega⟩,by
    show ak (a.drop a.length)=ak ((cD a.length).drop a.length)*y+0;rw [List.drop_length,List.drop_eq_nil_of_le (by rw [cf];exact aJ _)];simp [ak,vl]⟩ (fun _=>rfl) ?_
 rintro⟨⟨q,r,k⟩,hk,hq,ji,hr,hv⟩;have hk:k<=a.length:=hk;have hq:q.length=a.length:=hq;have ji:aS 18446744073709551616 q:=ji;have hr:0<=r/\r<y:=hr;have hv:ak (a.drop k)=ak (q.drop k)*y+r:=hv;cases k with
 |zero=>
  refine bE (s:=q8 a [y] q r 0) hS (air a [y] q r 0 ω) ?_;refine cG (cO ?_);rw [List.drop_zero,List.drop_zero]at hv;have e1:ak [y]=y:=qS y;obtain⟨g1,g2⟩:=yg (U:=ak a) (V:=y) (t:=ak q) ω ω ω;have e2:e4 a [y]=dK q:=by unfold e4;rw [e1,g1,wg ji]
  have e3:cF a [y]=dK [r]:=by
   unfold cF;rw [e1,g2,wg (L2 ω),qS];congr 1;omega
  rw [e2,e3];have bV:(q.drop 0).take q.length=q:=by simp
  exact aW.vO (s:=q8 a [y] q r 0) known mixed hS _ (ais a [y] q r 0 (Lk rfl) (by rw [bV];omega) (aJ 1) τ (by rw [bV])) fun T H h=>⟨rfl,h⟩
 |succ j=>
  have ej:(((j+1:Nat):Int)-1).toNat=j:=by omega
  have haj:=ha.get δ j;have hD:ur r (a.getD j 0) y=true:=by
   unfold ur;rw [sj.2 haj,sj.2 ω,ay hr.1,ay hr.2];rfl
  have tT:=Int.emod_add_mul_ediv (r*18446744073709551616+a.getD j 0) y;have hm0:=dM (r*18446744073709551616+a.getD j 0) (show y≠0 by omega);have pN:=er (r*18446744073709551616+a.getD j 0) (show 0<y by omega);have j4:0<=(r*18446744073709551616+a.getD j 0)/y:=Int.ediv_nonneg ω ω;have hq1:(r*18446744073709551616+a.getD j 0)/y<18446744073709551616:=(Int.ediv_lt_iff_lt_mul ω).2 (by
   have:(r+1)*18446744073709551616<=y*18446744073709551616:=ar ω δ;rw [Int.mul_comm _ y];omega)
  refine bE (s:=q8 a [y] q r (j+1)) hS (aiq a [y] q r (j+1) ω ω ω τ (by rw [ej];exact hD) ω ω (by rw [b9]) (by rw [b9]) rfl rfl) ?_;rw [ej];have j3:(((j+1:Nat):Int)-1-1)=(j:Int)-1:=by omega
  refine⟨⟨(q.set j (ku r (a.getD j 0) y),ow r (a.getD j 0) y,j),by show j<=_;omega,by show(q.set j _).length=_;rw [b9];exact hq,ji.set ⟨j4,hq1⟩,⟨hm0,pN⟩, ?_⟩,by show j<j+1;omega, ?_, ?_⟩
  .show ak (a.drop j)=ak ((q.set j (ku r (a.getD j 0) y)).drop j)*y+ow r (a.getD j 0) y;unfold ak at hv ⊢;rw [uq (l:=a) ω,uq (l:=q.set j _) (by rw [b9];omega),vX ω,hv];have Mu:(q.set j (ku r (a.getD j 0) y)).drop (j+1)=q.drop (j+1):=by rw [List.drop_set];rw [if_pos ω]
   rw [Mu];unfold ku ow;generalize vl 18446744073709551616 (q.drop (j+1))=z at*;generalize (r*18446744073709551616+a.getD j 0)/y=d at*;generalize (r*18446744073709551616+a.getD j 0)%y=e at*;grind
  .show(MF a [y] _ _ (j+1)).T=(q8 a [y] _ _ j).T;unfold MF q8;rw [j3];rfl
  .rfl
def dR:=k_a f131
def iB:=Ap [wG] (og [FY] (a8 [LJ,Ud,LW]))
abbrev MJ:List Nat:=[1,1,1,1,1,1,1,0,0,0]
abbrev Dn:List Nat:=[1,1,1,1,1,1,1,1,1,0,1,0,0]
abbrev uz:List Nat:=[1,1,1,1,1,1,1,1,1,0,1,0,0,1,0,0]
abbrev GM:List Nat:=[1,1,1,1,1,1,1,1,1,0,1,0,0,1,0,0,1,1,0,1,0,0]
abbrev GN:List Nat:=[1,1,1,1,1,1,1,1,1,0,1,0,0,1,0,0,1,1,1,1,0,1,0]
abbrev MK:List Nat:=[1,1,1,1,1,1,1,1,1,0,1,0,0,1,0,0,1,1,1,1,0,1,0,1,1,0,1,0,0]
def ML (a b:List Int) (f:Int):bH:={n:=206,sl:=[(0,lv a),(1,lv b),(8,mF 64 [f])],bJ:=[(64,mG [f])],next:=65}
def AZ (a b:List Int) (f:Int):bH:={n:=206,sl:=[(0,lv a),(1,lv b),(8,lv [f])],bJ:=[],next:=64}
def sD (a v:List Int) (f:Int) (u:List Int):bH:={n:=206,sl:=[(0,lv a),(8,lv [f]),(9,lv v),(10,iv v.length),(11,mF 64 u)],bJ:=[(64,mG u)],next:=65}
abbrev Dp (u:List Int):fE:= .blk (.own 3 (.int .i64) u)
section
variable (v:List Int) (f:Int) (c:aZ) (u q:List Int)
def gR (z:Int):bH:={n:=206,sl:=[(8,lv [f]),(9,lv v),(10,iv v.length),(11,wF u.length c),(12,mF 65 q),(13,iv z)],bJ:=[(64,Dp u),(65,mG q)],next:=66}
def oz (z t bo:Int) (i:Nat):bH:={n:=206,sl:=[(8,lv [f]),(9,lv v),(10,iv v.length),(11,wF u.length c),(12,mF 65 q),(13,iv z),(14,iv t),(15,iv bo),(16,iv i)],bJ:=[(64,Dp u),(65,mG q)],next:=66}
def yG (z t:Int) (x:Bool):bH:={n:=206,sl:=[(8,lv [f]),(9,lv v),(10,iv v.length),(11,wF u.length c),(12,mF 65 q),(13,iv z),(14,iv t),(145,bv x)],bJ:=[(64,Dp u),(65,mG q)],next:=66}
def sF (z t cS:Int) (i:Nat):bH:={n:=206,sl:=[(8,lv [f]),(9,lv v),(10,iv v.length),(11,wF u.length c),(12,mF 65 q),(13,iv z),(14,iv t),(19,iv cS),(20,iv i)],bJ:=[(64,Dp u),(65,mG q)],next:=66}
def MM (z t:Int):bH:={n:=206,sl:=[(8,lv [f]),(9,lv v),(10,iv v.length),(11,wF u.length c),(12,mF 65 q),(13,iv z),(14,iv t)],bJ:=[(64,Dp u),(65,mG q)],next:=66}
end
abbrev ny:Sv.Ren:=[(64,64,none),(65,65,none)]
section
variable (a b:List Int) (h1:(okA a&&okA b)=true)
def aiE (h2:kR (ag a) (ag b)<0):
  bf iB (fl dR []) 3 206 [lv a,lv b] 3 f131 false (.tuple [lv [],lv a]):=
 wy [aa h1,ah h2] 129
def aiF (h2:¬kR (ag a) (ag b)<0) (h3:(b.length:Int)=1) (h4:Int.toNat 0<b.length) (h5:(okB a&&(decide ((1:av.den (.int .i64))<=b.getD (Int.toNat 0) 0)&&decide (b.getD (Int.toNat 0) 0<(1000000000:av.den (.int .i64)))))=true) (h6:1*1<=(iv (ag a%List.getD b (Int.toNat 0) 0)::List.append._f [] PUnit.unit (List.flatten._f [] PUnit.unit)).length) (h7:List.length [ag a%List.getD b (Int.toNat 0) 0]<=1000000) (h8:(aG (ag a/List.getD b (Int.toNat 0) 0))=(aG (ag a/List.getD b 0 0))) (h9:(ei [ag a%List.getD b (Int.toNat 0) 0])=(ei [ag a%List.getD b 0 0])):
  bf iB (fl dR []) 5 206 [lv a,lv b] 6 f131 false (.tuple [lv (aG (ag a/b.getD 0 0)),lv (ei [ag a%b.getD 0 0])]):=
 wy [aa h1,aK h2,cT h3,ah h4,aa h5,aa (show(Nat.ble ((0:Nat)+(1:Nat)*(1:Nat)) (iv (ag a%List.getD b (0:Int).toNat (0:Int))::List.append._f [] PUnit.unit (List.flatten._f [] PUnit.unit)).length)=true from(by simp only [aw]<;>exact fA h6)),ah h7,ax h8,ax h9] 164412590477291649
def aiG (h2:¬kR (ag a) (ag b)<0) (h3:¬(b.length:Int)=1) (h4: -9223372036854775808<=(b.length:Int)-1/\(b.length:Int)-1<=9223372036854775807) (h5:(0:Int)<=(b.length:Int)-1) (h6:((b.length:Int)-1).toNat<b.length) (h7: -9223372036854775808<=b.getD ((b.length:Int)-1).toNat (0:Int)+1/\b.getD ((b.length:Int)-1).toNat (0:Int)+1<=9223372036854775807) (h8:b.getD ((b.length:Int)-1).toNat (0:Int)+1≠0) (h9: -9223372036854775808<=Int.tdiv (1000000000:Int) (b.getD ((b.length:Int)-1).toNat (0:Int)+1)/\Int.tdiv (1000000000:Int) (b.getD ((b.length:Int)-1).toNat (0:Int)+1)<=9223372036854775807) (h10:(iv (Int.tdiv (1000000000:Int) (b.getD ((b.length:Int)-1).toNat (0:Int)+1))::List.append._f [] PUnit.unit (List.flatten._f [] PUnit.unit))=(List.flatMap (fun x=>[iv x]) [Int.tdiv (1000000000:Int) (b.getD ((b.length:Int)-1).toNat (0:Int)+1)])):
  aD.path (pG prog iB (fl dR []) 6 206 [lv a,lv b]) (dl 4) (dU prog 206 .normal [(64,64,some 1)] (ML a b (Int.tdiv 1000000000 (b.getD ((b.length:Int)-1).toNat 0+1)))):=
 mp (Ls h1 (ab h2) (eN.mpr h3) (eL h4) (ay h5) (oc (ay h6) (eL h7) (ay h8) (eL h9) (rr a) (rr b) (an (rr (1:Nat)) (an (rr (aZ.known (1:Nat))) (rr (bK (List.length [Int.tdiv (1000000000:Int) (b.getD ((b.length:Int)-1).toNat (0:Int)+1)]))))) (an h10 (rr (1:Nat))) trivial))
end
def aiH (a b:List Int) (f:Int):
  aD.path (aD.ret (R.normal ((ML a b f).T.set 8 (some (lv [f]))) ((ML a b f).H.drop 64) []):aD R) (dl 1) (dU prog 206 .normal [] (AZ a b f)):=
 wy [] 0
def aiI (a b:List Int) (f:Int) (h1:(okB b&&okB [f])=true) (h2:(okB a&&okB [f])=true) (h3:(Nat.beq (aG (ag a*ag [f])).length 0)=false) (h4:(aG (ag a*ag [f])).length<=1000000) (h5:(aZ.full)=(bK (aG (ag a*ag [f])).length)) (h6:(bQ (.int .i64) none++aG (ag a*ag [f]))=(aG (ag a*ag [f]))):
  cV iB ((fl dR []).drop 6) 3 (AZ a b f) 2 .normal [(64,65,none)] (sD a (aG (ag b*ag [f])) f (aG (ag a*ag [f]))):=
 wy [aa h1,aa h2,aa h3,aa (show(bounded ((0:Nat)+(aG (ag a*ag [f])).length) (8:Nat))=true from(by simp only [aw]<;>exact pI h4 ω)),ax (show((0:Nat)+(aG (ag a*ag [f])).length)=((aG (ag a*ag [f])).length)from(by simp only [aw]<;>rfl)),ax h5,pH prog 3 (.int .i64) h6] 2144323318104297413804161
section
variable (a v:List Int) (f:Int) (u:List Int) (h1:i6 ((a.length:Int)+1))
def aiJ (h2:(u.length:Int)<(a.length:Int)+1) (h3:u.length+1<=1000000) (h4:(u.length+1)=(u++[0]).length) (h5:(aZ.full)=(bK (u++[0]).length)):
  bB iB (fl dR MJ) (sD a v f u) 5 .normal [(64,66,none)] (sD a v f (u++[0])):=
 wy [yi h1,ah h2,yk 3 (.int .i64) u,lJ 8 h3,ax h4,ax h5,od 3 (.int .i64) (Eq.refl (u++[(0:Int)]))] 2144323318104297463349377
def aiK (h2:¬(u.length:Int)<(a.length:Int)+1):
  bB iB (fl dR MJ) (sD a v f u) 2 (.exit 0) [(64,64,none)] (sD a v f u):=
 wy [yi h1,aK h2] 129
end
def aiL (a v:List Int) (f:Int) (x:Int) (l:List Int) (h1: -9223372036854775808<=(↑(x::l).length:Int)-(v.length:Int)/\(↑(x::l).length:Int)-(v.length:Int)<=9223372036854775807) (h2:(0:Int)<=(↑(x::l).length:Int)-(v.length:Int)) (h3:((↑(x::l).length:Int)-(v.length:Int)).toNat<=1000000) (h4: -9223372036854775808<=(↑(x::l).length:Int)-(v.length:Int)-1/\(↑(x::l).length:Int)-(v.length:Int)-1<=9223372036854775807) (h5:(((↑(x::l).length:Int)-(v.length:Int)).toNat)=(gi ((l.length:Int)+1-(v.length:Int)).toNat).length) (h6:(aZ.known ((↑(x::l).length:Int)-(v.length:Int)).toNat)=(aZ.known ((l.length:Int)+1-(v.length:Int)).toNat)) (h7:(bK (gi ((l.length:Int)+1-(v.length:Int)).toNat).length)=(bK ((l.length:Int)+1-(v.length:Int)).toNat)) (h8:((↑(x::l).length:Int)-(v.length:Int)-1)=((l.length:Int)+1-(v.length:Int)-1)) (h9:(List.flatten (List.replicate ((↑(x::l).length:Int)-(v.length:Int)).toNat (List.map af.raw (Array.toList #[Value.int .i64 (0:Int)]))))=(List.flatMap (fun x=>[iv x]) (gi ((l.length:Int)+1-(v.length:Int)).toNat))) (h10:(((l.length:Int)+1-(v.length:Int)).toNat)=(gi ((l.length:Int)+1-(v.length:Int)).toNat).length):
  aD.path (vM prog iB ((fl dR []).drop 10) 2 (sD a v f (x::l))) (dl 1) (dU prog 206 .normal [(64,64,none),(65,65,some ((l.length:Int)+1-v.length).toNat)] (gR v f (bK (l.length+1)) (x::l) (gi ((l.length:Int)+1-v.length).toNat) ((l.length:Int)+1-v.length-1))):=
 mp (adG (eL h1) (ay h2) (ay h2) (show(decide (((↑(x::l).length:Int)-(v.length:Int)).toNat<=((↑(x::l).length:Int)-(v.length:Int)).toNat))=true from ay ω) (show(bounded ((↑(x::l).length:Int)-(v.length:Int)).toNat (8:Nat))=true from pI h3 ω) (eL h1) (eL h4) (oc (rr ([f])) (rr v) (rr (v.length:Int)) (an (rr (0:Nat)) (an (rr (x::l).length) (rr (bK (x::l).length)))) (an h5 (an h6 h7)) h8 (rr (x::l)) (an h9 h10) trivial))
section
variable (v:List Int) (f:Int) (c:aZ) (u q:List Int)
def aiM (z:Int) (h1:z>=0):
  cV iB (fl dR Dn) 2 (gR v f c u q z) 3 .normal ny (gR v f c u q z):=
 wy [ah h1] 1
def aiN (z:Int) (h1:¬z>=0):
  cV iB (fl dR Dn) 2 (gR v f c u q z) 2 (.exit 2) ny (gR v f c u q z):=
 wy [aK h1] 1
def aiO (z:Int) (h1:(bz (gN.e wG) (gN.t wG) (some (bq.own 3 (.int .i64) u)) (u.length-1)&&Nat.ble 1 u.length)=true) (h2:(AW u 0 u.length v z)=true):
  cV iB (fl dR uz) 3 (gR v f c u q z) 1 .normal ny (oz v f c u q z (q6 u v z) 0 0):=
 wy [aa (show(bz (gN.e wG) (gN.t wG) (some (bq.own 3 (.int .i64) u)) ((0:Nat)+u.length-(1:Nat))&&Nat.ble (1:Nat) u.length)=true from(by simp only [aw]<;>exact h1)),aa h2] 129
def aiP (z t bo:Int) (i:Nat) (h1:(i:Int)<(v.length:Int)) (h2:i<v.length) (h3:i6 (t*v.getD i 0)) (h4:i6 (t*v.getD i 0+bo)) (h5:i6 ((i:Int)+z)) (h6:0<=(i:Int)+z) (h7:((i:Int)+z).toNat<u.length) (h8:(bz 3 (.int .i64) (some (bq.own 3 (.int .i64) u)) ((i:Int)+z).toNat)=true) (h9:i6 (u.getD ((i:Int)+z).toNat 0-Int.tmod (t*v.getD i 0+bo) 1000000000)) (h10:i6 (Int.tdiv (t*v.getD i 0+bo) 1000000000)) (h11:u.getD ((i:Int)+z).toNat 0-Int.tmod (t*v.getD i 0+bo) 1000000000<0) (h12:i6 (u.getD ((i:Int)+z).toNat 0-Int.tmod (t*v.getD i 0+bo) 1000000000+1000000000)) (dL:i6 (Int.tdiv (t*v.getD i 0+bo) 1000000000+1)) (gQ:i6 ((i:Int)+1)) (je:u.length=(u.set ((i:Int)+z).toNat (u.getD ((i:Int)+z).toNat 0-Int.tmod (t*v.getD i 0+bo) 1000000000+1000000000)).length):
  bB iB (fl dR GM) (oz v f c u q z t bo i) 7 .normal ny (oz v f c (u.set ((i:Int)+z).toNat (u.getD ((i:Int)+z).toNat 0-Int.tmod (t*v.getD i 0+bo) 1000000000+1000000000)) q z t (Int.tdiv (t*v.getD i 0+bo) 1000000000+1) (i+1)):=
 wy [ah h1,ah h2,yi h3,yi h4,yi h5,ah h6,ah h7,aa (show(bz 3 (.int .i64) (some (bq.own 3 (.int .i64) u)) ((0:Nat)+((i:Int)+z).toNat))=true from(by simp only [aw]<;>exact h8)),aa (show(fits IntKind.i64 (u.getD ((0:Nat)+((i:Int)+z).toNat) (0:Int)-Int.tmod (t*v.getD i (0:Int)+bo) (1000000000:Int)))=true from(by simp only [aw]<;>exact eL h9)),yi h10,aa (show(decide (u.getD ((0:Nat)+((i:Int)+z).toNat) (0:Int)-Int.tmod (t*v.getD i (0:Int)+bo) (1000000000:Int)<(0:Int)))=true from(by simp only [aw]<;>exact ay h11)),aa (show(fits IntKind.i64 (u.getD ((0:Nat)+((i:Int)+z).toNat) (0:Int)-Int.tmod (t*v.getD i (0:Int)+bo) (1000000000:Int)+(1000000000:Int)))=true from(by simp only [aw]<;>exact eL h12)),yi dL,yi gQ,ax je,ax (show(u.set ((0:Nat)+((i:Int)+z).toNat) (u.getD ((0:Nat)+((i:Int)+z).toNat) (0:Int)-Int.tmod (t*v.getD i (0:Int)+bo) (1000000000:Int)+(1000000000:Int)))=(u.set ((i:Int)+z).toNat (u.getD ((i:Int)+z).toNat (0:Int)-Int.tmod (t*v.getD i (0:Int)+bo) (1000000000:Int)+(1000000000:Int)))from(by simp only [aw]<;>rfl))] 411376139330301531947457705006383748541443296955200566048071681
def aiQ (z t bo:Int) (i:Nat) (h1:(i:Int)<(v.length:Int)) (h2:i<v.length) (h3:i6 (t*v.getD i 0)) (h4:i6 (t*v.getD i 0+bo)) (h5:i6 ((i:Int)+z)) (h6:0<=(i:Int)+z) (h7:((i:Int)+z).toNat<u.length) (h8:(bz 3 (.int .i64) (some (bq.own 3 (.int .i64) u)) ((i:Int)+z).toNat)=true) (h9:i6 (u.getD ((i:Int)+z).toNat 0-Int.tmod (t*v.getD i 0+bo) 1000000000)) (h10:i6 (Int.tdiv (t*v.getD i 0+bo) 1000000000)) (h11:¬u.getD ((i:Int)+z).toNat 0-Int.tmod (t*v.getD i 0+bo) 1000000000<0) (h12:i6 ((i:Int)+1)) (dL:u.length=(u.set ((i:Int)+z).toNat (u.getD ((i:Int)+z).toNat 0-Int.tmod (t*v.getD i 0+bo) 1000000000)).length):
  bB iB (fl dR GM) (oz v f c u q z t bo i) 5 .normal ny (oz v f c (u.set ((i:Int)+z).toNat (u.getD ((i:Int)+z).toNat 0-Int.tmod (t*v.getD i 0+bo) 1000000000)) q z t (Int.tdiv (t*v.getD i 0+bo) 1000000000) (i+1)):=
 wy [ah h1,ah h2,yi h3,yi h4,yi h5,ah h6,ah h7,aa (show(bz 3 (.int .i64) (some (bq.own 3 (.int .i64) u)) ((0:Nat)+((i:Int)+z).toNat))=true from(by simp only [aw]<;>exact h8)),aa (show(fits IntKind.i64 (u.getD ((0:Nat)+((i:Int)+z).toNat) (0:Int)-Int.tmod (t*v.getD i (0:Int)+bo) (1000000000:Int)))=true from(by simp only [aw]<;>exact eL h9)),yi h10,aa (show(decide (u.getD ((0:Nat)+((i:Int)+z).toNat) (0:Int)-Int.tmod (t*v.getD i (0:Int)+bo) (1000000000:Int)<(0:Int)))=false from(by simp only [aw]<;>exact ab h11)),yi h12,ax dL,ax (show(u.set ((0:Nat)+((i:Int)+z).toNat) (u.getD ((0:Nat)+((i:Int)+z).toNat) (0:Int)-Int.tmod (t*v.getD i (0:Int)+bo) (1000000000:Int)))=(u.set ((i:Int)+z).toNat (u.getD ((i:Int)+z).toNat (0:Int)-Int.tmod (t*v.getD i (0:Int)+bo) (1000000000:Int)))from(by simp only [aw]<;>rfl))] 87879424295413535223539924311789743421980991760571879399425
def aiR (z t bo:Int) (i:Nat) (h1:¬(i:Int)<(v.length:Int)):
  bB iB (fl dR GM) (oz v f c u q z t bo i) 2 (.exit 4) ny (oz v f c u q z t bo i):=
 wy [aK h1] 1
def aiS (z t bo:Int) (i:Nat) (h1:i6 (z+(v.length:Int))) (h2:0<=z+(v.length:Int)) (h3:(z+(v.length:Int)).toNat<u.length) (h4:(bz 3 (.int .i64) (some (bq.own 3 (.int .i64) u)) (z+(v.length:Int)).toNat)=true) (h5:i6 (u.getD (z+(v.length:Int)).toNat 0-bo)) (h6:(bz 3 (.int .i64) (some (bq.own 3 (.int .i64) (u.set (z+(v.length:Int)).toNat (u.getD (z+(v.length:Int)).toNat 0-bo)))) (z+(v.length:Int)).toNat)=true) (h7:u.length=(u.set (z+(v.length:Int)).toNat (u.getD (z+(v.length:Int)).toNat 0-bo)).length) (h8:(decide ((u.set (z+(v.length:Int)).toNat (u.getD (z+(v.length:Int)).toNat 0-bo)).getD (z+(v.length:Int)).toNat 0<0))=(decide ((u.set (z+(v.length:Int)).toNat (u.getD (z+(v.length:Int)).toNat 0-bo)).getD (z+(v.length:Int)).toNat 0<0))):
  cV iB ((fl dR uz).drop 4) 2 (oz v f c u q z t bo i) 1 .normal ny (yG v f c (u.set (z+(v.length:Int)).toNat (u.getD (z+(v.length:Int)).toNat 0-bo)) q z t (decide ((u.set (z+(v.length:Int)).toNat (u.getD (z+(v.length:Int)).toNat 0-bo)).getD (z+(v.length:Int)).toNat 0<0))):=
 wy [yi h1,ah h2,ah h3,aa (show(bz 3 (.int .i64) (some (bq.own 3 (.int .i64) u)) ((0:Nat)+(z+(v.length:Int)).toNat))=true from(by simp only [aw]<;>exact h4)),aa (show(fits IntKind.i64 (u.getD ((0:Nat)+(z+(v.length:Int)).toNat) (0:Int)-bo))=true from(by simp only [aw]<;>exact eL h5)),aa (show(bz 3 (.int .i64) (some (bq.own 3 (.int .i64) (u.set ((0:Nat)+(z+(v.length:Int)).toNat) (u.getD ((0:Nat)+(z+(v.length:Int)).toNat) (0:Int)-bo)))) ((0:Nat)+(z+(v.length:Int)).toNat))=true from(by simp only [aw]<;>exact h6)),ax h7,ax (show(decide ((u.set ((0:Nat)+(z+(v.length:Int)).toNat) (u.getD ((0:Nat)+(z+(v.length:Int)).toNat) (0:Int)-bo)).getD ((0:Nat)+(z+(v.length:Int)).toNat) (0:Int)<(0:Int)))=(decide ((u.set (z+(v.length:Int)).toNat (u.getD (z+(v.length:Int)).toNat (0:Int)-bo)).getD (z+(v.length:Int)).toNat (0:Int)<(0:Int)))from(by simp only [aw]<;>exact h8)),ax (show(u.set ((0:Nat)+(z+(v.length:Int)).toNat) (u.getD ((0:Nat)+(z+(v.length:Int)).toNat) (0:Int)-bo))=(u.set (z+(v.length:Int)).toNat (u.getD (z+(v.length:Int)).toNat (0:Int)-bo))from(by simp only [aw]<;>rfl))] 13023635195941919408873694419534707774213333057
def aiT (z t:Int) (h1:0<=z) (h2:z.toNat<q.length) (h3:q.length=(q.set z.toNat t).length) (h4:(bK q.length)=(bK (q.set z.toNat t).length)):
  bB iB ((fl dR uz).drop 6) (yG v f c u q z t false) 2 .normal ny (gR v f c u (q.set z.toNat t) z):=
 wy [ah h1,ah h2,ja 3 (.int .i64) h2,ax h3,ax h4,mE 3 (.int .i64) (Eq.refl (q.set z.toNat t))] 7427664142692601176974434368
def aiU (z t:Int) (h1:i6 (t-1)):
  cV iB (fl dR GN) 3 (yG v f c u q z t true) 1 .normal ny (sF v f c u q z (t-1) 0 0):=
 wy [yi h1] 1
def aiV (z t cS:Int) (i:Nat) (h1:(i:Int)<(v.length:Int)) (h2:i6 ((i:Int)+z)) (h3:0<=(i:Int)+z) (h4:((i:Int)+z).toNat<u.length) (h5:(bz 3 (.int .i64) (some (bq.own 3 (.int .i64) u)) ((i:Int)+z).toNat)=true) (h6:i<v.length) (h7:i6 (u.getD ((i:Int)+z).toNat 0+v.getD i 0)) (h8:i6 (u.getD ((i:Int)+z).toNat 0+v.getD i 0+cS)) (h9:i6 (Int.tdiv (u.getD ((i:Int)+z).toNat 0+v.getD i 0+cS) 1000000000)) (h10:i6 ((i:Int)+1)) (h11:u.length=(u.set ((i:Int)+z).toNat (Int.tmod (u.getD ((i:Int)+z).toNat 0+v.getD i 0+cS) 1000000000)).length):
  bB iB (fl dR MK) (sF v f c u q z t cS i) 3 .normal ny (sF v f c (u.set ((i:Int)+z).toNat (Int.tmod (u.getD ((i:Int)+z).toNat 0+v.getD i 0+cS) 1000000000)) q z t (Int.tdiv (u.getD ((i:Int)+z).toNat 0+v.getD i 0+cS) 1000000000) (i+1)):=
 wy [ah h1,yi h2,ah h3,ah h4,aa (show(bz 3 (.int .i64) (some (bq.own 3 (.int .i64) u)) ((0:Nat)+((i:Int)+z).toNat))=true from(by simp only [aw]<;>exact h5)),aa (aF (v:=iv (u.getD ((0:Nat)+((i:Int)+z).toNat) (0:Int)))),ah h6,aa (aF (v:=iv (v.getD i (0:Int)))),aa (show(fits IntKind.i64 (u.getD ((0:Nat)+((i:Int)+z).toNat) (0:Int)+v.getD i (0:Int)))=true from(by simp only [aw]<;>exact eL h7)),aa (show(fits IntKind.i64 (u.getD ((0:Nat)+((i:Int)+z).toNat) (0:Int)+v.getD i (0:Int)+cS))=true from(by simp only [aw]<;>exact eL h8)),aa (show(fits IntKind.i64 (Int.tdiv (u.getD ((0:Nat)+((i:Int)+z).toNat) (0:Int)+v.getD i (0:Int)+cS) (1000000000:Int)))=true from(by simp only [aw]<;>exact eL h9)),yi h10,ax h11,ax (show(Int.tdiv (u.getD ((0:Nat)+((i:Int)+z).toNat) (0:Int)+v.getD i (0:Int)+cS) (1000000000:Int))=(Int.tdiv (u.getD ((i:Int)+z).toNat (0:Int)+v.getD i (0:Int)+cS) (1000000000:Int))from(by simp only [aw]<;>rfl)),ax (show(u.set ((0:Nat)+((i:Int)+z).toNat) (Int.tmod (u.getD ((0:Nat)+((i:Int)+z).toNat) (0:Int)+v.getD i (0:Int)+cS) (1000000000:Int)))=(u.set ((i:Int)+z).toNat (Int.tmod (u.getD ((i:Int)+z).toNat (0:Int)+v.getD i (0:Int)+cS) (1000000000:Int)))from(by simp only [aw]<;>rfl))] 6027390781975829659609134758914141726976902255265616766185601
def aiW (z t cS:Int) (i:Nat) (h1:¬(i:Int)<(v.length:Int)):
  bB iB (fl dR MK) (sF v f c u q z t cS i) 2 (.exit 6) ny (sF v f c u q z t cS i):=
 wy [aK h1] 1
def aiX (z t cS:Int) (i:Nat) (h1:i6 (z+(v.length:Int))) (h2:0<=z+(v.length:Int)) (h3:(z+(v.length:Int)).toNat<u.length) (h4:(bz 3 (.int .i64) (some (bq.own 3 (.int .i64) u)) (z+(v.length:Int)).toNat)=true) (h5:i6 (u.getD (z+(v.length:Int)).toNat 0+cS)) (h6:u.length=(u.set (z+(v.length:Int)).toNat (u.getD (z+(v.length:Int)).toNat 0+cS)).length):
  bB iB ((fl dR GN).drop 4) (sF v f c u q z t cS i) 1 .normal ny (MM v f c (u.set (z+(v.length:Int)).toNat (u.getD (z+(v.length:Int)).toNat 0+cS)) q z t):=
 wy [yi h1,ah h2,ah h3,aa (show(bz 3 (.int .i64) (some (bq.own 3 (.int .i64) u)) ((0:Nat)+(z+(v.length:Int)).toNat))=true from(by simp only [aw]<;>exact h4)),aa (show(fits IntKind.i64 (u.getD ((0:Nat)+(z+(v.length:Int)).toNat) (0:Int)+cS))=true from(by simp only [aw]<;>exact eL h5)),ax h6,ax (show(u.set ((0:Nat)+(z+(v.length:Int)).toNat) (u.getD ((0:Nat)+(z+(v.length:Int)).toNat) (0:Int)+cS))=(u.set (z+(v.length:Int)).toNat (u.getD (z+(v.length:Int)).toNat (0:Int)+cS))from(by simp only [aw]<;>rfl))] 9304595970496224499057210602646413377
def aiY (z t:Int) (h1:0<=z) (h2:z.toNat<q.length) (h3:q.length=(q.set z.toNat t).length) (h4:(bK q.length)=(bK (q.set z.toNat t).length)):
  bB iB ((fl dR uz).drop 7) (MM v f c u q z t) 1 .normal ny (gR v f c u (q.set z.toNat t) z):=
 wy [ah h1,ah h2,ja 3 (.int .i64) h2,ax h3,ax h4,mE 3 (.int .i64) (Eq.refl (q.set z.toNat t))] 116057252229571893390225537
def aiZ (z:Int) (h1:i6 (z-1)):
  bB iB ((fl dR Dn).drop 3) (gR v f c u q z) 1 .normal ny (gR v f c u q (z-1)):=
 wy [yi h1] 1
def ai0 (z:Int) (h1:v.length<=u.length) (h2:(Nat.beq v.length 0||bz 3 (.int .i64) (some (bq.own 3 (.int .i64) u)) (v.length-1))=true) (h3:((u.drop 0).take v.length).length<=1000000) (h4:Int.toNat 0<List.length [f]) (h5:(okB (ei ((u.drop 0).take v.length))&&(decide ((1:av.den (.int .i64))<=List.getD [f] (Int.toNat 0) 0)&&decide (List.getD [f] (Int.toNat 0) 0<(1000000000:av.den (.int .i64)))))=true) (h6:(Nat.beq q.length 0||bz 3 (.int .i64) (a7 3 (.int .i64) q) (q.length-1))=true) (h7:((q.drop 0).take q.length).length<=1000000) (h8:(aG (ag (ei ((u.drop 0).take v.length))/List.getD [f] (Int.toNat 0) 0))=(aG (ag (ei ((u.drop 0).take v.length))/f))):
  bW iB ((fl dR []).drop 13) (gR v f c u q z) 3 f131 false (.tuple [lv (ei ((q.drop 0).take q.length)),lv (aG (ag (ei ((u.drop 0).take v.length))/f))]):=
 wy [ah h1,aa (show(Nat.beq v.length (0:Nat)||bz 3 (.int .i64) (some (bq.own 3 (.int .i64) u)) ((0:Nat)+v.length-(1:Nat)))=true from(by simp only [aw]<;>exact h2)),ah h3,ah h4,aa (aF (v:=iv (List.getD [f] (0:Int).toNat (0:Int)))),aa h5,aa (show(Nat.beq q.length (0:Nat)||bz 3 (.int .i64) (a7 3 (.int .i64) q) ((0:Nat)+q.length-(1:Nat)))=true from(by simp only [aw]<;>exact h6)),aa (show(decide ((((bQ (.int .i64) (a7 3 (.int .i64) q)).drop (0:Nat)).take q.length).length<=(1000000:Nat)))=true from(by simp only [ey]<;>exact ay h7)),ax (show(ei (((bQ (.int .i64) (a7 3 (.int .i64) q)).drop (0:Nat)).take q.length))=(ei ((q.drop (0:Nat)).take q.length))from(by simp only [ey]<;>rfl)),ax h8] 196186516682196595138105344
end
end
def ai1 {v1 v2 v' aI u1 u2 u' s:Int} (p:Av 1000000000 v1 v2 v' aI u1 u2 u' s) (hn:500000000<=v1) (hlt:nk 1000000000 aI u1 u2 u' s<1000000000*gC 1000000000 v1 v2 v' s) {Q:Int} (wH:0<=Q) (hQ:Q*gC 1000000000 v1 v2 v' s<=nk 1000000000 aI u1 u2 u' s) (GO:Q<1000000000) (Uh:∀T,(T-1)*gC 1000000000 v1 v2 v' s<=nk 1000000000 aI u1 u2 u' s->T<=Q+1):
  ∀(f:Nat) (t r:Int),aI*1000000000+u1=t*v1+r->0<=r->Q<=t->(f=2\/(f=1/\1000000000<=r+v1))->Q<=oy v1 v2 u2 f t r/\oy v1 v2 u2 f t r<=Q+1:=by
 have sG:aI*1000000000+u1<1000000000*(v1+1):=by
  have hs:=p.s1;have h2:=p.v2;have h3:=p.v';have g2:=p.u2;have g3:=p.u';unfold nk gC at hlt;have a1:((aI*1000000000+u1)*1000000000+u2)*s=(aI*1000000000+u1)*(1000000000*s)+u2*s:=by rw [Int.add_mul,Int.mul_assoc]
  have a3:(v1*1000000000+v2)*s=v1*(1000000000*s)+v2*s:=by rw [Int.add_mul,Int.mul_assoc]
  have a2:0<=u2*s:=Int.mul_nonneg g2.1 ω;have a4:v2*s<=999999999*s:=ar ω ω;have a5:(1000000000*(v1+1))*(1000000000*s)=1000000000*(v1*(1000000000*s)+1000000000*s):=by rw [Int.mul_assoc,Int.add_mul,Int.one_mul]
  rw [a1,a3]at hlt;refine S6 (x:=1000000000*s) ?_ ω;rw [a5];generalize v1*(1000000000*s)=dx at*;generalize v2*s=z2 at*;generalize u2*s=z3 at*;generalize (aI*1000000000+u1)*(1000000000*s)=z4 at*;omega
 intro f;induction f with
 |zero=>intro t r _ _ _ hf;omega
 |succ g ih=>
  intro t r he hr ai2 hf;have Dq:aI*1000000000+u1-t*v1=r:=by omega
  unfold oy;by_cases hc:1000000000<=t\/r*1000000000+u2<t*v2
  .rw [if_pos hc];have hlt2:Q<t:=by
    rcases hc with hc|hc
    .omega
    .exact S7 p ω hQ (by rw [Dq];exact hc)
   have et:(t-1)*v1=t*v1-v1:=by rw [Int.sub_mul,Int.one_mul]
   by_cases h4:1000000000<=r+v1
   .rw [if_pos h4];refine⟨by omega, ?_⟩;have Ui:t-1<1000000000:=by
     refine Int.not_le.1 fun hh=> ?_
     have:=ar hh (show 0<=v1 by omega);omega
    exact Uh _ (Lw p ⟨by omega,Ui⟩ (S8 p ⟨by omega,Ui⟩ ω))
   .rw [if_neg h4];exact ih (t-1) (r+v1) ω ω ω ω
  .rw [if_neg hc];exact⟨ai2,Uh _ (Lw p ⟨by omega,by omega⟩ (by rw [Dq];omega))⟩
def MN {u:List Int} {j m i:Nat} (h:i<m):((u.drop j).take m).getD i 0=u.getD (j+i) 0:=by
 simp only [ao,List.getElem?_take,List.getElem?_drop,if_pos h]
def ai3 {u v:List Int} {j n:Nat} (hu:aS 1000000000 u) (hv:aS 1000000000 v) (lv:v.length=n+2) (bI:j+(n+3)<=u.length) (h1:500000000<=v.getD (n+1) 0) (hW:ag ((u.drop j).take (n+3))<1000000000*ag v):
  ag ((u.drop j).take (n+3))/ag v<=q6 u v j/\q6 u v j<=ag ((u.drop j).take (n+3))/ag v+1:=by
 have hD:aS 1000000000 ((u.drop j).take (n+3)):=(hu.drop _).take _;have GP:((u.drop j).take (n+3)).length=n+3:=by rw [eE,nQ];omega
 have p:=LA (b:=1000000000) δ hD hv GP lv ω;have sB:gC 1000000000 (v.getD (n+1) 0) (v.getD n 0) (vl 1000000000 (v.take n)) (1000000000^n)=ag v:=LB lv;have AX:=LC (b:=1000000000) GP;have iA:0<ag v:=by
  rw [<-sB];unfold gC;have q1:=p.v1;have aQ:=p.v2;have b8:=p.v';have eo:=p.s1;have:1*1<=(v.getD (n+1) 0*1000000000+v.getD n 0)*1000000000^n:=Int.mul_le_mul ω eo ω ω;omega
 have GQ:0<=ag ((u.drop j).take (n+3)):=gD hD;have i0:((j:Int)+(v.length:Int)).toNat=j+(n+2):=by omega
 have i1:((j:Int)+(v.length:Int)-1).toNat=j+(n+1):=by omega
 have i2:((j:Int)+(v.length:Int)-2).toNat=j+n:=by omega
 have i3:((v.length:Int)-1).toNat=n+1:=by omega
 have i4:((v.length:Int)-2).toNat=n:=by omega
 have d0:=MN (u:=u) (j:=j) (m:=n+3) (i:=n+2) ω;have d1:=MN (u:=u) (j:=j) (m:=n+3) (i:=n+1) ω;have d2:=MN (u:=u) (j:=j) (m:=n+3) (i:=n) ω;have hQ:=Int.ediv_mul_le (ag ((u.drop j).take (n+3))) (show ag v≠0 by omega);have GO:ag ((u.drop j).take (n+3))/ag v<1000000000:=(Int.ediv_lt_iff_lt_mul iA).2 hW;have GR:nk 1000000000 (((u.drop j).take (n+3)).getD (n+2) 0) (((u.drop j).take (n+3)).getD (n+1) 0) (((u.drop j).take (n+3)).getD n 0) (vl 1000000000 (((u.drop j).take (n+3)).take n)) (1000000000^n)=ag ((u.drop j).take (n+3)):=AX;have q1:=p.aI;have aQ:=p.u1;have Dk:0<=((u.drop j).take (n+3)).getD (n+2) 0*1000000000+((u.drop j).take (n+3)).getD (n+1) 0:=by omega
 have key:=ai1 p h1 (by rw [GR,sB];exact hW) (Q:=ag ((u.drop j).take (n+3))/ag v) (Int.ediv_nonneg GQ ω) (by rw [GR,sB];exact hQ) GO (fun T hT=>by
  rw [GR,sB]at hT;have:=Int.le_ediv_of_mul_le iA hT;omega) 2 ((((u.drop j).take (n+3)).getD (n+2) 0*1000000000+((u.drop j).take (n+3)).getD (n+1) 0)/v.getD (n+1) 0) ((((u.drop j).take (n+3)).getD (n+2) 0*1000000000+((u.drop j).take (n+3)).getD (n+1) 0)%v.getD (n+1) 0) (by
   have:=Int.emod_add_mul_ediv (((u.drop j).take (n+3)).getD (n+2) 0*1000000000+((u.drop j).take (n+3)).getD (n+1) 0) (v.getD (n+1) 0);rw [Int.mul_comm (v.getD (n+1) 0)]at this;omega) (dM _ ω) (by
   have hf:=S9 p (q:=ag ((u.drop j).take (n+3))/ag v) (Int.ediv_nonneg GQ ω) (by rw [GR,sB];exact hQ);exact Int.le_ediv_of_mul_le ω hf) (.inl rfl)
 have ai4:q6 u v j=oy (v.getD (n+1) 0) (v.getD n 0) (((u.drop j).take (n+3)).getD n 0) 2 ((((u.drop j).take (n+3)).getD (n+2) 0*1000000000+((u.drop j).take (n+3)).getD (n+1) 0)/v.getD (n+1) 0) ((((u.drop j).take (n+3)).getD (n+2) 0*1000000000+((u.drop j).take (n+3)).getD (n+1) 0)%v.getD (n+1) 0):=by
  rw [d0,d1,d2];unfold q6 fw cI nx pQ;rw [Int.toNat_natCast,i0,i1,i2,i3,i4]
 rw [ai4];exact key
structure Dr (d0 v:List Int) (t:Int) (n:Nat) (d:List Int) (bo:Int) (i:Nat):Prop where
 len:d.length=n+1
 dg:aS 1000000000 (d.take n)
 top:d.getD n 0=d0.getD n 0
 qo:0<=bo/\bo<=1000000000
 val:ag d-1000000000^i*bo=ag d0-t*ag (v.take i)
def xC {d:List Int} {n i:Nat} (h:i<n):(d.take n).getD i 0=d.getD i 0:=by
 simp only [ao,List.getElem?_take,if_pos h]
def Uj {d:List Int} {n i:Nat} (h:aS 1000000000 (d.take n)) (hi:i<n):0<=d.getD i 0/\d.getD i 0<1000000000:=by
 rw [<-xC hi];exact h.get δ i
def Dr.step {d0 v:List Int} {t:Int} {n:Nat} {d:List Int} {bo:Int} {i:Nat} (I:Dr d0 v t n d bo i) (hi:i<n) {x r5:Int} (hx:0<=x/\x<1000000000) (hb:0<=r5/\r5<=1000000000) (he:x-1000000000*r5=d.getD i 0-(t*v.getD i 0+bo)):Dr d0 v t n (d.set i x) r5 (i+1):=by
 have hl:=I.len;refine⟨by rw [b9];exact hl,by rw [List.take_set];exact I.dg.set hx,by rw [ox,if_neg ω];exact I.top,hb, ?_⟩;have hv:=I.val;unfold ag at hv ⊢;rw [qM _ _ _ _ ω,kQ v,Int.pow_succ];generalize vl 1000000000 d=dx at*;generalize vl 1000000000 d0=z2 at*;generalize vl 1000000000 (v.take i)=z3 at*;generalize (1000000000:Int)^i=P at*;generalize d.getD i 0=y at*;generalize v.getD i 0=w at*;have e:P*(x-1000000000*r5)=P*(y-(t*w+bo)):=by rw [he]
 grind
def ai5 {t w bo:Int} (ht:0<=t/\t<=1000000000) (hw:0<=w/\w<1000000000) (hb:0<=bo/\bo<=1000000000):
  (0<=t*w/\t*w<=999999999000000000)/\Int.tmod (t*w+bo) 1000000000+1000000000*Int.tdiv (t*w+bo) 1000000000=t*w+bo/\(0<=Int.tmod (t*w+bo) 1000000000/\Int.tmod (t*w+bo) 1000000000<1000000000)/\(0<=Int.tdiv (t*w+bo) 1000000000/\Int.tdiv (t*w+bo) 1000000000<=1000000000):=by
 have h0:0<=t*w:=Int.mul_nonneg ht.1 hw.1;have h1:t*w<=1000000000*999999999:=Int.mul_le_mul ht.2 ω hw.1 δ;rw [Int.tmod_eq_emod_of_nonneg ω,Int.tdiv_eq_ediv_of_nonneg ω];generalize t*w=p at*;omega
structure Ds (d0 v:List Int) (n:Nat) (d:List Int) (cS:Int) (i:Nat):Prop where
 len:d.length=n+1
 dg:aS 1000000000 (d.take n)
 top:d.getD n 0=d0.getD n 0
 qo:0<=cS/\cS<=1
 val:ag d+1000000000^i*cS=ag d0+ag (v.take i)
def Ds.step {d0 v:List Int} {n:Nat} {d:List Int} {cS:Int} {i:Nat} (I:Ds d0 v n d cS i) (hi:i<n) {x A0:Int} (hx:0<=x/\x<1000000000) (hb:0<=A0/\A0<=1) (he:x+1000000000*A0=d.getD i 0+v.getD i 0+cS):Ds d0 v n (d.set i x) A0 (i+1):=by
 have hl:=I.len;refine⟨by rw [b9];exact hl,by rw [List.take_set];exact I.dg.set hx,by rw [ox,if_neg ω];exact I.top,hb, ?_⟩;have hv:=I.val;unfold ag at hv ⊢;rw [qM _ _ _ _ ω,kQ v,Int.pow_succ];generalize vl 1000000000 d=dx at*;generalize vl 1000000000 d0=z2 at*;generalize vl 1000000000 (v.take i)=z3 at*;generalize (1000000000:Int)^i=P at*;generalize d.getD i 0=y at*;generalize v.getD i 0=w at*;have e:P*(x+1000000000*A0)=P*(y+w+cS):=by rw [he]
 grind
section
variable {d:List Int} {n:Nat}
def GS (hl:d.length=n+1) (hd:aS 1000000000 (d.take n)):ag d=ag (d.take n)+1000000000^n*d.getD n 0/\0<=ag (d.take n)/\ag (d.take n)<1000000000^n:=by
 have h1:=dC (b:=1000000000) (l:=d) (k:=n) ω;rw [eT ω]at h1;have h2:=fK (b:=1000000000) δ hd;rw [eE,Nat.min_eq_left ω]at h2;exact⟨h1,gD hd,h2⟩
def ai6 (hl:d.length=n+1) (hd:aS 1000000000 (d.take n)):d.getD n 0<0↔ag d<0:=by
 obtain⟨h1,h2,h3⟩:=GS hl hd;have hP:=dD (b:=1000000000) δ n;generalize d.getD n 0=x at*;constructor
 .intro hx;have:=dZ (show x<= -1 by omega) (cq hP);omega
 .intro hx;refine Int.not_le.1 fun h=> ?_
  have:=Int.mul_nonneg (cq hP) h;omega
def Uk {R:Int} (hl:d.length=n+1) (hd:aS 1000000000 (d.take n)) (hv:ag d=R) (h0:0<=R) (h1:R<1000000000^n):d=fL 1000000000 (n+1) R:=by
 obtain⟨g1,g2,g3⟩:=GS hl hd;have hP:=dD (b:=1000000000) δ n;have hx:d.getD n 0=0:=by
  generalize d.getD n 0=x at*;rcases Int.lt_trichotomy x 0 with h|h|h
  .have:=dZ (show x<= -1 by omega) (cq hP);omega
  .exact h
  .have:=dZ (show 1<=x by omega) (cq hP);omega
 have hdd:aS 1000000000 d:=by
  have e:=S2 (l:=d) (k:=n) ω;rw [eT ω,hx]at e;rw [e];exact hd.app (.cons ⟨Int.le_refl _,by decide⟩ .nil)
 have:=Lz δ hdd;rw [hl]at this;rw [<-hv];exact this
end
noncomputable section
def Dt:bD prog (bF iB):=SS (fun c hc=>by rw [List.mem_singleton.1 hc];exact aid) (uf (fun c hc=>by rw [List.mem_singleton.1 hc];exact LK) (cM fun c hc=>by
 simp only [ek,jO,or_false]at hc;rcases hc with rfl |rfl |rfl
 .exact Tm
 .exact ah9
 .exact TE))
def yH {p d r:List Int} {n:Nat} (h:d.length=n+1):(p++(d++r)).length=p.length+(n+1)+r.length:=by
 simp only [cW,h];omega
abbrev Ul (v:List Int) (f:Int) (c:aZ) (u q:List Int) (z:Int):Exit->au af->ai->Prop:=fun e T H=>e= .normal/\T=(gR v f c u q z).T/\H=(gR v f c u q z).H
section
variable {v:List Int} {f:Int} {c:aZ} {p d0 r q:List Int}
def ai7 {t R:Int} {n:Nat} (hv:aS 1000000000 v) (lv:v.length=n) (nc:1<=n) (hn:n<=1000000) (hp:p.length<=1000000) (hq:p.length<q.length) (GU:d0.length=n+1) (hd:aS 1000000000 (d0.take n)) (ht: -1000000000<=d0.getD n 0/\d0.getD n 0<=1000000000) (ht1:0<=t/\t<=1000000000) (hR:ag d0+ag v=R) (h0:0<=R) (h1:R<1000000000^n) (w:World) (F:Sv.Env):
  aW prog w F 206 ((fl dR uz).drop 6) (yG v f c (p++(d0++r)) q (p.length:Int) t true).T (yG v f c (p++(d0++r)) q (p.length:Int) t true).H (Ul v f c (p++(fL 1000000000 (n+1) R++r)) (q.set p.length (t-1)) (p.length:Int)):=by
 have hS:=Dt;refine Ug (X:=pE) (o:= .tmp 145) (x:=cat dR GN) (y:= .skip) (rest:=(fl dR uz).drop 7) (by kernel_rfl) (by kernel_rfl) ?_;refine cX (s:=yG v f c (p++(d0++r)) q (p.length:Int) t true) hS 3 (aiU v f c (p++(d0++r)) q (p.length:Int) t ω) ?_;refine aW.loop (ι:={x:List Int×Int×Nat//x.2.2<=n/\Ds d0 v n x.1 x.2.1 x.2.2}) (id:=6) (b:=cat dR MK) (rest:=(fl dR GN).drop 4) (by kernel_rfl) (fun x=>sF v f c (p++(x.1.1++r)) q (p.length:Int) (t-1) x.1.2.1 x.1.2.2) (fun x=>n-x.1.2.2)
  ⟨(d0,0,0),Nat.zero_le _,⟨GU,hd,rfl,⟨Int.le_refl 0,show(0:Int)<=1 by decide⟩,by simp [ag,vl]⟩⟩ (fun _=>rfl) ?_
 rintro⟨⟨d,cS,i⟩,hi,I⟩;have hi:i<=n:=hi;have I:Ds d0 v n d cS i:=I;have hl:=I.len;have hc:=I.qo;have hL:=yH (p:=p) (r:=r) hl;have kN:((i:Int)+(p.length:Int)).toNat=p.length+i:=by omega
 have bJ:((p.length:Int)+(v.length:Int)).toNat=p.length+n:=by omega
 by_cases hlt:i<n
 .have ai8:=Uj I.dg hlt;have wD:=hv.get δ i;have hs0:0<=d.getD i 0+v.getD i 0+cS:=by omega
  have key:=aiV v f c (p++(d++r)) q (p.length:Int) (t-1) cS i ω ω ω;rw [kN,fa ω,ux ω,Int.tmod_eq_emod_of_nonneg hs0,Int.tdiv_eq_ediv_of_nonneg hs0]at key;refine bE (s:=sF v f c (p++(d++r)) q (p.length:Int) (t-1) cS i) hS (key ω (pR ω) ω ω ω ω ω (by simp only [cW,b9])) ?_;have N:=I.step hlt (x:=(d.getD i 0+v.getD i 0+cS)%1000000000) (A0:=(d.getD i 0+v.getD i 0+cS)/1000000000) ω ω ω;exact⟨⟨(_,_,i+1),by show i+1<=n;omega,N⟩,by show n-(i+1)<n-i;omega,rfl,rfl⟩
 .obtain rfl:i=n:=by omega
  refine bE (s:=sF v f c (p++(d++r)) q (p.length:Int) (t-1) cS i) hS (aiW v f c _ q _ (t-1) cS i ω) ?_;refine cG (cO ?_);have sG:=I.top;have key:=aiX v f c (p++(d++r)) q (p.length:Int) (t-1) cS i ω ω;rw [bJ,fa ω,ux ω]at key;have hval:=I.val;rw [eT ω]at hval;have l2:(d.set i (d.getD i 0+cS)).length=i+1:=by rw [b9];exact hl
  have g2:aS 1000000000 ((d.set i (d.getD i 0+cS)).take i):=by rw [Aw];exact I.dg
  have v2:ag (d.set i (d.getD i 0+cS))=R:=by
   unfold ag at hval hR ⊢;rw [qM _ _ _ _ ω,show d.getD i 0+cS-d.getD i 0=cS by omega];omega
  have e2:=Uk l2 g2 v2 h0 h1;rw [e2]at key;refine bE (s:=sF v f c (p++(d++r)) q (p.length:Int) (t-1) cS i) hS (key ω (pR ω) ω (by rw [hL,yH (yf _ _ _)])) ?_;have kP:=aiY v f c (p++(fL 1000000000 (i+1) R++r)) q (p.length:Int) (t-1);rw [Int.toNat_natCast]at kP;refine bE (s:=MM v f c (p++(fL 1000000000 (i+1) R++r)) q (p.length:Int) (t-1)) hS (kP ω hq (by rw [b9]) (by rw [b9])) ?_;exact⟨rfl,rfl,rfl⟩
def ai9 {V:Int} {n:Nat} (hu:aS 1000000000 (p++(d0++r))) (hv:aS 1000000000 v) (lv:v.length=n) (nc:2<=n) (fI:(p++(d0++r)).length<=1000000) (hq:p.length<q.length) (GU:d0.length=n+1) (hV:ag v=V) (iA:0<V) (sH:V<1000000000^n) (sG:500000000<=v.getD (n-1) 0) (hW:ag d0<1000000000*V) (w:World) (F:Sv.Env):
  aW prog w F 206 (fl dR uz) (gR v f c (p++(d0++r)) q (p.length:Int)).T (gR v f c (p++(d0++r)) q (p.length:Int)).H (Ul v f c (p++(fL 1000000000 (n+1) (ag d0%V)++r)) (q.set p.length (ag d0/V)) (p.length:Int)):=by
 have hS:=Dt;have hL:=yH (p:=p) (r:=r) GU;have CV:aS 1000000000 d0:=hu.right.left;have wJ:((p++(d0++r)).drop p.length).take (n+1)=d0:=by
  rw [List.drop_append,Nat.sub_self,List.drop_zero,List.drop_eq_nil_of_le (aJ _),List.nil_append,List.take_append,eT ω,show n+1-d0.length=0 by omega,List.take_zero,List.append_nil]
 obtain⟨m,rfl⟩:∃m,n=m+2:=⟨n-2,by omega⟩;have hg:=ai3 (u:=p++(d0++r)) (j:=p.length) (n:=m) hu hv lv ω sG (by rw [wJ,hV];exact hW);rw [wJ,hV]at hg;have GQ:0<=ag d0:=gD CV;have GO:ag d0/V<1000000000:=(Int.ediv_lt_iff_lt_mul iA).2 hW;have wH:0<=ag d0/V:=Int.ediv_nonneg GQ (cq iA);have tT:=Int.emod_add_mul_ediv (ag d0) V;have hm0:=dM (ag d0) (show V≠0 by omega);have pN:=er (ag d0) iA;have hpre:AW (p++(d0++r)) 0 (p++(d0++r)).length v (p.length:Int)=true:=by
  unfold AW;have i3:((v.length:Int)-1).toNat=m+1:=by omega
  have h5:500000000<=cI v:=by unfold cI;rw [i3];exact sG
  rw [Nat.beq_refl,Nat.beq_refl,C6.2 hu,C6.2 hv,ay (show 2<=v.length by omega),ay (show(0:Int)<=(p.length:Int) by omega),ay (show(p.length:Int)+(v.length:Int)<((p++(d0++r)).length:Int) by omega),ay h5,ay fI];rfl
 have hown:(bz (gN.e wG) (gN.t wG) (some (bq.own 3 (.int .i64) (p++(d0++r)))) ((p++(d0++r)).length-1)&&Nat.ble 1 (p++(d0++r)).length)=true:=by
  rw [fA ω,Bool.and_true];exact pR ω
 refine cX (s:=gR v f c (p++(d0++r)) q (p.length:Int)) hS 3 (aiO v f c (p++(d0++r)) q (p.length:Int) hown hpre) ?_;generalize ht:q6 (p++(d0++r)) v (p.length:Int)=t at hg ⊢;refine aW.loop (ι:={x:List Int×Int×Nat//x.2.2<=m+2/\Dr d0 v t (m+2) x.1 x.2.1 x.2.2}) (id:=4) (b:=cat dR GM) (rest:=(fl dR uz).drop 4) (by kernel_rfl) (fun x=>oz v f c (p++(x.1.1++r)) q (p.length:Int) t x.1.2.1 x.1.2.2) (fun x=>m+2-x.1.2.2)
  ⟨(d0,0,0),Nat.zero_le _,⟨GU,CV.take _,rfl,⟨Int.le_refl 0,show(0:Int)<=1000000000 by decide⟩,by simp [ag,vl]⟩⟩ (fun _=>rfl) ?_
 rintro⟨⟨d,bo,i⟩,hi,I⟩;have hi:i<=m+2:=hi;have I:Dr d0 v t (m+2) d bo i:=I;have hl:=I.len;have hc:=I.qo;have hL:=yH (p:=p) (r:=r) hl;have kN:((i:Int)+(p.length:Int)).toNat=p.length+i:=by omega
 have bJ:((p.length:Int)+(v.length:Int)).toNat=p.length+(m+2):=by omega
 by_cases hlt:i<m+2
 .have ai8:=Uj I.dg hlt;have wD:=hv.get δ i;obtain⟨s1,s2,s3,GV⟩:=ai5 (t:=t) (w:=v.getD i 0) (bo:=bo) ω wD hc;by_cases hneg:d.getD i 0-Int.tmod (t*v.getD i 0+bo) 1000000000<0
  .have key:=aiP v f c (p++(d++r)) q (p.length:Int) t bo i ω ω ω ω ω ω;rw [kN,fa ω,ux ω]at key;have N:=I.step hlt (x:=d.getD i 0-Int.tmod (t*v.getD i 0+bo) 1000000000+1000000000) (r5:=Int.tdiv (t*v.getD i 0+bo) 1000000000+1) ω ω ω;refine bE (s:=oz v f c (p++(d++r)) q (p.length:Int) t bo i) hS (key ω (pR ω) ω ω hneg ω ω ω (by simp only [cW,b9])) ?_;exact⟨⟨(_,_,i+1),by show i+1<=m+2;omega,N⟩,by show m+2-(i+1)<m+2-i;omega,rfl,rfl⟩
  .have key:=aiQ v f c (p++(d++r)) q (p.length:Int) t bo i ω ω ω ω ω ω;rw [kN,fa ω,ux ω]at key;have N:=I.step hlt (x:=d.getD i 0-Int.tmod (t*v.getD i 0+bo) 1000000000) (r5:=Int.tdiv (t*v.getD i 0+bo) 1000000000) ω ω ω;refine bE (s:=oz v f c (p++(d++r)) q (p.length:Int) t bo i) hS (key ω (pR ω) ω ω hneg ω (by simp only [cW,b9])) ?_;exact⟨⟨(_,_,i+1),by show i+1<=m+2;omega,N⟩,by show m+2-(i+1)<m+2-i;omega,rfl,rfl⟩
 .obtain rfl:i=m+2:=by omega
  refine bE (s:=oz v f c (p++(d++r)) q (p.length:Int) t bo (m+2)) hS (aiR v f c _ q _ t bo (m+2) ω) ?_;refine cG (cO ?_);have auu:=I.top;have hx0:=CV.get δ (m+2);have key:=aiS v f c (p++(d++r)) q (p.length:Int) t bo (m+2) ω ω;rw [bJ,fa ω,ux ω,fa (by rw [b9];omega),vX ω]at key;have hval:=I.val;rw [eT ω,hV]at hval;have l2:(d.set (m+2) (d.getD (m+2) 0-bo)).length=m+2+1:=by rw [b9];exact hl
  have g2:aS 1000000000 ((d.set (m+2) (d.getD (m+2) 0-bo)).take (m+2)):=by rw [Aw];exact I.dg
  have t2:(d.set (m+2) (d.getD (m+2) 0-bo)).getD (m+2) 0=d.getD (m+2) 0-bo:=vX ω;have v2:ag (d.set (m+2) (d.getD (m+2) 0-bo))=ag d0-t*V:=by
   rw [<-hval];unfold ag;rw [qM _ _ _ _ ω,show d.getD (m+2) 0-bo-d.getD (m+2) 0= -bo by omega,Int.mul_neg];omega
  have ou:=ai6 l2 g2;rw [t2,v2]at ou;refine cX (s:=oz v f c (p++(d++r)) q (p.length:Int) t bo (m+2)) hS 2 (key ω (pR ω) ω (pR (by rw [yH l2];omega)) (by rw [hL,yH l2]) rfl) ?_;have auv:=yH (p:=p) (r:=r) l2;by_cases hneg:d.getD (m+2) 0-bo<0
  .rw [ay hneg];have hR:=ou.1 hneg;have ht:t=ag d0/V+1:=by
    rcases Int.lt_or_le (ag d0/V) t with h|h
    .omega
    .have e:t=ag d0/V:=by omega
     rw [e,Int.mul_comm]at hR;omega
   have e1:ag d0-t*V+V=ag d0%V:=by
    rw [ht,Int.add_mul,Int.one_mul,Int.mul_comm (ag d0/V)];omega
   have e2:t-1=ag d0/V:=by omega
   rw [<-e2];exact ai7 hv lv ω ω ω hq l2 g2 (by rw [t2];omega) ω (by rw [v2,hV];exact e1) hm0 ω w F
  .rw [ab hneg];have hR:¬ag d0-t*V<0:=fun h=>hneg (ou.2 h)
   have ht:t=ag d0/V:=by
    rcases Int.lt_or_le (ag d0/V) t with h|h
    .have e:t=ag d0/V+1:=by omega
     rw [e,Int.add_mul,Int.one_mul,Int.mul_comm (ag d0/V)]at hR;omega
    .omega
   have e1:ag d0-t*V=ag d0%V:=by
    rw [ht,Int.mul_comm (ag d0/V)];omega
   have e2:=Uk l2 g2 (v2.trans e1) hm0 ω;have kP:=aiT v f c (p++(fL 1000000000 (m+2+1) (ag d0%V)++r)) q (p.length:Int) t;rw [Int.toNat_natCast]at kP;rw [e2,<-ht];refine bE (s:=yG v f c (p++(fL 1000000000 (m+2+1) (ag d0%V)++r)) q (p.length:Int) t false) hS (kP ω hq (by rw [b9]) (by rw [b9])) ?_;exact⟨rfl,rfl,rfl⟩
end
abbrev Um (x y:List Int):Exit->au af->ai->Prop:=gZ prog false f131 (.tuple [lv x,lv y])
def aja {u:List Int} {j n:Nat} (h:j+(n+1)<=u.length):u=u.take j++((u.drop j).take (n+1)++u.drop (j+(n+1)))/\(u.take j).length=j/\((u.drop j).take (n+1)).length=n+1:=by
 refine⟨?_,by rw [eE];omega,by rw [eE,nQ];omega⟩;rw [show u.drop (j+(n+1))=(u.drop j).drop (n+1) by rw [List.drop_drop],List.take_append_drop,List.take_append_drop]
def ajb {v:List Int} {f A B:Int} {c:aZ} {aI:List Int} {n m:Nat} (A1:aS 1000000000 aI) (hv:aS 1000000000 v) (lv:v.length=n) (hn:2<=n) (hm:m+n=aI.length) (pN:1<=m) (fI:aI.length<=200000) (hf:1<=f/\f<1000000000)
  (hV:ag v=B*f) (uA:0<B) (lS:0<=A) (AU:ag aI=A*f) (kB:ag (aI.drop m)<ag v) (sG:500000000<=v.getD (n-1) 0) (w:World) (F:Sv.Env):
  aW prog w F 206 ((fl dR []).drop 12) (gR v f c aI (gi m) ((m:Int)-1)).T (gR v f c aI (gi m) ((m:Int)-1)).H (Um (aG (A/B)) (aG (A%B))):=by
 have hS:=Dt;have iA:0<ag v:=by rw [hV];exact Int.mul_pos uA ω
 have sH:ag v<1000000000^n:=by rw [<-lv];exact fK δ hv
 have MO:∀k,(gi m).getD k 0=0:=fun k=>by
  unfold gi;rw [ao,List.getElem?_replicate];split<;>rfl
 refine aW.loop (ι:={x:List Int×List Int×Nat//x.2.2<=m/\x.1.length=aI.length/\aS 1000000000 x.1/\x.2.1.length=m/\aS 1000000000 x.2.1/\ag (x.1.drop x.2.2)<ag v/\ag x.1+ag v*ag x.2.1=A*f/\∀j,j<x.2.2->x.2.1.getD j 0=0}) (id:=2) (b:=cat dR Dn) (rest:=(fl dR []).drop 13) (by kernel_rfl) (fun x=>gR v f c x.1.1 x.1.2.1 ((x.1.2.2:Int)-1)) (fun x=>x.1.2.2)
  ⟨(aI,gi m,m),aJ _,rfl,A1,d8 _,L0 _,kB, ?_,fun j _=>MO j⟩ (fun _=>rfl) ?_
 .show ag aI+ag v*ag (gi m)=_;have:ag (gi m)=0:=CZ _ m;rw [this,AU];omega
 rintro⟨⟨u,q,k⟩,hk,hl,iP,hq,ji,kB,hval,hz⟩;have hk:k<=m:=hk;have hl:u.length=aI.length:=hl;have iP:aS 1000000000 u:=iP;have hq:q.length=m:=hq;have ji:aS 1000000000 q:=ji;have kB:ag (u.drop k)<ag v:=kB;have hval:ag u+ag v*ag q=A*f:=hval;have hz:∀j,j<k->q.getD j 0=0:=hz;cases k with
 |zero=>
  refine cX (s:=gR v f c u q ((0:Nat)-1:Int)) hS 2 (aiN v f c u q _ ω) ?_;refine cG (cG (cO ?_));rw [List.drop_zero]at kB;have pS:0<=ag u:=gD iP;obtain⟨g1,g2⟩:=Mk (A:=A) (b:=B) (V:=ag v) (S:=f) (U:=ag u) (q:=ag q) ω uA hV hval pS kB;have uy:0<=f*(A%B):=by rw [<-g2];exact pS
  have ht:ag (u.take n)=f*(A%B):=by
   rw [<-g2];exact C1 δ iP (Int.lt_trans kB sH)
  have e1:ei ((u.drop 0).take v.length)=aG (f*(A%B)):=by
   rw [List.drop_zero,lv,yj (iP.take _),ht]
  have e2:ag (aG (f*(A%B)))/f=A%B:=by
   rw [(gx uy).2.2,Int.mul_ediv_cancel_left _ ω]
  have hlen:(aG (f*(A%B))).length<=n:=yo kT uy (by rw [<-g2];exact Int.lt_trans kB sH);have key:=ai0 v f c u q ((0:Nat)-1:Int) ω (by
   rw [Bool.or_eq_true];exact .inr (pR ω)) (by rw [eE,List.drop_zero];omega) τ (by
   rw [e1,oh.2 ⟨(gx uy).1,by omega⟩];rw [ay (show(1:Int)<=List.getD [f] (Int.toNat 0) 0 from hf.1),ay (show List.getD [f] (Int.toNat 0) 0<(1000000000:Int)from hf.2)];rfl) (AB _ q) (by rw [List.drop_zero,dI];omega) rfl
  rw [e1,e2,List.drop_zero,dI,yj ji,<-g1]at key;exact b5 (s:=gR v f c u q ((0:Nat)-1:Int)) hS key
 |succ j=>
  have j3:(((j+1:Nat):Int)-1)=(j:Int):=by omega
  obtain⟨w1,w2,w3⟩:=Mj (b:=1000000000) δ iP (j:=j) (n:=n) (V:=ag v) ω (cq sH) kB;obtain⟨c1,c2,c3⟩:=aja (u:=u) (j:=j) (n:=n) ω;obtain⟨n1,n2,n3,sw⟩:=TQ (b:=1000000000) δ iP (j:=j) (n:=n) (V:=ag v) ω iA (cq sH) kB rfl;have MP:0<=ag ((u.drop j).take (n+1)):=gD ((iP.drop j).take _);have wJ:ag ((u.drop j).take (n+1))<1000000000*ag v:=by unfold ag;rw [<-w1];exact w2
  have wH:0<=ag ((u.drop j).take (n+1))/ag v:=Int.ediv_nonneg MP (cq iA);have GI:ag ((u.drop j).take (n+1))/ag v<1000000000:=(Int.ediv_lt_iff_lt_mul iA).2 wJ;show cg _ _ _ _ _ _ (gR v f c u q (((j+1:Nat):Int)-1)).T (gR v f c u q (((j+1:Nat):Int)-1)).H _;rw [j3];refine cX (s:=gR v f c u q (j:Int)) hS 2 (aiM v f c u q (j:Int) ω) ?_;refine FP (id:=3) (c:=cat dR uz) (rest:=(fl dR Dn).drop 3) (by kernel_rfl) ?_;have hW:=ai9 (f:=f) (c:=c) (p:=u.take j) (d0:=(u.drop j).take (n+1)) (r:=u.drop (j+(n+1))) (q:=q) (V:=ag v) (n:=n) (by rw [<-c1];exact iP) hv lv hn (by rw [<-c1];omega) (by rw [c2];omega) c3 rfl iA sH sG wJ w F;rw [<-c1,c2]at hW;refine aW.mono (fun e T H hQ=> ?_) hW;obtain⟨rfl,rfl,rfl⟩:=hQ;have hnx:=aiZ v f c (u.take j++(fL 1000000000 (n+1) (ag ((u.drop j).take (n+1))%ag v)++u.drop (j+(n+1)))) (q.set j (ag ((u.drop j).take (n+1))/ag v)) (j:Int) ω;refine bE (s:=gR v f c _ _ (j:Int)) hS hnx ?_;refine⟨⟨(_,_,j),by show j<=m;omega,n1.trans hl,n2,by show(q.set j _).length=m;rw [b9];exact hq,ji.set ⟨wH,GI⟩,sw, ?_,fun i hi=> ?_⟩,fB _,rfl,rfl⟩
  .have qL:ag (q.set j (ag ((u.drop j).take (n+1))/ag v))=ag q+1000000000^j*(ag ((u.drop j).take (n+1))/ag v):=by
    have h0:=hz j (fB _);show vl 1000000000 _=vl 1000000000 _+_;rw [qM _ _ _ _ ω,h0,Int.sub_zero]
   have MQ:ag (u.take j++(fL 1000000000 (n+1) (ag ((u.drop j).take (n+1))%ag v)++u.drop (j+(n+1))))+1000000000^j*(ag ((u.drop j).take (n+1))/ag v)*ag v=ag u:=n3;show ag (u.take j++(fL 1000000000 (n+1) (ag ((u.drop j).take (n+1))%ag v)++u.drop (j+(n+1))))+ag v*ag (q.set j (ag ((u.drop j).take (n+1))/ag v))=_;rw [qL,<-hval,<-MQ];generalize ag (u.take j++(fL 1000000000 (n+1) (ag ((u.drop j).take (n+1))%ag v)++u.drop (j+(n+1))))=x1;generalize ag ((u.drop j).take (n+1))/ag v=x2;generalize (1000000000:Int)^j=x3;generalize ag q=qJ;generalize ag v=vT;grind
  .have hi:i<j:=hi;show(q.set j _).getD i 0=0;rw [ox,if_neg ω];exact hz i ω
end
end Go.Proofs.YtibikmmdbdlafaaGreatDoor
