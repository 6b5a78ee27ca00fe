import Derived.Test.YtibikmmdbdlafaaGreatDoorZnVSh
set_option linter.defProp false
set_option linter.unusedSimpArgs false
set_option linter.unusedVariables false
set_option maxRecDepth 100000
namespace Go.Proofs.YtibikmmdbdlafaaGreatDoor
open Go.RowKit Sv Go.Proofs.Tryz
noncomputable section
def uw (P:Program) (fn:Func) (e:TypeId) (t:av) (xs:List t.den) (res:af):R->Prop
 | .ret T H []=>(match jX P fn T H with
   | .ok v _=>cG true H v res/\(match H.get 64 with
     |some (.own e' t' ys)=>ic (Nat.beq e e') (pF t' t ys xs)
     |_=>False)
   |_=>False)
 |_=>False
def fo:=k_a f226
def jK:=a7 [Gc,Mb]
abbrev AO:List Nat:=[1,1,1,1,1,0,0,0]
abbrev Gz:List Nat:=[1,1,1,1,1,1,1,0,1,0,0]
abbrev GA:List Nat:=[1,1,1,1,1,1,1,1,1,1,1,0,1,0,0]
abbrev yx (v:List Int) (k:Nat) (cap:bh):af:= .bU 167 aG 64 k (v.length+1) cap
abbrev GB (xs:List Int):List (Nat×fS):=[(64, .blk (.own 167 aG xs))]
abbrev kf:Sv.Ren:=[(64,64,none)]
section
variable (xs v:List Int) (k:Nat) (cap:bh)
def gx (q r o:Int):bI:={n:=186,sl:=[(0,yx v k cap),(1,bJ v),(5,iv v.length),(6,cu q),(7,cu r),(8,cu o)],bH:=GB xs,next:=65}
def kg (q c b:Int) (i:Nat):bI:={n:=186,sl:=[(0,yx v k cap),(1,bJ v),(5,iv v.length),(6,cu q),(11,cu b),(12,cu c),(104,iv v.length),(105,iv i)],bH:=GB xs,next:=65}
def ux (q b:Int):bI:={n:=186,sl:=[(0,yx v k cap),(1,bJ v),(5,iv v.length),(6,cu q),(11,cu b)],bH:=GB xs,next:=65}
def kF (q c:Int) (i:Nat):bI:={n:=186,sl:=[(0,yx v k cap),(1,bJ v),(5,iv v.length),(6,cu q),(17,cu c),(156,iv v.length),(157,iv i)],bH:=GB xs,next:=65}
end
def kG (q x c:Int):Int:=c9 (cO q x) c 0
def qY (q x c:Int):Int:=IntKind.wrap .u64 (fO q x+dX (cO q x) c 0)
def pS (q:Int):Int:=IntKind.wrap .u64 (q-1)
section
variable (xs v:List Int) (k:Nat) (cap:bh)
def ahv (h1:(bA 167 aG (some (bq.own 167 aG xs)) (k+v.length))=true) (h2:i6 ((v.length:Int)-1)) (h3:0<=(v.length:Int)-1) (h4:((v.length:Int)-1).toNat<v.length) (h5:xs.getD (k+v.length) 0>=v.getD ((v.length:Int)-1).toNat 0) (h6:(bA 167 aG (some (bq.own 167 aG xs)) (k+((v.length:Int)-1).toNat))=true) (h7:(↑(((xs.getD (k+((v.length:Int)-1).toNat) 0).toNat+(v.getD ((v.length:Int)-1).toNat 0).toNat+Int.toNat 0)%(2:Nat)^(64:Nat)):Int)=(c9 (xs.getD (k+((v.length:Int)-1).toNat) 0) (v.getD ((v.length:Int)-1).toNat 0) 0)) (h8:(↑(((xs.getD (k+((v.length:Int)-1).toNat) 0).toNat+(v.getD ((v.length:Int)-1).toNat 0).toNat+Int.toNat 0)/(2:Nat)^(64:Nat)):Int)=(dX (xs.getD (k+((v.length:Int)-1).toNat) 0) (v.getD ((v.length:Int)-1).toNat 0) 0)):
  aE.path (iE prog jK 186 ((fl fo []).take 6) (fX [yx v k cap,bJ v] .nil 0) (qF 167 aG xs)) (dl 3) (ep prog 186 .normal kf (gx xs v k cap 18446744073709551615 (c9 (xs.getD (k+((v.length:Int)-1).toNat) 0) (v.getD ((v.length:Int)-1).toNat 0) 0) (dX (xs.getD (k+((v.length:Int)-1).toNat) 0) (v.getD ((v.length:Int)-1).toNat 0) 0))):=
 wy [ah (by omega:v.length<v.length+(1:Nat)),aa h1,aa (aD (v:=af.raw (Value.int IntKind.u64 (xs.getD (k+v.length) (0:Int))))),yi h2,ah h3,ah h4,aa (aD (v:=af.raw (Value.int IntKind.u64 (v.getD ((v.length:Int)-(1:Int)).toNat (0:Int))))),ah h5,ah (by omega:((v.length:Int)-(1:Int)).toNat<v.length+(1:Nat)),aa h6,aa (aD (v:=af.raw (Value.int IntKind.u64 (xs.getD (k+((v.length:Int)-(1:Int)).toNat) (0:Int))))),ax h7,ax h8] 77094211369205276292351474339892351805825363746880
def ahw (h1:(bA 167 aG (some (bq.own 167 aG xs)) (k+v.length))=true) (h2:i6 ((v.length:Int)-1)) (h3:0<=(v.length:Int)-1) (h4:((v.length:Int)-1).toNat<v.length) (h5:¬xs.getD (k+v.length) 0>=v.getD ((v.length:Int)-1).toNat 0) (h6:(bA 167 aG (some (bq.own 167 aG xs)) (k+((v.length:Int)-1).toNat))=true) (h7:(uv (xs.getD (k+v.length) 0) (xs.getD (k+((v.length:Int)-1).toNat) 0) (v.getD ((v.length:Int)-1).toNat 0))=true):
  aE.path (iE prog jK 186 ((fl fo []).take 6) (fX [yx v k cap,bJ v] .nil 0) (qF 167 aG xs)) (dl 2) (ep prog 186 .normal kf (gx xs v k cap (kE (xs.getD (k+v.length) 0) (xs.getD (k+((v.length:Int)-1).toNat) 0) (v.getD ((v.length:Int)-1).toNat 0)) (oD (xs.getD (k+v.length) 0) (xs.getD (k+((v.length:Int)-1).toNat) 0) (v.getD ((v.length:Int)-1).toNat 0)) 0)):=
 wy [ah (by omega:v.length<v.length+(1:Nat)),aa h1,aa (aD (v:=af.raw (Value.int IntKind.u64 (xs.getD (k+v.length) (0:Int))))),yi h2,ah h3,ah h4,aa (aD (v:=af.raw (Value.int IntKind.u64 (v.getD ((v.length:Int)-(1:Int)).toNat (0:Int))))),aF h5,ah (by omega:((v.length:Int)-(1:Int)).toNat<v.length+(1:Nat)),aa h6,aa (aD (v:=af.raw (Value.int IntKind.u64 (xs.getD (k+((v.length:Int)-(1:Int)).toNat) (0:Int))))),aa h7] 17285195801427806826710116508223698747578130496
def OR (q r o:Int) (h1:o=0) (h2:i6 ((v.length:Int)-2)) (h3:0<=(v.length:Int)-2) (h4:((v.length:Int)-2).toNat<v.length) (h5:(k8 q (v.getD ((v.length:Int)-2).toNat 0))=true) (h6:¬fO q (v.getD ((v.length:Int)-2).toNat 0)<r) (h7:fO q (v.getD ((v.length:Int)-2).toNat 0)=r) (h8:(bA 167 aG (some (bq.own 167 aG xs)) (k+((v.length:Int)-2).toNat))=true) (h9:cO q (v.getD ((v.length:Int)-2).toNat 0)<=xs.getD (k+((v.length:Int)-2).toNat) 0):
  bz jK (fl fo AO) (gx xs v k cap q r o) 114687 (.exit 0) kf (gx xs v k cap q r o):=
 wy [cM h1,yi h2,ah h3,ah h4,aa h5,aa (bg (ab h6)),aa (aL (fW.mpr h7)),ah (by omega:((v.length:Int)-(2:Int)).toNat<v.length+(1:Nat)),aa h8,cM h7,aF h6,ah h9] 4242138250928964978126769479503194568536193
def ahx (q r o:Int) (h1:o=0) (h2:i6 ((v.length:Int)-2)) (h3:0<=(v.length:Int)-2) (h4:((v.length:Int)-2).toNat<v.length) (h5:(k8 q (v.getD ((v.length:Int)-2).toNat 0))=true) (h6:¬fO q (v.getD ((v.length:Int)-2).toNat 0)<r) (h7:fO q (v.getD ((v.length:Int)-2).toNat 0)=r) (h8:(bA 167 aG (some (bq.own 167 aG xs)) (k+((v.length:Int)-2).toNat))=true) (h9:¬cO q (v.getD ((v.length:Int)-2).toNat 0)<=xs.getD (k+((v.length:Int)-2).toNat) 0) (h10:i6 ((v.length:Int)-1)) (h11:0<=(v.length:Int)-1) (h12:((v.length:Int)-1).toNat<v.length) (dZ:(IntKind.wrap IntKind.u64 (q-1))=(pS q)) (iH:(↑((r.toNat+(v.getD ((v.length:Int)-1).toNat 0).toNat+Int.toNat 0)%(2:Nat)^(64:Nat)):Int)=(c9 r (v.getD ((v.length:Int)-1).toNat 0) 0)) (ke:(↑((r.toNat+(v.getD ((v.length:Int)-1).toNat 0).toNat+Int.toNat 0)/(2:Nat)^(64:Nat)):Int)=(dX r (v.getD ((v.length:Int)-1).toNat 0) 0)):
  bz jK (fl fo AO) (gx xs v k cap q r o) 81919 .normal kf (gx xs v k cap (pS q) (c9 r (v.getD ((v.length:Int)-1).toNat 0) 0) (dX r (v.getD ((v.length:Int)-1).toNat 0) 0)):=
 wy [cM h1,yi h2,ah h3,ah h4,aa h5,aa (bg (ab h6)),aa (aL (fW.mpr h7)),ah (by omega:((v.length:Int)-(2:Int)).toNat<v.length+(1:Nat)),aa h8,cM h7,aF h6,aF h9,yi h10,ah h11,ah h12,ax dZ,ax iH,ax ke] 469728077062457485352764315554227309838396813452327361610526849
def ahy (q r o:Int) (h1:o=0) (h2:i6 ((v.length:Int)-2)) (h3:0<=(v.length:Int)-2) (h4:((v.length:Int)-2).toNat<v.length) (h5:(k8 q (v.getD ((v.length:Int)-2).toNat 0))=true) (h6:¬fO q (v.getD ((v.length:Int)-2).toNat 0)<r) (h7:¬fO q (v.getD ((v.length:Int)-2).toNat 0)=r) (h8:i6 ((v.length:Int)-1)) (h9:0<=(v.length:Int)-1) (h10:((v.length:Int)-1).toNat<v.length) (h11:(IntKind.wrap IntKind.u64 (q-1))=(pS q)) (h12:(↑((r.toNat+(v.getD ((v.length:Int)-1).toNat 0).toNat+Int.toNat 0)%(2:Nat)^(64:Nat)):Int)=(c9 r (v.getD ((v.length:Int)-1).toNat 0) 0)) (dZ:(↑((r.toNat+(v.getD ((v.length:Int)-1).toNat 0).toNat+Int.toNat 0)/(2:Nat)^(64:Nat)):Int)=(dX r (v.getD ((v.length:Int)-1).toNat 0) 0)):
  bz jK (fl fo AO) (gx xs v k cap q r o) 69663 .normal kf (gx xs v k cap (pS q) (c9 r (v.getD ((v.length:Int)-1).toNat 0) 0) (dX r (v.getD ((v.length:Int)-1).toNat 0) 0)):=
 wy [cM h1,yi h2,ah h3,ah h4,aa h5,aa (bg (ab h6)),aa (aL (eB.mpr h7)),yn h7,aF h6,yi h8,ah h9,ah h10,ax h11,ax h12,ax dZ] 23327530390001849591339075209156203297049197881947336833
def ahz (q r o:Int) (h1:o=0) (h2:i6 ((v.length:Int)-2)) (h3:0<=(v.length:Int)-2) (h4:((v.length:Int)-2).toNat<v.length) (h5:(k8 q (v.getD ((v.length:Int)-2).toNat 0))=true) (h6:fO q (v.getD ((v.length:Int)-2).toNat 0)<r):
  bz jK (fl fo AO) (gx xs v k cap q r o) 449 (.exit 0) kf (gx xs v k cap q r o):=
 wy [cM h1,yi h2,ah h3,ah h4,aa h5,aa (bg (az h6)),ah h6] 8180252580288409729
def ahA (q r o:Int) (h1:¬o=0):
  bz jK (fl fo AO) (gx xs v k cap q r o) 2 (.exit 0) kf (gx xs v k cap q r o):=
 wy [yn h1] 1
def ahB (q r o:Int):
  dV jK ((fl fo []).drop 7) 2 (gx xs v k cap q r o) 1 .normal kf (kg xs v k cap q 0 0 0):=
 wy [] 0
def ahC (q c:Int) (i:Nat) (h1:(i:Int)<(v.length:Int)) (h2:i<v.length) (h3:(k8 q (v.getD i (0:Int)))=true) (h4:i<v.length+(1:Nat)) (h5:(bA 167 aG (some (bq.own 167 (.int .u64) xs)) (k+i))=true) (h6:i6 ((i:Int)+1)) (h7:(↑(if Int.toNat (xs.getD (k+i) (0:Int))<((cO q (v.getD i (0:Int))).toNat+c.toNat+(0:Int).toNat)%(2:Nat)^(64:Nat)+Int.toNat (0:Int)then(1:Nat)else(0:Nat)):Int)=(eA (xs.getD (k+i) (0:Int)) (kG q (v.getD i (0:Int)) c) (0:Int))) (h8:(IntKind.wrap IntKind.u64 (fO q (v.getD i (0:Int))+(↑(((cO q (v.getD i (0:Int))).toNat+c.toNat+(0:Int).toNat)/(2:Nat)^(64:Nat)):Int)))=(qY q (v.getD i (0:Int)) c)) (h9:(xs.set (k+i) (↑(((xs.getD (k+i) (0:Int)).toNat+(2:Nat)^(64:Nat)-((cO q (v.getD i (0:Int))).toNat+c.toNat+(0:Int).toNat)%(2:Nat)^(64:Nat)-Int.toNat (0:Int))%(2:Nat)^(64:Nat)):Int))=(xs.set (k+i) (dn (xs.getD (k+i) (0:Int)) (kG q (v.getD i (0:Int)) c) (0:Int)))):
  bz jK (fl fo Gz) (kg xs v k cap q c 0 i) 3 .normal kf (kg (xs.set (k+i) (dn (xs.getD (k+i) 0) (kG q (v.getD i 0) c) 0)) v k cap q (qY q (v.getD i 0) c) (eA (xs.getD (k+i) 0) (kG q (v.getD i 0) c) 0) (i+1)):=
 wy [ah h1,ah h2,aa h3,ah h4,aa h5,yi h6,ax h7,ax h8,ax h9] 765637957214757616603839101145321316353
def ahD (q c:Int) (i:Nat) (h1:(bA 167 aG (some (bq.own 167 (.int .u64) xs)) (k+v.length))=true) (h2:(↑(if Int.toNat (xs.getD (k+v.length) (0:Int))<c.toNat+Int.toNat (0:Int)then(1:Nat)else(0:Nat)):Int)=(eA (xs.getD (k+v.length) (0:Int)) c (0:Int))) (h3:(xs.set (k+v.length) (↑(((xs.getD (k+v.length) (0:Int)).toNat+(2:Nat)^(64:Nat)-Int.toNat c-Int.toNat (0:Int))%(2:Nat)^(64:Nat)):Int))=(xs.set (k+v.length) (dn (xs.getD (k+v.length) (0:Int)) c (0:Int)))):
  dV jK ((fl fo []).drop 10) 1 (kg xs v k cap q c 0 i) 1 .normal kf (ux (xs.set (k+v.length) (dn (xs.getD (k+v.length) 0) c 0)) v k cap q (eA (xs.getD (k+v.length) 0) c 0)):=
 wy [ah (by omega:v.length<v.length+(1:Nat)),aa h1,ax h2,ax h3] 1223092919063240274616384
def ahE (q:Int) (i:Nat) (h1:(i:Int)<(v.length:Int)) (h2:i<v.length+1) (h3:(bA 167 aG (some (bq.own 167 aG xs)) (k+i))=true) (h4:i<v.length) (h5:i6 ((i:Int)+1)) (h6:(↑(((xs.getD (k+i) 0).toNat+(v.getD i 0).toNat+Int.toNat 0)/(2:Nat)^(64:Nat)):Int)=(dX (xs.getD (k+i) 0) (v.getD i 0) 0)) (h7:(xs.set (k+i) (↑(((xs.getD (k+i) 0).toNat+(v.getD i 0).toNat+Int.toNat 0)%(2:Nat)^(64:Nat)):Int))=(xs.set (k+i) (c9 (xs.getD (k+i) 0) (v.getD i 0) 0))):
  bz jK (fl fo GA) (kF xs v k cap q 0 i) 3 .normal kf (kF (xs.set (k+i) (c9 (xs.getD (k+i) 0) (v.getD i 0) 0)) v k cap q (dX (xs.getD (k+i) 0) (v.getD i 0) 0) (i+1)):=
 wy [ah h1,ah h2,aa h3,aa (aD (v:=af.raw (Value.int IntKind.u64 (xs.getD (k+i) (0:Int))))),ah h4,aa (aD (v:=af.raw (Value.int IntKind.u64 (v.getD i (0:Int))))),yi h5,ax h6,ax h7] 49000826990114611886490290308882841214977
def ahF (q c:Int) (i:Nat) (h1:(i:Int)<(v.length:Int)) (h2:i<v.length) (h3:(k8 q (v.getD i (0:Int)))=true) (h4:i<v.length+(1:Nat)) (h5:(bA 167 aG (some (bq.own 167 (.int .u64) xs)) (k+i))=true) (h6:i6 ((i:Int)+1)) (h7:(↑(if Int.toNat (xs.getD (k+i) (0:Int))<((cO q (v.getD i (0:Int))).toNat+c.toNat+(0:Int).toNat)%(2:Nat)^(64:Nat)+Int.toNat (1:Int)then(1:Nat)else(0:Nat)):Int)=(eA (xs.getD (k+i) (0:Int)) (kG q (v.getD i (0:Int)) c) (1:Int))) (h8:(IntKind.wrap IntKind.u64 (fO q (v.getD i (0:Int))+(↑(((cO q (v.getD i (0:Int))).toNat+c.toNat+(0:Int).toNat)/(2:Nat)^(64:Nat)):Int)))=(qY q (v.getD i (0:Int)) c)) (h9:(xs.set (k+i) (↑(((xs.getD (k+i) (0:Int)).toNat+(2:Nat)^(64:Nat)-((cO q (v.getD i (0:Int))).toNat+c.toNat+(0:Int).toNat)%(2:Nat)^(64:Nat)-Int.toNat (1:Int))%(2:Nat)^(64:Nat)):Int))=(xs.set (k+i) (dn (xs.getD (k+i) (0:Int)) (kG q (v.getD i (0:Int)) c) (1:Int)))):
  bz jK (fl fo Gz) (kg xs v k cap q c 1 i) 3 .normal kf (kg (xs.set (k+i) (dn (xs.getD (k+i) 0) (kG q (v.getD i 0) c) 1)) v k cap q (qY q (v.getD i 0) c) (eA (xs.getD (k+i) 0) (kG q (v.getD i 0) c) 1) (i+1)):=
 wy [ah h1,ah h2,aa h3,ah h4,aa h5,yi h6,ax h7,ax h8,ax h9] 765637957214757616603839101145321316353
def ahG (q c:Int) (i:Nat) (h1:(bA 167 aG (some (bq.own 167 (.int .u64) xs)) (k+v.length))=true) (h2:(↑(if Int.toNat (xs.getD (k+v.length) (0:Int))<c.toNat+Int.toNat (1:Int)then(1:Nat)else(0:Nat)):Int)=(eA (xs.getD (k+v.length) (0:Int)) c (1:Int))) (h3:(xs.set (k+v.length) (↑(((xs.getD (k+v.length) (0:Int)).toNat+(2:Nat)^(64:Nat)-Int.toNat c-Int.toNat (1:Int))%(2:Nat)^(64:Nat)):Int))=(xs.set (k+v.length) (dn (xs.getD (k+v.length) (0:Int)) c (1:Int)))):
  dV jK ((fl fo []).drop 10) 1 (kg xs v k cap q c 1 i) 1 .normal kf (ux (xs.set (k+v.length) (dn (xs.getD (k+v.length) 0) c 1)) v k cap q (eA (xs.getD (k+v.length) 0) c 1)):=
 wy [ah (by omega:v.length<v.length+(1:Nat)),aa h1,ax h2,ax h3] 1223092919063240274616384
def ahH (q:Int) (i:Nat) (h1:(i:Int)<(v.length:Int)) (h2:i<v.length+1) (h3:(bA 167 aG (some (bq.own 167 aG xs)) (k+i))=true) (h4:i<v.length) (h5:i6 ((i:Int)+1)) (h6:(↑(((xs.getD (k+i) 0).toNat+(v.getD i 0).toNat+Int.toNat 1)/(2:Nat)^(64:Nat)):Int)=(dX (xs.getD (k+i) 0) (v.getD i 0) 1)) (h7:(xs.set (k+i) (↑(((xs.getD (k+i) 0).toNat+(v.getD i 0).toNat+Int.toNat 1)%(2:Nat)^(64:Nat)):Int))=(xs.set (k+i) (c9 (xs.getD (k+i) 0) (v.getD i 0) 1))):
  bz jK (fl fo GA) (kF xs v k cap q 1 i) 3 .normal kf (kF (xs.set (k+i) (c9 (xs.getD (k+i) 0) (v.getD i 0) 1)) v k cap q (dX (xs.getD (k+i) 0) (v.getD i 0) 1) (i+1)):=
 wy [ah h1,ah h2,aa h3,aa (aD (v:=af.raw (Value.int IntKind.u64 (xs.getD (k+i) (0:Int))))),ah h4,aa (aD (v:=af.raw (Value.int IntKind.u64 (v.getD i (0:Int))))),yi h5,ax h6,ax h7] 49000826990114611886490290308882841214977
def ahI (q c b:Int) (i:Nat) (h1:¬(i:Int)<(v.length:Int)):
  bz jK (fl fo Gz) (kg xs v k cap q c b i) 2 (.exit 2) kf (kg xs v k cap q c b i):=
 wy [aF h1] 1
def ahJ (q b:Int) (h1:b=0):
  aE.path (oh prog jK ((fl fo []).drop 11) (ux xs v k cap q b)) (dl 3) (uw prog f226 167 aG xs (cu q)):=
 wy [cM h1,vO (an (rr (q)) (rr (xs)))] 129
def ahK (q b:Int) (h1:¬b=0):
  dV jK ((fl fo []).drop 11) 4 (ux xs v k cap q b) 2 .normal kf (kF xs v k cap q 0 0):=
 wy [yn h1] 1
def sd_end (q c:Int) (i:Nat) (h1:¬(i:Int)<(v.length:Int)):
  bz jK (fl fo GA) (kF xs v k cap q c i) 2 (.exit 4) kf (kF xs v k cap q c i):=
 wy [aF h1] 1
def ahL (q c:Int) (i:Nat) (h1:(bA 167 aG (some (bq.own 167 aG xs)) (k+v.length))=true) (h2:(IntKind.wrap IntKind.u64 (q-1))=(pS q)):
  aE.path (oh prog jK ((fl fo []).drop 16) (kF xs v k cap q c i)) (dl 1) (uw prog f226 167 aG (xs.set (k+v.length) (IntKind.wrap .u64 (xs.getD (k+v.length) 0+c))) (cu (pS q))):=
 wy [ah (by omega:v.length<v.length+(1:Nat)),aa h1,vO (an h2 (rr (xs.set (k+v.length) (IntKind.wrap IntKind.u64 (xs.getD (k+v.length) (0:Int)+c)))))] 208322699328
end
section
variable (xs:List Int) (k len:Nat)
def qZ:List Int:=(xs.drop k).take len
def jr (v:List Int):Int:=ak (qZ xs k len)/ak v
def ik (v:List Int):List Int:=xs.take k++(fT 18446744073709551616 len (ak (qZ xs k len)%ak v)++xs.drop (k+len))
def se (v:List Int):Bool:=gY xs&&(gY v&&(decide (2<=v.length)&&(Nat.beq len (v.length+1)&&(decide (v.length<=1000000)&&(decide (9223372036854775808<=v.getD (v.length-1) 0)&&decide (ak (qZ xs k len)<18446744073709551616*ak v))))))
end
noncomputable def sw:gW:={f:=226,e:=167,t:=aG,ps:=[.list false aG],rs:=[aG],pre:=fun xs k len d=>se xs k len d.1,out:=fun xs k len d=>ik xs k len d.1,fn:=fun xs k len d=>(jr xs k len d.1,())}
section
variable {p u s:List Int} {i:Nat}
def oE (hi:i<u.length):(p++(u++s)).getD (p.length+i) 0=u.getD i 0:=by
 simp only [ao];rw [List.getElem?_append_right (by omega),Nat.add_sub_cancel_left,List.getElem?_append_left hi]
def uy {x:Int} (hi:i<u.length):(p++(u++s)).set (p.length+i) x=p++(u.set i x++s):=by
 rw [List.set_append_right _ _ (by omega),Nat.add_sub_cancel_left,List.set_append_left _ _ hi]
def yy (hi:i<u.length):bA 167 aG (some (.own 167 aG (p++(u++s)))) (p.length+i)=true:=by
 rw [zK];exact az (by rw [dy,dy];omega)
end
def aW.Mf {X:Ext} {P:Program} {w0:World} {F:Sv.Env} {n:Nat} {T:au af} {H:ai} {Q:Exit->au af->ai->Prop} (hK:ff P) (hm:P.follows .mixedOrders=true) {bw:bG} (hS:bD P (bF bw)) {l:List Code} {fn:Func} {e:TypeId} {t:av} {xs:List t.den} {res:af} (k:Nat) (D:List Bool) (h:(Sv.iE P bw n (l.take k) T H).path D (uw P fn e t xs res))
  (hq:∀T H,CS P fn e t xs res .ret T H->Q .ret T H):cg X P w0 F n l T H Q:=by
 obtain⟨r,h1,h2⟩:=aE.tX _ _ h;have key:cg X P w0 F n (l.take k) T H (ig (fun T H=>cg X P w0 F n (l.drop k) T H Q) Q):=by
  refine aW.iE hK hm hS (oo:=uw P fn e t xs res) (fun r hr=> ?_) h1 h2;unfold uw at hr;split at hr
  .refine hq _ _ ?_;rename_i aO H';show(match jX P fn aO H' with | .ok v _=>cG true H' v res/\H'.get 64=some (.own e t xs)|_=>False)
   split at hr
   .obtain⟨g1,g2⟩:=hr;refine⟨g1, ?_⟩;split at g2
    .rename_i hg;obtain⟨k1,k2⟩:=jk g2;obtain⟨e1,rfl⟩:=Af k2;subst e1;rw [hg,ac k1]
    .exact g2.elim
   .exact hr.elim
  .exact hr.elim
 have:=aW.split key;rwa [List.take_append_drop]at this
def Mg:bD prog (bF jK):=cN (aQ LL (aQ TV dW))
def TX {q x:Int}:fO q x*18446744073709551616+cO q x=q*x:=by
 unfold fO cO;have:=Int.emod_add_mul_ediv (q*x) 18446744073709551616;omega
def xi {q x:Int} (hq:0<=q/\q<18446744073709551616) (hx:0<=x/\x<18446744073709551616):(0<=fO q x/\fO q x<18446744073709551616)/\(0<=cO q x/\cO q x<18446744073709551616):=by
 have h0:0<=q*x:=Int.mul_nonneg hq.1 hx.1;have h1:q*x<=18446744073709551615*18446744073709551615:=Int.mul_le_mul (by omega) (by omega) hx.1 (by decide);unfold fO cO;omega
def ahM {q x c:Int} (hq:0<=q/\q<18446744073709551616) (hx:0<=x/\x<18446744073709551616) (hc:0<=c/\c<18446744073709551616):
  qY q x c*18446744073709551616+kG q x c=q*x+c/\(0<=kG q x c/\kG q x c<18446744073709551616)/\(0<=qY q x c/\qY q x c<18446744073709551616):=by
 have h0:0<=q*x:=Int.mul_nonneg hq.1 hx.1;have h1:q*x<=18446744073709551615*18446744073709551615:=Int.mul_le_mul (by omega) (by omega) hx.1 (by decide);obtain⟨_,hlo⟩:=xi hq hx;have hs:=TX (q:=q) (x:=x);have hA:c9 (cO q x) c 0+18446744073709551616*dX (cO q x) c 0=cO q x+c/\(0<=c9 (cO q x) c 0/\c9 (cO q x) c 0<18446744073709551616)/\(dX (cO q x) c 0=0\/dX (cO q x) c 0=1):=by
  have:=C6 hlo hc (.inl rfl);omega
 unfold qY kG;rw [fP (x:=fO q x+dX (cO q x) c 0) (by omega)];omega
structure GC (V U q:Int):Prop where
 Mh:0<=q/\q<18446744073709551616
 hi:U/V<=q
 lo:(q-1)*V<=U
structure wj (v aJ:List Int) (q:Int) (u:List Int) (c b:Int) (i:Nat):Prop where
 le:i<=v.length
 len:u.length=v.length+1
 dg:aS 18446744073709551616 u
 hc:0<=c/\c<18446744073709551616
 hb:b=0\/b=1
 same:∀j,i<=j->u.getD j 0=aJ.getD j 0
 val:ak (u.take i)-18446744073709551616^i*b=ak (aJ.take i)-q*ak (v.take i)+18446744073709551616^i*c
def wj.next {v aJ u:List Int} {q c b:Int} {i:Nat} (I:wj v aJ q u c b i) (hv:aS 18446744073709551616 v) (hq:0<=q/\q<18446744073709551616) (hi:i<v.length):
  wj v aJ q (u.set i (dn (u.getD i 0) (kG q (v.getD i 0) c) b)) (qY q (v.getD i 0) c) (eA (u.getD i 0) (kG q (v.getD i 0) c) b) (i+1):=by
 have wk:=hv.get (by decide) i;have sx:=I.dg.get (by decide) i;obtain⟨h1,h2,h3⟩:=ahM hq wk I.hc;obtain⟨g1,g2,g3⟩:=LH sx h2 I.hb;have hlen:=I.len;refine⟨hi,by rw [b9];exact hlen,I.dg.set g2,h3,g3,fun j hj=> ?_, ?_⟩
 .rw [fg,if_neg (by omega)];exact I.same j (by omega)
 .have hval:=I.val;unfold ak at hval ⊢;rw [yb (by omega),k3 aJ,k3 v,Int.pow_succ,<-I.same i (aK _)];exact adQ h1 g1 hval
structure wm (v aJ:List Int) (u:List Int) (c:Int) (i:Nat):Prop where
 le:i<=v.length
 len:u.length=v.length+1
 dg:aS 18446744073709551616 u
 hc:c=0\/c=1
 same:∀j,i<=j->u.getD j 0=aJ.getD j 0
 val:ak (u.take i)+18446744073709551616^i*c=ak (aJ.take i)+ak (v.take i)
def wm.next {v aJ u:List Int} {c:Int} {i:Nat} (I:wm v aJ u c i) (hv:aS 18446744073709551616 v) (hi:i<v.length):
  wm v aJ (u.set i (c9 (u.getD i 0) (v.getD i 0) c)) (dX (u.getD i 0) (v.getD i 0) c) (i+1):=by
 have wk:=hv.get (by decide) i;have sx:=I.dg.get (by decide) i;obtain⟨g1,g2,g3⟩:=C6 sx wk I.hc;have hlen:=I.len;refine⟨hi,by rw [b9];exact hlen,I.dg.set g2,g3,fun j hj=> ?_, ?_⟩
 .rw [fg,if_neg (by omega)];exact I.same j (by omega)
 .have hval:=I.val;unfold ak at hval ⊢;rw [yb (by omega),k3 aJ,k3 v,Int.pow_succ,<-I.same i (aK _)];exact Lr g1 hval
section
variable {v aJ p s:List Int} {m:Nat} {q:Int}
def aS.TY {u:List Int} {n:Nat} (h:aS 18446744073709551616 u) (hl:u.length=n+1):u=fT 18446744073709551616 (n+1) (ak u):=by
 have:=Ls (b:=18446744073709551616) (by decide) h;rw [hl]at this;exact this
def sy {u:List Int} {n:Nat} (hl:u.length=n+1):ak u=ak (u.take n)+18446744073709551616^n*u.getD n 0:=by
 have:=lU (b:=18446744073709551616) (l:=u) (k:=n) (by omega);rw [eZ (by omega)]at this;exact this
def wj.fin {u:List Int} {c b:Int} (I:wj v aJ q u c b v.length) (fQ:aJ.length=v.length+1):
  ak (u.set v.length (dn (u.getD v.length 0) c b))-18446744073709551616^(v.length+1)*eA (u.getD v.length 0) c b=ak aJ-q*ak v/\aS 18446744073709551616 (u.set v.length (dn (u.getD v.length 0) c b))/\(eA (u.getD v.length 0) c b=0\/eA (u.getD v.length 0) c b=1)/\(u.set v.length (dn (u.getD v.length 0) c b)).length=v.length+1:=by
 have sx:=I.dg.get (by decide) v.length;obtain⟨g1,g2,g3⟩:=LH sx I.hc I.hb;have hlen:=I.len;refine⟨?_,I.dg.set g2,g3,by rw [b9];exact hlen⟩;have hval:=I.val;rw [dR]at hval;rw [sy (n:=v.length) (by rw [b9];exact hlen),Av,mc (by omega),sy (u:=aJ) fQ,<-I.same v.length (aK _),Int.pow_succ];generalize ak (u.take v.length)=a at*;generalize ak (aJ.take v.length)=a0 at*;generalize dn (u.getD v.length 0) c b=d at*;generalize eA (u.getD v.length 0) c b=bb at*;generalize u.getD v.length 0=un at*;generalize (18446744073709551616:Int)^v.length=P at*;generalize q*ak v=auw at*;have:P*(d-18446744073709551616*bb)=P*(un-c-b):=by rw [g1]
 grind
def ahN {U V:Int} (hV:0<V) (G:GC V U q) (h:0<=U-q*V):U/V=q/\U%V=U-q*V:=by
 have h1:q<=U/V:=(Int.le_ediv_iff_mul_le hV).2 (by omega);have h2:=G.hi;have e:U/V=q:=by omega
 refine⟨e, ?_⟩;have:=Int.emod_add_mul_ediv U V;rw [e,Int.mul_comm]at this;omega
def ahO {U V:Int} (hV:0<V) (G:GC V U q) (h:U-q*V<0):U/V=q-1/\U%V=U-q*V+V:=by
 have h1:q-1<=U/V:=(Int.le_ediv_iff_mul_le hV).2 G.lo;have h2:U/V<q:=(Int.ediv_lt_iff_lt_mul hV).2 (by omega);have e:U/V=q-1:=by omega
 refine⟨e, ?_⟩;have:=Int.emod_add_mul_ediv U V;rw [e,Int.mul_comm,Int.sub_mul,Int.one_mul]at this;omega
def wm.fin {u1 u:List Int} {c:Int} {U R:Int} (I:wm v u1 u c v.length) (vv:u1.length=v.length+1) (AP:ak u1=U+18446744073709551616^(v.length+1)) (hR:U+ak v=R) (uz:0<=R) (lQ:R<18446744073709551616^v.length):
  u.set v.length (IntKind.wrap .u64 (u.getD v.length 0+c))=fT 18446744073709551616 (v.length+1) R:=by
 have sx:=I.dg.get (by decide) v.length;have hlen:=I.len;have hval:=I.val;rw [dR]at hval;rw [sy vv,<-I.same v.length (aK _),Int.pow_succ]at AP;have Dk:=gv (b:=18446744073709551616) (by decide) (I.dg.take v.length);have ht1:=dC (b:=18446744073709551616) (by decide) (I.dg.take v.length);rw [eM,Nat.min_eq_left (by omega)]at ht1;have hP:=dK (b:=18446744073709551616) (by decide) v.length;have key:u.getD v.length 0+c=18446744073709551616/\ak (u.take v.length)=R:=by
  unfold ak at*;generalize vl 18446744073709551616 (u.take v.length)=a at*;generalize vl 18446744073709551616 (u1.take v.length)=a1 at*;generalize u.getD v.length 0=un at*;generalize (18446744073709551616:Int)^v.length=P at*;have e:P*(un+c-18446744073709551616)=R-a:=by grind
  have hz:un+c-18446744073709551616=0:=by
   rcases Int.lt_trichotomy (un+c-18446744073709551616) 0 with h|h|h
   .have:=eu (show un+c-18446744073709551616<= -1 by omega) (ct hP);omega
   .exact h
   .have:=eu (show 1<=un+c-18446744073709551616 by omega) (ct hP);omega
  rw [hz,Int.mul_zero]at e;omega
 rw [key.1];have hw:IntKind.wrap .u64 18446744073709551616=0:=by rw [qX];rfl
 rw [hw];have hd:aS 18446744073709551616 (u.set v.length 0):=I.dg.set (by decide);have:=hd.TY (n:=v.length) (by rw [b9];exact hlen);rw [this];congr 1;rw [sy (n:=v.length) (by rw [b9];exact hlen),Av,mc (by omega),Int.mul_zero,Int.add_zero];exact key.2
end
end
noncomputable section
def yz:=k_a f183
def pT:=k_a f185
section
variable (a:List Int) (d:Int)
def u4 (out:List Int) (r:Int) (k:Nat):bI:={n:=39,sl:=[(0,lv a),(1,iv d),(6,mO 64 out),(7,iv r),(8,iv ((k:Int)-1))],bH:=[(64,mP out)],next:=65}
def Mi (out:List Int) (r:Int) (k:Nat):bI:={n:=39,sl:=[(0,lv a),(1,iv d),(6,mO 64 out),(7,iv r),(8,iv ((k:Int)-1-1))],bH:=[(64,mP out)],next:=65}
def Lk (h1:a.length<=1000000) (h2: -9223372036854775808<=(a.length:Int)-1/\(a.length:Int)-1<=9223372036854775807) (h3:a.length=(gw a.length).length) (h4:(bM (gw a.length).length)=(bM a.length)) (h5:(List.flatten (List.replicate a.length (List.map af.raw (Array.toList #[Value.int .i64 (0:Int)]))))=(List.flatMap (fun x=>[iv x]) (gw a.length))):
  aE.path (om prog gZ (fl yz []) 4 39 [lv a,iv d]) (dl 1) (ep prog 39 .normal [(64,64,some a.length)] (u4 a d (gw a.length) 0 a.length)):=
 mp (FO rt rt (show(decide (a.length<=a.length))=true from az (by omega)) (oq (show(bounded a.length (8:Nat))=true from pL h1 (by omega)) (eP h2) (rr a) (rr d) (an h3 (an (rr (bh.known a.length)) h4)) (rr (0:Int)) (rr ((a.length:Int)-1)) (an h5 h3) trivial))
def ahP (out:List Int) (r:Int) (k:Nat) (h1:(k:Int)-1>=0) (h2:i6 (r*1000000000)) (h3:0<=(k:Int)-1) (h4:((k:Int)-1).toNat<a.length) (h5:i6 (r*1000000000+a.getD ((k:Int)-1).toNat 0)) (h6:d≠0) (h7:i6 (Int.tdiv (r*1000000000+a.getD ((k:Int)-1).toNat 0) d)) (h8:((k:Int)-1).toNat<out.length) (h9:i6 ((k:Int)-1-1)) (h10:out.length=(out.set ((k:Int)-1).toNat (Int.tdiv (r*1000000000+a.getD ((k:Int)-1).toNat 0) d)).length) (h11:(bM out.length)=(bM (out.set ((k:Int)-1).toNat (Int.tdiv (r*1000000000+a.getD ((k:Int)-1).toNat 0) d)).length)):
  bz gZ (fl yz pP) (u4 a d out r k) 3 .normal [(64,64,none)] (Mi a d (out.set ((k:Int)-1).toNat (Int.tdiv (r*1000000000+a.getD ((k:Int)-1).toNat 0) d)) (Int.tmod (r*1000000000+a.getD ((k:Int)-1).toNat 0) d) k):=
 wy [ah h1,yi h2,ah h3,ah h4,yi h5,ah h6,yi h7,ah h8,jl 3 (.int .i64) h8,yi h9,ax h10,ax h11,mN 3 (.int .i64) (Eq.refl (out.set ((k:Int)-(1:Int)).toNat (Int.tdiv (r*(1000000000:Int)+a.getD ((k:Int)-(1:Int)).toNat (0:Int)) d)))] 270000400999102384946506999662653569
def ahQ (out:List Int) (r:Int) (k:Nat) (h1:¬(k:Int)-1>=0):
  bz gZ (fl yz pP) (u4 a d out r k) 2 (.exit 0) [(64,64,none)] (u4 a d out r k):=
 wy [aF h1] 1
def ahR (out:List Int) (r:Int) (k:Nat) (h1:(Nat.beq out.length 0||bA 3 (.int .i64) (a8 3 (.int .i64) out) (out.length-1))=true) (h2:((out.drop 0).take out.length).length<=1000000):
  bS gZ ((fl yz []).drop 5) (u4 a d out r k) 1 f183 false (.tuple [lv (er ((out.drop 0).take out.length)),iv r]):=
 wy [aa (show(Nat.beq out.length (0:Nat)||bA 3 (.int .i64) (a8 3 (.int .i64) out) ((0:Nat)+out.length-(1:Nat)))=true from(by simp only [aw]<;>exact h1)),aa (show(decide ((((bP (.int .i64) (a8 3 (.int .i64) out)).drop (0:Nat)).take out.length).length<=(1000000:Nat)))=true from(by simp only [eD]<;>exact az h2)),ax (show(er (((bP (.int .i64) (a8 3 (.int .i64) out)).drop (0:Nat)).take out.length))=(er ((out.drop (0:Nat)).take out.length))from(by simp only [eD]<;>rfl))] 12417
end
abbrev wo (n:Nat) (cap:bh):af:= .bU 3 (.int .i64) 64 0 n cap
abbrev ahS (xs:List Int):List (Nat×fS):=[(64, .blk (.own 3 (.int .i64) xs))]
abbrev r64:Sv.Ren:=[(64,64,none)]
def js (xs v:List Int) (j n:Nat) (cap:bh) (t r:Int):bI:={n:=77,sl:=[(0,wo n cap),(1,lv v),(2,iv j),(7,iv v.length),(9,iv t),(10,iv r)],bH:=ahS xs,next:=65}
def fG (xs v:List Int) (j:Nat):Int:=xs.getD ((j:Int)+(v.length:Int)).toNat 0*1000000000+xs.getD ((j:Int)+(v.length:Int)-1).toNat 0
abbrev cP (v:List Int):Int:=v.getD ((v.length:Int)-1).toNat 0
abbrev nI (v:List Int):Int:=v.getD ((v.length:Int)-2).toNat 0
abbrev pU (xs v:List Int) (j:Nat):Int:=xs.getD ((j:Int)+(v.length:Int)-2).toNat 0
def ahT (xs v:List Int) (j n:Nat) (cap:bh) (h1:i6 ((j:Int)+(v.length:Int))) (h2:((j:Int)+(v.length:Int)).toNat<n) (h3:(bA 3 (.int .i64) (some (bq.own 3 (.int .i64) xs)) ((j:Int)+(v.length:Int)).toNat)=true) (h4:i6 (xs.getD ((j:Int)+(v.length:Int)).toNat 0*1000000000)) (h5:i6 ((j:Int)+(v.length:Int)-1)) (h6:0<=(j:Int)+(v.length:Int)-1) (h7:((j:Int)+(v.length:Int)-1).toNat<n) (h8:(bA 3 (.int .i64) (some (bq.own 3 (.int .i64) xs)) ((j:Int)+(v.length:Int)-1).toNat)=true) (h9:i6 (xs.getD ((j:Int)+(v.length:Int)).toNat 0*1000000000+xs.getD ((j:Int)+(v.length:Int)-1).toNat 0)) (h10:i6 ((v.length:Int)-1)) (h11:0<=(v.length:Int)-1) (h12:((v.length:Int)-1).toNat<v.length) (dZ:v.getD ((v.length:Int)-1).toNat 0≠0) (iH:i6 (Int.tdiv (xs.getD ((j:Int)+(v.length:Int)).toNat 0*1000000000+xs.getD ((j:Int)+(v.length:Int)-1).toNat 0) (v.getD ((v.length:Int)-1).toNat 0))) (ke:(Int.tdiv (xs.getD ((j:Int)+(v.length:Int)).toNat 0*1000000000+xs.getD ((j:Int)+(v.length:Int)-1).toNat 0) (v.getD ((v.length:Int)-1).toNat 0))=(Int.tdiv (fG xs v j) (v.getD ((v.length:Int)-1).toNat 0))) (mV:(Int.tmod (xs.getD ((j:Int)+(v.length:Int)).toNat 0*1000000000+xs.getD ((j:Int)+(v.length:Int)-1).toNat 0) (v.getD ((v.length:Int)-1).toNat 0))=(Int.tmod (fG xs v j) (v.getD ((v.length:Int)-1).toNat 0))):
  aE.path (iE prog (a7 []) 77 ((fl pT []).take 4) (fX [wo n cap,lv v,iv j] .nil 0) (qF 3 (.int .i64) xs)) (dl 1) (ep prog 77 .normal r64 (js xs v j n cap (Int.tdiv (fG xs v j) (cP v)) (Int.tmod (fG xs v j) (cP v)))):=
 wy [yi h1,ah h2,aa (show(bA 3 (.int .i64) (some (bq.own 3 (.int .i64) xs)) ((0:Nat)+((j:Int)+(v.length:Int)).toNat))=true from(by simp only [aw]<;>exact h3)),aa (aD (v:=iv (xs.getD ((0:Nat)+((j:Int)+(v.length:Int)).toNat) (0:Int)))),aa (show(fits IntKind.i64 (xs.getD ((0:Nat)+((j:Int)+(v.length:Int)).toNat) (0:Int)*(1000000000:Int)))=true from(by simp only [aw]<;>exact eP h4)),yi h5,ah h6,ah h7,aa (show(bA 3 (.int .i64) (some (bq.own 3 (.int .i64) xs)) ((0:Nat)+((j:Int)+(v.length:Int)-(1:Int)).toNat))=true from(by simp only [aw]<;>exact h8)),aa (aD (v:=iv (xs.getD ((0:Nat)+((j:Int)+(v.length:Int)-(1:Int)).toNat) (0:Int)))),aa (show(fits IntKind.i64 (xs.getD ((0:Nat)+((j:Int)+(v.length:Int)).toNat) (0:Int)*(1000000000:Int)+xs.getD ((0:Nat)+((j:Int)+(v.length:Int)-(1:Int)).toNat) (0:Int)))=true from(by simp only [aw]<;>exact eP h9)),yi h10,ah h11,ah h12,aa (aD (v:=iv (v.getD ((v.length:Int)-(1:Int)).toNat (0:Int)))),ah dZ,aa (show(fits IntKind.i64 (Int.tdiv (xs.getD ((0:Nat)+((j:Int)+(v.length:Int)).toNat) (0:Int)*(1000000000:Int)+xs.getD ((0:Nat)+((j:Int)+(v.length:Int)-(1:Int)).toNat) (0:Int)) (v.getD ((v.length:Int)-(1:Int)).toNat (0:Int))))=true from(by simp only [aw]<;>exact eP iH)),ax (show(Int.tdiv (xs.getD ((0:Nat)+((j:Int)+(v.length:Int)).toNat) (0:Int)*(1000000000:Int)+xs.getD ((0:Nat)+((j:Int)+(v.length:Int)-(1:Int)).toNat) (0:Int)) (v.getD ((v.length:Int)-(1:Int)).toNat (0:Int)))=(Int.tdiv (fG xs v j) (v.getD ((v.length:Int)-(1:Int)).toNat (0:Int)))from(by simp only [aw]<;>exact ke)),ax (show(Int.tmod (xs.getD ((0:Nat)+((j:Int)+(v.length:Int)).toNat) (0:Int)*(1000000000:Int)+xs.getD ((0:Nat)+((j:Int)+(v.length:Int)-(1:Int)).toNat) (0:Int)) (v.getD ((v.length:Int)-(1:Int)).toNat (0:Int)))=(Int.tmod (fG xs v j) (v.getD ((v.length:Int)-(1:Int)).toNat (0:Int)))from(by simp only [aw]<;>exact mV))] 7745943541467187237997735947277335306600882047791326166786049
abbrev AQ:List Nat:=[1,1,1,1,0,0,0]
section
variable (xs v:List Int) (j n:Nat) (cap:bh) (t r:Int)
def ahU (h1:t>=1000000000) (h2:i6 (t-1)) (h3:i6 ((v.length:Int)-1)) (h4:0<=(v.length:Int)-1) (h5:((v.length:Int)-1).toNat<v.length) (h6:i6 (r+v.getD ((v.length:Int)-1).toNat 0)) (h7:r+v.getD ((v.length:Int)-1).toNat 0>=1000000000):
  aE.path (oh prog (a7 []) (fl pT AQ) (js xs v j n cap t r)) (dl 3932160) (uw prog f185 3 (.int .i64) xs (iv (t-1))):=
 wy [aa (bg (az h1)),ah h1,yi h2,yi h3,ah h4,ah h5,yi h6,ah h7,vO (an (rr (t-(1:Int))) (rr (xs)))] 833670876018392705917515033473870691017842495553
def ahV (h1:t>=1000000000) (h2:i6 (t-1)) (h3:i6 ((v.length:Int)-1)) (h4:0<=(v.length:Int)-1) (h5:((v.length:Int)-1).toNat<v.length) (h6:i6 (r+v.getD ((v.length:Int)-1).toNat 0)) (h7:¬r+v.getD ((v.length:Int)-1).toNat 0>=1000000000):
  bz (a7 []) (fl pT AQ) (js xs v j n cap t r) 2883584 .normal r64 (js xs v j n cap (t-1) (r+cP v)):=
 wy [aa (bg (az h1)),ah h1,yi h2,yi h3,ah h4,ah h5,yi h6,aF h7] 11576205019759814427942315070961492461380440129
def ahW (h1:¬t>=1000000000) (h2:i6 ((v.length:Int)-2)) (h3:0<=(v.length:Int)-2) (h4:((v.length:Int)-2).toNat<v.length) (h5:i6 (t*v.getD ((v.length:Int)-2).toNat 0)) (h6:i6 (r*1000000000)) (h7:i6 ((j:Int)+(v.length:Int))) (h8:i6 ((j:Int)+(v.length:Int)-2)) (h9:0<=(j:Int)+(v.length:Int)-2) (h10:((j:Int)+(v.length:Int)-2).toNat<n) (h11:(bA 3 (.int .i64) (some (bq.own 3 (.int .i64) xs)) ((j:Int)+(v.length:Int)-2).toNat)=true) (h12:i6 (r*1000000000+xs.getD ((j:Int)+(v.length:Int)-2).toNat 0)) (dZ:t*v.getD ((v.length:Int)-2).toNat 0>r*1000000000+xs.getD ((j:Int)+(v.length:Int)-2).toNat 0) (iH:i6 (t-1)) (ke:i6 ((v.length:Int)-1)) (mV:0<=(v.length:Int)-1) (yA:((v.length:Int)-1).toNat<v.length) (yB:i6 (r+v.getD ((v.length:Int)-1).toNat 0)) (h19:r+v.getD ((v.length:Int)-1).toNat 0>=1000000000):
  aE.path (oh prog (a7 []) (fl pT AQ) (js xs v j n cap t r)) (dl 3932159) (uw prog f185 3 (.int .i64) xs (iv (t-1))):=
 wy [aa (bg (ab h1)),yi h2,ah h3,ah h4,aa (aD (v:=iv (v.getD ((v.length:Int)-(2:Int)).toNat (0:Int)))),yi h5,yi h6,yi h7,yi h8,ah h9,ah h10,aa (show(bA 3 (.int .i64) (some (bq.own 3 (.int .i64) xs)) ((0:Nat)+((j:Int)+(v.length:Int)-(2:Int)).toNat))=true from(by simp only [aw]<;>exact h11)),aa (aD (v:=iv (xs.getD ((0:Nat)+((j:Int)+(v.length:Int)-(2:Int)).toNat) (0:Int)))),aa (show(fits IntKind.i64 (r*(1000000000:Int)+xs.getD ((0:Nat)+((j:Int)+(v.length:Int)-(2:Int)).toNat) (0:Int)))=true from(by simp only [aw]<;>exact eP h12)),aF h1,aa (show(decide (t*v.getD ((v.length:Int)-(2:Int)).toNat (0:Int)>r*(1000000000:Int)+xs.getD ((0:Nat)+((j:Int)+(v.length:Int)-(2:Int)).toNat) (0:Int)))=true from(by simp only [aw]<;>exact az dZ)),yi iH,yi ke,ah mV,ah yA,yi yB,ah h19,vO (an (rr (t-(1:Int))) (rr (xs)))] 41254031541230140472553383178300452332773505826332860127072467285497352257
def ahX (h1:¬t>=1000000000) (h2:i6 ((v.length:Int)-2)) (h3:0<=(v.length:Int)-2) (h4:((v.length:Int)-2).toNat<v.length) (h5:i6 (t*v.getD ((v.length:Int)-2).toNat 0)) (h6:i6 (r*1000000000)) (h7:i6 ((j:Int)+(v.length:Int))) (h8:i6 ((j:Int)+(v.length:Int)-2)) (h9:0<=(j:Int)+(v.length:Int)-2) (h10:((j:Int)+(v.length:Int)-2).toNat<n) (h11:(bA 3 (.int .i64) (some (bq.own 3 (.int .i64) xs)) ((j:Int)+(v.length:Int)-2).toNat)=true) (h12:i6 (r*1000000000+xs.getD ((j:Int)+(v.length:Int)-2).toNat 0)) (dZ:t*v.getD ((v.length:Int)-2).toNat 0>r*1000000000+xs.getD ((j:Int)+(v.length:Int)-2).toNat 0) (iH:i6 (t-1)) (ke:i6 ((v.length:Int)-1)) (mV:0<=(v.length:Int)-1) (yA:((v.length:Int)-1).toNat<v.length) (yB:i6 (r+v.getD ((v.length:Int)-1).toNat 0)) (h19:¬r+v.getD ((v.length:Int)-1).toNat 0>=1000000000):
  bz (a7 []) (fl pT AQ) (js xs v j n cap t r) 2883583 .normal r64 (js xs v j n cap (t-1) (r+cP v)):=
 wy [aa (bg (ab h1)),yi h2,ah h3,ah h4,aa (aD (v:=iv (v.getD ((v.length:Int)-(2:Int)).toNat (0:Int)))),yi h5,yi h6,yi h7,yi h8,ah h9,ah h10,aa (show(bA 3 (.int .i64) (some (bq.own 3 (.int .i64) xs)) ((0:Nat)+((j:Int)+(v.length:Int)-(2:Int)).toNat))=true from(by simp only [aw]<;>exact h11)),aa (aD (v:=iv (xs.getD ((0:Nat)+((j:Int)+(v.length:Int)-(2:Int)).toNat) (0:Int)))),aa (show(fits IntKind.i64 (r*(1000000000:Int)+xs.getD ((0:Nat)+((j:Int)+(v.length:Int)-(2:Int)).toNat) (0:Int)))=true from(by simp only [aw]<;>exact eP h12)),aF h1,aa (show(decide (t*v.getD ((v.length:Int)-(2:Int)).toNat (0:Int)>r*(1000000000:Int)+xs.getD ((0:Nat)+((j:Int)+(v.length:Int)-(2:Int)).toNat) (0:Int)))=true from(by simp only [aw]<;>exact az dZ)),yi iH,yi ke,ah mV,ah yA,yi yB,aF h19] 616549051327300892137540661213326468741376198193624090275524655767097409
def ahY (h1:¬t>=1000000000) (h2:i6 ((v.length:Int)-2)) (h3:0<=(v.length:Int)-2) (h4:((v.length:Int)-2).toNat<v.length) (h5:i6 (t*v.getD ((v.length:Int)-2).toNat 0)) (h6:i6 (r*1000000000)) (h7:i6 ((j:Int)+(v.length:Int))) (h8:i6 ((j:Int)+(v.length:Int)-2)) (h9:0<=(j:Int)+(v.length:Int)-2) (h10:((j:Int)+(v.length:Int)-2).toNat<n) (h11:(bA 3 (.int .i64) (some (bq.own 3 (.int .i64) xs)) ((j:Int)+(v.length:Int)-2).toNat)=true) (h12:i6 (r*1000000000+xs.getD ((j:Int)+(v.length:Int)-2).toNat 0)) (dZ:¬t*v.getD ((v.length:Int)-2).toNat 0>r*1000000000+xs.getD ((j:Int)+(v.length:Int)-2).toNat 0):
  bz (a7 []) (fl pT AQ) (js xs v j n cap t r) 1310719 (.exit 0) r64 (js xs v j n cap t r):=
 wy [aa (bg (ab h1)),yi h2,ah h3,ah h4,aa (aD (v:=iv (v.getD ((v.length:Int)-(2:Int)).toNat (0:Int)))),yi h5,yi h6,yi h7,yi h8,ah h9,ah h10,aa (show(bA 3 (.int .i64) (some (bq.own 3 (.int .i64) xs)) ((0:Nat)+((j:Int)+(v.length:Int)-(2:Int)).toNat))=true from(by simp only [aw]<;>exact h11)),aa (aD (v:=iv (xs.getD ((0:Nat)+((j:Int)+(v.length:Int)-(2:Int)).toNat) (0:Int)))),aa (show(fits IntKind.i64 (r*(1000000000:Int)+xs.getD ((0:Nat)+((j:Int)+(v.length:Int)-(2:Int)).toNat) (0:Int)))=true from(by simp only [aw]<;>exact eP h12)),aF h1,aa (show(decide (t*v.getD ((v.length:Int)-(2:Int)).toNat (0:Int)>r*(1000000000:Int)+xs.getD ((0:Nat)+((j:Int)+(v.length:Int)-(2:Int)).toNat) (0:Int)))=false from(by simp only [aw]<;>exact ab dZ))] 6522028266599319008889569978648965812446332058695169592266817
def ahZ:
  aE.path (oh prog (a7 []) ((fl pT []).drop 5) (js xs v j n cap t r)) (dl 1) (uw prog f185 3 (.int .i64) xs (iv t)):=
 wy [vO (an (rr (t)) (rr (xs)))] 1
end
def TZ:=IN 183 [.list false (.int .i64), .int .i64] [.list false (.int .i64), .int .i64] false (fun d=>okB d.1&&(decide (1<=d.2.1)&&decide (d.2.1<1000000000))) fun d=>(aH (ag d.1/d.2.1),ag d.1%d.2.1,())
def oF (v1 v2 u2:Int):Nat->Int->Int->Int
 |0,t,_=>t
 |f+1,t,r=>if 1000000000<=t\/r*1000000000+u2<t*v2 then(if 1000000000<=r+v1 then t-1 else oF v1 v2 u2 f (t-1) (r+v1))else t
def q2 (xs v:List Int) (j:Int):Int:=oF (cP v) (nI v) (pU xs v j.toNat) 2 (fG xs v j.toNat/cP v) (fG xs v j.toNat%cP v)
def AR (xs:List Int) (k len:Nat) (v:List Int) (j:Int):Bool:=(Nat.beq k 0&&Nat.beq len xs.length)&&((Aw xs&&Aw v)&&((decide (2<=v.length)&&decide (0<=j))&&((decide (j+(v.length:Int)<(xs.length:Int))&&decide (500000000<=cP v))&&decide (xs.length<=1000000))))
noncomputable def wq:gW:={f:=185,e:=3,t:= .int .i64,ps:=[.list false (.int .i64), .int .i64],rs:=[.int .i64],pre:=fun xs k len d=>AR xs k len d.1 d.2.1,out:=fun xs _ _ _=>xs,fn:=fun xs _ _ d=>(q2 xs d.1 d.2.1,())}
def ah0 (a:List Int) (d:Int) (h:okB a=true) (auy:1<=d) (gH:d<1000000000):Holds prog false 183 [lv a,iv d] (.tuple [lv (aH (ag a/d)),iv (ag a%d)]):=by
 obtain⟨ha,la⟩:=ow.1 h;have hS:=Gh;refine bL (c:=yz) func183 rfl rfl fun w0 F=> ?_
 refine cR hS 4 (Lk a d (by omega) (by omega) (eI _).symm (by rw [eI]) (LV _)) ?_;refine aW.loop (ι:={x:List Int×Int×Nat//x.2.2<=a.length/\x.1.length=a.length/\aS 1000000000 x.1/\(0<=x.2.1/\x.2.1<d)/\ag (a.drop x.2.2)=ag (x.1.drop x.2.2)*d+x.2.1}) (id:=0) (b:=cat yz pP) (rest:=(fl yz []).drop 5) (by kernel_rfl) (fun x=>u4 a d x.1.1 x.1.2.1 x.1.2.2) (fun x=>x.1.2.2)
  ⟨(gw a.length,0,a.length),aK _,eI _,LU _,⟨Int.le_refl 0,show(0:Int)<d by omega⟩,by
    show ag (a.drop a.length)=ag ((gw a.length).drop a.length)*d+0;rw [List.drop_length,List.drop_eq_nil_of_le (by rw [eI];exact aK _)];simp [ag,vl]⟩ (fun _=>rfl) ?_
 rintro⟨⟨q,r,k⟩,hk,hq,jt,hr,hv⟩;have hk:k<=a.length:=hk;have hq:q.length=a.length:=hq;have jt:aS 1000000000 q:=jt;have hr:0<=r/\r<d:=hr;have hv:ag (a.drop k)=ag (q.drop k)*d+r:=hv;cases k with
 |zero=>
  refine bC (s:=u4 a d q r 0) hS (ahQ a d q r 0 (by omega)) ?_;refine cI (cQ ?_);rw [List.drop_zero,List.drop_zero]at hv;obtain⟨g1,g2⟩:=yd (U:=ag a) (V:=d) (t:=ag q) (by omega) (by omega) (by omega);have e3:ag a%d=r:=by omega
  have key:=ahR a d q r 0 (AA _ q) (by rw [List.drop_zero,dR];omega);rw [List.drop_zero,dR,yf jt]at key;rw [g1,e3];exact bY (s:=u4 a d q r 0) hS key
 |succ j=>
  have ej:(((j+1:Nat):Int)-1).toNat=j:=by omega
  have haj:=ha.get (by decide) j;have hs0:0<=r*1000000000+a.getD j 0:=by omega
  have et:Int.tdiv (r*1000000000+a.getD j 0) d=(r*1000000000+a.getD j 0)/d:=Int.tdiv_eq_ediv_of_nonneg hs0;have em:Int.tmod (r*1000000000+a.getD j 0) d=(r*1000000000+a.getD j 0)%d:=Int.tmod_eq_emod_of_nonneg hs0;have tV:=Int.emod_add_mul_ediv (r*1000000000+a.getD j 0) d;have hm0:=ec (r*1000000000+a.getD j 0) (show d≠0 by omega);have pR:=eL (r*1000000000+a.getD j 0) (show 0<d by omega);have j7:0<=(r*1000000000+a.getD j 0)/d:=Int.ediv_nonneg hs0 (by omega);have hq1:(r*1000000000+a.getD j 0)/d<1000000000:=(Int.ediv_lt_iff_lt_mul (by omega)).2 (by
   have:(r+1)*1000000000<=d*1000000000:=ar (by omega) (by decide);rw [Int.mul_comm _ d];omega)
  have key:=ahP a d q r (j+1) (by omega) (by omega) (by omega) (by omega);rw [ej,et,em]at key;refine bC (s:=u4 a d q r (j+1)) hS (key (by omega) (by omega) (by omega) (by omega) (by omega) (by rw [b9]) (by rw [b9])) ?_;have j6:(((j+1:Nat):Int)-1-1)=(j:Int)-1:=by omega
  refine⟨⟨(q.set j ((r*1000000000+a.getD j 0)/d),(r*1000000000+a.getD j 0)%d,j),by show j<=_;omega,by show(q.set j _).length=_;rw [b9];exact hq,jt.set ⟨j7,hq1⟩,⟨hm0,pR⟩, ?_⟩,by show j<j+1;omega, ?_, ?_⟩
  .show ag (a.drop j)=ag ((q.set j ((r*1000000000+a.getD j 0)/d)).drop j)*d+(r*1000000000+a.getD j 0)%d;unfold ag at hv ⊢;rw [uu (l:=a) (by omega),uu (l:=q.set j _) (by rw [b9];omega),mc (by omega),hv];have Mj:(q.set j ((r*1000000000+a.getD j 0)/d)).drop (j+1)=q.drop (j+1):=by rw [List.drop_set];rw [if_pos (by omega)]
   rw [Mj];generalize vl 1000000000 (q.drop (j+1))=z at*;generalize (r*1000000000+a.getD j 0)/d=dd at*;generalize (r*1000000000+a.getD j 0)%d=e at*;grind
  .show(Mi a d _ _ (j+1)).T=(u4 a d _ _ j).T;unfold Mi u4;rw [j6]
  .rfl
def ah1:TZ.Ok prog:=fun⟨a,d,_⟩ h=>by
 have h:(okB a&&(decide (1<=d)&&decide (d<1000000000)))=true:=h;rw [ae,ae]at h;exact ah0 a d h.1 (ap h.2.1) (ap h.2.2)
def pV {xs:List Int} {i:Nat} (h:i<xs.length):bA 3 (.int .i64) (some (.own 3 (.int .i64) xs)) i=true:=by
 unfold bA;simp only [Nat.beq_refl,decide_true,Bool.true_and];exact fK h
abbrev GD (xs:List Int) (t:Int):Exit->au af->ai->Prop:=CS prog f185 3 (.int .i64) xs (iv t)
def aW.Mk {X:Ext} {P:Program} {w0:World} {F:Sv.Env} {Q:Exit->au af->ai->Prop} (hK:ff P) (hm:P.follows .mixedOrders=true) {bw:bG} (hS:bD P (bF bw)) {l:List Code} {s:bI} {fn:Func} {e:TypeId} {t:av} {xs:List t.den} {res:af} (D:List Bool) (h:(oh P bw l s).path D (uw P fn e t xs res))
  (hq:∀T H,CS P fn e t xs res .ret T H->Q .ret T H):cg X P w0 F s.n l s.T s.H Q:=
 aW.Mf hK hm hS (fn:=fn) (e:=e) (t:=t) (xs:=xs) (res:=res) l.length D (by rw [dR];exact h) hq
def ah2 (xs v:List Int) (j:Nat) (cap:bh) (hx:aS 1000000000 xs) (hv:aS 1000000000 v) (h2:2<=v.length) (hj:j+v.length<xs.length) (h1:500000000<=cP v) (hl:xs.length<=1000000) (A:Nat->Option (Nat×Nat)) (Y:Nat->Option Obj) (w:World) (F:Sv.Env):
  cg (qE A Y) prog w F 77 (fl pT []) (fX [wo xs.length cap,lv v,iv j] .nil 0) (qF 3 (.int .i64) xs) (GD xs (q2 xs v j)):=by
 have hS:=cC;have i0:((j:Int)+(v.length:Int)).toNat=j+v.length:=by omega
 have i1:((j:Int)+(v.length:Int)-1).toNat=j+v.length-1:=by omega
 have i2:((j:Int)+(v.length:Int)-2).toNat=j+v.length-2:=by omega
 have i3:((v.length:Int)-1).toNat=v.length-1:=by omega
 have i4:((v.length:Int)-2).toNat=v.length-2:=by omega
 have b0:=hx.get (by decide) (j+v.length);have b1:=hx.get (by decide) (j+v.length-1);have b2:=hx.get (by decide) (j+v.length-2);have b3:=hv.get (by decide) (v.length-1);have b4:=hv.get (by decide) (v.length-2);have o0:=pV (xs:=xs) (i:=j+v.length) (by omega);have o1:=pV (xs:=xs) (i:=j+v.length-1) (by omega);have o2:=pV (xs:=xs) (i:=j+v.length-2) (by omega);have ah3:cP v=v.getD (v.length-1) 0:=by rw [<-i3]
 have auz:nI v=v.getD (v.length-2) 0:=by rw [<-i4]
 have auA:pU xs v j=xs.getD (j+v.length-2) 0:=by rw [<-i2]
 have Ml:fG xs v j=xs.getD (j+v.length) 0*1000000000+xs.getD (j+v.length-1) 0:=by unfold fG;rw [i0,i1]
 have hF:q2 xs v j=oF (cP v) (nI v) (pU xs v j) 2 (fG xs v j/cP v) (fG xs v j%cP v):=by unfold q2;rw [Int.toNat_natCast]
 obtain⟨res,hres⟩:∃res,oF (cP v) (nI v) (pU xs v j) 2 (fG xs v j/cP v) (fG xs v j%cP v)=res:=⟨_,rfl⟩;rw [hF,hres];have Dk:0<=fG xs v j:=by rw [Ml];omega
 have ht1:fG xs v j<1000000000000000000:=by rw [Ml];omega
 have ed:Int.tdiv (fG xs v j) (cP v)=fG xs v j/cP v:=Int.tdiv_eq_ediv_of_nonneg Dk;have em:Int.tmod (fG xs v j) (cP v)=fG xs v j%cP v:=Int.tmod_eq_emod_of_nonneg Dk;have j7:0<=fG xs v j/cP v:=Int.ediv_nonneg Dk (by omega);have hq1:fG xs v j/cP v<=2000000000:=by
  have h3:fG xs v j/cP v*cP v<=fG xs v j:=Int.ediv_mul_le _ (by omega);rcases Int.lt_or_le 2000000000 (fG xs v j/cP v)with h|h
  .have:2000000001*500000000<=fG xs v j/cP v*cP v:=Int.mul_le_mul (by omega) h1 (by decide) (by omega);omega
  .exact h
 have qG:=ec (fG xs v j) (show cP v≠0 by omega);have kU:=eL (fG xs v j) (show 0<cP v by omega);have key:=ahT xs v j xs.length cap;rw [ed,em,i0,i1,i3]at key;have T1:xs.getD (j+v.length) 0*1000000000+xs.getD (j+v.length-1) 0=fG xs v j:=Ml.symm;have T2:v.getD (v.length-1) 0=cP v:=ah3.symm;rw [T1,T2,ed]at key;have kY:=key (by omega) (by omega) o0 (by omega) (by omega) (by omega) (by omega) o1 (by omega) (by omega) (by omega) (by omega) (by omega) (by omega) rfl em;refine cR hS 4 kY ?_;refine aW.loop (ι:={x:Nat×Int×Int//oF (cP v) (nI v) (pU xs v j) x.1 x.2.1 x.2.2=res/\(0<=x.2.1/\x.2.1<=2000000000)/\(0<=x.2.2/\x.2.2<1000000000)/\(x.1=2\/(x.1=1/\1000000000<=x.2.2+cP v))}) (id:=0) (b:=cat pT AQ) (rest:=(fl pT []).drop 5) (by kernel_rfl) (fun x=>js xs v j xs.length cap x.1.2.1 x.1.2.2) (fun x=>x.1.1) ⟨(2,fG xs v j/cP v,fG xs v j%cP v),hres,⟨j7,hq1⟩,⟨qG,by show _%_<_;omega⟩, .inl rfl⟩ (fun _=>rfl) ?_;rintro⟨⟨f,t,r⟩,c1,c2,c3,c4⟩;have c1:oF (cP v) (nI v) (pU xs v j) f t r=res:=c1;have c2:0<=t/\t<=2000000000:=c2;have c3:0<=r/\r<1000000000:=c3;have c4:f=2\/(f=1/\1000000000<=r+cP v):=c4;obtain⟨g,rfl⟩:∃g,f=g+1:=⟨f-1,by omega⟩;unfold oF at c1;have d2:0<=t*nI v/\t*nI v<=2000000000*999999999:=⟨Int.mul_nonneg c2.1 (by omega),Int.mul_le_mul c2.2 (by omega) (by omega) (by decide)⟩;have um:1<=t->¬1000000000<=r+cP v->oF (cP v) (nI v) (pU xs v j) g (t-1) (r+cP v)=res->∃x:{x:Nat×Int×Int//oF (cP v) (nI v) (pU xs v j) x.1 x.2.1 x.2.2=res/\(0<=x.2.1/\x.2.1<=2000000000)/\(0<=x.2.2/\x.2.2<1000000000)/\(x.1=2\/(x.1=1/\1000000000<=x.2.2+cP v))},x.1.1<g+1/\(js xs v j xs.length cap (t-1) (r+cP v)).T=(js xs v j xs.length cap x.1.2.1 x.1.2.2).T/\(js xs v j xs.length cap (t-1) (r+cP v)).H=(js xs v j xs.length cap x.1.2.1 x.1.2.2).H:=fun h1 h2 h3=>
  ⟨⟨(g,t-1,r+cP v),h3,⟨by show 0<=t-1;omega,by show t-1<=_;omega⟩,⟨by show 0<=r+cP v;omega,by show r+cP v<_;omega⟩, .inr ⟨by show g=1;omega,by show _<=r+cP v+cP v;omega⟩⟩,fL _,rfl,rfl⟩
 have q1: -9223372036854775808<=r+cP v/\r+cP v<=9223372036854775807:=by omega
 have aP: -9223372036854775808<=t*nI v/\t*nI v<=9223372036854775807:=by omega
 have b8: -9223372036854775808<=r*1000000000+pU xs v j/\r*1000000000+pU xs v j<=9223372036854775807:=by omega
 have fin:∀z:Int,z=res->∀T H,GD xs z .ret T H->GD xs res .ret T H:=fun z hz T H h=>by rw [<-hz];exact h
 by_cases h3:t>=1000000000
 .rw [if_pos (.inl h3)]at c1;by_cases h4:r+cP v>=1000000000
  .rw [if_pos h4]at c1;exact aW.Mk (s:=js xs v j xs.length cap t r) known mixed hS _ (ahU xs v j xs.length cap t r h3 (by omega) (by omega) (by omega) (by omega) q1 h4) fun T H h=>fin _ c1 T H h
  .rw [if_neg h4]at c1;exact bC (s:=js xs v j xs.length cap t r) hS (ahV xs v j xs.length cap t r h3 (by omega) (by omega) (by omega) (by omega) q1 h4) (um (by omega) h4 c1)
 .have Mm:bA 3 (.int .i64) (some (.own 3 (.int .i64) xs)) ((j:Int)+(v.length:Int)-2).toNat=true:=by rw [i2];exact o2
  by_cases h5:t*nI v>r*1000000000+pU xs v j
  .have ht1:1<=t:=by
    rcases Int.lt_or_le 0 t with h|h
    .exact h
    .have e:t=0:=by omega
     rw [e,Int.zero_mul]at h5;omega
   rw [if_pos (.inr h5)]at c1;by_cases h4:r+cP v>=1000000000
   .rw [if_pos h4]at c1;exact aW.Mk (s:=js xs v j xs.length cap t r) known mixed hS _ (ahW xs v j xs.length cap t r h3 (by omega) (by omega) (by omega) aP (by omega) (by omega) (by omega) (by omega) (by omega) Mm b8 h5 (by omega) (by omega) (by omega) (by omega) q1 h4) fun T H h=>fin _ c1 T H h
   .rw [if_neg h4]at c1;exact bC (s:=js xs v j xs.length cap t r) hS (ahX xs v j xs.length cap t r h3 (by omega) (by omega) (by omega) aP (by omega) (by omega) (by omega) (by omega) (by omega) Mm b8 h5 (by omega) (by omega) (by omega) (by omega) q1 h4) (um ht1 h4 c1)
  .rw [if_neg (by omega)]at c1;refine bC (s:=js xs v j xs.length cap t r) hS (ahY xs v j xs.length cap t r h3 (by omega) (by omega) (by omega) aP (by omega) (by omega) (by omega) (by omega) (by omega) Mm b8 h5) ?_;refine cI (cQ ?_);exact aW.Mk (s:=js xs v j xs.length cap t r) known mixed hS _ (ahZ xs v j xs.length cap t r) fun T H h=>fin _ c1 T H h
def ah4 (xs:List Int) (k len:Nat) (cap:bh) (v:List Int) (j:Int) (hp:AR xs k len v j=true) (A:Nat->Option (Nat×Nat)) (Y:Nat->Option Obj) (w:World) (F:Sv.Env):
  cg (qE A Y) prog w F 77 (fl pT []) (fX [.bU 3 (.int .i64) 64 k len cap,lv v,iv j] .nil 0) (qF 3 (.int .i64) xs) (GD xs (q2 xs v j)):=by
 unfold AR at hp;simp only [ae,bE,C4]at hp;obtain⟨⟨h1,h2⟩,⟨h3,h4⟩,⟨h5,h6⟩,⟨h7,h8⟩,h9⟩:=hp;obtain rfl:=ac h1;obtain rfl:=ac h2;obtain⟨n,rfl⟩:=Int.eq_ofNat_of_zero_le h6;exact ah2 xs v n cap h3 h4 h5 (by omega) h8 h9 A Y w F
def ah5:wq.Ok prog:=
 ⟨rfl,rfl,_,pT,func185,rfl,by decide,fun xs k len cap d hp _ hk A Y w F=>ah4 xs k len cap d.1 d.2.1 hp A Y w F⟩
abbrev yC (res:List Int) (q:Int):Exit->au af->ai->Prop:=CS prog f226 167 aG res (cu q)
section
variable {v aJ p s:List Int}
def rm {q:Int} (hv:aS 18446744073709551616 v) (hu:aS 18446744073709551616 aJ) (fQ:aJ.length=v.length+1) (hvl:v.length<=1000000) (hV:0<ak v) (G:GC (ak v) (ak aJ) q)
  (cap:bh) (r o:Int) (A:Nat->Option (Nat×Nat)) (Y:Nat->Option Obj) (w:World) (F:Sv.Env):
  cg (qE A Y) prog w F 186 ((fl fo []).drop 7) (gx (p++(aJ++s)) v p.length cap q r o).T (gx (p++(aJ++s)) v p.length cap q r o).H (yC (p++(fT 18446744073709551616 (v.length+1) (ak aJ%ak v)++s)) (ak aJ/ak v)):=by
 have hS:=Mg;refine dP (s:=gx (p++(aJ++s)) v p.length cap q r o) hS 2 (ahB _ v _ cap q r o) ?_;refine aW.loop (ι:={x:List Int×Int×Int×Nat//wj v aJ q x.1 x.2.1 x.2.2.1 x.2.2.2}) (id:=2) (b:=cat fo Gz) (rest:=(fl fo []).drop 10) (by kernel_rfl) (fun x=>kg (p++(x.1.1++s)) v p.length cap q x.1.2.1 x.1.2.2.1 x.1.2.2.2) (fun x=>v.length-x.1.2.2.2)
  ⟨(aJ,0,0,0),⟨Nat.zero_le _,fQ,hu,⟨Int.le_refl 0,show(0:Int)<18446744073709551616 by decide⟩, .inl rfl,fun _ _=>rfl,by simp [ak,vl]⟩⟩ (fun _=>rfl) ?_
 rintro⟨⟨u,c,b,i⟩,I⟩;have I:wj v aJ q u c b i:=I;have hlen:=I.len;by_cases hi:i<v.length
 .have N:=I.next hv G.Mh hi;have wk:=hv.get (by decide) i;have fin:∃j:{x:List Int×Int×Int×Nat//wj v aJ q x.1 x.2.1 x.2.2.1 x.2.2.2},v.length-j.1.2.2.2<v.length-i/\
    (kg ((p++(u++s)).set (p.length+i) (dn ((p++(u++s)).getD (p.length+i) 0) (kG q (v.getD i 0) c) b)) v p.length cap q (qY q (v.getD i 0) c) (eA ((p++(u++s)).getD (p.length+i) 0) (kG q (v.getD i 0) c) b) (i+1)).T=(kg (p++(j.1.1++s)) v p.length cap q j.1.2.1 j.1.2.2.1 j.1.2.2.2).T/\
    (kg ((p++(u++s)).set (p.length+i) (dn ((p++(u++s)).getD (p.length+i) 0) (kG q (v.getD i 0) c) b)) v p.length cap q (qY q (v.getD i 0) c) (eA ((p++(u++s)).getD (p.length+i) 0) (kG q (v.getD i 0) c) b) (i+1)).H=(kg (p++(j.1.1++s)) v p.length cap q j.1.2.1 j.1.2.2.1 j.1.2.2.2).H:=by
   rw [oE (p:=p) (s:=s) (show i<u.length by omega),uy (p:=p) (s:=s) (show i<u.length by omega)];exact⟨⟨(_,_,_,i+1),N⟩,by simp;omega,rfl,rfl⟩
  have ho:bA 167 aG (some (.own 167 aG (p++(u++s)))) (p.length+i)=true:=yy (by omega);have hm:=C9.2 ⟨G.Mh,wk⟩;rcases I.hb with hb|hb
  .subst hb;exact bC (s:=kg (p++(u++s)) v p.length cap q c 0 i) hS (ahC (p++(u++s)) v p.length cap q c i (by omega) hi hm (by omega) ho (by omega) rfl rfl rfl) fin
  .subst hb;exact bC (s:=kg (p++(u++s)) v p.length cap q c 1 i) hS (ahF (p++(u++s)) v p.length cap q c i (by omega) hi hm (by omega) ho (by omega) rfl rfl rfl) fin
 .refine bC (s:=kg (p++(u++s)) v p.length cap q c b i) hS (ahI _ v _ cap q c b i (by omega)) ?_;refine cI (cQ ?_);have hle:=I.le;obtain rfl:i=v.length:=by omega
  obtain⟨f1,f2,f3,f4⟩:=I.fin fQ;have ho:bA 167 aG (some (.own 167 aG (p++(u++s)))) (p.length+v.length)=true:=yy (by omega)
  -- the rest, from the state with the borrow
  have rest:∀u1 b1,u1=u.set v.length (dn (u.getD v.length 0) c b)->b1=eA (u.getD v.length 0) c b->
    cg (qE A Y) prog w F 186 ((fl fo []).drop 11) (ux (p++(u1++s)) v p.length cap q b1).T (ux (p++(u1++s)) v p.length cap q b1).H (yC (p++(fT 18446744073709551616 (v.length+1) (ak aJ%ak v)++s)) (ak aJ/ak v)):=by
   intro u1 b1 e1 e2;rw [<-e1,<-e2]at f1;rw [<-e1]at f2 f4;rw [<-e2]at f3;have hn:=gv (b:=18446744073709551616) (by decide) f2;have hlt:=dC (b:=18446744073709551616) (by decide) f2;rw [f4]at hlt;by_cases kq:b1=0
   .have hnn:0<=ak aJ-q*ak v:=by
     rw [kq,Int.mul_zero]at f1;unfold ak at*;omega
    obtain⟨g1,g2⟩:=ahN hV G hnn;have e3:ak u1=ak aJ-q*ak v:=by rw [kq,Int.mul_zero]at f1;omega
    have bW:=f2.TY f4;rw [e3,<-g2]at bW;rw [g1,<-bW];exact aW.Mf known mixed hS 8 _ (ahJ (p++(u1++s)) v p.length cap q b1 kq) fun T H h=>h
   .have kS:b1=1:=f3.resolve_left kq;rw [kS,Int.mul_one]at f1;have hneg:ak aJ-q*ak v<0:=by unfold ak at*;omega
    obtain⟨g1,g2⟩:=ahO hV G hneg;have uz:=ec (ak aJ) (show ak v≠0 by omega);have lQ:=eL (ak aJ) hV;have auB:=dC (b:=18446744073709551616) (by decide) hv;refine dP (s:=ux (p++(u1++s)) v p.length cap q b1) hS 4 (ahK (p++(u1++s)) v p.length cap q b1 kq) ?_;refine aW.loop (ι:={x:List Int×Int×Nat//wm v u1 x.1 x.2.1 x.2.2}) (id:=4) (b:=cat fo GA) (rest:=(fl fo []).drop 16) (by kernel_rfl) (fun x=>kF (p++(x.1.1++s)) v p.length cap q x.1.2.1 x.1.2.2) (fun x=>v.length-x.1.2.2)
     ⟨(u1,0,0),⟨Nat.zero_le _,f4,f2, .inl rfl,fun _ _=>rfl,by simp [ak,vl]⟩⟩ (fun _=>rfl) ?_
    rintro⟨⟨u2,c2,j⟩,J⟩;have J:wm v u1 u2 c2 j:=J;have QJ:=J.len;by_cases hj:j<v.length
    .have ah6:=J.next hv hj;have nD:bA 167 aG (some (.own 167 aG (p++(u2++s)))) (p.length+j)=true:=yy (by omega);have fin:∃y:{x:List Int×Int×Nat//wm v u1 x.1 x.2.1 x.2.2},v.length-y.1.2.2<v.length-j/\
       (kF ((p++(u2++s)).set (p.length+j) (c9 ((p++(u2++s)).getD (p.length+j) 0) (v.getD j 0) c2)) v p.length cap q (dX ((p++(u2++s)).getD (p.length+j) 0) (v.getD j 0) c2) (j+1)).T=(kF (p++(y.1.1++s)) v p.length cap q y.1.2.1 y.1.2.2).T/\
       (kF ((p++(u2++s)).set (p.length+j) (c9 ((p++(u2++s)).getD (p.length+j) 0) (v.getD j 0) c2)) v p.length cap q (dX ((p++(u2++s)).getD (p.length+j) 0) (v.getD j 0) c2) (j+1)).H=(kF (p++(y.1.1++s)) v p.length cap q y.1.2.1 y.1.2.2).H:=by
      rw [oE (p:=p) (s:=s) (show j<u2.length by omega),uy (p:=p) (s:=s) (show j<u2.length by omega)];exact⟨⟨(_,_,j+1),ah6⟩,by simp;omega,rfl,rfl⟩
     rcases J.hc with hc2|hc2
     .subst hc2;exact bC (s:=kF (p++(u2++s)) v p.length cap q 0 j) hS (ahE (p++(u2++s)) v p.length cap q j (by omega) (by omega) nD hj (by omega) rfl rfl) fin
     .subst hc2;exact bC (s:=kF (p++(u2++s)) v p.length cap q 1 j) hS (ahH (p++(u2++s)) v p.length cap q j (by omega) (by omega) nD hj (by omega) rfl rfl) fin
    .refine bC (s:=kF (p++(u2++s)) v p.length cap q c2 j) hS (sd_end _ v _ cap q c2 j (by omega)) ?_;refine cI (cQ ?_);have hle2:=J.le;obtain rfl:j=v.length:=by omega
     have nD:bA 167 aG (some (.own 167 aG (p++(u2++s)))) (p.length+v.length)=true:=yy (by omega);have oy:=J.fin f4 (U:=ak aJ-q*ak v) (R:=ak aJ%ak v) (by omega) (by omega) uz (by unfold ak at*;omega);have Mn:pS q=ak aJ/ak v:=by
      rw [g1];unfold pS;refine fP ⟨?_,by have:=G.Mh;omega⟩;rw [<-g1];exact Int.ediv_nonneg (gv (by decide) hu) (ct hV)
     have:=aW.Mf (X:=qE A Y) (w0:=w) (F:=F) (l:=(fl fo []).drop 16) (n:=186) (T:=(kF (p++(u2++s)) v p.length cap q c2 v.length).T) (H:=(kF (p++(u2++s)) v p.length cap q c2 v.length).H) (Q:=yC ((p++(u2++s)).set (p.length+v.length) (IntKind.wrap .u64 ((p++(u2++s)).getD (p.length+v.length) 0+c2))) (pS q)) known mixed hS 8 _ (ahL (p++(u2++s)) v p.length cap q c2 v.length nD rfl) fun T H h=>h
     rw [oE (p:=p) (s:=s) (show v.length<u2.length by omega),uy (p:=p) (s:=s) (show v.length<u2.length by omega),oy,Mn]at this;exact this
  have fin:∀T H,(ux ((p++(u++s)).set (p.length+v.length) (dn ((p++(u++s)).getD (p.length+v.length) 0) c b)) v p.length cap q (eA ((p++(u++s)).getD (p.length+v.length) 0) c b)).T=T->(ux ((p++(u++s)).set (p.length+v.length) (dn ((p++(u++s)).getD (p.length+v.length) 0) c b)) v p.length cap q (eA ((p++(u++s)).getD (p.length+v.length) 0) c b)).H=H->
    cg (qE A Y) prog w F 186 ((fl fo []).drop 11) T H (yC (p++(fT 18446744073709551616 (v.length+1) (ak aJ%ak v)++s)) (ak aJ/ak v)):=by
   rw [oE (p:=p) (s:=s) (show v.length<u.length by omega),uy (p:=p) (s:=s) (show v.length<u.length by omega)];rintro T H rfl rfl;exact rest _ _ rfl rfl
  rcases I.hb with hb|hb
  .subst hb;exact dP (s:=kg (p++(u++s)) v p.length cap q c 0 v.length) hS 1 (ahD (p++(u++s)) v p.length cap q c v.length ho rfl rfl) (fin _ _ rfl rfl)
  .subst hb;exact dP (s:=kg (p++(u++s)) v p.length cap q c 1 v.length) hS 1 (ahG (p++(u++s)) v p.length cap q c v.length ho rfl rfl) (fin _ _ rfl rfl)
def T3 {m:Nat} (hv:aS 18446744073709551616 v) (hu:aS 18446744073709551616 aJ) (fQ:aJ.length=v.length+1) (hlv:v.length=m+2) (hvl:v.length<=1000000) (h1:9223372036854775808<=v.getD (m+1) 0) (hlt:ak aJ<18446744073709551616*ak v)
  (cap:bh) (q r o:Int) (hq:0<=q/\q<18446744073709551616) (hr:0<=r/\r<18446744073709551616) (ho:o=0\/o=1) (hQ:ak aJ/ak v<=q) (he:q*v.getD (m+1) 0+(r+18446744073709551616*o)=aJ.getD (m+2) 0*18446744073709551616+aJ.getD (m+1) 0)
  (A:Nat->Option (Nat×Nat)) (Y:Nat->Option Obj) (w:World) (F:Sv.Env):
  cg (qE A Y) prog w F 186 ((fl fo []).drop 6) (gx (p++(aJ++s)) v p.length cap q r o).T (gx (p++(aJ++s)) v p.length cap q r o).H (yC (p++(fT 18446744073709551616 (v.length+1) (ak aJ%ak v)++s)) (ak aJ/ak v)):=by
 have hS:=Mg;have P:=Lt (b:=18446744073709551616) (by decide) hu hv (n:=m) (by omega) hlv (by omega);have sA:=Lu (b:=18446744073709551616) hlv;have AU:=Lv (b:=18446744073709551616) (u:=aJ) (n:=m) (by omega);have hV:0<ak v:=by
  have h2:=sy (u:=v) (n:=m+1) hlv;have h3:=gv (b:=18446744073709551616) (by decide) (hv.take (m+1));have h4:=Int.mul_pos (dK (b:=18446744073709551616) (by decide) (m+1)) (show 0<v.getD (m+1) 0 by omega);unfold ak at h2 ⊢;omega
 have pW:0<=ak aJ:=gv (by decide) hu;have wu:0<=ak aJ/ak v:=Int.ediv_nonneg pW (ct hV);have Mo:ak aJ/ak v*ak v<=ak aJ:=Int.ediv_mul_le _ (by omega);have wz:((v.length:Int)-1).toNat=m+1:=by omega
 have q3:((v.length:Int)-2).toNat=m:=by omega
 have yu:=hv.get (by decide) (m+1);have iV:=hv.get (by decide) m
 -- the digit that passes the test
 have pass:∀q r o:Int,0<=q/\q<18446744073709551616->ak aJ/ak v<=q->q*v.getD (m+1) 0+(r+18446744073709551616*o)=aJ.getD (m+2) 0*18446744073709551616+aJ.getD (m+1) 0->q*v.getD m 0<=(r+18446744073709551616*o)*18446744073709551616+aJ.getD m 0->GC (ak v) (ak aJ) q:=fun q r o hq hQ he ht=>by
  refine⟨hq,hQ, ?_⟩;have:=Lq P (t:=q) hq (by rw [show aJ.getD (m+2) 0*18446744073709551616+aJ.getD (m+1) 0-q*v.getD (m+1) 0=r+18446744073709551616*o by omega];exact ht);rw [sA,AU]at this;exact this
 refine aW.loop (ι:={x:Int×Int×Int//(0<=x.1/\x.1<18446744073709551616)/\(0<=x.2.1/\x.2.1<18446744073709551616)/\(x.2.2=0\/x.2.2=1)/\ak aJ/ak v<=x.1/\x.1*v.getD (m+1) 0+(x.2.1+18446744073709551616*x.2.2)=aJ.getD (m+2) 0*18446744073709551616+aJ.getD (m+1) 0}) (id:=0) (b:=cat fo AO) (rest:=(fl fo []).drop 7) (by kernel_rfl) (fun x=>gx (p++(aJ++s)) v p.length cap x.1.1 x.1.2.1 x.1.2.2) (fun x=>x.1.1.toNat) ⟨(q,r,o),hq,hr,ho,hQ,he⟩ (fun _=>rfl) ?_;clear hq hr ho hQ he;rintro⟨⟨q,r,o⟩,hq,hr,ho,hQ,he⟩;have hq:0<=q/\q<18446744073709551616:=hq;have hr:0<=r/\r<18446744073709551616:=hr;have ho:o=0\/o=1:=ho;have hQ:ak aJ/ak v<=q:=hQ;have he:q*v.getD (m+1) 0+(r+18446744073709551616*o)=aJ.getD (m+2) 0*18446744073709551616+aJ.getD (m+1) 0:=he;have hm:=C9.2 ⟨hq,iV⟩;have hm':k8 q (v.getD ((v.length:Int)-2).toNat 0)=true:=by rw [q3];exact hm
 have auC:=TX (q:=q) (x:=v.getD m 0);obtain⟨hh,hl⟩:=xi hq iV;have auD:=hu.get (by decide) m;have hown:bA 167 aG (some (.own 167 aG (p++(aJ++s)))) (p.length+((v.length:Int)-2).toNat)=true:=by rw [q3];exact yy (by omega)
 have hg2:(p++(aJ++s)).getD (p.length+m) 0=aJ.getD m 0:=oE (by omega);by_cases Mp:o=0
 .subst Mp
  -- the next guess
  have next:¬(q*v.getD m 0<=(r+18446744073709551616*0)*18446744073709551616+aJ.getD m 0)->∃j:{x:Int×Int×Int//(0<=x.1/\x.1<18446744073709551616)/\(0<=x.2.1/\x.2.1<18446744073709551616)/\(x.2.2=0\/x.2.2=1)/\ak aJ/ak v<=x.1/\x.1*v.getD (m+1) 0+(x.2.1+18446744073709551616*x.2.2)=aJ.getD (m+2) 0*18446744073709551616+aJ.getD (m+1) 0},j.1.1.toNat<q.toNat/\
    (gx (p++(aJ++s)) v p.length cap (pS q) (c9 r (v.getD ((v.length:Int)-1).toNat 0) 0) (dX r (v.getD ((v.length:Int)-1).toNat 0) 0)).T=(gx (p++(aJ++s)) v p.length cap j.1.1 j.1.2.1 j.1.2.2).T/\
    (gx (p++(aJ++s)) v p.length cap (pS q) (c9 r (v.getD ((v.length:Int)-1).toNat 0) 0) (dX r (v.getD ((v.length:Int)-1).toNat 0) 0)).H=(gx (p++(aJ++s)) v p.length cap j.1.1 j.1.2.1 j.1.2.2).H:=fun hn=>by
   have hgt:=SW P (t:=q) (q:=ak aJ/ak v) hq.1 (by rw [sA,AU];exact Mo) (by rw [show aJ.getD (m+2) 0*18446744073709551616+aJ.getD (m+1) 0-q*v.getD (m+1) 0=r+18446744073709551616*0 by omega];omega);obtain⟨g1,g2,g3⟩:=C6 (a:=r) (b:=v.getD (m+1) 0) (c:=0) hr yu (.inl rfl);have hd:pS q=q-1:=fP (by omega);rw [wz,hd];generalize c9 r (v.getD (m+1) 0) 0=sd at*;generalize dX r (v.getD (m+1) 0) 0=cd at*;refine⟨⟨(q-1,sd,cd),by show 0<=q-1/\q-1<_;omega,g2,g3,by show _<=q-1;omega, ?_⟩,by show(q-1).toNat<q.toNat;omega,rfl,rfl⟩;show(q-1)*v.getD (m+1) 0+(sd+18446744073709551616*cd)=aJ.getD (m+2) 0*18446744073709551616+aJ.getD (m+1) 0;have j6:(q-1)*v.getD (m+1) 0=q*v.getD (m+1) 0-v.getD (m+1) 0:=by rw [Int.sub_mul,Int.one_mul]
   omega
  by_cases GF:fO q (v.getD m 0)<r
  .refine bC (s:=gx (p++(aJ++s)) v p.length cap q r 0) hS (ahz (p++(aJ++s)) v p.length cap q r 0 rfl (by omega) (by omega) (by omega) hm' (by rw [q3];exact GF)) ?_;refine cI (cQ ?_);exact rm hv hu fQ hvl hV (pass q r 0 hq hQ he (by omega)) cap r 0 A Y w F
  .by_cases heq:fO q (v.getD m 0)=r
   .by_cases hle:cO q (v.getD m 0)<=aJ.getD m 0
    .refine bC (s:=gx (p++(aJ++s)) v p.length cap q r 0) hS (OR (p++(aJ++s)) v p.length cap q r 0 rfl (by omega) (by omega) (by omega) hm' (by rw [q3];exact GF) (by rw [q3];exact heq) hown (by rw [q3,hg2];exact hle)) ?_;refine cI (cQ ?_);exact rm hv hu fQ hvl hV (pass q r 0 hq hQ he (by omega)) cap r 0 A Y w F
    .exact bC (s:=gx (p++(aJ++s)) v p.length cap q r 0) hS (ahx (p++(aJ++s)) v p.length cap q r 0 rfl (by omega) (by omega) (by omega) hm' (by rw [q3];exact GF) (by rw [q3];exact heq) hown (by rw [q3,hg2];exact hle) (by omega) (by omega) (by omega) rfl rfl rfl) (next (by omega))
   .exact bC (s:=gx (p++(aJ++s)) v p.length cap q r 0) hS (ahy (p++(aJ++s)) v p.length cap q r 0 rfl (by omega) (by omega) (by omega) hm' (by rw [q3];exact GF) (by rw [q3];exact heq) (by omega) (by omega) (by omega) rfl rfl rfl) (next (by omega))
 .have Ga:o=1:=ho.resolve_left Mp;refine bC (s:=gx (p++(aJ++s)) v p.length cap q r o) hS (ahA (p++(aJ++s)) v p.length cap q r o Mp) ?_;refine cI (cQ ?_);have hf:=xa P (t:=q) hq (by rw [show aJ.getD (m+2) 0*18446744073709551616+aJ.getD (m+1) 0-q*v.getD (m+1) 0=r+18446744073709551616*o by omega];omega);rw [show aJ.getD (m+2) 0*18446744073709551616+aJ.getD (m+1) 0-q*v.getD (m+1) 0=r+18446744073709551616*o by omega]at hf;exact rm hv hu fQ hvl hV (pass q r o hq hQ he hf) cap r o A Y w F
def ah7 {m:Nat} (hv:aS 18446744073709551616 v) (hu:aS 18446744073709551616 aJ) (fQ:aJ.length=v.length+1) (hlv:v.length=m+2) (hvl:v.length<=1000000) (h1:9223372036854775808<=v.getD (m+1) 0) (hlt:ak aJ<18446744073709551616*ak v)
  (cap:bh) (A:Nat->Option (Nat×Nat)) (Y:Nat->Option Obj) (w:World) (F:Sv.Env):
  cg (qE A Y) prog w F 186 (fl fo []) (fX [yx v p.length cap,bJ v] .nil 0) (qF 167 aG (p++(aJ++s))) (yC (p++(fT 18446744073709551616 (v.length+1) (ak aJ%ak v)++s)) (ak aJ/ak v)):=by
 have hS:=Mg;have P:=Lt (b:=18446744073709551616) (by decide) hu hv (n:=m) (by omega) hlv (by omega);have sA:=Lu (b:=18446744073709551616) hlv;have AU:=Lv (b:=18446744073709551616) (u:=aJ) (n:=m) (by omega);have hV:0<ak v:=by
  have h2:=sy (u:=v) (n:=m+1) hlv;have h3:=gv (b:=18446744073709551616) (by decide) (hv.take (m+1));have h4:=Int.mul_pos (dK (b:=18446744073709551616) (by decide) (m+1)) (show 0<v.getD (m+1) 0 by omega);unfold ak at h2 ⊢;omega
 have pW:0<=ak aJ:=gv (by decide) hu;have wu:0<=ak aJ/ak v:=Int.ediv_nonneg pW (ct hV);have Mo:ak aJ/ak v*ak v<=ak aJ:=Int.ediv_mul_le _ (by omega);have GG:ak aJ/ak v<18446744073709551616:=(Int.ediv_lt_iff_lt_mul hV).2 hlt;have wz:((v.length:Int)-1).toNat=m+1:=by omega
 have yu:=hv.get (by decide) (m+1);have ah8:=hu.get (by decide) (m+2);have hun:=hu.get (by decide) (m+1);have hkn:p.length+v.length=p.length+(m+2):=by omega
 have gt:(p++(aJ++s)).getD (p.length+v.length) 0=aJ.getD (m+2) 0:=by rw [hkn];exact oE (by omega)
 have gn:(p++(aJ++s)).getD (p.length+(m+1)) 0=aJ.getD (m+1) 0:=oE (by omega);have o1:bA 167 aG (some (.own 167 aG (p++(aJ++s)))) (p.length+v.length)=true:=yy (by omega);have o2:bA 167 aG (some (.own 167 aG (p++(aJ++s)))) (p.length+((v.length:Int)-1).toNat)=true:=by rw [wz];exact yy (by omega)
 by_cases hge:aJ.getD (m+2) 0>=v.getD (m+1) 0
 .have hle:aJ.getD (m+2) 0<=v.getD (m+1) 0:=by
   have a1:=sy (u:=aJ) (n:=m+2) (by omega);have a2:=gv (b:=18446744073709551616) (by decide) (hu.take (m+2));have a3:=sy (u:=v) (n:=m+1) hlv;have a4:=dC (b:=18446744073709551616) (by decide) (hv.take (m+1));rw [eM,Nat.min_eq_left (by omega)]at a4;have a5:=dK (b:=18446744073709551616) (by decide) (m+1);rw [show m+2=m+1+1 from rfl,Int.pow_succ]at a1;rw [show m+1+1=m+2 from rfl]at a1;unfold ak at a1 a3 hlt;generalize vl 18446744073709551616 (aJ.take (m+2))=x at*;generalize vl 18446744073709551616 (v.take (m+1))=y at*;generalize aJ.getD (m+2) 0=ut at*;generalize v.getD (m+1) 0=T4 at*;generalize (18446744073709551616:Int)^(m+1)=P at*;refine Int.not_lt.1 fun hn=> ?_
   have b1:=eu (show T4+1<=ut by omega) (ct a5);rw [Int.mul_add,Int.mul_one]at b1;have b2:P*18446744073709551616*ut=18446744073709551616*(P*ut):=by grind
   rw [b2]at a1;generalize P*ut=auE at*;generalize P*T4=auF at*;omega
  obtain⟨g1,g2,g3⟩:=C6 (a:=aJ.getD (m+1) 0) (b:=v.getD (m+1) 0) (c:=0) hun yu (.inl rfl);refine cR hS 6 (ahv (p++(aJ++s)) v p.length cap o1 (by omega) (by omega) (by omega) (by rw [gt,wz];exact hge) o2 rfl rfl) ?_;rw [wz,gn];refine T3 hv hu fQ hlv hvl h1 hlt cap _ _ _ (by decide) g2 g3 (by omega) ?_ A Y w F;rw [g1];omega
 .have Mq:0<v.getD (m+1) 0:=by omega
  have hD:uv (aJ.getD (m+2) 0) (aJ.getD (m+1) 0) (v.getD (m+1) 0)=true:=by
   unfold uv;rw [si.2 hun,si.2 yu,az ah8.1,az (show aJ.getD (m+2) 0<v.getD (m+1) 0 by omega)];rfl
  refine cR hS 6 (ahw (p++(aJ++s)) v p.length cap o1 (by omega) (by omega) (by omega) (by rw [gt,wz];exact hge) o2 (by rw [gt,wz,gn];exact hD)) ?_;rw [wz,gn,gt];have tV:=Int.emod_add_mul_ediv (aJ.getD (m+2) 0*18446744073709551616+aJ.getD (m+1) 0) (v.getD (m+1) 0);have hm0:=ec (aJ.getD (m+2) 0*18446744073709551616+aJ.getD (m+1) 0) (show v.getD (m+1) 0≠0 by omega);have pR:=eL (aJ.getD (m+2) 0*18446744073709551616+aJ.getD (m+1) 0) Mq;have ah9:0<=kE (aJ.getD (m+2) 0) (aJ.getD (m+1) 0) (v.getD (m+1) 0):=Int.ediv_nonneg (by omega) (by omega);have aia:kE (aJ.getD (m+2) 0) (aJ.getD (m+1) 0) (v.getD (m+1) 0)<18446744073709551616:=(Int.ediv_lt_iff_lt_mul Mq).2 (by omega);have aib:=SX P wu (by rw [sA,AU];exact Mo);refine T3 hv hu fQ hlv hvl h1 hlt cap _ _ _ ⟨ah9,aia⟩ ⟨hm0,by show _%_<_;omega⟩ (.inl rfl) ((Int.le_ediv_iff_mul_le Mq).2 aib) ?_ A Y w F;show(_/_)*_+(_%_+_)=_;rw [Int.mul_comm];omega
end
def aic (xs v:List Int) (k len:Nat) (cap:bh) (hp:se xs k len v=true) (hk:k+len<=xs.length) (A:Nat->Option (Nat×Nat)) (Y:Nat->Option Obj) (w:World) (F:Sv.Env):
  cg (qE A Y) prog w F 186 (fl fo []) (fX [.bU 167 aG 64 k len cap,bJ v] .nil 0) (qF 167 aG xs) (yC (ik xs k len v) (jr xs k len v)):=by
 unfold se at hp;simp only [ae,bE,ij]at hp;obtain⟨hx,hv,h2,h3,h4,h5,h6⟩:=hp;have h3:=ac h3;subst h3;obtain⟨m,hm⟩:∃m,v.length=m+2:=⟨v.length-2,by omega⟩;have hpl:(xs.take k).length=k:=by rw [eM];omega
 have Dl:(qZ xs k (v.length+1)).length=v.length+1:=by unfold qZ;rw [eM,nU];omega
 have Mn:xs=xs.take k++(qZ xs k (v.length+1)++xs.drop (k+(v.length+1))):=by
  unfold qZ;rw [<-List.drop_drop,List.take_append_drop,List.take_append_drop]
 have:=ah7 (p:=xs.take k) (aJ:=qZ xs k (v.length+1)) (s:=xs.drop (k+(v.length+1))) hv ((hx.drop k).take _) Dl hm h4 (by rw [show m+1=v.length-1 by omega];exact h5) h6 cap A Y w F;rw [<-Mn,hpl]at this;exact this
def aid:sw.Ok prog:=
 ⟨rfl,rfl,_,fo,func226,rfl,by decide,fun xs k len cap d hp _ hk A Y w F=>aic xs d.1 k len cap hp hk A Y w F⟩
end
end Go.Proofs.YtibikmmdbdlafaaGreatDoor
