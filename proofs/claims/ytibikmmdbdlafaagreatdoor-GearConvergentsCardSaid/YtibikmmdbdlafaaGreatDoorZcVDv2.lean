import Derived.Test.YtibikmmdbdlafaaGreatDoorZcVSh
set_option linter.defProp false
set_option linter.unusedSectionVars false
set_option linter.unusedSimpArgs false
set_option linter.unusedVariables false
set_option maxRecDepth 100000
namespace Go.Proofs.YtibikmmdbdlafaaGreatDoor
open Go.RowKit Sv Go.Proofs.Tryz
noncomputable section
def uI (P:Program) (fn:Func) (e:TypeId) (t:av) (xs:List t.den) (res:aa):R->Prop
 | .ret T H []=>(match jX P fn T H with
   | .ok v _=>cD true H v res/\(match H.get 64 with
     |some (.own e' t' ys)=>gY (Nat.beq e e') (pn t' t ys xs)
     |_=>False)
   |_=>False)
 |_=>False
def fo:=k_a f226
def jK:=bc [Gm,L8]
abbrev Ba:List Nat:=[1,1,1,1,1,0,0,0]
abbrev GJ:List Nat:=[1,1,1,1,1,1,1,0,1,0,0]
abbrev GK:List Nat:=[1,1,1,1,1,1,1,1,1,1,1,0,1,0,0]
abbrev yT (v:List Int) (k:Nat) (cap:aX):aa:= .bR 167 aE 64 k (v.length+1) cap
abbrev GL (xs:List Int):List (Nat×fJ):=[(64, .blk (.own 167 aE xs))]
abbrev j9:Sv.Ren:=[(64,64,none)]
section
variable (xs v:List Int) (k:Nat) (cap:aX)
def gq (q r o:Int):bD:={n:=186,sl:=[(0,yT v k cap),(1,bI v),(5,iv v.length),(6,cu q),(7,cu r),(8,cu o)],bJ:=GL xs,next:=65}
def ke (q c b:Int) (i:Nat):bD:={n:=186,sl:=[(0,yT v k cap),(1,bI v),(5,iv v.length),(6,cu q),(11,cu b),(12,cu c),(104,iv v.length),(105,iv i)],bJ:=GL xs,next:=65}
def uJ (q b:Int):bD:={n:=186,sl:=[(0,yT v k cap),(1,bI v),(5,iv v.length),(6,cu q),(11,cu b)],bJ:=GL xs,next:=65}
def kA (q c:Int) (i:Nat):bD:={n:=186,sl:=[(0,yT v k cap),(1,bI v),(5,iv v.length),(6,cu q),(17,cu c),(156,iv v.length),(157,iv i)],bJ:=GL xs,next:=65}
end
def kB (q x c:Int):Int:=c8 (cL q x) c 0
def q9 (q x c:Int):Int:=IntKind.wrap .u64 (fK q x+dX (cL q x) c 0)
def pO (q:Int):Int:=IntKind.wrap .u64 (q-1)
section
variable (xs v:List Int) (k:Nat) (cap:aX)
def agO (h1:(bz 167 aE (some (bl.own 167 aE xs)) (k+v.length))=true) (h2:i6 ((v.length:Int)-1)) (h3:0<=(v.length:Int)-1) (h4:((v.length:Int)-1).toNat<v.length) (h5:xs.getD (k+v.length) 0>=v.getD ((v.length:Int)-1).toNat 0) (h6:(bz 167 aE (some (bl.own 167 aE xs)) (k+((v.length:Int)-1).toNat))=true) (h7:(↑(((xs.getD (k+((v.length:Int)-1).toNat) 0).toNat+(v.getD ((v.length:Int)-1).toNat 0).toNat+Int.toNat 0)%(2:Nat)^(64:Nat)):Int)=(c8 (xs.getD (k+((v.length:Int)-1).toNat) 0) (v.getD ((v.length:Int)-1).toNat 0) 0)) (h8:(↑(((xs.getD (k+((v.length:Int)-1).toNat) 0).toNat+(v.getD ((v.length:Int)-1).toNat 0).toNat+Int.toNat 0)/(2:Nat)^(64:Nat)):Int)=(dX (xs.getD (k+((v.length:Int)-1).toNat) 0) (v.getD ((v.length:Int)-1).toNat 0) 0)):
  aD.path (iw prog jK 186 ((fl fo []).take 6) (dq [yT v k cap,bI v] .nil 0) (qP 167 aE xs)) (dl 3) (ef prog 186 .normal j9 (gq xs v k cap 18446744073709551615 (c8 (xs.getD (k+((v.length:Int)-1).toNat) 0) (v.getD ((v.length:Int)-1).toNat 0) 0) (dX (xs.getD (k+((v.length:Int)-1).toNat) 0) (v.getD ((v.length:Int)-1).toNat 0) 0))):=
 wy [ah (by omega:v.length<v.length+(1:Nat)),af h1,af (aF (v:=aa.raw (Value.int IntKind.u64 (xs.getD (k+v.length) (0:Int))))),yi h2,ah h3,ah h4,af (aF (v:=aa.raw (Value.int IntKind.u64 (v.getD ((v.length:Int)-(1:Int)).toNat (0:Int))))),ah h5,ah (by omega:((v.length:Int)-(1:Int)).toNat<v.length+(1:Nat)),af h6,af (aF (v:=aa.raw (Value.int IntKind.u64 (xs.getD (k+((v.length:Int)-(1:Int)).toNat) (0:Int))))),ax h7,ax h8] 77094211369205276292351474339892351805825363746880
def agP (h1:(bz 167 aE (some (bl.own 167 aE xs)) (k+v.length))=true) (h2:i6 ((v.length:Int)-1)) (h3:0<=(v.length:Int)-1) (h4:((v.length:Int)-1).toNat<v.length) (h5:¬xs.getD (k+v.length) 0>=v.getD ((v.length:Int)-1).toNat 0) (h6:(bz 167 aE (some (bl.own 167 aE xs)) (k+((v.length:Int)-1).toNat))=true) (h7:(uG (xs.getD (k+v.length) 0) (xs.getD (k+((v.length:Int)-1).toNat) 0) (v.getD ((v.length:Int)-1).toNat 0))=true):
  aD.path (iw prog jK 186 ((fl fo []).take 6) (dq [yT v k cap,bI v] .nil 0) (qP 167 aE xs)) (dl 2) (ef prog 186 .normal j9 (gq xs v k cap (kz (xs.getD (k+v.length) 0) (xs.getD (k+((v.length:Int)-1).toNat) 0) (v.getD ((v.length:Int)-1).toNat 0)) (oq (xs.getD (k+v.length) 0) (xs.getD (k+((v.length:Int)-1).toNat) 0) (v.getD ((v.length:Int)-1).toNat 0)) 0)):=
 wy [ah (by omega:v.length<v.length+(1:Nat)),af h1,af (aF (v:=aa.raw (Value.int IntKind.u64 (xs.getD (k+v.length) (0:Int))))),yi h2,ah h3,ah h4,af (aF (v:=aa.raw (Value.int IntKind.u64 (v.getD ((v.length:Int)-(1:Int)).toNat (0:Int))))),aJ h5,ah (by omega:((v.length:Int)-(1:Int)).toNat<v.length+(1:Nat)),af h6,af (aF (v:=aa.raw (Value.int IntKind.u64 (xs.getD (k+((v.length:Int)-(1:Int)).toNat) (0:Int))))),af h7] 17285195801427806826710116508223698747578130496
def agQ (q r o:Int) (h1:o=0) (h2:i6 ((v.length:Int)-2)) (h3:0<=(v.length:Int)-2) (h4:((v.length:Int)-2).toNat<v.length) (h5:(k4 q (v.getD ((v.length:Int)-2).toNat 0))=true) (h6:¬fK q (v.getD ((v.length:Int)-2).toNat 0)<r) (h7:fK q (v.getD ((v.length:Int)-2).toNat 0)=r) (h8:(bz 167 aE (some (bl.own 167 aE xs)) (k+((v.length:Int)-2).toNat))=true) (h9:cL q (v.getD ((v.length:Int)-2).toNat 0)<=xs.getD (k+((v.length:Int)-2).toNat) 0):
  bt jK (fl fo Ba) (gq xs v k cap q r o) 114687 (.exit 0) j9 (gq xs v k cap q r o):=
 wy [cX h1,yi h2,ah h3,ah h4,af h5,af (bq (ab h6)),af (aM (fU.mpr h7)),ah (by omega:((v.length:Int)-(2:Int)).toNat<v.length+(1:Nat)),af h8,cX h7,aJ h6,ah h9] 4242138250928964978126769479503194568536193
def agR (q r o:Int) (h1:o=0) (h2:i6 ((v.length:Int)-2)) (h3:0<=(v.length:Int)-2) (h4:((v.length:Int)-2).toNat<v.length) (h5:(k4 q (v.getD ((v.length:Int)-2).toNat 0))=true) (h6:¬fK q (v.getD ((v.length:Int)-2).toNat 0)<r) (h7:fK q (v.getD ((v.length:Int)-2).toNat 0)=r) (h8:(bz 167 aE (some (bl.own 167 aE xs)) (k+((v.length:Int)-2).toNat))=true) (h9:¬cL q (v.getD ((v.length:Int)-2).toNat 0)<=xs.getD (k+((v.length:Int)-2).toNat) 0) (h10:i6 ((v.length:Int)-1)) (h11:0<=(v.length:Int)-1) (h12:((v.length:Int)-1).toNat<v.length) (dF:(IntKind.wrap IntKind.u64 (q-1))=(pO q)) (gb:(↑((r.toNat+(v.getD ((v.length:Int)-1).toNat 0).toNat+Int.toNat 0)%(2:Nat)^(64:Nat)):Int)=(c8 r (v.getD ((v.length:Int)-1).toNat 0) 0)) (iA:(↑((r.toNat+(v.getD ((v.length:Int)-1).toNat 0).toNat+Int.toNat 0)/(2:Nat)^(64:Nat)):Int)=(dX r (v.getD ((v.length:Int)-1).toNat 0) 0)):
  bt jK (fl fo Ba) (gq xs v k cap q r o) 81919 .normal j9 (gq xs v k cap (pO q) (c8 r (v.getD ((v.length:Int)-1).toNat 0) 0) (dX r (v.getD ((v.length:Int)-1).toNat 0) 0)):=
 wy [cX h1,yi h2,ah h3,ah h4,af h5,af (bq (ab h6)),af (aM (fU.mpr h7)),ah (by omega:((v.length:Int)-(2:Int)).toNat<v.length+(1:Nat)),af h8,cX h7,aJ h6,aJ h9,yi h10,ah h11,ah h12,ax dF,ax gb,ax iA] 469728077062457485352764315554227309838396813452327361610526849
def agS (q r o:Int) (h1:o=0) (h2:i6 ((v.length:Int)-2)) (h3:0<=(v.length:Int)-2) (h4:((v.length:Int)-2).toNat<v.length) (h5:(k4 q (v.getD ((v.length:Int)-2).toNat 0))=true) (h6:¬fK q (v.getD ((v.length:Int)-2).toNat 0)<r) (h7:¬fK q (v.getD ((v.length:Int)-2).toNat 0)=r) (h8:i6 ((v.length:Int)-1)) (h9:0<=(v.length:Int)-1) (h10:((v.length:Int)-1).toNat<v.length) (h11:(IntKind.wrap IntKind.u64 (q-1))=(pO q)) (h12:(↑((r.toNat+(v.getD ((v.length:Int)-1).toNat 0).toNat+Int.toNat 0)%(2:Nat)^(64:Nat)):Int)=(c8 r (v.getD ((v.length:Int)-1).toNat 0) 0)) (dF:(↑((r.toNat+(v.getD ((v.length:Int)-1).toNat 0).toNat+Int.toNat 0)/(2:Nat)^(64:Nat)):Int)=(dX r (v.getD ((v.length:Int)-1).toNat 0) 0)):
  bt jK (fl fo Ba) (gq xs v k cap q r o) 69663 .normal j9 (gq xs v k cap (pO q) (c8 r (v.getD ((v.length:Int)-1).toNat 0) 0) (dX r (v.getD ((v.length:Int)-1).toNat 0) 0)):=
 wy [cX h1,yi h2,ah h3,ah h4,af h5,af (bq (ab h6)),af (aM (e8.mpr h7)),yn h7,aJ h6,yi h8,ah h9,ah h10,ax h11,ax h12,ax dF] 23327530390001849591339075209156203297049197881947336833
def agT (q r o:Int) (h1:o=0) (h2:i6 ((v.length:Int)-2)) (h3:0<=(v.length:Int)-2) (h4:((v.length:Int)-2).toNat<v.length) (h5:(k4 q (v.getD ((v.length:Int)-2).toNat 0))=true) (h6:fK q (v.getD ((v.length:Int)-2).toNat 0)<r):
  bt jK (fl fo Ba) (gq xs v k cap q r o) 449 (.exit 0) j9 (gq xs v k cap q r o):=
 wy [cX h1,yi h2,ah h3,ah h4,af h5,af (bq (az h6)),ah h6] 8180252580288409729
def OF (q r o:Int) (h1:¬o=0):
  bt jK (fl fo Ba) (gq xs v k cap q r o) 2 (.exit 0) j9 (gq xs v k cap q r o):=
 wy [yn h1] 1
def agU (q r o:Int):
  cY jK ((fl fo []).drop 7) 2 (gq xs v k cap q r o) 1 .normal j9 (ke xs v k cap q 0 0 0):=
 wy [] 0
def agV (q c:Int) (i:Nat) (h1:(i:Int)<(v.length:Int)) (h2:i<v.length) (h3:(k4 q (v.getD i (0:Int)))=true) (h4:i<v.length+(1:Nat)) (h5:(bz 167 aE (some (bl.own 167 (.int .u64) xs)) (k+i))=true) (h6:i6 ((i:Int)+1)) (h7:(↑(if Int.toNat (xs.getD (k+i) (0:Int))<((cL q (v.getD i (0:Int))).toNat+c.toNat+(0:Int).toNat)%(2:Nat)^(64:Nat)+Int.toNat (0:Int)then(1:Nat)else(0:Nat)):Int)=(eA (xs.getD (k+i) (0:Int)) (kB q (v.getD i (0:Int)) c) (0:Int))) (h8:(IntKind.wrap IntKind.u64 (fK q (v.getD i (0:Int))+(↑(((cL q (v.getD i (0:Int))).toNat+c.toNat+(0:Int).toNat)/(2:Nat)^(64:Nat)):Int)))=(q9 q (v.getD i (0:Int)) c)) (h9:(xs.set (k+i) (↑(((xs.getD (k+i) (0:Int)).toNat+(2:Nat)^(64:Nat)-((cL q (v.getD i (0:Int))).toNat+c.toNat+(0:Int).toNat)%(2:Nat)^(64:Nat)-Int.toNat (0:Int))%(2:Nat)^(64:Nat)):Int))=(xs.set (k+i) (dx (xs.getD (k+i) (0:Int)) (kB q (v.getD i (0:Int)) c) (0:Int)))):
  bt jK (fl fo GJ) (ke xs v k cap q c 0 i) 3 .normal j9 (ke (xs.set (k+i) (dx (xs.getD (k+i) 0) (kB q (v.getD i 0) c) 0)) v k cap q (q9 q (v.getD i 0) c) (eA (xs.getD (k+i) 0) (kB q (v.getD i 0) c) 0) (i+1)):=
 wy [ah h1,ah h2,af h3,ah h4,af h5,yi h6,ax h7,ax h8,ax h9] 765637957214757616603839101145321316353
def agW (q c:Int) (i:Nat) (h1:(bz 167 aE (some (bl.own 167 (.int .u64) xs)) (k+v.length))=true) (h2:(↑(if Int.toNat (xs.getD (k+v.length) (0:Int))<c.toNat+Int.toNat (0:Int)then(1:Nat)else(0:Nat)):Int)=(eA (xs.getD (k+v.length) (0:Int)) c (0:Int))) (h3:(xs.set (k+v.length) (↑(((xs.getD (k+v.length) (0:Int)).toNat+(2:Nat)^(64:Nat)-Int.toNat c-Int.toNat (0:Int))%(2:Nat)^(64:Nat)):Int))=(xs.set (k+v.length) (dx (xs.getD (k+v.length) (0:Int)) c (0:Int)))):
  cY jK ((fl fo []).drop 10) 1 (ke xs v k cap q c 0 i) 1 .normal j9 (uJ (xs.set (k+v.length) (dx (xs.getD (k+v.length) 0) c 0)) v k cap q (eA (xs.getD (k+v.length) 0) c 0)):=
 wy [ah (by omega:v.length<v.length+(1:Nat)),af h1,ax h2,ax h3] 1223092919063240274616384
def agX (q:Int) (i:Nat) (h1:(i:Int)<(v.length:Int)) (h2:i<v.length+1) (h3:(bz 167 aE (some (bl.own 167 aE xs)) (k+i))=true) (h4:i<v.length) (h5:i6 ((i:Int)+1)) (h6:(↑(((xs.getD (k+i) 0).toNat+(v.getD i 0).toNat+Int.toNat 0)/(2:Nat)^(64:Nat)):Int)=(dX (xs.getD (k+i) 0) (v.getD i 0) 0)) (h7:(xs.set (k+i) (↑(((xs.getD (k+i) 0).toNat+(v.getD i 0).toNat+Int.toNat 0)%(2:Nat)^(64:Nat)):Int))=(xs.set (k+i) (c8 (xs.getD (k+i) 0) (v.getD i 0) 0))):
  bt jK (fl fo GK) (kA xs v k cap q 0 i) 3 .normal j9 (kA (xs.set (k+i) (c8 (xs.getD (k+i) 0) (v.getD i 0) 0)) v k cap q (dX (xs.getD (k+i) 0) (v.getD i 0) 0) (i+1)):=
 wy [ah h1,ah h2,af h3,af (aF (v:=aa.raw (Value.int IntKind.u64 (xs.getD (k+i) (0:Int))))),ah h4,af (aF (v:=aa.raw (Value.int IntKind.u64 (v.getD i (0:Int))))),yi h5,ax h6,ax h7] 49000826990114611886490290308882841214977
def agY (q c:Int) (i:Nat) (h1:(i:Int)<(v.length:Int)) (h2:i<v.length) (h3:(k4 q (v.getD i (0:Int)))=true) (h4:i<v.length+(1:Nat)) (h5:(bz 167 aE (some (bl.own 167 (.int .u64) xs)) (k+i))=true) (h6:i6 ((i:Int)+1)) (h7:(↑(if Int.toNat (xs.getD (k+i) (0:Int))<((cL q (v.getD i (0:Int))).toNat+c.toNat+(0:Int).toNat)%(2:Nat)^(64:Nat)+Int.toNat (1:Int)then(1:Nat)else(0:Nat)):Int)=(eA (xs.getD (k+i) (0:Int)) (kB q (v.getD i (0:Int)) c) (1:Int))) (h8:(IntKind.wrap IntKind.u64 (fK q (v.getD i (0:Int))+(↑(((cL q (v.getD i (0:Int))).toNat+c.toNat+(0:Int).toNat)/(2:Nat)^(64:Nat)):Int)))=(q9 q (v.getD i (0:Int)) c)) (h9:(xs.set (k+i) (↑(((xs.getD (k+i) (0:Int)).toNat+(2:Nat)^(64:Nat)-((cL q (v.getD i (0:Int))).toNat+c.toNat+(0:Int).toNat)%(2:Nat)^(64:Nat)-Int.toNat (1:Int))%(2:Nat)^(64:Nat)):Int))=(xs.set (k+i) (dx (xs.getD (k+i) (0:Int)) (kB q (v.getD i (0:Int)) c) (1:Int)))):
  bt jK (fl fo GJ) (ke xs v k cap q c 1 i) 3 .normal j9 (ke (xs.set (k+i) (dx (xs.getD (k+i) 0) (kB q (v.getD i 0) c) 1)) v k cap q (q9 q (v.getD i 0) c) (eA (xs.getD (k+i) 0) (kB q (v.getD i 0) c) 1) (i+1)):=
 wy [ah h1,ah h2,af h3,ah h4,af h5,yi h6,ax h7,ax h8,ax h9] 765637957214757616603839101145321316353
def agZ (q c:Int) (i:Nat) (h1:(bz 167 aE (some (bl.own 167 (.int .u64) xs)) (k+v.length))=true) (h2:(↑(if Int.toNat (xs.getD (k+v.length) (0:Int))<c.toNat+Int.toNat (1:Int)then(1:Nat)else(0:Nat)):Int)=(eA (xs.getD (k+v.length) (0:Int)) c (1:Int))) (h3:(xs.set (k+v.length) (↑(((xs.getD (k+v.length) (0:Int)).toNat+(2:Nat)^(64:Nat)-Int.toNat c-Int.toNat (1:Int))%(2:Nat)^(64:Nat)):Int))=(xs.set (k+v.length) (dx (xs.getD (k+v.length) (0:Int)) c (1:Int)))):
  cY jK ((fl fo []).drop 10) 1 (ke xs v k cap q c 1 i) 1 .normal j9 (uJ (xs.set (k+v.length) (dx (xs.getD (k+v.length) 0) c 1)) v k cap q (eA (xs.getD (k+v.length) 0) c 1)):=
 wy [ah (by omega:v.length<v.length+(1:Nat)),af h1,ax h2,ax h3] 1223092919063240274616384
def ag0 (q:Int) (i:Nat) (h1:(i:Int)<(v.length:Int)) (h2:i<v.length+1) (h3:(bz 167 aE (some (bl.own 167 aE xs)) (k+i))=true) (h4:i<v.length) (h5:i6 ((i:Int)+1)) (h6:(↑(((xs.getD (k+i) 0).toNat+(v.getD i 0).toNat+Int.toNat 1)/(2:Nat)^(64:Nat)):Int)=(dX (xs.getD (k+i) 0) (v.getD i 0) 1)) (h7:(xs.set (k+i) (↑(((xs.getD (k+i) 0).toNat+(v.getD i 0).toNat+Int.toNat 1)%(2:Nat)^(64:Nat)):Int))=(xs.set (k+i) (c8 (xs.getD (k+i) 0) (v.getD i 0) 1))):
  bt jK (fl fo GK) (kA xs v k cap q 1 i) 3 .normal j9 (kA (xs.set (k+i) (c8 (xs.getD (k+i) 0) (v.getD i 0) 1)) v k cap q (dX (xs.getD (k+i) 0) (v.getD i 0) 1) (i+1)):=
 wy [ah h1,ah h2,af h3,af (aF (v:=aa.raw (Value.int IntKind.u64 (xs.getD (k+i) (0:Int))))),ah h4,af (aF (v:=aa.raw (Value.int IntKind.u64 (v.getD i (0:Int))))),yi h5,ax h6,ax h7] 49000826990114611886490290308882841214977
def ag1 (q c b:Int) (i:Nat) (h1:¬(i:Int)<(v.length:Int)):
  bt jK (fl fo GJ) (ke xs v k cap q c b i) 2 (.exit 2) j9 (ke xs v k cap q c b i):=
 wy [aJ h1] 1
def ag2 (q b:Int) (h1:b=0):
  aD.path (oe prog jK ((fl fo []).drop 11) (uJ xs v k cap q b)) (dl 3) (uI prog f226 167 aE xs (cu q)):=
 wy [cX h1,r9 (an (rr (q)) (rr (xs)))] 129
def ag3 (q b:Int) (h1:¬b=0):
  cY jK ((fl fo []).drop 11) 4 (uJ xs v k cap q b) 2 .normal j9 (kA xs v k cap q 0 0):=
 wy [yn h1] 1
def sd_end (q c:Int) (i:Nat) (h1:¬(i:Int)<(v.length:Int)):
  bt jK (fl fo GK) (kA xs v k cap q c i) 2 (.exit 4) j9 (kA xs v k cap q c i):=
 wy [aJ h1] 1
def ag4 (q c:Int) (i:Nat) (h1:(bz 167 aE (some (bl.own 167 aE xs)) (k+v.length))=true) (h2:(IntKind.wrap IntKind.u64 (q-1))=(pO q)):
  aD.path (oe prog jK ((fl fo []).drop 16) (kA xs v k cap q c i)) (dl 1) (uI prog f226 167 aE (xs.set (k+v.length) (IntKind.wrap .u64 (xs.getD (k+v.length) 0+c))) (cu (pO q))):=
 wy [ah (by omega:v.length<v.length+(1:Nat)),af h1,r9 (an h2 (rr (xs.set (k+v.length) (IntKind.wrap IntKind.u64 (xs.getD (k+v.length) (0:Int)+c)))))] 208322699328
end
section
variable (xs:List Int) (k len:Nat)
def ri:List Int:=(xs.drop k).take len
def jk (v:List Int):Int:=ak (ri xs k len)/ak v
def k9 (v:List Int):List Int:=xs.take k++(fS 18446744073709551616 len (ak (ri xs k len)%ak v)++xs.drop (k+len))
def wP (v:List Int):Bool:=gR xs&&(gR v&&(decide (2<=v.length)&&(Nat.beq len (v.length+1)&&(decide (v.length<=1000000)&&(decide (9223372036854775808<=v.getD (v.length-1) 0)&&decide (ak (ri xs k len)<18446744073709551616*ak v))))))
end
noncomputable def sD:gQ:={f:=226,e:=167,t:=aE,ps:=[.list false aE],rs:=[aE],pre:=fun xs k len d=>wP xs k len d.1,out:=fun xs k len d=>k9 xs k len d.1,fn:=fun xs k len d=>(jk xs k len d.1,())}
section
variable {p u s:List Int} {i:Nat}
def ov (hi:i<u.length):(p++(u++s)).getD (p.length+i) 0=u.getD i 0:=by
 simp only [ao];rw [List.getElem?_append_right ω,Nat.add_sub_cancel_left,List.getElem?_append_left hi]
def uK {x:Int} (hi:i<u.length):(p++(u++s)).set (p.length+i) x=p++(u.set i x++s):=by
 rw [List.set_append_right _ _ ω,Nat.add_sub_cancel_left,List.set_append_left _ _ hi]
def yU (hi:i<u.length):bz 167 aE (some (.own 167 aE (p++(u++s)))) (p.length+i)=true:=by
 rw [gk];exact az (by rw [cQ,cQ];omega)
end
def aU.Mc {X:Ext} {P:Program} {w0:World} {F:Sv.Env} {n:Nat} {T:au aa} {H:ai} {Q:Exit->au aa->ai->Prop} (hK:fe P) (hm:P.follows .mixedOrders=true) {bu:bG} (hS:bC P (bF bu)) {l:List Code} {fn:Func} {e:TypeId} {t:av} {xs:List t.den} {res:aa} (k:Nat) (D:List Bool) (h:(Sv.iw P bu n (l.take k) T H).path D (uI P fn e t xs res))
  (hq:∀T H,Kp P fn e t xs res .ret T H->Q .ret T H):ba X P w0 F n l T H Q:=by
 obtain⟨r,h1,h2⟩:=aD.uj _ _ h;have key:ba X P w0 F n (l.take k) T H (gZ (fun T H=>ba X P w0 F n (l.drop k) T H Q) Q):=by
  refine aU.iw hK hm hS (fQ:=uI P fn e t xs res) (fun r hr=> ?_) h1 h2;unfold uI at hr;split at hr
  .refine hq _ _ ?_;rename_i aO H';show(match jX P fn aO H' with | .ok v _=>cD true H' v res/\H'.get 64=some (.own e t xs)|_=>False)
   split at hr
   .obtain⟨g1,g2⟩:=hr;refine⟨g1, ?_⟩;split at g2
    .rename_i hg;obtain⟨k1,k2⟩:=je g2;obtain⟨e1,rfl⟩:=AI k2;subst e1;rw [hg,ac k1]
    .exact g2.elim
   .exact hr.elim
  .exact hr.elim
 have:=aU.split key;rwa [List.take_append_drop]at this
def Md:bC prog (bF jK):=cK (aP LH (aP T6 dQ))
def T8 {q x:Int}:fK q x*18446744073709551616+cL q x=q*x:=by
 unfold fK cL;have:=Int.emod_add_mul_ediv (q*x) 18446744073709551616;omega
def xc {q x:Int} (hq:0<=q/\q<18446744073709551616) (hx:0<=x/\x<18446744073709551616):(0<=fK q x/\fK q x<18446744073709551616)/\(0<=cL q x/\cL q x<18446744073709551616):=by
 have h0:0<=q*x:=Int.mul_nonneg hq.1 hx.1;have h1:q*x<=18446744073709551615*18446744073709551615:=Int.mul_le_mul ω ω hx.1 δ;unfold fK cL;omega
def ag5 {q x c:Int} (hq:0<=q/\q<18446744073709551616) (hx:0<=x/\x<18446744073709551616) (hc:0<=c/\c<18446744073709551616):
  q9 q x c*18446744073709551616+kB q x c=q*x+c/\(0<=kB q x c/\kB q x c<18446744073709551616)/\(0<=q9 q x c/\q9 q x c<18446744073709551616):=by
 have h0:0<=q*x:=Int.mul_nonneg hq.1 hx.1;have h1:q*x<=18446744073709551615*18446744073709551615:=Int.mul_le_mul ω ω hx.1 δ;obtain⟨_,hlo⟩:=xc hq hx;have hs:=T8 (q:=q) (x:=x);have hA:c8 (cL q x) c 0+18446744073709551616*dX (cL q x) c 0=cL q x+c/\(0<=c8 (cL q x) c 0/\c8 (cL q x) c 0<18446744073709551616)/\(dX (cL q x) c 0=0\/dX (cL q x) c 0=1):=by
  have:=Dp hlo hc (.inl rfl);omega
 unfold q9 kB;rw [fL (x:=fK q x+dX (cL q x) c 0) ω];omega
structure GM (V U q:Int):Prop where
 Me:0<=q/\q<18446744073709551616
 hi:U/V<=q
 lo:(q-1)*V<=U
structure wQ (v aH:List Int) (q:Int) (u:List Int) (c b:Int) (i:Nat):Prop where
 le:i<=v.length
 len:u.length=v.length+1
 dg:aS 18446744073709551616 u
 hc:0<=c/\c<18446744073709551616
 hb:b=0\/b=1
 same:∀j,i<=j->u.getD j 0=aH.getD j 0
 val:ak (u.take i)-18446744073709551616^i*b=ak (aH.take i)-q*ak (v.take i)+18446744073709551616^i*c
def wQ.next {v aH u:List Int} {q c b:Int} {i:Nat} (I:wQ v aH q u c b i) (hv:aS 18446744073709551616 v) (hq:0<=q/\q<18446744073709551616) (hi:i<v.length):
  wQ v aH q (u.set i (dx (u.getD i 0) (kB q (v.getD i 0) c) b)) (q9 q (v.getD i 0) c) (eA (u.getD i 0) (kB q (v.getD i 0) c) b) (i+1):=by
 have wR:=hv.get δ i;have sF:=I.dg.get δ i;obtain⟨h1,h2,h3⟩:=ag5 hq wR I.hc;obtain⟨g1,g2,g3⟩:=LC sF h2 I.hb;have hlen:=I.len;refine⟨hi,by rw [b6];exact hlen,I.dg.set g2,h3,g3,fun j hj=> ?_, ?_⟩
 .rw [ou,if_neg ω];exact I.same j ω
 .have hval:=I.val;unfold ak at hval ⊢;rw [yI ω,kX aH,kX v,Int.pow_succ,<-I.same i (aI _)];exact af8 h1 g1 hval
structure wS (v aH:List Int) (u:List Int) (c:Int) (i:Nat):Prop where
 le:i<=v.length
 len:u.length=v.length+1
 dg:aS 18446744073709551616 u
 hc:c=0\/c=1
 same:∀j,i<=j->u.getD j 0=aH.getD j 0
 val:ak (u.take i)+18446744073709551616^i*c=ak (aH.take i)+ak (v.take i)
def wS.next {v aH u:List Int} {c:Int} {i:Nat} (I:wS v aH u c i) (hv:aS 18446744073709551616 v) (hi:i<v.length):
  wS v aH (u.set i (c8 (u.getD i 0) (v.getD i 0) c)) (dX (u.getD i 0) (v.getD i 0) c) (i+1):=by
 have wR:=hv.get δ i;have sF:=I.dg.get δ i;obtain⟨g1,g2,g3⟩:=Dp sF wR I.hc;have hlen:=I.len;refine⟨hi,by rw [b6];exact hlen,I.dg.set g2,g3,fun j hj=> ?_, ?_⟩
 .rw [ou,if_neg ω];exact I.same j ω
 .have hval:=I.val;unfold ak at hval ⊢;rw [yI ω,kX aH,kX v,Int.pow_succ,<-I.same i (aI _)];exact LB g1 hval
section
variable {v aH p s:List Int} {m:Nat} {q:Int}
def aS.T9 {u:List Int} {n:Nat} (h:aS 18446744073709551616 u) (hl:u.length=n+1):u=fS 18446744073709551616 (n+1) (ak u):=by
 have:=LZ (b:=18446744073709551616) δ h;rw [hl]at this;exact this
def sG {u:List Int} {n:Nat} (hl:u.length=n+1):ak u=ak (u.take n)+18446744073709551616^n*u.getD n 0:=by
 have:=lS (b:=18446744073709551616) (l:=u) (k:=n) ω;rw [eH ω]at this;exact this
def wQ.fin {u:List Int} {c b:Int} (I:wQ v aH q u c b v.length) (fN:aH.length=v.length+1):
  ak (u.set v.length (dx (u.getD v.length 0) c b))-18446744073709551616^(v.length+1)*eA (u.getD v.length 0) c b=ak aH-q*ak v/\aS 18446744073709551616 (u.set v.length (dx (u.getD v.length 0) c b))/\(eA (u.getD v.length 0) c b=0\/eA (u.getD v.length 0) c b=1)/\(u.set v.length (dx (u.getD v.length 0) c b)).length=v.length+1:=by
 have sF:=I.dg.get δ v.length;obtain⟨g1,g2,g3⟩:=LC sF I.hc I.hb;have hlen:=I.len;refine⟨?_,I.dg.set g2,g3,by rw [b6];exact hlen⟩;have hval:=I.val;rw [dK]at hval;rw [sG (n:=v.length) (by rw [b6];exact hlen),AX,wF ω,sG (u:=aH) fN,<-I.same v.length (aI _),Int.pow_succ];generalize ak (u.take v.length)=a at*;generalize ak (aH.take v.length)=a0 at*;generalize dx (u.getD v.length 0) c b=d at*;generalize eA (u.getD v.length 0) c b=bb at*;generalize u.getD v.length 0=un at*;generalize (18446744073709551616:Int)^v.length=P at*;generalize q*ak v=auk at*;have:P*(d-18446744073709551616*bb)=P*(un-c-b):=by rw [g1]
 grind
def ag6 {U V:Int} (hV:0<V) (G:GM V U q) (h:0<=U-q*V):U/V=q/\U%V=U-q*V:=by
 have h1:q<=U/V:=(Int.le_ediv_iff_mul_le hV).2 ω;have h2:=G.hi;have e:U/V=q:=by omega
 refine⟨e, ?_⟩;have:=Int.emod_add_mul_ediv U V;rw [e,Int.mul_comm]at this;omega
def ag7 {U V:Int} (hV:0<V) (G:GM V U q) (h:U-q*V<0):U/V=q-1/\U%V=U-q*V+V:=by
 have h1:q-1<=U/V:=(Int.le_ediv_iff_mul_le hV).2 G.lo;have h2:U/V<q:=(Int.ediv_lt_iff_lt_mul hV).2 ω;have e:U/V=q-1:=by omega
 refine⟨e, ?_⟩;have:=Int.emod_add_mul_ediv U V;rw [e,Int.mul_comm,Int.sub_mul,Int.one_mul]at this;omega
def wS.fin {u1 u:List Int} {c:Int} {U R:Int} (I:wS v u1 u c v.length) (tW:u1.length=v.length+1) (Bb:ak u1=U+18446744073709551616^(v.length+1)) (hR:U+ak v=R) (uL:0<=R) (lQ:R<18446744073709551616^v.length):
  u.set v.length (IntKind.wrap .u64 (u.getD v.length 0+c))=fS 18446744073709551616 (v.length+1) R:=by
 have sF:=I.dg.get δ v.length;have hlen:=I.len;have hval:=I.val;rw [dK]at hval;rw [sG tW,<-I.same v.length (aI _),Int.pow_succ]at Bb;have DD:=fY (b:=18446744073709551616) δ (I.dg.take v.length);have ht1:=dt (b:=18446744073709551616) δ (I.dg.take v.length);rw [ek,Nat.min_eq_left ω]at ht1;have hP:=dR (b:=18446744073709551616) δ v.length;have key:u.getD v.length 0+c=18446744073709551616/\ak (u.take v.length)=R:=by
  unfold ak at*;generalize vl 18446744073709551616 (u.take v.length)=a at*;generalize vl 18446744073709551616 (u1.take v.length)=a1 at*;generalize u.getD v.length 0=un at*;generalize (18446744073709551616:Int)^v.length=P at*;have e:P*(un+c-18446744073709551616)=R-a:=by grind
  have hz:un+c-18446744073709551616=0:=by
   rcases Int.lt_trichotomy (un+c-18446744073709551616) 0 with h|h|h
   .have:=dn (show un+c-18446744073709551616<= -1 by omega) (cr hP);omega
   .exact h
   .have:=dn (show 1<=un+c-18446744073709551616 by omega) (cr hP);omega
  rw [hz,Int.mul_zero]at e;omega
 rw [key.1];have hw:IntKind.wrap .u64 18446744073709551616=0:=by rw [q8];rfl
 rw [hw];have hd:aS 18446744073709551616 (u.set v.length 0):=I.dg.set δ;have:=hd.T9 (n:=v.length) (by rw [b6];exact hlen);rw [this];congr 1;rw [sG (n:=v.length) (by rw [b6];exact hlen),AX,wF ω,Int.mul_zero,Int.add_zero];exact key.2
end
end
noncomputable section
abbrev yV (res:List Int) (q:Int):Exit->au aa->ai->Prop:=Kp prog f226 167 aE res (cu q)
section
variable {v aH p s:List Int}
def Mf {q:Int} (hv:aS 18446744073709551616 v) (hu:aS 18446744073709551616 aH) (fN:aH.length=v.length+1) (hvl:v.length<=1000000) (hV:0<ak v) (G:GM (ak v) (ak aH) q)
  (cap:aX) (r o:Int) (A:Nat->Option (Nat×Nat)) (Y:Nat->Option Obj) (w:World) (F:Sv.Env):
  ba (qO A Y) prog w F 186 ((fl fo []).drop 7) (gq (p++(aH++s)) v p.length cap q r o).T (gq (p++(aH++s)) v p.length cap q r o).H (yV (p++(fS 18446744073709551616 (v.length+1) (ak aH%ak v)++s)) (ak aH/ak v)):=by
 have hS:=Md;refine c6 (s:=gq (p++(aH++s)) v p.length cap q r o) hS 2 (agU _ v _ cap q r o) ?_;refine aU.loop (ι:={x:List Int×Int×Int×Nat//wQ v aH q x.1 x.2.1 x.2.2.1 x.2.2.2}) (id:=2) (b:=cat fo GJ) (rest:=(fl fo []).drop 10) (by kernel_rfl) (fun x=>ke (p++(x.1.1++s)) v p.length cap q x.1.2.1 x.1.2.2.1 x.1.2.2.2) (fun x=>v.length-x.1.2.2.2)
  ⟨(aH,0,0,0),⟨Nat.zero_le _,fN,hu,⟨Int.le_refl 0,show(0:Int)<18446744073709551616 by decide⟩, .inl rfl,fun _ _=>rfl,by simp [ak,vl]⟩⟩ (fun _=>rfl) ?_
 rintro⟨⟨u,c,b,i⟩,I⟩;have I:wQ v aH q u c b i:=I;have hlen:=I.len;by_cases hi:i<v.length
 .have N:=I.next hv G.Me hi;have wR:=hv.get δ i;have fin:∃j:{x:List Int×Int×Int×Nat//wQ v aH q x.1 x.2.1 x.2.2.1 x.2.2.2},v.length-j.1.2.2.2<v.length-i/\
    (ke ((p++(u++s)).set (p.length+i) (dx ((p++(u++s)).getD (p.length+i) 0) (kB q (v.getD i 0) c) b)) v p.length cap q (q9 q (v.getD i 0) c) (eA ((p++(u++s)).getD (p.length+i) 0) (kB q (v.getD i 0) c) b) (i+1)).T=(ke (p++(j.1.1++s)) v p.length cap q j.1.2.1 j.1.2.2.1 j.1.2.2.2).T/\
    (ke ((p++(u++s)).set (p.length+i) (dx ((p++(u++s)).getD (p.length+i) 0) (kB q (v.getD i 0) c) b)) v p.length cap q (q9 q (v.getD i 0) c) (eA ((p++(u++s)).getD (p.length+i) 0) (kB q (v.getD i 0) c) b) (i+1)).H=(ke (p++(j.1.1++s)) v p.length cap q j.1.2.1 j.1.2.2.1 j.1.2.2.2).H:=by
   rw [ov (p:=p) (s:=s) (show i<u.length by omega),uK (p:=p) (s:=s) (show i<u.length by omega)];exact⟨⟨(_,_,_,i+1),N⟩,by simp;omega,rfl,rfl⟩
  have ho:bz 167 aE (some (.own 167 aE (p++(u++s)))) (p.length+i)=true:=yU ω;have hm:=Ds.2 ⟨G.Me,wR⟩;rcases I.hb with hb|hb
  .subst hb;exact bx (s:=ke (p++(u++s)) v p.length cap q c 0 i) hS (agV (p++(u++s)) v p.length cap q c i ω hi hm ω ho ω rfl rfl rfl) fin
  .subst hb;exact bx (s:=ke (p++(u++s)) v p.length cap q c 1 i) hS (agY (p++(u++s)) v p.length cap q c i ω hi hm ω ho ω rfl rfl rfl) fin
 .refine bx (s:=ke (p++(u++s)) v p.length cap q c b i) hS (ag1 _ v _ cap q c b i ω) ?_;refine cy (cF ?_);have hle:=I.le;obtain rfl:i=v.length:=by omega
  obtain⟨f1,f2,f3,f4⟩:=I.fin fN;have ho:bz 167 aE (some (.own 167 aE (p++(u++s)))) (p.length+v.length)=true:=yU ω
  -- the rest, from the state with the borrow
  have rest:∀u1 b1,u1=u.set v.length (dx (u.getD v.length 0) c b)->b1=eA (u.getD v.length 0) c b->
    ba (qO A Y) prog w F 186 ((fl fo []).drop 11) (uJ (p++(u1++s)) v p.length cap q b1).T (uJ (p++(u1++s)) v p.length cap q b1).H (yV (p++(fS 18446744073709551616 (v.length+1) (ak aH%ak v)++s)) (ak aH/ak v)):=by
   intro u1 b1 e1 e2;rw [<-e1,<-e2]at f1;rw [<-e1]at f2 f4;rw [<-e2]at f3;have hn:=fY (b:=18446744073709551616) δ f2;have hlt:=dt (b:=18446744073709551616) δ f2;rw [f4]at hlt;by_cases jy:b1=0
   .have hnn:0<=ak aH-q*ak v:=by
     rw [jy,Int.mul_zero]at f1;unfold ak at*;omega
    obtain⟨g1,g2⟩:=ag6 hV G hnn;have e3:ak u1=ak aH-q*ak v:=by rw [jy,Int.mul_zero]at f1;omega
    have bV:=f2.T9 f4;rw [e3,<-g2]at bV;rw [g1,<-bV];exact aU.Mc known mixed hS 8 _ (ag2 (p++(u1++s)) v p.length cap q b1 jy) fun T H h=>h
   .have kO:b1=1:=f3.resolve_left jy;rw [kO,Int.mul_one]at f1;have hneg:ak aH-q*ak v<0:=by unfold ak at*;omega
    obtain⟨g1,g2⟩:=ag7 hV G hneg;have uL:=dr (ak aH) (show ak v≠0 by omega);have lQ:=c7 (ak aH) hV;have aul:=dt (b:=18446744073709551616) δ hv;refine c6 (s:=uJ (p++(u1++s)) v p.length cap q b1) hS 4 (ag3 (p++(u1++s)) v p.length cap q b1 jy) ?_;refine aU.loop (ι:={x:List Int×Int×Nat//wS v u1 x.1 x.2.1 x.2.2}) (id:=4) (b:=cat fo GK) (rest:=(fl fo []).drop 16) (by kernel_rfl) (fun x=>kA (p++(x.1.1++s)) v p.length cap q x.1.2.1 x.1.2.2) (fun x=>v.length-x.1.2.2)
     ⟨(u1,0,0),⟨Nat.zero_le _,f4,f2, .inl rfl,fun _ _=>rfl,by simp [ak,vl]⟩⟩ (fun _=>rfl) ?_
    rintro⟨⟨u2,c2,j⟩,J⟩;have J:wS v u1 u2 c2 j:=J;have Q6:=J.len;by_cases hj:j<v.length
    .have ag8:=J.next hv hj;have nG:bz 167 aE (some (.own 167 aE (p++(u2++s)))) (p.length+j)=true:=yU ω;have fin:∃y:{x:List Int×Int×Nat//wS v u1 x.1 x.2.1 x.2.2},v.length-y.1.2.2<v.length-j/\
       (kA ((p++(u2++s)).set (p.length+j) (c8 ((p++(u2++s)).getD (p.length+j) 0) (v.getD j 0) c2)) v p.length cap q (dX ((p++(u2++s)).getD (p.length+j) 0) (v.getD j 0) c2) (j+1)).T=(kA (p++(y.1.1++s)) v p.length cap q y.1.2.1 y.1.2.2).T/\
       (kA ((p++(u2++s)).set (p.length+j) (c8 ((p++(u2++s)).getD (p.length+j) 0) (v.getD j 0) c2)) v p.length cap q (dX ((p++(u2++s)).getD (p.length+j) 0) (v.getD j 0) c2) (j+1)).H=(kA (p++(y.1.1++s)) v p.length cap q y.1.2.1 y.1.2.2).H:=by
      rw [ov (p:=p) (s:=s) (show j<u2.length by omega),uK (p:=p) (s:=s) (show j<u2.length by omega)];exact⟨⟨(_,_,j+1),ag8⟩,by simp;omega,rfl,rfl⟩
     rcases J.hc with hc2|hc2
     .subst hc2;exact bx (s:=kA (p++(u2++s)) v p.length cap q 0 j) hS (agX (p++(u2++s)) v p.length cap q j ω ω nG hj ω rfl rfl) fin
     .subst hc2;exact bx (s:=kA (p++(u2++s)) v p.length cap q 1 j) hS (ag0 (p++(u2++s)) v p.length cap q j ω ω nG hj ω rfl rfl) fin
    .refine bx (s:=kA (p++(u2++s)) v p.length cap q c2 j) hS (sd_end _ v _ cap q c2 j ω) ?_;refine cy (cF ?_);have hle2:=J.le;obtain rfl:j=v.length:=by omega
     have nG:bz 167 aE (some (.own 167 aE (p++(u2++s)))) (p.length+v.length)=true:=yU ω;have om:=J.fin f4 (U:=ak aH-q*ak v) (R:=ak aH%ak v) ω ω uL (by unfold ak at*;omega);have Mg:pO q=ak aH/ak v:=by
      rw [g1];unfold pO;refine fL ⟨?_,by have:=G.Me;omega⟩;rw [<-g1];exact Int.ediv_nonneg (fY δ hu) (cr hV)
     have:=aU.Mc (X:=qO A Y) (w0:=w) (F:=F) (l:=(fl fo []).drop 16) (n:=186) (T:=(kA (p++(u2++s)) v p.length cap q c2 v.length).T) (H:=(kA (p++(u2++s)) v p.length cap q c2 v.length).H) (Q:=yV ((p++(u2++s)).set (p.length+v.length) (IntKind.wrap .u64 ((p++(u2++s)).getD (p.length+v.length) 0+c2))) (pO q)) known mixed hS 8 _ (ag4 (p++(u2++s)) v p.length cap q c2 v.length nG rfl) fun T H h=>h
     rw [ov (p:=p) (s:=s) (show v.length<u2.length by omega),uK (p:=p) (s:=s) (show v.length<u2.length by omega),om,Mg]at this;exact this
  have fin:∀T H,(uJ ((p++(u++s)).set (p.length+v.length) (dx ((p++(u++s)).getD (p.length+v.length) 0) c b)) v p.length cap q (eA ((p++(u++s)).getD (p.length+v.length) 0) c b)).T=T->(uJ ((p++(u++s)).set (p.length+v.length) (dx ((p++(u++s)).getD (p.length+v.length) 0) c b)) v p.length cap q (eA ((p++(u++s)).getD (p.length+v.length) 0) c b)).H=H->
    ba (qO A Y) prog w F 186 ((fl fo []).drop 11) T H (yV (p++(fS 18446744073709551616 (v.length+1) (ak aH%ak v)++s)) (ak aH/ak v)):=by
   rw [ov (p:=p) (s:=s) (show v.length<u.length by omega),uK (p:=p) (s:=s) (show v.length<u.length by omega)];rintro T H rfl rfl;exact rest _ _ rfl rfl
  rcases I.hb with hb|hb
  .subst hb;exact c6 (s:=ke (p++(u++s)) v p.length cap q c 0 v.length) hS 1 (agW (p++(u++s)) v p.length cap q c v.length ho rfl rfl) (fin _ _ rfl rfl)
  .subst hb;exact c6 (s:=ke (p++(u++s)) v p.length cap q c 1 v.length) hS 1 (agZ (p++(u++s)) v p.length cap q c v.length ho rfl rfl) (fin _ _ rfl rfl)
def T' {m:Nat} (hv:aS 18446744073709551616 v) (hu:aS 18446744073709551616 aH) (fN:aH.length=v.length+1) (hlv:v.length=m+2) (hvl:v.length<=1000000) (h1:9223372036854775808<=v.getD (m+1) 0) (hlt:ak aH<18446744073709551616*ak v)
  (cap:aX) (q r o:Int) (hq:0<=q/\q<18446744073709551616) (hr:0<=r/\r<18446744073709551616) (ho:o=0\/o=1) (hQ:ak aH/ak v<=q) (he:q*v.getD (m+1) 0+(r+18446744073709551616*o)=aH.getD (m+2) 0*18446744073709551616+aH.getD (m+1) 0)
  (A:Nat->Option (Nat×Nat)) (Y:Nat->Option Obj) (w:World) (F:Sv.Env):
  ba (qO A Y) prog w F 186 ((fl fo []).drop 6) (gq (p++(aH++s)) v p.length cap q r o).T (gq (p++(aH++s)) v p.length cap q r o).H (yV (p++(fS 18446744073709551616 (v.length+1) (ak aH%ak v)++s)) (ak aH/ak v)):=by
 have hS:=Md;have P:=L0 (b:=18446744073709551616) δ hu hv (n:=m) ω hlv ω;have sH:=L1 (b:=18446744073709551616) hlv;have Bc:=L2 (b:=18446744073709551616) (u:=aH) (n:=m) ω;have hV:0<ak v:=by
  have h2:=sG (u:=v) (n:=m+1) hlv;have h3:=fY (b:=18446744073709551616) δ (hv.take (m+1));have h4:=Int.mul_pos (dR (b:=18446744073709551616) δ (m+1)) (show 0<v.getD (m+1) 0 by omega);unfold ak at h2 ⊢;omega
 have pP:0<=ak aH:=fY δ hu;have wT:0<=ak aH/ak v:=Int.ediv_nonneg pP (cr hV);have Mh:ak aH/ak v*ak v<=ak aH:=Int.ediv_mul_le _ ω;have wU:((v.length:Int)-1).toNat=m+1:=by omega
 have rj:((v.length:Int)-2).toNat=m:=by omega
 have yR:=hv.get δ (m+1);have iO:=hv.get δ m
 -- the digit that passes the test
 have pass:∀q r o:Int,0<=q/\q<18446744073709551616->ak aH/ak v<=q->q*v.getD (m+1) 0+(r+18446744073709551616*o)=aH.getD (m+2) 0*18446744073709551616+aH.getD (m+1) 0->q*v.getD m 0<=(r+18446744073709551616*o)*18446744073709551616+aH.getD m 0->GM (ak v) (ak aH) q:=fun q r o hq hQ he ht=>by
  refine⟨hq,hQ, ?_⟩;have:=Lz P (t:=q) hq (by rw [show aH.getD (m+2) 0*18446744073709551616+aH.getD (m+1) 0-q*v.getD (m+1) 0=r+18446744073709551616*o by omega];exact ht);rw [sH,Bc]at this;exact this
 refine aU.loop (ι:={x:Int×Int×Int//(0<=x.1/\x.1<18446744073709551616)/\(0<=x.2.1/\x.2.1<18446744073709551616)/\(x.2.2=0\/x.2.2=1)/\ak aH/ak v<=x.1/\x.1*v.getD (m+1) 0+(x.2.1+18446744073709551616*x.2.2)=aH.getD (m+2) 0*18446744073709551616+aH.getD (m+1) 0}) (id:=0) (b:=cat fo Ba) (rest:=(fl fo []).drop 7) (by kernel_rfl) (fun x=>gq (p++(aH++s)) v p.length cap x.1.1 x.1.2.1 x.1.2.2) (fun x=>x.1.1.toNat) ⟨(q,r,o),hq,hr,ho,hQ,he⟩ (fun _=>rfl) ?_;clear hq hr ho hQ he;rintro⟨⟨q,r,o⟩,hq,hr,ho,hQ,he⟩;have hq:0<=q/\q<18446744073709551616:=hq;have hr:0<=r/\r<18446744073709551616:=hr;have ho:o=0\/o=1:=ho;have hQ:ak aH/ak v<=q:=hQ;have he:q*v.getD (m+1) 0+(r+18446744073709551616*o)=aH.getD (m+2) 0*18446744073709551616+aH.getD (m+1) 0:=he;have hm:=Ds.2 ⟨hq,iO⟩;have hm':k4 q (v.getD ((v.length:Int)-2).toNat 0)=true:=by rw [rj];exact hm
 have aum:=T8 (q:=q) (x:=v.getD m 0);obtain⟨hh,hl⟩:=xc hq iO;have aun:=hu.get δ m;have hown:bz 167 aE (some (.own 167 aE (p++(aH++s)))) (p.length+((v.length:Int)-2).toNat)=true:=by rw [rj];exact yU ω
 have hg2:(p++(aH++s)).getD (p.length+m) 0=aH.getD m 0:=ov ω;by_cases Mi:o=0
 .subst Mi
  -- the next guess
  have next:¬(q*v.getD m 0<=(r+18446744073709551616*0)*18446744073709551616+aH.getD m 0)->∃j:{x:Int×Int×Int//(0<=x.1/\x.1<18446744073709551616)/\(0<=x.2.1/\x.2.1<18446744073709551616)/\(x.2.2=0\/x.2.2=1)/\ak aH/ak v<=x.1/\x.1*v.getD (m+1) 0+(x.2.1+18446744073709551616*x.2.2)=aH.getD (m+2) 0*18446744073709551616+aH.getD (m+1) 0},j.1.1.toNat<q.toNat/\
    (gq (p++(aH++s)) v p.length cap (pO q) (c8 r (v.getD ((v.length:Int)-1).toNat 0) 0) (dX r (v.getD ((v.length:Int)-1).toNat 0) 0)).T=(gq (p++(aH++s)) v p.length cap j.1.1 j.1.2.1 j.1.2.2).T/\
    (gq (p++(aH++s)) v p.length cap (pO q) (c8 r (v.getD ((v.length:Int)-1).toNat 0) 0) (dX r (v.getD ((v.length:Int)-1).toNat 0) 0)).H=(gq (p++(aH++s)) v p.length cap j.1.1 j.1.2.1 j.1.2.2).H:=fun hn=>by
   have hgt:=Th P (t:=q) (q:=ak aH/ak v) hq.1 (by rw [sH,Bc];exact Mh) (by rw [show aH.getD (m+2) 0*18446744073709551616+aH.getD (m+1) 0-q*v.getD (m+1) 0=r+18446744073709551616*0 by omega];omega);obtain⟨g1,g2,g3⟩:=Dp (a:=r) (b:=v.getD (m+1) 0) (c:=0) hr yR (.inl rfl);have hd:pO q=q-1:=fL ω;rw [wU,hd];generalize c8 r (v.getD (m+1) 0) 0=sd at*;generalize dX r (v.getD (m+1) 0) 0=cd at*;refine⟨⟨(q-1,sd,cd),by show 0<=q-1/\q-1<_;omega,g2,g3,by show _<=q-1;omega, ?_⟩,by show(q-1).toNat<q.toNat;omega,rfl,rfl⟩;show(q-1)*v.getD (m+1) 0+(sd+18446744073709551616*cd)=aH.getD (m+2) 0*18446744073709551616+aH.getD (m+1) 0;have iR:(q-1)*v.getD (m+1) 0=q*v.getD (m+1) 0-v.getD (m+1) 0:=by rw [Int.sub_mul,Int.one_mul]
   omega
  by_cases GN:fK q (v.getD m 0)<r
  .refine bx (s:=gq (p++(aH++s)) v p.length cap q r 0) hS (agT (p++(aH++s)) v p.length cap q r 0 rfl ω ω ω hm' (by rw [rj];exact GN)) ?_;refine cy (cF ?_);exact Mf hv hu fN hvl hV (pass q r 0 hq hQ he ω) cap r 0 A Y w F
  .by_cases heq:fK q (v.getD m 0)=r
   .by_cases hle:cL q (v.getD m 0)<=aH.getD m 0
    .refine bx (s:=gq (p++(aH++s)) v p.length cap q r 0) hS (agQ (p++(aH++s)) v p.length cap q r 0 rfl ω ω ω hm' (by rw [rj];exact GN) (by rw [rj];exact heq) hown (by rw [rj,hg2];exact hle)) ?_;refine cy (cF ?_);exact Mf hv hu fN hvl hV (pass q r 0 hq hQ he ω) cap r 0 A Y w F
    .exact bx (s:=gq (p++(aH++s)) v p.length cap q r 0) hS (agR (p++(aH++s)) v p.length cap q r 0 rfl ω ω ω hm' (by rw [rj];exact GN) (by rw [rj];exact heq) hown (by rw [rj,hg2];exact hle) ω ω ω rfl rfl rfl) (next ω)
   .exact bx (s:=gq (p++(aH++s)) v p.length cap q r 0) hS (agS (p++(aH++s)) v p.length cap q r 0 rfl ω ω ω hm' (by rw [rj];exact GN) (by rw [rj];exact heq) ω ω ω rfl rfl rfl) (next ω)
 .have Gk:o=1:=ho.resolve_left Mi;refine bx (s:=gq (p++(aH++s)) v p.length cap q r o) hS (OF (p++(aH++s)) v p.length cap q r o Mi) ?_;refine cy (cF ?_);have hf:=Ti P (t:=q) hq (by rw [show aH.getD (m+2) 0*18446744073709551616+aH.getD (m+1) 0-q*v.getD (m+1) 0=r+18446744073709551616*o by omega];omega);rw [show aH.getD (m+2) 0*18446744073709551616+aH.getD (m+1) 0-q*v.getD (m+1) 0=r+18446744073709551616*o by omega]at hf;exact Mf hv hu fN hvl hV (pass q r o hq hQ he hf) cap r o A Y w F
def ag9 {m:Nat} (hv:aS 18446744073709551616 v) (hu:aS 18446744073709551616 aH) (fN:aH.length=v.length+1) (hlv:v.length=m+2) (hvl:v.length<=1000000) (h1:9223372036854775808<=v.getD (m+1) 0) (hlt:ak aH<18446744073709551616*ak v)
  (cap:aX) (A:Nat->Option (Nat×Nat)) (Y:Nat->Option Obj) (w:World) (F:Sv.Env):
  ba (qO A Y) prog w F 186 (fl fo []) (dq [yT v p.length cap,bI v] .nil 0) (qP 167 aE (p++(aH++s))) (yV (p++(fS 18446744073709551616 (v.length+1) (ak aH%ak v)++s)) (ak aH/ak v)):=by
 have hS:=Md;have P:=L0 (b:=18446744073709551616) δ hu hv (n:=m) ω hlv ω;have sH:=L1 (b:=18446744073709551616) hlv;have Bc:=L2 (b:=18446744073709551616) (u:=aH) (n:=m) ω;have hV:0<ak v:=by
  have h2:=sG (u:=v) (n:=m+1) hlv;have h3:=fY (b:=18446744073709551616) δ (hv.take (m+1));have h4:=Int.mul_pos (dR (b:=18446744073709551616) δ (m+1)) (show 0<v.getD (m+1) 0 by omega);unfold ak at h2 ⊢;omega
 have pP:0<=ak aH:=fY δ hu;have wT:0<=ak aH/ak v:=Int.ediv_nonneg pP (cr hV);have Mh:ak aH/ak v*ak v<=ak aH:=Int.ediv_mul_le _ ω;have GO:ak aH/ak v<18446744073709551616:=(Int.ediv_lt_iff_lt_mul hV).2 hlt;have wU:((v.length:Int)-1).toNat=m+1:=by omega
 have yR:=hv.get δ (m+1);have aha:=hu.get δ (m+2);have hun:=hu.get δ (m+1);have hkn:p.length+v.length=p.length+(m+2):=by omega
 have gt:(p++(aH++s)).getD (p.length+v.length) 0=aH.getD (m+2) 0:=by rw [hkn];exact ov ω
 have gn:(p++(aH++s)).getD (p.length+(m+1)) 0=aH.getD (m+1) 0:=ov ω;have o1:bz 167 aE (some (.own 167 aE (p++(aH++s)))) (p.length+v.length)=true:=yU ω;have o2:bz 167 aE (some (.own 167 aE (p++(aH++s)))) (p.length+((v.length:Int)-1).toNat)=true:=by rw [wU];exact yU ω
 by_cases hge:aH.getD (m+2) 0>=v.getD (m+1) 0
 .have hle:aH.getD (m+2) 0<=v.getD (m+1) 0:=by
   have a1:=sG (u:=aH) (n:=m+2) ω;have a2:=fY (b:=18446744073709551616) δ (hu.take (m+2));have a3:=sG (u:=v) (n:=m+1) hlv;have a4:=dt (b:=18446744073709551616) δ (hv.take (m+1));rw [ek,Nat.min_eq_left ω]at a4;have a5:=dR (b:=18446744073709551616) δ (m+1);rw [show m+2=m+1+1 from rfl,Int.pow_succ]at a1;rw [show m+1+1=m+2 from rfl]at a1;unfold ak at a1 a3 hlt;generalize vl 18446744073709551616 (aH.take (m+2))=x at*;generalize vl 18446744073709551616 (v.take (m+1))=y at*;generalize aH.getD (m+2) 0=ut at*;generalize v.getD (m+1) 0=Ua at*;generalize (18446744073709551616:Int)^(m+1)=P at*;refine Int.not_lt.1 fun hn=> ?_
   have b1:=dn (show Ua+1<=ut by omega) (cr a5);rw [Int.mul_add,Int.mul_one]at b1;have b2:P*18446744073709551616*ut=18446744073709551616*(P*ut):=by grind
   rw [b2]at a1;generalize P*ut=auo at*;generalize P*Ua=aup at*;omega
  obtain⟨g1,g2,g3⟩:=Dp (a:=aH.getD (m+1) 0) (b:=v.getD (m+1) 0) (c:=0) hun yR (.inl rfl);refine cJ hS 6 (agO (p++(aH++s)) v p.length cap o1 ω ω ω (by rw [gt,wU];exact hge) o2 rfl rfl) ?_;rw [wU,gn];refine T' hv hu fN hlv hvl h1 hlt cap _ _ _ δ g2 g3 ω ?_ A Y w F;rw [g1];omega
 .have Mj:0<v.getD (m+1) 0:=by omega
  have hD:uG (aH.getD (m+2) 0) (aH.getD (m+1) 0) (v.getD (m+1) 0)=true:=by
   unfold uG;rw [sy.2 hun,sy.2 yR,az aha.1,az (show aH.getD (m+2) 0<v.getD (m+1) 0 by omega)];rfl
  refine cJ hS 6 (agP (p++(aH++s)) v p.length cap o1 ω ω ω (by rw [gt,wU];exact hge) o2 (by rw [gt,wU,gn];exact hD)) ?_;rw [wU,gn,gt];have ug:=Int.emod_add_mul_ediv (aH.getD (m+2) 0*18446744073709551616+aH.getD (m+1) 0) (v.getD (m+1) 0);have hm0:=dr (aH.getD (m+2) 0*18446744073709551616+aH.getD (m+1) 0) (show v.getD (m+1) 0≠0 by omega);have pN:=c7 (aH.getD (m+2) 0*18446744073709551616+aH.getD (m+1) 0) Mj;have ahb:0<=kz (aH.getD (m+2) 0) (aH.getD (m+1) 0) (v.getD (m+1) 0):=Int.ediv_nonneg ω ω;have ahc:kz (aH.getD (m+2) 0) (aH.getD (m+1) 0) (v.getD (m+1) 0)<18446744073709551616:=(Int.ediv_lt_iff_lt_mul Mj).2 ω;have ahd:=Tj P wT (by rw [sH,Bc];exact Mh);refine T' hv hu fN hlv hvl h1 hlt cap _ _ _ ⟨ahb,ahc⟩ ⟨hm0,by show _%_<_;omega⟩ (.inl rfl) ((Int.le_ediv_iff_mul_le Mj).2 ahd) ?_ A Y w F;show(_/_)*_+(_%_+_)=_;rw [Int.mul_comm];omega
end
def ahe (xs v:List Int) (k len:Nat) (cap:aX) (hp:wP xs k len v=true) (hk:k+len<=xs.length) (A:Nat->Option (Nat×Nat)) (Y:Nat->Option Obj) (w:World) (F:Sv.Env):
  ba (qO A Y) prog w F 186 (fl fo []) (dq [.bR 167 aE 64 k len cap,bI v] .nil 0) (qP 167 aE xs) (yV (k9 xs k len v) (jk xs k len v)):=by
 unfold wP at hp;simp only [ae,bE,hM]at hp;obtain⟨hx,hv,h2,h3,h4,h5,h6⟩:=hp;have h3:=ac h3;subst h3;obtain⟨m,hm⟩:∃m,v.length=m+2:=⟨v.length-2,by omega⟩;have hpl:(xs.take k).length=k:=by rw [ek];omega
 have DE:(ri xs k (v.length+1)).length=v.length+1:=by unfold ri;rw [ek,mb];omega
 have Mg:xs=xs.take k++(ri xs k (v.length+1)++xs.drop (k+(v.length+1))):=by
  unfold ri;rw [<-List.drop_drop,List.take_append_drop,List.take_append_drop]
 have:=ag9 (p:=xs.take k) (aH:=ri xs k (v.length+1)) (s:=xs.drop (k+(v.length+1))) hv ((hx.drop k).take _) DE hm h4 (by rw [show m+1=v.length-1 by omega];exact h5) h6 cap A Y w F;rw [<-Mg,hpl]at this;exact this
def ahf:sD.Ok prog:=
 ⟨rfl,rfl,_,fo,func226,rfl,by decide,fun xs k len cap d hp _ hk A Y w F=>ahe xs d.1 k len cap hp hk A Y w F⟩
end
end Go.Proofs.YtibikmmdbdlafaaGreatDoor
namespace Go.Proofs.YtibikmmdbdlafaaGreatDoor.Sv
open Go.RowKit
variable [Ground]
noncomputable section
def yW (ty:av) (v:aa) (H:ai):aD (Option (aa×ai)):=match ty,v with
 | .list false t, .bR e u i k len _=>(match decide (u=t)with
   |true=> .must (Nat.beq len 0||bz e t (H.get i) (k+len-1)) (.ret (some (.bn false t (((bN t (H.get i)).drop k).take len),H.drop i)))
   |false=> .ret none)
 | .list false t, .slice i off n _=>(match H.get i with
   |some (.cells _ cs _ false false)=>(match t.rM n (cut cs off (n*t.size))with
    |some ds=> .must (Nat.ble (off+n*t.size) cs.length) (.ret (some (.bn false t ds,H.drop i)))
    |none=> .ret none)
   |_=> .ret none)
 |_,v=> .ret (some (v,H))
def sI:List av->List aa->ai->aD (Option (List aa×ai))
 |t::ts,v::vs,H=>(yW t v H).bind fun r=>match r with
  |some (v1,H1)=>(sI ts vs H1).bind fun r2=>match r2 with
   |some (pQ,H2)=> .ret (some (v1::pQ,H2))
   |none=> .ret none
  |none=> .ret none
 |_,vs,H=> .ret (some (vs,H))
def GP (c:bp) (args:List aa) (H:ai):aD aL:=(sI c.ps args H).bind fun r=>match r with
 |some (args1,H1)=>yz c args1 H1
 |none=> .ret .no
def ow (l:List bp) (bu:bG):bG:=fun f args H=>match l with
 |[]=>bu f args H
 |c::l=>match Nat.beq f c.f with |true=>GP c args H|false=>ow l bu f args H
section
variable {P:Program} {B:Nat} {ρ:Env} {H:ai} {w:World}
def GQ (hH:aZ P B ρ H w) {i b c:Nat} {k:bl} {zs:Array Value} {e:TypeId} {fr:Nat×Nat} (hi:H.get i=some k) (hro:k.eT=false) (hr:ρ i=some (b,c)) (hz:w.heap[b]? =some (.cells zs e fr)):
  ∃cN:Env,cN.fz b=some zs/\(∀j,cN j=ρ j)/\cB ρ cN/\aZ P B cN (H.drop i) w/\bQ ρ H w cN (H.drop i) w:=by
 have hnf:ρ.fz b=none:=by
  cases o6:ρ.fz b with
  |none=>rfl
  |some A=>
   have:=(hH.fz b A o6).2 i k c hi hr;rw [hro]at this;cases this
 have hle:cB ρ ⟨ρ.at',fun q=>if q=b then some zs else ρ.fz q⟩:=⟨fun _ _ h=>h,fun q A h=>by
  show(if q=b then some zs else ρ.fz q)=some A;by_cases hq:q=b
  .subst hq;rw [hnf]at h;cases h
  .rw [if_neg hq];exact h⟩
 have key:∀j kk,(H.drop i).get j=some kk->j≠i/\H.get j=some kk:=fun j kk h=>by
  rw [ai.o4]at h;split at h
  .cases h
  .rename_i h2;exact⟨fun h=>h2 h.symm,h⟩
 refine⟨⟨ρ.at',fun q=>if q=b then some zs else ρ.fz q⟩,if_pos rfl,fun _=>rfl,hle,⟨fun j kk h=> ?_,fun i1 i2 k1 k2 bb c1 c2 g1 g2 g3 g4=>hH.inj i1 i2 k1 k2 bb c1 c2 (key _ _ g1).2 (key _ _ g2).2 g3 g4,fun j kk h=>hH.lt j kk (key j kk h).2,hH.base,fun bb A h=> ?_⟩,
  ⟨hle,fun _ _=>rfl,aI _,aI _,rfl,rfl,rfl,fun _ _ _=>rfl,fun q _ ⟨j,kk,ck,h1,h2,h3⟩=>⟨j,kk,ck,(key j kk h1).2,h2,h3⟩,fun q _ ⟨j,kk,ck,h1,h3⟩=>⟨j,kk,ck,(key j kk h1).2,h3⟩,fun bb A h=> ?_⟩⟩
 .obtain⟨bj,ck,o,e1,e2,e3,bV⟩:=hH.blk j kk (key j kk h).2;exact⟨bj,ck,o,e1,e2,e3.mono hle,bV⟩
 .have h:(if bb=b then some zs else ρ.fz bb)=some A:=h;by_cases hq:bb=b
  .subst hq;rw [if_pos rfl]at h;cases h;exact⟨⟨_,_,hz⟩,fun j kk c' g1 g2=>absurd (hH.inj j i kk k bb c' c (key j kk g1).2 hi g2 hr) (key j kk g1).1⟩
  .rw [if_neg hq]at h;exact⟨(hH.fz bb A h).1,fun j kk c' g1 g2=>(hH.fz bb A h).2 j kk c' (key j kk g1).2 g2⟩
 .have h:(if bb=b then some zs else ρ.fz bb)=some A:=h;by_cases hq:bb=b
  .subst hq;exact .inr (.inr ⟨i,k,c,hi,hro,hr⟩)
  .rw [if_neg hq]at h;exact .inl h
def ahg (hH:aZ P B ρ H w) {ty:av} {v v1:aa} {H1:ai} {x:Value} (h:(yW ty v H).gr=some (some (v1,H1))) (hd:Den ρ v x):∃cN:Env,cB ρ cN/\aZ P B cN H1 w/\bQ ρ H w cN H1 w/\Den cN v1 x:=by
 unfold yW at h;split at h
 .rename_i t e u i k len cap;split at h
  .rename_i hu;have hu:=ap hu;subst hu;cases hm:(Nat.beq len 0||bz e u (H.get i) (k+len-1))with
   |false=>rw [hm]at h;cases h
   |true=>
    rw [hm]at h;cases h;rcases hd.jx with⟨rfl,a,rfl⟩|⟨b,c,kc,g1,g2,g3,rfl⟩
    .rw [List.take_zero];by_cases hg:∃kk,H.get i=some kk/\kk.eT=false/\∃b c zs e fr,ρ i=some (b,c)/\w.heap[b]? =some (.cells zs e fr)
     .obtain⟨kk,q1,aQ,b,c,zs,e',fr,b7,ez⟩:=hg;obtain⟨cN,_,_,r1,r2,r3⟩:=GQ hH q1 aQ b7 ez;exact⟨cN,r1,r2,r3, .fc fun e=>by cases e⟩
     . -- the block is given up without being frozen
       have key:∀j kk,(H.drop i).get j=some kk->j≠i/\H.get j=some kk:=fun j kk h=>by
        rw [ai.o4]at h;split at h
        .cases h
        .rename_i h2;exact⟨fun h=>h2 h.symm,h⟩
       exact⟨ρ,cB.refl _,⟨fun j kk h=>hH.blk j kk (key j kk h).2,fun i1 i2 k1 k2 bb c1 c2 g1 g2 g3 g4=>hH.inj i1 i2 k1 k2 bb c1 c2 (key _ _ g1).2 (key _ _ g2).2 g3 g4,fun j kk h=>hH.lt j kk (key j kk h).2,hH.base,fun bb A h=>⟨(hH.fz bb A h).1,fun j kk c' g1 g2=>(hH.fz bb A h).2 j kk c' (key j kk g1).2 g2⟩⟩,
        ⟨cB.refl _,fun _ _=>rfl,aI _,aI _,rfl,rfl,rfl,fun _ _ _=>rfl,fun q _ ⟨j,kk,ck,h1,h2,h3⟩=>⟨j,kk,ck,(key j kk h1).2,h2,h3⟩,fun q _ ⟨j,kk,ck,h1,h3⟩=>⟨j,kk,ck,(key j kk h1).2,h3⟩,fun bb A h=> .inl h⟩, .fc fun e=>by cases e⟩
    .by_cases hl:len=0
     .subst hl;rw [List.take_zero];by_cases hg:∃kk,H.get i=some kk/\kk.eT=false/\∃b c zs e fr,ρ i=some (b,c)/\w.heap[b]? =some (.cells zs e fr)
      .obtain⟨kk,q1,aQ,b,c,zs,e',fr,b7,ez⟩:=hg;obtain⟨cN,_,_,r1,r2,r3⟩:=GQ hH q1 aQ b7 ez;exact⟨cN,r1,r2,r3, .fc fun e=>by cases e⟩
      .have key:∀j kk,(H.drop i).get j=some kk->j≠i/\H.get j=some kk:=fun j kk h=>by
        rw [ai.o4]at h;split at h
        .cases h
        .rename_i h2;exact⟨fun h=>h2 h.symm,h⟩
       exact⟨ρ,cB.refl _,⟨fun j kk h=>hH.blk j kk (key j kk h).2,fun i1 i2 k1 k2 bb c1 c2 g1 g2 g3 g4=>hH.inj i1 i2 k1 k2 bb c1 c2 (key _ _ g1).2 (key _ _ g2).2 g3 g4,fun j kk h=>hH.lt j kk (key j kk h).2,hH.base,fun bb A h=>⟨(hH.fz bb A h).1,fun j kk c' g1 g2=>(hH.fz bb A h).2 j kk c' (key j kk g1).2 g2⟩⟩,
        ⟨cB.refl _,fun _ _=>rfl,aI _,aI _,rfl,rfl,rfl,fun _ _ _=>rfl,fun q _ ⟨j,kk,ck,h1,h2,h3⟩=>⟨j,kk,ck,(key j kk h1).2,h2,h3⟩,fun q _ ⟨j,kk,ck,h1,h3⟩=>⟨j,kk,ck,(key j kk h1).2,h3⟩,fun bb A h=> .inl h⟩, .fc fun e=>by cases e⟩
     .rw [Bool.or_eq_true]at hm;have hm:=hm.resolve_left fun e=>hl (ac e)
      obtain⟨b1,b2⟩:=vN hm;obtain⟨zs,q1,aQ,_⟩:=rU hH b1 g1;obtain⟨cN,f1,_,r1,r2,r3⟩:=GQ hH b1 rfl g1 q1;refine⟨cN,r1,r2,r3, ?_⟩;generalize bN u (H.get i)=xs at b1 b2 aQ ⊢;have hle2:k+len<=xs.length:=by omega
      have e1:(xs.drop k).take len=(xs.take (k+len)).drop k:=by rw [List.take_drop]
      have gN:=lA (off:=0) (A:=zs.toList) (l:=k) (h:=k+len) (by simpa using aQ) ω hle2;rw [aw,<-e1]at gN;have hn:((xs.drop k).take len).length=len:=by simp;omega
      have gP:=Den.bn (ρ:=cN) (z:=false) (t:=u) (xs:=(xs.drop k).take len) (b:=b) (off:=k*u.size) (k:=kc) (A:=zs) f1 (by
       have e3:(u.flat xs).length<=zs.toList.length:=by
        have:=aQ.length;simp at this ⊢;omega
       rw [u.jb]at e3 ⊢;rw [hn,<-Nat.add_mul];have:=dh (Nat.mul_le_mul_right u.size hle2) e3;simpa using this) rfl (gN.mono r1) ω (fun e=>by cases e)
      rwa [hn]at gP
  .cases h
 .rename_i t i off n cap;split at h
  .rename_i e cs x hg;split at h
   .rename_i ds hrd;cases hm:Nat.ble (off+n*t.size) cs.length with
    |false=>rw [hm]at h;cases h
    |true=>
     rw [hm]at h;cases h;have hle:=bT hm;obtain⟨b,c,k,g1,_,g3,rfl⟩:=hd.ig;obtain⟨zs,x8,q1,_,b7,_,_,qM⟩:=mA hH hg g1;obtain⟨cN,f1,_,r1,r2,r3⟩:=GQ hH hg rfl g1 q1;refine⟨cN,r1,r2,r3, ?_⟩;have hcut:=(b7.drop off).take (n*t.size);obtain⟨mK,hn⟩:=av.Cw hrd hcut;subst hn;have hfl:=t.jb ds;have e2:((zs.toList.take cs.length).drop off).take (ds.length*t.size)=(zs.toList.drop off).take (t.flat ds).length:=by
      rw [hfl,List.drop_take,List.take_take,Nat.min_eq_left ω]
     rw [e2]at mK;exact .bn f1 (by rw [hfl];omega) rfl (mK.mono r1) g3 fun e=>by cases e
   .cases h
  .cases h
 .cases h;exact⟨ρ,cB.refl _,hH,bQ.refl _ _ _,hd⟩
def Ub:∀{ts:List av} {vs pQ:List aa} {ρ:Env} {H H1:ai} {xs:List Value},aZ P B ρ H w->(sI ts vs H).gr=some (some (pQ,H1))->aG ρ vs xs->∃cN:Env,cB ρ cN/\aZ P B cN H1 w/\bQ ρ H w cN H1 w/\aG cN pQ xs
 |[],vs,pQ,ρ,H,H1,xs,hH,h,hd=>by
  cases h;exact⟨ρ,cB.refl _,hH,bQ.refl _ _ _,hd⟩
 |t::ts,[],pQ,ρ,H,H1,xs,hH,h,hd=>by
  cases h;exact⟨ρ,cB.refl _,hH,bQ.refl _ _ _,hd⟩
 |t::ts,v::vs,pQ,ρ,H,H1,_,hH,h, .cons d1 d2=>by
  unfold sI at h;rw [aD.qJ]at h;cases h1:(yW t v H).gr with
  |none=>rw [h1]at h;cases h
  |some r=>
   rw [h1]at h;cases r with
   |none=>cases h
   |some r=>
    obtain⟨v1,H2⟩:=r;simp only [Option.bind_some]at h;rw [aD.qJ]at h;cases h2:(sI ts vs H2).gr with
    |none=>rw [h2]at h;cases h
    |some r2=>
     rw [h2]at h;cases r2 with
     |none=>cases h
     |some r2=>
      obtain⟨ahh,H3⟩:=r2;cases h;obtain⟨cN,l1,a1,s1,e1⟩:=ahg hH h1 d1;obtain⟨eo,l2,a2,s2,e2⟩:=Ub a1 h2 (d2.mono l1);exact⟨eo,l1.trans l2,a2,s1.trans s2, .cons (e1.mono l2) e2⟩
def ahi {ty:av} {v v1:aa} {H1:ai} (h:(yW ty v H).gr=some (some (v1,H1))):H1.next=H.next:=by
 unfold yW at h;split at h
 .split at h
  .rename_i e u i k len _ _ _;cases hm:(Nat.beq len 0||bz e _ (H.get i) (k+len-1))with
   |false=>rw [hm]at h;cases h
   |true=>rw [hm]at h;cases h;rfl
  .cases h
 .split at h
  .split at h
   .unfold aD.gr at h;generalize Nat.ble _ _=bb at h;cases bb with
    |false=>cases h
    |true=>cases h;rfl
   .cases h
  .cases h
 .cases h;rfl
def Uc:∀{ts:List av} {vs pQ:List aa} {H H1:ai},(sI ts vs H).gr=some (some (pQ,H1))->H1.next=H.next
 |[],vs,pQ,H,H1,h=>by cases h;rfl
 |t::ts,[],pQ,H,H1,h=>by cases h;rfl
 |t::ts,v::vs,pQ,H,H1,h=>by
  unfold sI at h;rw [aD.qJ]at h;cases h1:(yW t v H).gr with
  |none=>rw [h1]at h;cases h
  |some r=>
   rw [h1]at h;cases r with
   |none=>cases h
   |some r=>
    obtain⟨v1,H2⟩:=r;simp only [Option.bind_some]at h;rw [aD.qJ]at h;cases h2:(sI ts vs H2).gr with
    |none=>rw [h2]at h;cases h
    |some r2=>
     rw [h2]at h;cases r2 with
     |none=>cases h
     |some r2=>
      obtain⟨ahh,H3⟩:=r2;cases h;rw [Uc h2,ahi h1]
def Ud {c:bp} {args:List aa} {v:aa} {H':ai} (h:(GP c args H).gr=some (.ok v H')):∃args1,(sI c.ps args H).gr=some (some (args1,H'))/\(yz c args1 H').gr=some (.ok v H'):=by
 unfold GP at h;rw [aD.qJ]at h;cases h1:(sI c.ps args H).gr with
 |none=>rw [h1]at h;cases h
 |some r=>
  rw [h1]at h;cases r with
  |none=>cases h
  |some r=>
   obtain⟨a1,H1⟩:=r;have h:(yz c a1 H1).gr=some (.ok v H'):=h;have e:=K2 h;subst e;exact⟨a1,rfl,h⟩
def Mk {bu:bG} {f:FuncId} {args:List aa} {v:aa} {H':ai}:∀{l:List bp},(ow l bu f args H).gr=some (.ok v H')->(∃c∈l,c.f=f/\(GP c args H).gr=some (.ok v H'))\/(bu f args H).gr=some (.ok v H')
 |[],h=> .inr h
 |c::l,h=>by
  unfold ow at h;cases hb:Nat.beq f c.f with
  |true=>simp only [hb]at h;exact .inl ⟨c,kK,(ac hb).symm,h⟩
  |false=>
   simp only [hb]at h;rcases Mk h with⟨c',h1,h2⟩|h1
   .exact .inl ⟨c',kJ _ h1,h2⟩
   .exact .inr h1
def uM {l:List bp} {bu:bG} (hl:∀c∈l,c.Ok P) (hS:bC P (bF bu)):bC P (bF (ow l bu)) where
 mono f args H v H' h:=by
  rcases Mk (r7 h)with⟨c,_,_,h3⟩|h3
  .obtain⟨a1,g1,_⟩:=Ud h3;rw [Uc g1];exact aI _
  .exact hS.mono f args H v H' (by unfold bF;rw [h3];rfl)
 cx f args H v H' h B ρ xs w m hH cv hd hf:=by
  rcases Mk (r7 h)with⟨c,h1,rfl,h3⟩|h3
  .obtain⟨a1,g1,g2⟩:=Ud h3;obtain⟨cN,l1,a2,s1,e1⟩:=Ub hH g1 hd;refine(SS (hl c h1) g2 m a2 (cv.mono l1) e1).mono ?_;rintro e w' ⟨x,ρ',rfl,q1,aQ,b7⟩;exact⟨x,ρ',rfl,q1,aQ,s1.trans b7⟩
  .exact hS.cx f args H v H' (by unfold bF;rw [h3];rfl) B ρ xs w m hH cv hd hf
end
end
end Go.Proofs.YtibikmmdbdlafaaGreatDoor.Sv
namespace Go.Proofs.YtibikmmdbdlafaaGreatDoor
open Go.RowKit Sv Go.Proofs.Tryz
noncomputable section
def gh:=k_a f178
def kC:=Di [GI] (AQ [sD] (ow [Gf] (bc [LF,L8,L7])))
abbrev DF:List Nat:=[1,1,0,1,0]
abbrev Ml:List Nat:=[1,1,0,1,0,1,1,0,1,0,0]
abbrev GR:List Nat:=[1,1,1,1,1,1,1,1,0,1,0,0]
abbrev GS:List Nat:=[1,1,1,1,1,1,1,1,1,0,1,0,0]
abbrev Mm (j:Nat) (l:List Int):aa:= .bR 167 aE j 0 l.length .full
abbrev Mn (l:List Int):fJ:= .blk (.own 167 aE l)
def sJ (a b:List Int):bD:={n:=137,sl:=[(0,bI a),(1,bI b),(23,bv ((b.length:Int)==1))],bJ:=[],next:=64}
def rq (a b q:List Int) (r:Int) (k:Nat):bD:={n:=137,sl:=[(0,bI a),(1,bI b),(6,qV 64 q),(7,cu r),(8,iv ((k:Int)-1))],bJ:=[(64,qW q)],next:=65}
def Mo (a b q:List Int) (r:Int) (k:Nat):bD:={n:=137,sl:=[(0,bI a),(1,bI b),(6,qV 64 q),(7,cu r),(8,iv ((k:Int)-1-1))],bJ:=[(64,qW q)],next:=65}
def ld (a v u q:List Int) (s:Int) (k:Nat):bD:={n:=137,sl:=[(0,bI a),(9,iv s),(10,bI v),(11,Mm 64 u),(12,iv v.length),(13,qV 65 q),(14,iv ((k:Int)-1))],bJ:=[(64,Mn u),(65,qW q)],next:=66}
def Bd (a v u q:List Int) (s:Int) (k:Nat):bD:={n:=137,sl:=[(0,bI a),(9,iv s),(10,bI v),(11,Mm 64 u),(12,iv v.length),(13,qV 65 q),(14,iv ((k:Int)-1-1))],bJ:=[(64,Mn u),(65,qW q)],next:=66}
def jL (n:Nat) (u q:List Int) (s:Int) (i:Nat):bD:={n:=137,sl:=[(9,iv s),(11,Mm 64 u),(12,iv n),(13,qV 65 q),(96,iv n),(97,iv i)],bJ:=[(64,Mn u),(65,qW q)],next:=66}
abbrev yX:Sv.Ren:=[(64,64,none),(65,65,none)]
def Mp (a v:List Int) (s:Int):bD:={n:=137,sl:=[(0,bI a),(9,iv s),(10,bI v)],bJ:=[],next:=64}
def ahj (a b:List Int) (h1:(mR a b)=true) (h2:k3 (ak a) (ak b)<0):
  bh kC (fl gh []) 3 137 [bI a,bI b] 3 f178 false (.tuple [bI [],bI a]):=
 wy [af h1,ah h2] 129
def ahk (a b:List Int) (h1:(mR a b)=true) (h2:¬k3 (ak a) (ak b)<0):
  cZ kC (fl gh []) 4 137 [bI a,bI b] 2 .normal [] (sJ a b):=
 wy [af h1,aJ h2] 129
def ahl (a b:List Int) (h1:a.length<=1000000) (h2: -9223372036854775808<=(a.length:Int)-1/\(a.length:Int)-1<=9223372036854775807) (h3:a.length=(cG a.length).length) (h4:(bH (cG a.length).length)=(bH a.length)) (h5:(List.flatten (List.replicate a.length (List.map aa.raw (Array.toList #[Value.int .u64 (0:Int)]))))=(List.flatMap (fun x=>[aa.raw (Value.int .u64 x)]) (cG a.length))):
  aD.path (yB prog kC (fl gh DF) 3 (sJ a b)) (dl 1) (ef prog 137 .normal [(64,64,some a.length)] (rq a b (cG a.length) 0 a.length)):=
 mp (F9 rt rt (show(decide (a.length<=a.length))=true from az ω) (og (show(bounded a.length (8:Nat))=true from pH h1 ω) (eN h2) (rr a) (rr b) (an h3 (an (rr (aX.known a.length)) h4)) (rr (0:Int)) (rr ((a.length:Int)-1)) (an h5 h3) trivial))
section
variable (a b q:List Int) (r:Int) (k:Nat)
def ahm (h1:(k:Int)-1>=0) (h2:0<=(k:Int)-1) (h3:((k:Int)-1).toNat<a.length) (h4:Int.toNat 0<b.length) (h5:(uG r (a.getD ((k:Int)-1).toNat 0) (b.getD (Int.toNat 0) 0))=true) (h6:((k:Int)-1).toNat<q.length) (h7:i6 ((k:Int)-1-1)) (h8:q.length=(q.set ((k:Int)-1).toNat (kz r (a.getD ((k:Int)-1).toNat 0) (b.getD 0 0))).length) (h9:(bH q.length)=(bH (q.set ((k:Int)-1).toNat (kz r (a.getD ((k:Int)-1).toNat 0) (b.getD 0 0))).length)) (h10:(oq r (a.getD ((k:Int)-1).toNat 0) (b.getD (Int.toNat 0) 0))=(oq r (a.getD ((k:Int)-1).toNat 0) (b.getD 0 0))) (h11:(q.set ((k:Int)-1).toNat (kz r (a.getD ((k:Int)-1).toNat 0) (b.getD (Int.toNat 0) 0)))=(q.set ((k:Int)-1).toNat (kz r (a.getD ((k:Int)-1).toNat 0) (b.getD 0 0)))):
  bt kC (fl gh Ml) (rq a b q r k) 3 .normal j9 (Mo a b (q.set ((k:Int)-1).toNat (kz r (a.getD ((k:Int)-1).toNat 0) (b.getD 0 0))) (oq r (a.getD ((k:Int)-1).toNat 0) (b.getD 0 0)) k):=
 wy [ah h1,ah h2,ah h3,af (aF (v:=aa.raw (Value.int IntKind.u64 (a.getD ((k:Int)-(1:Int)).toNat (0:Int))))),ah h4,af (aF (v:=aa.raw (Value.int IntKind.u64 (b.getD (0:Int).toNat (0:Int))))),af h5,ah h6,jf 167 aE h6,yi h7,ax h8,ax h9,ax h10,mM 167 aE h11] 290835506264453566828585601305948289
def ahn (h1:¬(k:Int)-1>=0):
  bt kC (fl gh Ml) (rq a b q r k) 2 (.exit 0) j9 (rq a b q r k):=
 wy [aJ h1] 1
def aho (h1:(Nat.beq q.length 0||bz 167 aE (bU 167 aE q) (q.length-1))=true) (h2:((q.drop 0).take q.length).length<=1000000) (h3:1*1<=(aa.raw (Value.int .u64 r)::List.append._f [] PUnit.unit (List.flatten._f [] PUnit.unit)).length) (h4:List.length [r]<=1000000) (h5:(dS ((q.drop 0).take q.length))=(dS q)):
  bS kC ((fl gh DF).drop 4) (rq a b q r k) 1 f178 false (.tuple [bI (dS q),bI (dS [r])]):=
 wy [af (show(Nat.beq q.length (0:Nat)||bz 167 aE (bU 167 aE q) ((0:Nat)+q.length-(1:Nat)))=true from(by simp only [aw]<;>exact h1)),af (show(decide ((((bN aE (bU 167 aE q)).drop (0:Nat)).take q.length).length<=(1000000:Nat)))=true from(by simp only [ep]<;>exact az h2)),af (show(Nat.ble ((0:Nat)+(1:Nat)*(1:Nat)) (aa.raw (Value.int IntKind.u64 r)::List.append._f [] PUnit.unit (List.flatten._f [] PUnit.unit)).length)=true from(by simp only [aw]<;>exact fF h3)),ah h4,ax (show(dS (((bN aE (bU 167 aE q)).drop (0:Nat)).take q.length))=(dS q)from(by simp only [ep]<;>exact h5))] 84947073
end
def ahp (a b:List Int) (h1:¬(b.length:Int)=1):
  cY kC ((fl gh []).drop 4) 1 (sJ a b) 2 .normal [] (sJ a b):=
 wy [yn h1] 1
def ahq (a b v:List Int) (s:Int) (h1:i6 ((b.length:Int)-1)) (h2:0<=(b.length:Int)-1) (h3:((b.length:Int)-1).toNat<b.length) (h4:(wO (b.getD ((b.length:Int)-1).toNat 0))=true) (h5:(yS b (dY (b.getD ((b.length:Int)-1).toNat 0)))=true) (h6:(Nat.beq (cH b (dY (b.getD ((b.length:Int)-1).toNat 0))).length 0||bz (qQ.e GI) aE (some (bl.own 167 aE (cH b (dY (b.getD ((b.length:Int)-1).toNat 0))))) ((cH b (dY (b.getD ((b.length:Int)-1).toNat 0))).length-1))=true) (h7:(((cH b (dY (b.getD ((b.length:Int)-1).toNat 0))).drop 0).take (cH b (dY (b.getD ((b.length:Int)-1).toNat 0))).length).length<=1000000) (h8:(dY (b.getD ((b.length:Int)-1).toNat 0))=(s)) (h9:(dS (((cH b (dY (b.getD ((b.length:Int)-1).toNat 0))).drop 0).take (cH b (dY (b.getD ((b.length:Int)-1).toNat 0))).length))=(v)):
  cY kC ((fl gh []).drop 5) 2 (sJ a b) 1 .normal [] (Mp a v s):=
 wy [yi h1,ah h2,ah h3,af h4,af h5,af (show(Nat.beq (cH b (dY (b.getD ((b.length:Int)-(1:Int)).toNat (0:Int)))).length (0:Nat)||bz (qQ.e GI) aE (some (bl.own 167 aE (cH b (dY (b.getD ((b.length:Int)-(1:Int)).toNat (0:Int)))))) ((0:Nat)+(cH b (dY (b.getD ((b.length:Int)-(1:Int)).toNat (0:Int)))).length-(1:Nat)))=true from(by simp only [aw]<;>exact h6)),ah h7,ax h8,ax h9] 164381873962758273
def ahr (a v:List Int) (s:Int) (m:Nat) (h1:(yS a s)=true) (h2: -9223372036854775808<=(a.length:Int)-(v.length:Int)/\(a.length:Int)-(v.length:Int)<=9223372036854775807) (h3: -9223372036854775808<=(a.length:Int)-(v.length:Int)+1/\(a.length:Int)-(v.length:Int)+1<=9223372036854775807) (h4:(0:Int)<=(a.length:Int)-(v.length:Int)+1) (h5:((a.length:Int)-(v.length:Int)+1).toNat<=1000000) (h6:(cH a s).length=(cH a s).length) (h7:(((a.length:Int)-(v.length:Int)+1).toNat)=(cG m).length) (h8:(aX.known ((a.length:Int)-(v.length:Int)+1).toNat)=(aX.known m)) (h9:(bH (cG m).length)=(bH m)) (h10:((a.length:Int)-(v.length:Int))=((m:Int)-1)) (h11:(List.flatten (List.replicate ((a.length:Int)-(v.length:Int)+1).toNat (List.map aa.raw (Array.toList #[Value.int .u64 (0:Int)]))))=(List.flatMap (fun x=>[aa.raw (Value.int .u64 x)]) (cG m))) (h12:(m)=(cG m).length):
  aD.path (yB prog kC ((fl gh []).drop 7) 4 (Mp a v s)) (dl 1) (ef prog 137 .normal [(64,64,none),(65,65,some m)] (ld a v (cH a s) (cG m) s m)):=
 mp (an h1 (og (eN h2) (eN h3) (az h4) (az h4) (show(decide (((a.length:Int)-(v.length:Int)+1).toNat<=((a.length:Int)-(v.length:Int)+1).toNat))=true from az ω) (show(bounded ((a.length:Int)-(v.length:Int)+1).toNat (8:Nat))=true from pH h5 ω) (eN h2) (rr a) (og (rr s) (rr v) (an (rr (0:Nat)) (an h6 (rr (aX.full)))) (rr (v.length:Int)) (an h7 (an h8 h9)) h10 (rr (cH a s)) (an h11 h12) trivial)))
section
variable (a v u q:List Int) (s:Int) (k:Nat) (h1:(k:Int)-1>=0) (h2:i6 ((k:Int)-1+(v.length:Int))) (h3:i6 ((k:Int)-1+(v.length:Int)+1)) (h4:0<=(k:Int)-1) (h5:((k:Int)-1+(v.length:Int)+1).toNat<=u.length)
def ahs (h6:((k:Int)-1).toNat=0) (h7:(bz (gQ.e sD) (gQ.t sD) (some (bl.own 167 aE u)) (((k:Int)-1+(v.length:Int)+1).toNat-1)&&Nat.ble 1 ((k:Int)-1+(v.length:Int)+1).toNat)=true) (h8:(wP u 0 ((k:Int)-1+(v.length:Int)+1).toNat v)=true) (h9:((k:Int)-1).toNat<q.length) (h10:i6 ((k:Int)-1-1)) (h11:u.length=(k9 u 0 ((k:Int)-1+(v.length:Int)+1).toNat v).length) (h12:q.length=(q.set ((k:Int)-1).toNat (jk u 0 ((k:Int)-1+(v.length:Int)+1).toNat v)).length) (dF:(bH q.length)=(bH (q.set ((k:Int)-1).toNat (jk u 0 ((k:Int)-1+(v.length:Int)+1).toNat v)).length)):
  bt kC (fl gh GR) (ld a v u q s k) 7 .normal yX (Bd a v (k9 u 0 (((k:Int)-1+v.length+1).toNat) v) (q.set ((k:Int)-1).toNat (jk u 0 (((k:Int)-1+v.length+1).toNat) v)) s k):=
 wy [ah h1,yi h2,yi h3,ah (by omega:(0:Int)<=(k:Int)-(1:Int)+(v.length:Int)+(1:Int)),ah h4,ah (by omega:((k:Int)-(1:Int)).toNat<=((k:Int)-(1:Int)+(v.length:Int)+(1:Int)).toNat),ah h5,af (adp h6),af (show(bz (gQ.e sD) (gQ.t sD) (some (bl.own 167 aE u)) ((0:Nat)+((k:Int)-(1:Int)+(v.length:Int)+(1:Int)).toNat-(1:Nat))&&Nat.ble (1:Nat) ((k:Int)-(1:Int)+(v.length:Int)+(1:Int)).toNat)=true from(by simp only [aw]<;>exact h7)),af h8,ah h9,jf 167 aE h9,yi h10,ax h11,ax h12,ax dF,mM 167 aE (Eq.refl (q.set ((k:Int)-(1:Int)).toNat (jk u (0:Nat) ((k:Int)-(1:Int)+(v.length:Int)+(1:Int)).toNat v)))] 1552851146518156587532186954369615219962099544193
def aht (h6:(Nat.beq ((k:Int)-1).toNat 0)=false) (h7:((k:Int)-1).toNat<((k:Int)-1+(v.length:Int)+1).toNat) (h8:(bz (gQ.e sD) (gQ.t sD) (some (bl.own 167 aE u)) (((k:Int)-1).toNat+(((k:Int)-1+(v.length:Int)+1).toNat-Int.toNat ((k:Int)-1))-1)&&Nat.ble 1 (((k:Int)-1+(v.length:Int)+1).toNat-Int.toNat ((k:Int)-1)))=true) (h9:(wP u ((k:Int)-1).toNat (((k:Int)-1+(v.length:Int)+1).toNat-Int.toNat ((k:Int)-1)) v)=true) (h10:((k:Int)-1).toNat<q.length) (h11:i6 ((k:Int)-1-1)) (h12:u.length=(k9 u ((k:Int)-1).toNat (((k:Int)-1+(v.length:Int)+1).toNat-Int.toNat ((k:Int)-1)) v).length) (dF:q.length=(q.set ((k:Int)-1).toNat (jk u ((k:Int)-1).toNat (((k:Int)-1+(v.length:Int)+1).toNat-Int.toNat ((k:Int)-1)) v)).length) (gb:(bH q.length)=(bH (q.set ((k:Int)-1).toNat (jk u ((k:Int)-1).toNat (((k:Int)-1+(v.length:Int)+1).toNat-Int.toNat ((k:Int)-1)) v)).length)):
  bt kC (fl gh GR) (ld a v u q s k) 13 .normal yX (Bd a v (k9 u ((k:Int)-1).toNat ((((k:Int)-1+v.length+1).toNat)-((k:Int)-1).toNat) v) (q.set ((k:Int)-1).toNat (jk u ((k:Int)-1).toNat ((((k:Int)-1+v.length+1).toNat)-((k:Int)-1).toNat) v)) s k):=
 wy [ah h1,yi h2,yi h3,ah (by omega:(0:Int)<=(k:Int)-(1:Int)+(v.length:Int)+(1:Int)),ah h4,ah (by omega:((k:Int)-(1:Int)).toNat<=((k:Int)-(1:Int)+(v.length:Int)+(1:Int)).toNat),ah h5,af h6,ah h7,af (show(bz (gQ.e sD) (gQ.t sD) (some (bl.own 167 aE u)) ((0:Nat)+((k:Int)-(1:Int)).toNat+(((k:Int)-(1:Int)+(v.length:Int)+(1:Int)).toNat-Int.toNat ((k:Int)-(1:Int)))-(1:Nat))&&Nat.ble (1:Nat) (((k:Int)-(1:Int)+(v.length:Int)+(1:Int)).toNat-Int.toNat ((k:Int)-(1:Int))))=true from(by simp only [aw]<;>exact h8)),af (show(wP u ((0:Nat)+((k:Int)-(1:Int)).toNat) (((k:Int)-(1:Int)+(v.length:Int)+(1:Int)).toNat-Int.toNat ((k:Int)-(1:Int))) v)=true from(by simp only [aw]<;>exact h9)),ah h10,jf 167 aE h10,yi h11,ax h12,ax dF,ax gb,ax (show(k9 u ((0:Nat)+((k:Int)-(1:Int)).toNat) (((k:Int)-(1:Int)+(v.length:Int)+(1:Int)).toNat-Int.toNat ((k:Int)-(1:Int))) v)=(k9 u ((k:Int)-(1:Int)).toNat (((k:Int)-(1:Int)+(v.length:Int)+(1:Int)).toNat-Int.toNat ((k:Int)-(1:Int))) v)from(by simp only [aw])),pG prog 167 aE (show((bN aE (bU 167 aE q)).set ((0:Nat)+((k:Int)-(1:Int)).toNat) (jk u ((0:Nat)+((k:Int)-(1:Int)).toNat) (((k:Int)-(1:Int)+(v.length:Int)+(1:Int)).toNat-Int.toNat ((k:Int)-(1:Int))) v))=(q.set ((k:Int)-(1:Int)).toNat (jk u ((k:Int)-(1:Int)).toNat (((k:Int)-(1:Int)+(v.length:Int)+(1:Int)).toNat-Int.toNat ((k:Int)-(1:Int))) v))from(by simp only [ep,aw]<;>rfl))] 112718698467000873757520171089483947854851910676609
end
def ahu (a v u q:List Int) (s:Int) (k:Nat) (h1:¬(k:Int)-1>=0):
  bt kC (fl gh GR) (ld a v u q s k) 2 (.exit 2) yX (ld a v u q s k):=
 wy [aJ h1] 1
def ahv (a v u q:List Int) (s:Int) (k:Nat):
  cY kC ((fl gh []).drop 12) 1 (ld a v u q s k) 1 .normal yX (jL v.length u q s 0):=
 wy [] 0
section
variable (n:Nat) (u q:List Int) (s:Int) (i:Nat) (h1:(i:Int)<(n:Int)) (h2:i<u.length) (h3:(bz 167 aE (some (bl.own 167 aE u)) i)=true) (h4:0<=s)
def ahw (h5:s>0) (h6:i6 ((i:Int)+1)) (h7:(i:Int)+1<(u.length:Int)) (h8:(bz 167 aE (some (bl.own 167 aE (u.set i (Int.fdiv (u.getD i 0) ((2:Int)^min s.toNat 64))))) i)=true) (h9:((i:Int)+1).toNat<u.length) (h10:(bz 167 aE (some (bl.own 167 aE (u.set i (Int.fdiv (u.getD i 0) ((2:Int)^min s.toNat 64))))) ((i:Int)+1).toNat)=true) (h11:i6 (64-s)) (h12:0<=64-s) (dF:u.length=((u.set i (dG (u.getD i 0) s)).set i (eV ((u.set i (dG (u.getD i 0) s)).getD i 0) (fC ((u.set i (dG (u.getD i 0) s)).getD (i+1) 0) (64-s)))).length) (gb:((u.set i (Int.fdiv (u.getD i 0) ((2:Int)^min s.toNat 64))).set i (IntKind.wrap IntKind.u64 (↑(BitVec.toNat (BitVec.ofInt 64 ((u.set i (Int.fdiv (u.getD i 0) ((2:Int)^min s.toNat 64))).getD i 0)|||BitVec.ofInt 64 (IntKind.wrap IntKind.u64 ((u.set i (Int.fdiv (u.getD i 0) ((2:Int)^min s.toNat 64))).getD ((i:Int)+1).toNat 0*(2:Int)^min (64-s).toNat 64)))):Int)))=((u.set i (dG (u.getD i 0) s)).set i (eV ((u.set i (dG (u.getD i 0) s)).getD i 0) (fC ((u.set i (dG (u.getD i 0) s)).getD (i+1) 0) (64-s))))):
  bt kC (fl gh GS) (jL n u q s i) 511 .normal yX (jL n ((u.set i (dG (u.getD i 0) s)).set i (eV ((u.set i (dG (u.getD i 0) s)).getD i 0) (fC ((u.set i (dG (u.getD i 0) s)).getD (i+1) 0) (64-s)))) q s (i+1)):=
 wy [ah h1,ah h2,af (show(bz 167 aE (some (bl.own 167 aE u)) ((0:Nat)+i))=true from(by simp only [aw]<;>exact h3)),ah h4,af (aM (az h5)),yi h6,ah h5,ah h7,af (show(bz 167 aE (some (bl.own 167 aE (u.set ((0:Nat)+i) (Int.fdiv (u.getD ((0:Nat)+i) (0:Int)) ((2:Int)^min s.toNat (64:Nat)))))) ((0:Nat)+i))=true from(by simp only [aw]<;>exact h8)),af (aF (v:=aa.raw (Value.int IntKind.u64 ((u.set ((0:Nat)+i) (Int.fdiv (u.getD ((0:Nat)+i) (0:Int)) ((2:Int)^min s.toNat (64:Nat)))).getD ((0:Nat)+i) (0:Int))))),ah h9,af (show(bz 167 aE (some (bl.own 167 aE (u.set ((0:Nat)+i) (Int.fdiv (u.getD ((0:Nat)+i) (0:Int)) ((2:Int)^min s.toNat (64:Nat)))))) ((0:Nat)+((i:Int)+(1:Int)).toNat))=true from(by simp only [aw]<;>exact h10)),af (aF (v:=aa.raw (Value.int IntKind.u64 ((u.set ((0:Nat)+i) (Int.fdiv (u.getD ((0:Nat)+i) (0:Int)) ((2:Int)^min s.toNat (64:Nat)))).getD ((0:Nat)+((i:Int)+(1:Int)).toNat) (0:Int))))),yi h11,ah h12,ax dF,ax (show((u.set ((0:Nat)+i) (Int.fdiv (u.getD ((0:Nat)+i) (0:Int)) ((2:Int)^min s.toNat (64:Nat)))).set ((0:Nat)+i) (IntKind.wrap IntKind.u64 (↑(BitVec.toNat (BitVec.ofInt (64:Nat) ((u.set ((0:Nat)+i) (Int.fdiv (u.getD ((0:Nat)+i) (0:Int)) ((2:Int)^min s.toNat (64:Nat)))).getD ((0:Nat)+i) (0:Int))|||BitVec.ofInt (64:Nat) (IntKind.wrap IntKind.u64 ((u.set ((0:Nat)+i) (Int.fdiv (u.getD ((0:Nat)+i) (0:Int)) ((2:Int)^min s.toNat (64:Nat)))).getD ((0:Nat)+((i:Int)+(1:Int)).toNat) (0:Int)*(2:Int)^min ((64:Int)-s).toNat (64:Nat))))):Int)))=((u.set i (dG (u.getD i (0:Int)) s)).set i (eV ((u.set i (dG (u.getD i (0:Int)) s)).getD i (0:Int)) (fC ((u.set i (dG (u.getD i (0:Int)) s)).getD (i+(1:Nat)) (0:Int)) ((64:Int)-s))))from(by simp only [aw]<;>exact gb))] 7873862068137527616914292518417608029408674204502519200453172716118206636105729
def ahx (h5:¬s>0) (h6:i6 ((i:Int)+1)) (h7:u.length=(u.set i (dG (u.getD i 0) s)).length) (h8:(u.set i (Int.fdiv (u.getD i 0) ((2:Int)^min s.toNat 64)))=(u.set i (dG (u.getD i 0) s))):
  bt kC (fl gh GS) (jL n u q s i) 257 .normal yX (jL n (u.set i (dG (u.getD i 0) s)) q s (i+1)):=
 wy [ah h1,ah h2,af (show(bz 167 aE (some (bl.own 167 aE u)) ((0:Nat)+i))=true from(by simp only [aw]<;>exact h3)),ah h4,af (aM (ab h5)),aJ h5,yi h6,ax h7,ax (show(u.set ((0:Nat)+i) (Int.fdiv (u.getD ((0:Nat)+i) (0:Int)) ((2:Int)^min s.toNat (64:Nat))))=(u.set i (dG (u.getD i (0:Int)) s))from(by simp only [aw]<;>exact h8))] 822094670998635487646669403467073943717211283457
end
section
variable (n:Nat) (u q:List Int) (s:Int) (i:Nat)
def ahy (h1:¬(i:Int)<(n:Int)):
  bt kC (fl gh GS) (jL n u q s i) 2 (.exit 4) yX (jL n u q s i):=
 wy [aJ h1] 1
def ahz (h1:(Nat.beq q.length 0||bz 167 aE (bU 167 aE q) (q.length-1))=true) (h2:((q.drop 0).take q.length).length<=1000000) (h3:n<=u.length) (h4:(Nat.beq n 0||bz 167 aE (some (bl.own 167 aE u)) (n-1))=true) (h5:((u.drop 0).take n).length<=1000000) (h6:(dS ((q.drop 0).take q.length))=(dS q)) (h7:(dS ((u.drop 0).take n))=(dS (u.take n))):
  bS kC ((fl gh []).drop 14) (jL n u q s i) 3 f178 false (.tuple [bI (dS q),bI (dS (u.take n))]):=
 wy [af (show(Nat.beq q.length (0:Nat)||bz 167 aE (bU 167 aE q) ((0:Nat)+q.length-(1:Nat)))=true from(by simp only [aw]<;>exact h1)),af (show(decide ((((bN aE (bU 167 aE q)).drop (0:Nat)).take q.length).length<=(1000000:Nat)))=true from(by simp only [ep]<;>exact az h2)),ah h3,af (show(Nat.beq n (0:Nat)||bz 167 aE (some (bl.own 167 aE u)) ((0:Nat)+n-(1:Nat)))=true from(by simp only [aw]<;>exact h4)),ah h5,ax (show(dS (((bN aE (bU 167 aE q)).drop (0:Nat)).take q.length))=(dS q)from(by simp only [ep]<;>exact h6)),ax h7] 127811904587432065
end
def Ue {X:Ext} {P:Program} {w0:World} {F:Sv.Env} {n:Nat} {T:au aa} {H:ai} {Q:Exit->au aa->ai->Prop} {l rest:List Code} {o:Operand} {x y:Code} (hl:l= .cond o x y::rest) (hb:gK (cl T o)= .mk true)
  (h:ba X P w0 F n (r8 x) T H (gZ (fun T H=>ba X P w0 F n rest T H Q) Q)):ba X P w0 F n l T H Q:=by
 subst hl;intro a w hs k;obtain⟨ρ,aR,_⟩:=hs.ex;have hc:=ya aR.T aR.G o;rw [E1 hb]at hc;exact wpIn_cond hc.cg (uu h a w hs k)
def GU:bC prog (bF kC):=by
 refine adK (fun c hc=> ?_) (S5 (fun c hc=> ?_) (uM (fun c hc=> ?_) (cK fun c hc=> ?_)))
 .rw [List.mem_singleton.1 hc];exact agN
 .rw [List.mem_singleton.1 hc];exact ahf
 .rw [List.mem_singleton.1 hc];exact LA
 .simp only [en,ki,or_false]at hc;rcases hc with rfl |rfl |rfl
  .exact Tv
  .exact T6
  .exact TM
def pR (a b:List Int):Bool:=mR a b&&(decide (1<=b.length)&&(decide (a.length<=300000)&&decide (b.length<=300000)))
def e7 (a b:List Int):List Int:=cO 18446744073709551616 (ak a/ak b)
def cI (a b:List Int):List Int:=cO 18446744073709551616 (ak a%ak b)
def Mq:=IN 178 [.list false aE, .list false aE] [.list false aE, .list false aE] false (fun d=>pR d.1 d.2.1) fun d=>(e7 d.1 d.2.1,(cI d.1 d.2.1,()))
abbrev Mr (q r:List Int):Exit->au aa->ai->Prop:=hG prog false f178 (.tuple [bI q,bI r])
def Uf {l:List Int} {k:Nat} (h:k=l.length):(Nat.beq l.length 0||bz 167 aE (bU 167 aE l) (k-1))=true:=by
 subst h;cases l with
 |nil=>rfl
 |cons x r=>rw [fm];simp
def ahA {a:List Int} {y:Int} (ha:aS 18446744073709551616 a) (hy:1<=y/\y<18446744073709551616) (hla:a.length<=300000) (w:World) (F:Sv.Env):
  aU prog w F 137 (fl gh DF) (sJ a [y]).T (sJ a [y]).H (fun e T H=>e= .ret/\Mr (e7 a [y]) (cI a [y]) .ret T H):=by
 have hS:=GU;refine c6 (s:=sJ a [y]) hS 3 (ahl a [y] ω ω (gH _).symm (by rw [gH]) (yJ _)) ?_;refine aU.loop (ι:={x:List Int×Int×Nat//x.2.2<=a.length/\x.1.length=a.length/\aS 18446744073709551616 x.1/\(0<=x.2.1/\x.2.1<y)/\ak (a.drop x.2.2)=ak (x.1.drop x.2.2)*y+x.2.1}) (id:=0) (b:=cat gh Ml) (rest:=(fl gh DF).drop 4) (by kernel_rfl) (fun x=>rq a [y] x.1.1 x.1.2.1 x.1.2.2) (fun x=>x.1.2.2)
  ⟨(cG a.length,0,a.length),aI _,gH _,A0 _,⟨Int.le_refl 0,show(0:Int)<y by omega⟩,by
    show ak (a.drop a.length)=ak ((cG a.length).drop a.length)*y+0;rw [List.drop_length,List.drop_eq_nil_of_le (by rw [gH];exact aI _)];simp [ak,vl]⟩ (fun _=>rfl) ?_
 rintro⟨⟨q,r,k⟩,hk,hq,jl,hr,hv⟩;have hk:k<=a.length:=hk;have hq:q.length=a.length:=hq;have jl:aS 18446744073709551616 q:=jl;have hr:0<=r/\r<y:=hr;have hv:ak (a.drop k)=ak (q.drop k)*y+r:=hv;cases k with
 |zero=>
  refine bx (s:=rq a [y] q r 0) hS (ahn a [y] q r 0 ω) ?_;refine cy (cF ?_);rw [List.drop_zero,List.drop_zero]at hv;have e1:ak [y]=y:=A1 y;obtain⟨g1,g2⟩:=yQ (U:=ak a) (V:=y) (t:=ak q) ω ω ω;have e2:e7 a [y]=dS q:=by unfold e7;rw [e1,g1,wH jl]
  have e3:cI a [y]=dS [r]:=by
   unfold cI;rw [e1,g2,wH (LJ ω),A1];congr 1;omega
  rw [e2,e3];have bV:(q.drop 0).take q.length=q:=by simp
  exact aU.uw (s:=rq a [y] q r 0) known mixed hS _ (aho a [y] q r 0 (Uf rfl) (by rw [bV];omega) (aI 1) τ (by rw [bV])) fun T H h=>⟨rfl,h⟩
 |succ j=>
  have ej:(((j+1:Nat):Int)-1).toNat=j:=by omega
  have haj:=ha.get δ j;have hD:uG r (a.getD j 0) y=true:=by
   unfold uG;rw [sy.2 haj,sy.2 ω,az hr.1,az hr.2];rfl
  have ug:=Int.emod_add_mul_ediv (r*18446744073709551616+a.getD j 0) y;have hm0:=dr (r*18446744073709551616+a.getD j 0) (show y≠0 by omega);have pN:=c7 (r*18446744073709551616+a.getD j 0) (show 0<y by omega);have mN:0<=(r*18446744073709551616+a.getD j 0)/y:=Int.ediv_nonneg ω ω;have hq1:(r*18446744073709551616+a.getD j 0)/y<18446744073709551616:=(Int.ediv_lt_iff_lt_mul ω).2 (by
   have:(r+1)*18446744073709551616<=y*18446744073709551616:=ar ω δ;rw [Int.mul_comm _ y];omega)
  refine bx (s:=rq a [y] q r (j+1)) hS (ahm a [y] q r (j+1) ω ω ω τ (by rw [ej];exact hD) ω ω (by rw [b6]) (by rw [b6]) rfl rfl) ?_;rw [ej];have iR:(((j+1:Nat):Int)-1-1)=(j:Int)-1:=by omega
  refine⟨⟨(q.set j (kz r (a.getD j 0) y),oq r (a.getD j 0) y,j),by show j<=_;omega,by show(q.set j _).length=_;rw [b6];exact hq,jl.set ⟨mN,hq1⟩,⟨hm0,pN⟩, ?_⟩,by show j<j+1;omega, ?_, ?_⟩
  .show ak (a.drop j)=ak ((q.set j (kz r (a.getD j 0) y)).drop j)*y+oq r (a.getD j 0) y;unfold ak at hv ⊢;rw [uF (l:=a) ω,uF (l:=q.set j _) (by rw [b6];omega),wF ω,hv];have Be:(q.set j (kz r (a.getD j 0) y)).drop (j+1)=q.drop (j+1):=by rw [List.drop_set];rw [if_pos ω]
   rw [Be];unfold kz oq;generalize vl 18446744073709551616 (q.drop (j+1))=z at*;generalize (r*18446744073709551616+a.getD j 0)/y=d at*;generalize (r*18446744073709551616+a.getD j 0)%y=e at*;grind
  .show(Mo a [y] _ _ (j+1)).T=(rq a [y] _ _ j).T;unfold Mo rq;rw [iR];rfl
  .rfl
end
end Go.Proofs.YtibikmmdbdlafaaGreatDoor
