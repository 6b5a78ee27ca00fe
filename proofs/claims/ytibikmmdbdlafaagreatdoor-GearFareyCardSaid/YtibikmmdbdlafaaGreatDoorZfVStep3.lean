import Derived.Test.YtibikmmdbdlafaaGreatDoorZfVSh
set_option linter.defProp false
set_option linter.unusedSimpArgs false
set_option linter.unusedVariables false
set_option maxRecDepth 100000
namespace Go.Proofs.YtibikmmdbdlafaaGreatDoor
open Go.RowKit Sv Go.Proofs.Tryz
noncomputable section
def uv (P:Program) (fn:Func) (e:TypeId) (t:av) (xs:List t.den) (res:af):R->Prop
 | .ret T H []=>(match jR P fn T H with
   | .ok v _=>cB true H v res/\(match H.get 64 with
     |some (.own e' t' ys)=>gX (Nat.beq e e') (pn t' t ys xs)
     |_=>False)
   |_=>False)
 |_=>False
def fc:=k_a f226
def jD:=a8 [Gc,Mm]
abbrev AR:List Nat:=[1,1,1,1,1,0,0,0]
abbrev GB:List Nat:=[1,1,1,1,1,1,1,0,1,0,0]
abbrev GC:List Nat:=[1,1,1,1,1,1,1,1,1,1,1,0,1,0,0]
abbrev yz (v:List Int) (k:Nat) (cap:aZ):af:= .bT 167 aE 64 k (v.length+1) cap
abbrev GD (xs:List Int):List (Nat×fE):=[(64, .blk (.own 167 aE xs))]
abbrev j8:Sv.Ren:=[(64,64,none)]
section
variable (xs v:List Int) (k:Nat) (cap:aZ)
def gj (q r o:Int):bH:={n:=186,sl:=[(0,yz v k cap),(1,bI v),(5,iv v.length),(6,cr q),(7,cr r),(8,cr o)],bJ:=GD xs,next:=65}
def j9 (q c b:Int) (i:Nat):bH:={n:=186,sl:=[(0,yz v k cap),(1,bI v),(5,iv v.length),(6,cr q),(11,cr b),(12,cr c),(104,iv v.length),(105,iv i)],bJ:=GD xs,next:=65}
def uw (q b:Int):bH:={n:=186,sl:=[(0,yz v k cap),(1,bI v),(5,iv v.length),(6,cr q),(11,cr b)],bJ:=GD xs,next:=65}
def kz (q c:Int) (i:Nat):bH:={n:=186,sl:=[(0,yz v k cap),(1,bI v),(5,iv v.length),(6,cr q),(17,cr c),(156,iv v.length),(157,iv i)],bJ:=GD xs,next:=65}
end
def kA (q x c:Int):Int:=cY (cH q x) c 0
def q3 (q x c:Int):Int:=IntKind.wrap .u64 (fF q x+dP (cH q x) c 0)
def pO (q:Int):Int:=IntKind.wrap .u64 (q-1)
section
variable (xs v:List Int) (k:Nat) (cap:aZ)
def ahC (h1:(bz 167 aE (some (bq.own 167 aE xs)) (k+v.length))=true) (h2:i6 ((v.length:Int)-1)) (h3:0<=(v.length:Int)-1) (h4:((v.length:Int)-1).toNat<v.length) (h5:xs.getD (k+v.length) 0>=v.getD ((v.length:Int)-1).toNat 0) (h6:(bz 167 aE (some (bq.own 167 aE xs)) (k+((v.length:Int)-1).toNat))=true) (h7:(↑(((xs.getD (k+((v.length:Int)-1).toNat) 0).toNat+(v.getD ((v.length:Int)-1).toNat 0).toNat+Int.toNat 0)%(2:Nat)^(64:Nat)):Int)=(cY (xs.getD (k+((v.length:Int)-1).toNat) 0) (v.getD ((v.length:Int)-1).toNat 0) 0)) (h8:(↑(((xs.getD (k+((v.length:Int)-1).toNat) 0).toNat+(v.getD ((v.length:Int)-1).toNat 0).toNat+Int.toNat 0)/(2:Nat)^(64:Nat)):Int)=(dP (xs.getD (k+((v.length:Int)-1).toNat) 0) (v.getD ((v.length:Int)-1).toNat 0) 0)):
  aD.path (iy prog jD 186 ((fl fc []).take 6) (dt [yz v k cap,bI v] .nil 0) (qG 167 aE xs)) (dl 3) (dU prog 186 .normal j8 (gj xs v k cap 18446744073709551615 (cY (xs.getD (k+((v.length:Int)-1).toNat) 0) (v.getD ((v.length:Int)-1).toNat 0) 0) (dP (xs.getD (k+((v.length:Int)-1).toNat) 0) (v.getD ((v.length:Int)-1).toNat 0) 0))):=
 wy [ah (by omega:v.length<v.length+(1:Nat)),aa h1,aa (aF (v:=af.raw (Value.int IntKind.u64 (xs.getD (k+v.length) (0:Int))))),yi h2,ah h3,ah h4,aa (aF (v:=af.raw (Value.int IntKind.u64 (v.getD ((v.length:Int)-(1:Int)).toNat (0:Int))))),ah h5,ah (by omega:((v.length:Int)-(1:Int)).toNat<v.length+(1:Nat)),aa h6,aa (aF (v:=af.raw (Value.int IntKind.u64 (xs.getD (k+((v.length:Int)-(1:Int)).toNat) (0:Int))))),ax h7,ax h8] 77094211369205276292351474339892351805825363746880
def ahD (h1:(bz 167 aE (some (bq.own 167 aE xs)) (k+v.length))=true) (h2:i6 ((v.length:Int)-1)) (h3:0<=(v.length:Int)-1) (h4:((v.length:Int)-1).toNat<v.length) (h5:¬xs.getD (k+v.length) 0>=v.getD ((v.length:Int)-1).toNat 0) (h6:(bz 167 aE (some (bq.own 167 aE xs)) (k+((v.length:Int)-1).toNat))=true) (h7:(ur (xs.getD (k+v.length) 0) (xs.getD (k+((v.length:Int)-1).toNat) 0) (v.getD ((v.length:Int)-1).toNat 0))=true):
  aD.path (iy prog jD 186 ((fl fc []).take 6) (dt [yz v k cap,bI v] .nil 0) (qG 167 aE xs)) (dl 2) (dU prog 186 .normal j8 (gj xs v k cap (ku (xs.getD (k+v.length) 0) (xs.getD (k+((v.length:Int)-1).toNat) 0) (v.getD ((v.length:Int)-1).toNat 0)) (ow (xs.getD (k+v.length) 0) (xs.getD (k+((v.length:Int)-1).toNat) 0) (v.getD ((v.length:Int)-1).toNat 0)) 0)):=
 wy [ah (by omega:v.length<v.length+(1:Nat)),aa h1,aa (aF (v:=af.raw (Value.int IntKind.u64 (xs.getD (k+v.length) (0:Int))))),yi h2,ah h3,ah h4,aa (aF (v:=af.raw (Value.int IntKind.u64 (v.getD ((v.length:Int)-(1:Int)).toNat (0:Int))))),aK h5,ah (by omega:((v.length:Int)-(1:Int)).toNat<v.length+(1:Nat)),aa h6,aa (aF (v:=af.raw (Value.int IntKind.u64 (xs.getD (k+((v.length:Int)-(1:Int)).toNat) (0:Int))))),aa h7] 17285195801427806826710116508223698747578130496
def ON (q r o:Int) (h1:o=0) (h2:i6 ((v.length:Int)-2)) (h3:0<=(v.length:Int)-2) (h4:((v.length:Int)-2).toNat<v.length) (h5:(kX q (v.getD ((v.length:Int)-2).toNat 0))=true) (h6:¬fF q (v.getD ((v.length:Int)-2).toNat 0)<r) (h7:fF q (v.getD ((v.length:Int)-2).toNat 0)=r) (h8:(bz 167 aE (some (bq.own 167 aE xs)) (k+((v.length:Int)-2).toNat))=true) (h9:cH q (v.getD ((v.length:Int)-2).toNat 0)<=xs.getD (k+((v.length:Int)-2).toNat) 0):
  bB jD (fl fc AR) (gj xs v k cap q r o) 114687 (.exit 0) j8 (gj xs v k cap q r o):=
 wy [cT h1,yi h2,ah h3,ah h4,aa h5,aa (bw (ab h6)),aa (aL (fP.mpr h7)),ah (by omega:((v.length:Int)-(2:Int)).toNat<v.length+(1:Nat)),aa h8,cT h7,aK h6,ah h9] 4242138250928964978126769479503194568536193
def ahE (q r o:Int) (h1:o=0) (h2:i6 ((v.length:Int)-2)) (h3:0<=(v.length:Int)-2) (h4:((v.length:Int)-2).toNat<v.length) (h5:(kX q (v.getD ((v.length:Int)-2).toNat 0))=true) (h6:¬fF q (v.getD ((v.length:Int)-2).toNat 0)<r) (h7:fF q (v.getD ((v.length:Int)-2).toNat 0)=r) (h8:(bz 167 aE (some (bq.own 167 aE xs)) (k+((v.length:Int)-2).toNat))=true) (h9:¬cH q (v.getD ((v.length:Int)-2).toNat 0)<=xs.getD (k+((v.length:Int)-2).toNat) 0) (h10:i6 ((v.length:Int)-1)) (h11:0<=(v.length:Int)-1) (h12:((v.length:Int)-1).toNat<v.length) (dL:(IntKind.wrap IntKind.u64 (q-1))=(pO q)) (gQ:(↑((r.toNat+(v.getD ((v.length:Int)-1).toNat 0).toNat+Int.toNat 0)%(2:Nat)^(64:Nat)):Int)=(cY r (v.getD ((v.length:Int)-1).toNat 0) 0)) (je:(↑((r.toNat+(v.getD ((v.length:Int)-1).toNat 0).toNat+Int.toNat 0)/(2:Nat)^(64:Nat)):Int)=(dP r (v.getD ((v.length:Int)-1).toNat 0) 0)):
  bB jD (fl fc AR) (gj xs v k cap q r o) 81919 .normal j8 (gj xs v k cap (pO q) (cY r (v.getD ((v.length:Int)-1).toNat 0) 0) (dP r (v.getD ((v.length:Int)-1).toNat 0) 0)):=
 wy [cT h1,yi h2,ah h3,ah h4,aa h5,aa (bw (ab h6)),aa (aL (fP.mpr h7)),ah (by omega:((v.length:Int)-(2:Int)).toNat<v.length+(1:Nat)),aa h8,cT h7,aK h6,aK h9,yi h10,ah h11,ah h12,ax dL,ax gQ,ax je] 469728077062457485352764315554227309838396813452327361610526849
def ahF (q r o:Int) (h1:o=0) (h2:i6 ((v.length:Int)-2)) (h3:0<=(v.length:Int)-2) (h4:((v.length:Int)-2).toNat<v.length) (h5:(kX q (v.getD ((v.length:Int)-2).toNat 0))=true) (h6:¬fF q (v.getD ((v.length:Int)-2).toNat 0)<r) (h7:¬fF q (v.getD ((v.length:Int)-2).toNat 0)=r) (h8:i6 ((v.length:Int)-1)) (h9:0<=(v.length:Int)-1) (h10:((v.length:Int)-1).toNat<v.length) (h11:(IntKind.wrap IntKind.u64 (q-1))=(pO q)) (h12:(↑((r.toNat+(v.getD ((v.length:Int)-1).toNat 0).toNat+Int.toNat 0)%(2:Nat)^(64:Nat)):Int)=(cY r (v.getD ((v.length:Int)-1).toNat 0) 0)) (dL:(↑((r.toNat+(v.getD ((v.length:Int)-1).toNat 0).toNat+Int.toNat 0)/(2:Nat)^(64:Nat)):Int)=(dP r (v.getD ((v.length:Int)-1).toNat 0) 0)):
  bB jD (fl fc AR) (gj xs v k cap q r o) 69663 .normal j8 (gj xs v k cap (pO q) (cY r (v.getD ((v.length:Int)-1).toNat 0) 0) (dP r (v.getD ((v.length:Int)-1).toNat 0) 0)):=
 wy [cT h1,yi h2,ah h3,ah h4,aa h5,aa (bw (ab h6)),aa (aL (eN.mpr h7)),yn h7,aK h6,yi h8,ah h9,ah h10,ax h11,ax h12,ax dL] 23327530390001849591339075209156203297049197881947336833
def ahG (q r o:Int) (h1:o=0) (h2:i6 ((v.length:Int)-2)) (h3:0<=(v.length:Int)-2) (h4:((v.length:Int)-2).toNat<v.length) (h5:(kX q (v.getD ((v.length:Int)-2).toNat 0))=true) (h6:fF q (v.getD ((v.length:Int)-2).toNat 0)<r):
  bB jD (fl fc AR) (gj xs v k cap q r o) 449 (.exit 0) j8 (gj xs v k cap q r o):=
 wy [cT h1,yi h2,ah h3,ah h4,aa h5,aa (bw (ay h6)),ah h6] 8180252580288409729
def ahH (q r o:Int) (h1:¬o=0):
  bB jD (fl fc AR) (gj xs v k cap q r o) 2 (.exit 0) j8 (gj xs v k cap q r o):=
 wy [yn h1] 1
def ahI (q r o:Int):
  cV jD ((fl fc []).drop 7) 2 (gj xs v k cap q r o) 1 .normal j8 (j9 xs v k cap q 0 0 0):=
 wy [] 0
def ahJ (q c:Int) (i:Nat) (h1:(i:Int)<(v.length:Int)) (h2:i<v.length) (h3:(kX q (v.getD i (0:Int)))=true) (h4:i<v.length+(1:Nat)) (h5:(bz 167 aE (some (bq.own 167 (.int .u64) xs)) (k+i))=true) (h6:i6 ((i:Int)+1)) (h7:(↑(if Int.toNat (xs.getD (k+i) (0:Int))<((cH q (v.getD i (0:Int))).toNat+c.toNat+(0:Int).toNat)%(2:Nat)^(64:Nat)+Int.toNat (0:Int)then(1:Nat)else(0:Nat)):Int)=(ep (xs.getD (k+i) (0:Int)) (kA q (v.getD i (0:Int)) c) (0:Int))) (h8:(IntKind.wrap IntKind.u64 (fF q (v.getD i (0:Int))+(↑(((cH q (v.getD i (0:Int))).toNat+c.toNat+(0:Int).toNat)/(2:Nat)^(64:Nat)):Int)))=(q3 q (v.getD i (0:Int)) c)) (h9:(xs.set (k+i) (↑(((xs.getD (k+i) (0:Int)).toNat+(2:Nat)^(64:Nat)-((cH q (v.getD i (0:Int))).toNat+c.toNat+(0:Int).toNat)%(2:Nat)^(64:Nat)-Int.toNat (0:Int))%(2:Nat)^(64:Nat)):Int))=(xs.set (k+i) (dc (xs.getD (k+i) (0:Int)) (kA q (v.getD i (0:Int)) c) (0:Int)))):
  bB jD (fl fc GB) (j9 xs v k cap q c 0 i) 3 .normal j8 (j9 (xs.set (k+i) (dc (xs.getD (k+i) 0) (kA q (v.getD i 0) c) 0)) v k cap q (q3 q (v.getD i 0) c) (ep (xs.getD (k+i) 0) (kA q (v.getD i 0) c) 0) (i+1)):=
 wy [ah h1,ah h2,aa h3,ah h4,aa h5,yi h6,ax h7,ax h8,ax h9] 765637957214757616603839101145321316353
def ahK (q c:Int) (i:Nat) (h1:(bz 167 aE (some (bq.own 167 (.int .u64) xs)) (k+v.length))=true) (h2:(↑(if Int.toNat (xs.getD (k+v.length) (0:Int))<c.toNat+Int.toNat (0:Int)then(1:Nat)else(0:Nat)):Int)=(ep (xs.getD (k+v.length) (0:Int)) c (0:Int))) (h3:(xs.set (k+v.length) (↑(((xs.getD (k+v.length) (0:Int)).toNat+(2:Nat)^(64:Nat)-Int.toNat c-Int.toNat (0:Int))%(2:Nat)^(64:Nat)):Int))=(xs.set (k+v.length) (dc (xs.getD (k+v.length) (0:Int)) c (0:Int)))):
  cV jD ((fl fc []).drop 10) 1 (j9 xs v k cap q c 0 i) 1 .normal j8 (uw (xs.set (k+v.length) (dc (xs.getD (k+v.length) 0) c 0)) v k cap q (ep (xs.getD (k+v.length) 0) c 0)):=
 wy [ah (by omega:v.length<v.length+(1:Nat)),aa h1,ax h2,ax h3] 1223092919063240274616384
def ahL (q:Int) (i:Nat) (h1:(i:Int)<(v.length:Int)) (h2:i<v.length+1) (h3:(bz 167 aE (some (bq.own 167 aE xs)) (k+i))=true) (h4:i<v.length) (h5:i6 ((i:Int)+1)) (h6:(↑(((xs.getD (k+i) 0).toNat+(v.getD i 0).toNat+Int.toNat 0)/(2:Nat)^(64:Nat)):Int)=(dP (xs.getD (k+i) 0) (v.getD i 0) 0)) (h7:(xs.set (k+i) (↑(((xs.getD (k+i) 0).toNat+(v.getD i 0).toNat+Int.toNat 0)%(2:Nat)^(64:Nat)):Int))=(xs.set (k+i) (cY (xs.getD (k+i) 0) (v.getD i 0) 0))):
  bB jD (fl fc GC) (kz xs v k cap q 0 i) 3 .normal j8 (kz (xs.set (k+i) (cY (xs.getD (k+i) 0) (v.getD i 0) 0)) v k cap q (dP (xs.getD (k+i) 0) (v.getD i 0) 0) (i+1)):=
 wy [ah h1,ah h2,aa h3,aa (aF (v:=af.raw (Value.int IntKind.u64 (xs.getD (k+i) (0:Int))))),ah h4,aa (aF (v:=af.raw (Value.int IntKind.u64 (v.getD i (0:Int))))),yi h5,ax h6,ax h7] 49000826990114611886490290308882841214977
def ahM (q c:Int) (i:Nat) (h1:(i:Int)<(v.length:Int)) (h2:i<v.length) (h3:(kX q (v.getD i (0:Int)))=true) (h4:i<v.length+(1:Nat)) (h5:(bz 167 aE (some (bq.own 167 (.int .u64) xs)) (k+i))=true) (h6:i6 ((i:Int)+1)) (h7:(↑(if Int.toNat (xs.getD (k+i) (0:Int))<((cH q (v.getD i (0:Int))).toNat+c.toNat+(0:Int).toNat)%(2:Nat)^(64:Nat)+Int.toNat (1:Int)then(1:Nat)else(0:Nat)):Int)=(ep (xs.getD (k+i) (0:Int)) (kA q (v.getD i (0:Int)) c) (1:Int))) (h8:(IntKind.wrap IntKind.u64 (fF q (v.getD i (0:Int))+(↑(((cH q (v.getD i (0:Int))).toNat+c.toNat+(0:Int).toNat)/(2:Nat)^(64:Nat)):Int)))=(q3 q (v.getD i (0:Int)) c)) (h9:(xs.set (k+i) (↑(((xs.getD (k+i) (0:Int)).toNat+(2:Nat)^(64:Nat)-((cH q (v.getD i (0:Int))).toNat+c.toNat+(0:Int).toNat)%(2:Nat)^(64:Nat)-Int.toNat (1:Int))%(2:Nat)^(64:Nat)):Int))=(xs.set (k+i) (dc (xs.getD (k+i) (0:Int)) (kA q (v.getD i (0:Int)) c) (1:Int)))):
  bB jD (fl fc GB) (j9 xs v k cap q c 1 i) 3 .normal j8 (j9 (xs.set (k+i) (dc (xs.getD (k+i) 0) (kA q (v.getD i 0) c) 1)) v k cap q (q3 q (v.getD i 0) c) (ep (xs.getD (k+i) 0) (kA q (v.getD i 0) c) 1) (i+1)):=
 wy [ah h1,ah h2,aa h3,ah h4,aa h5,yi h6,ax h7,ax h8,ax h9] 765637957214757616603839101145321316353
def ahN (q c:Int) (i:Nat) (h1:(bz 167 aE (some (bq.own 167 (.int .u64) xs)) (k+v.length))=true) (h2:(↑(if Int.toNat (xs.getD (k+v.length) (0:Int))<c.toNat+Int.toNat (1:Int)then(1:Nat)else(0:Nat)):Int)=(ep (xs.getD (k+v.length) (0:Int)) c (1:Int))) (h3:(xs.set (k+v.length) (↑(((xs.getD (k+v.length) (0:Int)).toNat+(2:Nat)^(64:Nat)-Int.toNat c-Int.toNat (1:Int))%(2:Nat)^(64:Nat)):Int))=(xs.set (k+v.length) (dc (xs.getD (k+v.length) (0:Int)) c (1:Int)))):
  cV jD ((fl fc []).drop 10) 1 (j9 xs v k cap q c 1 i) 1 .normal j8 (uw (xs.set (k+v.length) (dc (xs.getD (k+v.length) 0) c 1)) v k cap q (ep (xs.getD (k+v.length) 0) c 1)):=
 wy [ah (by omega:v.length<v.length+(1:Nat)),aa h1,ax h2,ax h3] 1223092919063240274616384
def ahO (q:Int) (i:Nat) (h1:(i:Int)<(v.length:Int)) (h2:i<v.length+1) (h3:(bz 167 aE (some (bq.own 167 aE xs)) (k+i))=true) (h4:i<v.length) (h5:i6 ((i:Int)+1)) (h6:(↑(((xs.getD (k+i) 0).toNat+(v.getD i 0).toNat+Int.toNat 1)/(2:Nat)^(64:Nat)):Int)=(dP (xs.getD (k+i) 0) (v.getD i 0) 1)) (h7:(xs.set (k+i) (↑(((xs.getD (k+i) 0).toNat+(v.getD i 0).toNat+Int.toNat 1)%(2:Nat)^(64:Nat)):Int))=(xs.set (k+i) (cY (xs.getD (k+i) 0) (v.getD i 0) 1))):
  bB jD (fl fc GC) (kz xs v k cap q 1 i) 3 .normal j8 (kz (xs.set (k+i) (cY (xs.getD (k+i) 0) (v.getD i 0) 1)) v k cap q (dP (xs.getD (k+i) 0) (v.getD i 0) 1) (i+1)):=
 wy [ah h1,ah h2,aa h3,aa (aF (v:=af.raw (Value.int IntKind.u64 (xs.getD (k+i) (0:Int))))),ah h4,aa (aF (v:=af.raw (Value.int IntKind.u64 (v.getD i (0:Int))))),yi h5,ax h6,ax h7] 49000826990114611886490290308882841214977
def ahP (q c b:Int) (i:Nat) (h1:¬(i:Int)<(v.length:Int)):
  bB jD (fl fc GB) (j9 xs v k cap q c b i) 2 (.exit 2) j8 (j9 xs v k cap q c b i):=
 wy [aK h1] 1
def ahQ (q b:Int) (h1:b=0):
  aD.path (oa prog jD ((fl fc []).drop 11) (uw xs v k cap q b)) (dl 3) (uv prog f226 167 aE xs (cr q)):=
 wy [cT h1,vP (an (rr (q)) (rr (xs)))] 129
def ahR (q b:Int) (h1:¬b=0):
  cV jD ((fl fc []).drop 11) 4 (uw xs v k cap q b) 2 .normal j8 (kz xs v k cap q 0 0):=
 wy [yn h1] 1
def sd_end (q c:Int) (i:Nat) (h1:¬(i:Int)<(v.length:Int)):
  bB jD (fl fc GC) (kz xs v k cap q c i) 2 (.exit 4) j8 (kz xs v k cap q c i):=
 wy [aK h1] 1
def ahS (q c:Int) (i:Nat) (h1:(bz 167 aE (some (bq.own 167 aE xs)) (k+v.length))=true) (h2:(IntKind.wrap IntKind.u64 (q-1))=(pO q)):
  aD.path (oa prog jD ((fl fc []).drop 16) (kz xs v k cap q c i)) (dl 1) (uv prog f226 167 aE (xs.set (k+v.length) (IntKind.wrap .u64 (xs.getD (k+v.length) 0+c))) (cr (pO q))):=
 wy [ah (by omega:v.length<v.length+(1:Nat)),aa h1,vP (an h2 (rr (xs.set (k+v.length) (IntKind.wrap IntKind.u64 (xs.getD (k+v.length) (0:Int)+c)))))] 208322699328
end
section
variable (xs:List Int) (k len:Nat)
def q4:List Int:=(xs.drop k).take len
def jf (v:List Int):Int:=ak (q4 xs k len)/ak v
def k4 (v:List Int):List Int:=xs.take k++(fL 18446744073709551616 len (ak (q4 xs k len)%ak v)++xs.drop (k+len))
def wB (v:List Int):Bool:=gO xs&&(gO v&&(decide (2<=v.length)&&(Nat.beq len (v.length+1)&&(decide (v.length<=1000000)&&(decide (9223372036854775808<=v.getD (v.length-1) 0)&&decide (ak (q4 xs k len)<18446744073709551616*ak v))))))
end
noncomputable def sx:gN:={f:=226,e:=167,t:=aE,ps:=[.list false aE],rs:=[aE],pre:=fun xs k len d=>wB xs k len d.1,out:=fun xs k len d=>k4 xs k len d.1,fn:=fun xs k len d=>(jf xs k len d.1,())}
section
variable {p u s:List Int} {i:Nat}
def fa (hi:i<u.length):(p++(u++s)).getD (p.length+i) 0=u.getD i 0:=by
 simp only [ao];rw [List.getElem?_append_right ω,Nat.add_sub_cancel_left,List.getElem?_append_left hi]
def ux {x:Int} (hi:i<u.length):(p++(u++s)).set (p.length+i) x=p++(u.set i x++s):=by
 rw [List.set_append_right _ _ ω,Nat.add_sub_cancel_left,List.set_append_left _ _ hi]
def yA (hi:i<u.length):bz 167 aE (some (.own 167 aE (p++(u++s)))) (p.length+i)=true:=by
 rw [gg];exact ay (by rw [cW,cW];omega)
end
def aW.Mq {X:Ext} {P:Program} {w0:World} {F:Sv.Env} {n:Nat} {T:au af} {H:ai} {Q:Exit->au af->ai->Prop} (hK:e7 P) (hm:P.follows .mixedOrders=true) {bu:bG} (hS:bD P (bF bu)) {l:List Code} {fn:Func} {e:TypeId} {t:av} {xs:List t.den} {res:af} (k:Nat) (D:List Bool) (h:(Sv.iy P bu n (l.take k) T H).path D (uv P fn e t xs res))
  (hq:∀T H,CT P fn e t xs res .ret T H->Q .ret T H):cg X P w0 F n l T H Q:=by
 obtain⟨r,h1,h2⟩:=aD.tV _ _ h;have key:cg X P w0 F n (l.take k) T H (gY (fun T H=>cg X P w0 F n (l.drop k) T H Q) Q):=by
  refine aW.iy hK hm hS (ob:=uv P fn e t xs res) (fun r hr=> ?_) h1 h2;unfold uv at hr;split at hr
  .refine hq _ _ ?_;rename_i aO H';show(match jR P fn aO H' with | .ok v _=>cB true H' v res/\H'.get 64=some (.own e t xs)|_=>False)
   split at hr
   .obtain⟨g1,g2⟩:=hr;refine⟨g1, ?_⟩;split at g2
    .rename_i hg;obtain⟨k1,k2⟩:=iZ g2;obtain⟨e1,rfl⟩:=Ai k2;subst e1;rw [hg,ac k1]
    .exact g2.elim
   .exact hr.elim
  .exact hr.elim
 have:=aW.split key;rwa [List.take_append_drop]at this
def Mr:bD prog (bF jD):=cM (aP LS (aP T' dV))
def Ub {q x:Int}:fF q x*18446744073709551616+cH q x=q*x:=by
 unfold fF cH;have:=Int.emod_add_mul_ediv (q*x) 18446744073709551616;omega
def w7 {q x:Int} (hq:0<=q/\q<18446744073709551616) (hx:0<=x/\x<18446744073709551616):(0<=fF q x/\fF q x<18446744073709551616)/\(0<=cH q x/\cH q x<18446744073709551616):=by
 have h0:0<=q*x:=Int.mul_nonneg hq.1 hx.1;have h1:q*x<=18446744073709551615*18446744073709551615:=Int.mul_le_mul ω ω hx.1 δ;unfold fF cH;omega
def ahT {q x c:Int} (hq:0<=q/\q<18446744073709551616) (hx:0<=x/\x<18446744073709551616) (hc:0<=c/\c<18446744073709551616):
  q3 q x c*18446744073709551616+kA q x c=q*x+c/\(0<=kA q x c/\kA q x c<18446744073709551616)/\(0<=q3 q x c/\q3 q x c<18446744073709551616):=by
 have h0:0<=q*x:=Int.mul_nonneg hq.1 hx.1;have h1:q*x<=18446744073709551615*18446744073709551615:=Int.mul_le_mul ω ω hx.1 δ;obtain⟨_,hlo⟩:=w7 hq hx;have hs:=Ub (q:=q) (x:=x);have hA:cY (cH q x) c 0+18446744073709551616*dP (cH q x) c 0=cH q x+c/\(0<=cY (cH q x) c 0/\cY (cH q x) c 0<18446744073709551616)/\(dP (cH q x) c 0=0\/dP (cH q x) c 0=1):=by
  have:=C8 hlo hc (.inl rfl);omega
 unfold q3 kA;rw [fG (x:=fF q x+dP (cH q x) c 0) ω];omega
structure GF (V U q:Int):Prop where
 Ms:0<=q/\q<18446744073709551616
 hi:U/V<=q
 lo:(q-1)*V<=U
structure wC (v aI:List Int) (q:Int) (u:List Int) (c b:Int) (i:Nat):Prop where
 le:i<=v.length
 len:u.length=v.length+1
 dg:aS 18446744073709551616 u
 hc:0<=c/\c<18446744073709551616
 hb:b=0\/b=1
 same:∀j,i<=j->u.getD j 0=aI.getD j 0
 val:ak (u.take i)-18446744073709551616^i*b=ak (aI.take i)-q*ak (v.take i)+18446744073709551616^i*c
def wC.next {v aI u:List Int} {q c b:Int} {i:Nat} (I:wC v aI q u c b i) (hv:aS 18446744073709551616 v) (hq:0<=q/\q<18446744073709551616) (hi:i<v.length):
  wC v aI q (u.set i (dc (u.getD i 0) (kA q (v.getD i 0) c) b)) (q3 q (v.getD i 0) c) (ep (u.getD i 0) (kA q (v.getD i 0) c) b) (i+1):=by
 have wD:=hv.get δ i;have sy:=I.dg.get δ i;obtain⟨h1,h2,h3⟩:=ahT hq wD I.hc;obtain⟨g1,g2,g3⟩:=LN sy h2 I.hb;have hlen:=I.len;refine⟨hi,by rw [b9];exact hlen,I.dg.set g2,h3,g3,fun j hj=> ?_, ?_⟩
 .rw [ox,if_neg ω];exact I.same j ω
 .have hval:=I.val;unfold ak at hval ⊢;rw [ye ω,kQ aI,kQ v,Int.pow_succ,<-I.same i (aJ _)];exact adX h1 g1 hval
structure wE (v aI:List Int) (u:List Int) (c:Int) (i:Nat):Prop where
 le:i<=v.length
 len:u.length=v.length+1
 dg:aS 18446744073709551616 u
 hc:c=0\/c=1
 same:∀j,i<=j->u.getD j 0=aI.getD j 0
 val:ak (u.take i)+18446744073709551616^i*c=ak (aI.take i)+ak (v.take i)
def wE.next {v aI u:List Int} {c:Int} {i:Nat} (I:wE v aI u c i) (hv:aS 18446744073709551616 v) (hi:i<v.length):
  wE v aI (u.set i (cY (u.getD i 0) (v.getD i 0) c)) (dP (u.getD i 0) (v.getD i 0) c) (i+1):=by
 have wD:=hv.get δ i;have sy:=I.dg.get δ i;obtain⟨g1,g2,g3⟩:=C8 sy wD I.hc;have hlen:=I.len;refine⟨hi,by rw [b9];exact hlen,I.dg.set g2,g3,fun j hj=> ?_, ?_⟩
 .rw [ox,if_neg ω];exact I.same j ω
 .have hval:=I.val;unfold ak at hval ⊢;rw [ye ω,kQ aI,kQ v,Int.pow_succ,<-I.same i (aJ _)];exact Lx g1 hval
section
variable {v aI p s:List Int} {m:Nat} {q:Int}
def aS.Uc {u:List Int} {n:Nat} (h:aS 18446744073709551616 u) (hl:u.length=n+1):u=fL 18446744073709551616 (n+1) (ak u):=by
 have:=Lz (b:=18446744073709551616) δ h;rw [hl]at this;exact this
def sA {u:List Int} {n:Nat} (hl:u.length=n+1):ak u=ak (u.take n)+18446744073709551616^n*u.getD n 0:=by
 have:=dC (b:=18446744073709551616) (l:=u) (k:=n) ω;rw [eT ω]at this;exact this
def wC.fin {u:List Int} {c b:Int} (I:wC v aI q u c b v.length) (fI:aI.length=v.length+1):
  ak (u.set v.length (dc (u.getD v.length 0) c b))-18446744073709551616^(v.length+1)*ep (u.getD v.length 0) c b=ak aI-q*ak v/\aS 18446744073709551616 (u.set v.length (dc (u.getD v.length 0) c b))/\(ep (u.getD v.length 0) c b=0\/ep (u.getD v.length 0) c b=1)/\(u.set v.length (dc (u.getD v.length 0) c b)).length=v.length+1:=by
 have sy:=I.dg.get δ v.length;obtain⟨g1,g2,g3⟩:=LN sy I.hc I.hb;have hlen:=I.len;refine⟨?_,I.dg.set g2,g3,by rw [b9];exact hlen⟩;have hval:=I.val;rw [dI]at hval;rw [sA (n:=v.length) (by rw [b9];exact hlen),Aw,vX ω,sA (u:=aI) fI,<-I.same v.length (aJ _),Int.pow_succ];generalize ak (u.take v.length)=a at*;generalize ak (aI.take v.length)=a0 at*;generalize dc (u.getD v.length 0) c b=d at*;generalize ep (u.getD v.length 0) c b=bb at*;generalize u.getD v.length 0=un at*;generalize (18446744073709551616:Int)^v.length=P at*;generalize q*ak v=aul at*;have:P*(d-18446744073709551616*bb)=P*(un-c-b):=by rw [g1]
 grind
def ahU {U V:Int} (hV:0<V) (G:GF V U q) (h:0<=U-q*V):U/V=q/\U%V=U-q*V:=by
 have h1:q<=U/V:=(Int.le_ediv_iff_mul_le hV).2 ω;have h2:=G.hi;have e:U/V=q:=by omega
 refine⟨e, ?_⟩;have:=Int.emod_add_mul_ediv U V;rw [e,Int.mul_comm]at this;omega
def ahV {U V:Int} (hV:0<V) (G:GF V U q) (h:U-q*V<0):U/V=q-1/\U%V=U-q*V+V:=by
 have h1:q-1<=U/V:=(Int.le_ediv_iff_mul_le hV).2 G.lo;have h2:U/V<q:=(Int.ediv_lt_iff_lt_mul hV).2 ω;have e:U/V=q-1:=by omega
 refine⟨e, ?_⟩;have:=Int.emod_add_mul_ediv U V;rw [e,Int.mul_comm,Int.sub_mul,Int.one_mul]at this;omega
def wE.fin {u1 u:List Int} {c:Int} {U R:Int} (I:wE v u1 u c v.length) (vu:u1.length=v.length+1) (AU:ak u1=U+18446744073709551616^(v.length+1)) (hR:U+ak v=R) (uy:0<=R) (lH:R<18446744073709551616^v.length):
  u.set v.length (IntKind.wrap .u64 (u.getD v.length 0+c))=fL 18446744073709551616 (v.length+1) R:=by
 have sy:=I.dg.get δ v.length;have hlen:=I.len;have hval:=I.val;rw [dI]at hval;rw [sA vu,<-I.same v.length (aJ _),Int.pow_succ]at AU;have Dk:=gh (b:=18446744073709551616) δ (I.dg.take v.length);have ht1:=fK (b:=18446744073709551616) δ (I.dg.take v.length);rw [eE,Nat.min_eq_left ω]at ht1;have hP:=dD (b:=18446744073709551616) δ v.length;have key:u.getD v.length 0+c=18446744073709551616/\ak (u.take v.length)=R:=by
  unfold ak at*;generalize vl 18446744073709551616 (u.take v.length)=a at*;generalize vl 18446744073709551616 (u1.take v.length)=a1 at*;generalize u.getD v.length 0=un at*;generalize (18446744073709551616:Int)^v.length=P at*;have e:P*(un+c-18446744073709551616)=R-a:=by grind
  have hz:un+c-18446744073709551616=0:=by
   rcases Int.lt_trichotomy (un+c-18446744073709551616) 0 with h|h|h
   .have:=dZ (show un+c-18446744073709551616<= -1 by omega) (cq hP);omega
   .exact h
   .have:=dZ (show 1<=un+c-18446744073709551616 by omega) (cq hP);omega
  rw [hz,Int.mul_zero]at e;omega
 rw [key.1];have hw:IntKind.wrap .u64 18446744073709551616=0:=by rw [q2];rfl
 rw [hw];have hd:aS 18446744073709551616 (u.set v.length 0):=I.dg.set δ;have:=hd.Uc (n:=v.length) (by rw [b9];exact hlen);rw [this];congr 1;rw [sA (n:=v.length) (by rw [b9];exact hlen),Aw,vX ω,Int.mul_zero,Int.add_zero];exact key.2
end
end
noncomputable section
def yB:=k_a f183
def pP:=k_a f185
section
variable (a:List Int) (d:Int)
def q5 (out:List Int) (r:Int) (k:Nat):bH:={n:=39,sl:=[(0,lv a),(1,iv d),(6,mF 64 out),(7,iv r),(8,iv ((k:Int)-1))],bJ:=[(64,mG out)],next:=65}
def Mt (out:List Int) (r:Int) (k:Nat):bH:={n:=39,sl:=[(0,lv a),(1,iv d),(6,mF 64 out),(7,iv r),(8,iv ((k:Int)-1-1))],bJ:=[(64,mG out)],next:=65}
def ahW (h1:a.length<=1000000) (h2: -9223372036854775808<=(a.length:Int)-1/\(a.length:Int)-1<=9223372036854775807) (h3:a.length=(gi a.length).length) (h4:(bK (gi a.length).length)=(bK a.length)) (h5:(List.flatten (List.replicate a.length (List.map af.raw (Array.toList #[Value.int .i64 (0:Int)]))))=(List.flatMap (fun x=>[iv x]) (gi a.length))):
  aD.path (pG prog gP (fl yB []) 4 39 [lv a,iv d]) (dl 1) (dU prog 39 .normal [(64,64,some a.length)] (q5 a d (gi a.length) 0 a.length)):=
 mp (FO rt rt (show(decide (a.length<=a.length))=true from ay ω) (oc (show(bounded a.length (8:Nat))=true from pI h1 ω) (eL h2) (rr a) (rr d) (an h3 (an (rr (aZ.known a.length)) h4)) (rr (0:Int)) (rr ((a.length:Int)-1)) (an h5 h3) trivial))
def ahX (out:List Int) (r:Int) (k:Nat) (h1:(k:Int)-1>=0) (h2:i6 (r*1000000000)) (h3:0<=(k:Int)-1) (h4:((k:Int)-1).toNat<a.length) (h5:i6 (r*1000000000+a.getD ((k:Int)-1).toNat 0)) (h6:d≠0) (h7:i6 (Int.tdiv (r*1000000000+a.getD ((k:Int)-1).toNat 0) d)) (h8:((k:Int)-1).toNat<out.length) (h9:i6 ((k:Int)-1-1)) (h10:out.length=(out.set ((k:Int)-1).toNat (Int.tdiv (r*1000000000+a.getD ((k:Int)-1).toNat 0) d)).length) (h11:(bK out.length)=(bK (out.set ((k:Int)-1).toNat (Int.tdiv (r*1000000000+a.getD ((k:Int)-1).toNat 0) d)).length)):
  bB gP (fl yB pM) (q5 a d out r k) 3 .normal [(64,64,none)] (Mt a d (out.set ((k:Int)-1).toNat (Int.tdiv (r*1000000000+a.getD ((k:Int)-1).toNat 0) d)) (Int.tmod (r*1000000000+a.getD ((k:Int)-1).toNat 0) d) k):=
 wy [ah h1,yi h2,ah h3,ah h4,yi h5,ah h6,yi h7,ah h8,ja 3 (.int .i64) h8,yi h9,ax h10,ax h11,mE 3 (.int .i64) (Eq.refl (out.set ((k:Int)-(1:Int)).toNat (Int.tdiv (r*(1000000000:Int)+a.getD ((k:Int)-(1:Int)).toNat (0:Int)) d)))] 270000400999102384946506999662653569
def ahY (out:List Int) (r:Int) (k:Nat) (h1:¬(k:Int)-1>=0):
  bB gP (fl yB pM) (q5 a d out r k) 2 (.exit 0) [(64,64,none)] (q5 a d out r k):=
 wy [aK h1] 1
def ahZ (out:List Int) (r:Int) (k:Nat) (h1:(Nat.beq out.length 0||bz 3 (.int .i64) (a7 3 (.int .i64) out) (out.length-1))=true) (h2:((out.drop 0).take out.length).length<=1000000):
  bW gP ((fl yB []).drop 5) (q5 a d out r k) 1 f183 false (.tuple [lv (ei ((out.drop 0).take out.length)),iv r]):=
 wy [aa (show(Nat.beq out.length (0:Nat)||bz 3 (.int .i64) (a7 3 (.int .i64) out) ((0:Nat)+out.length-(1:Nat)))=true from(by simp only [aw]<;>exact h1)),aa (show(decide ((((bQ (.int .i64) (a7 3 (.int .i64) out)).drop (0:Nat)).take out.length).length<=(1000000:Nat)))=true from(by simp only [ey]<;>exact ay h2)),ax (show(ei (((bQ (.int .i64) (a7 3 (.int .i64) out)).drop (0:Nat)).take out.length))=(ei ((out.drop (0:Nat)).take out.length))from(by simp only [ey]<;>rfl))] 12417
end
abbrev wF (n:Nat) (cap:aZ):af:= .bT 3 (.int .i64) 64 0 n cap
abbrev ah0 (xs:List Int):List (Nat×fE):=[(64, .blk (.own 3 (.int .i64) xs))]
abbrev r64:Sv.Ren:=[(64,64,none)]
def jh (xs v:List Int) (j n:Nat) (cap:aZ) (t r:Int):bH:={n:=77,sl:=[(0,wF n cap),(1,lv v),(2,iv j),(7,iv v.length),(9,iv t),(10,iv r)],bJ:=ah0 xs,next:=65}
def fw (xs v:List Int) (j:Nat):Int:=xs.getD ((j:Int)+(v.length:Int)).toNat 0*1000000000+xs.getD ((j:Int)+(v.length:Int)-1).toNat 0
abbrev cI (v:List Int):Int:=v.getD ((v.length:Int)-1).toNat 0
abbrev nx (v:List Int):Int:=v.getD ((v.length:Int)-2).toNat 0
abbrev pQ (xs v:List Int) (j:Nat):Int:=xs.getD ((j:Int)+(v.length:Int)-2).toNat 0
def ah1 (xs v:List Int) (j n:Nat) (cap:aZ) (h1:i6 ((j:Int)+(v.length:Int))) (h2:((j:Int)+(v.length:Int)).toNat<n) (h3:(bz 3 (.int .i64) (some (bq.own 3 (.int .i64) xs)) ((j:Int)+(v.length:Int)).toNat)=true) (h4:i6 (xs.getD ((j:Int)+(v.length:Int)).toNat 0*1000000000)) (h5:i6 ((j:Int)+(v.length:Int)-1)) (h6:0<=(j:Int)+(v.length:Int)-1) (h7:((j:Int)+(v.length:Int)-1).toNat<n) (h8:(bz 3 (.int .i64) (some (bq.own 3 (.int .i64) xs)) ((j:Int)+(v.length:Int)-1).toNat)=true) (h9:i6 (xs.getD ((j:Int)+(v.length:Int)).toNat 0*1000000000+xs.getD ((j:Int)+(v.length:Int)-1).toNat 0)) (h10:i6 ((v.length:Int)-1)) (h11:0<=(v.length:Int)-1) (h12:((v.length:Int)-1).toNat<v.length) (dL:v.getD ((v.length:Int)-1).toNat 0≠0) (gQ:i6 (Int.tdiv (xs.getD ((j:Int)+(v.length:Int)).toNat 0*1000000000+xs.getD ((j:Int)+(v.length:Int)-1).toNat 0) (v.getD ((v.length:Int)-1).toNat 0))) (je:(Int.tdiv (xs.getD ((j:Int)+(v.length:Int)).toNat 0*1000000000+xs.getD ((j:Int)+(v.length:Int)-1).toNat 0) (v.getD ((v.length:Int)-1).toNat 0))=(Int.tdiv (fw xs v j) (v.getD ((v.length:Int)-1).toNat 0))) (mL:(Int.tmod (xs.getD ((j:Int)+(v.length:Int)).toNat 0*1000000000+xs.getD ((j:Int)+(v.length:Int)-1).toNat 0) (v.getD ((v.length:Int)-1).toNat 0))=(Int.tmod (fw xs v j) (v.getD ((v.length:Int)-1).toNat 0))):
  aD.path (iy prog (a8 []) 77 ((fl pP []).take 4) (dt [wF n cap,lv v,iv j] .nil 0) (qG 3 (.int .i64) xs)) (dl 1) (dU prog 77 .normal r64 (jh xs v j n cap (Int.tdiv (fw xs v j) (cI v)) (Int.tmod (fw xs v j) (cI v)))):=
 wy [yi h1,ah h2,aa (show(bz 3 (.int .i64) (some (bq.own 3 (.int .i64) xs)) ((0:Nat)+((j:Int)+(v.length:Int)).toNat))=true from(by simp only [aw]<;>exact h3)),aa (aF (v:=iv (xs.getD ((0:Nat)+((j:Int)+(v.length:Int)).toNat) (0:Int)))),aa (show(fits IntKind.i64 (xs.getD ((0:Nat)+((j:Int)+(v.length:Int)).toNat) (0:Int)*(1000000000:Int)))=true from(by simp only [aw]<;>exact eL h4)),yi h5,ah h6,ah h7,aa (show(bz 3 (.int .i64) (some (bq.own 3 (.int .i64) xs)) ((0:Nat)+((j:Int)+(v.length:Int)-(1:Int)).toNat))=true from(by simp only [aw]<;>exact h8)),aa (aF (v:=iv (xs.getD ((0:Nat)+((j:Int)+(v.length:Int)-(1:Int)).toNat) (0:Int)))),aa (show(fits IntKind.i64 (xs.getD ((0:Nat)+((j:Int)+(v.length:Int)).toNat) (0:Int)*(1000000000:Int)+xs.getD ((0:Nat)+((j:Int)+(v.length:Int)-(1:Int)).toNat) (0:Int)))=true from(by simp only [aw]<;>exact eL h9)),yi h10,ah h11,ah h12,aa (aF (v:=iv (v.getD ((v.length:Int)-(1:Int)).toNat (0:Int)))),ah dL,aa (show(fits IntKind.i64 (Int.tdiv (xs.getD ((0:Nat)+((j:Int)+(v.length:Int)).toNat) (0:Int)*(1000000000:Int)+xs.getD ((0:Nat)+((j:Int)+(v.length:Int)-(1:Int)).toNat) (0:Int)) (v.getD ((v.length:Int)-(1:Int)).toNat (0:Int))))=true from(by simp only [aw]<;>exact eL gQ)),ax (show(Int.tdiv (xs.getD ((0:Nat)+((j:Int)+(v.length:Int)).toNat) (0:Int)*(1000000000:Int)+xs.getD ((0:Nat)+((j:Int)+(v.length:Int)-(1:Int)).toNat) (0:Int)) (v.getD ((v.length:Int)-(1:Int)).toNat (0:Int)))=(Int.tdiv (fw xs v j) (v.getD ((v.length:Int)-(1:Int)).toNat (0:Int)))from(by simp only [aw]<;>exact je)),ax (show(Int.tmod (xs.getD ((0:Nat)+((j:Int)+(v.length:Int)).toNat) (0:Int)*(1000000000:Int)+xs.getD ((0:Nat)+((j:Int)+(v.length:Int)-(1:Int)).toNat) (0:Int)) (v.getD ((v.length:Int)-(1:Int)).toNat (0:Int)))=(Int.tmod (fw xs v j) (v.getD ((v.length:Int)-(1:Int)).toNat (0:Int)))from(by simp only [aw]<;>exact mL))] 7745943541467187237997735947277335306600882047791326166786049
abbrev AV:List Nat:=[1,1,1,1,0,0,0]
section
variable (xs v:List Int) (j n:Nat) (cap:aZ) (t r:Int)
def ah2 (h1:t>=1000000000) (h2:i6 (t-1)) (h3:i6 ((v.length:Int)-1)) (h4:0<=(v.length:Int)-1) (h5:((v.length:Int)-1).toNat<v.length) (h6:i6 (r+v.getD ((v.length:Int)-1).toNat 0)) (h7:r+v.getD ((v.length:Int)-1).toNat 0>=1000000000):
  aD.path (oa prog (a8 []) (fl pP AV) (jh xs v j n cap t r)) (dl 3932160) (uv prog f185 3 (.int .i64) xs (iv (t-1))):=
 wy [aa (bw (ay h1)),ah h1,yi h2,yi h3,ah h4,ah h5,yi h6,ah h7,vP (an (rr (t-(1:Int))) (rr (xs)))] 833670876018392705917515033473870691017842495553
def ah3 (h1:t>=1000000000) (h2:i6 (t-1)) (h3:i6 ((v.length:Int)-1)) (h4:0<=(v.length:Int)-1) (h5:((v.length:Int)-1).toNat<v.length) (h6:i6 (r+v.getD ((v.length:Int)-1).toNat 0)) (h7:¬r+v.getD ((v.length:Int)-1).toNat 0>=1000000000):
  bB (a8 []) (fl pP AV) (jh xs v j n cap t r) 2883584 .normal r64 (jh xs v j n cap (t-1) (r+cI v)):=
 wy [aa (bw (ay h1)),ah h1,yi h2,yi h3,ah h4,ah h5,yi h6,aK h7] 11576205019759814427942315070961492461380440129
def ah4 (h1:¬t>=1000000000) (h2:i6 ((v.length:Int)-2)) (h3:0<=(v.length:Int)-2) (h4:((v.length:Int)-2).toNat<v.length) (h5:i6 (t*v.getD ((v.length:Int)-2).toNat 0)) (h6:i6 (r*1000000000)) (h7:i6 ((j:Int)+(v.length:Int))) (h8:i6 ((j:Int)+(v.length:Int)-2)) (h9:0<=(j:Int)+(v.length:Int)-2) (h10:((j:Int)+(v.length:Int)-2).toNat<n) (h11:(bz 3 (.int .i64) (some (bq.own 3 (.int .i64) xs)) ((j:Int)+(v.length:Int)-2).toNat)=true) (h12:i6 (r*1000000000+xs.getD ((j:Int)+(v.length:Int)-2).toNat 0)) (dL:t*v.getD ((v.length:Int)-2).toNat 0>r*1000000000+xs.getD ((j:Int)+(v.length:Int)-2).toNat 0) (gQ:i6 (t-1)) (je:i6 ((v.length:Int)-1)) (mL:0<=(v.length:Int)-1) (yC:((v.length:Int)-1).toNat<v.length) (yD:i6 (r+v.getD ((v.length:Int)-1).toNat 0)) (h19:r+v.getD ((v.length:Int)-1).toNat 0>=1000000000):
  aD.path (oa prog (a8 []) (fl pP AV) (jh xs v j n cap t r)) (dl 3932159) (uv prog f185 3 (.int .i64) xs (iv (t-1))):=
 wy [aa (bw (ab h1)),yi h2,ah h3,ah h4,aa (aF (v:=iv (v.getD ((v.length:Int)-(2:Int)).toNat (0:Int)))),yi h5,yi h6,yi h7,yi h8,ah h9,ah h10,aa (show(bz 3 (.int .i64) (some (bq.own 3 (.int .i64) xs)) ((0:Nat)+((j:Int)+(v.length:Int)-(2:Int)).toNat))=true from(by simp only [aw]<;>exact h11)),aa (aF (v:=iv (xs.getD ((0:Nat)+((j:Int)+(v.length:Int)-(2:Int)).toNat) (0:Int)))),aa (show(fits IntKind.i64 (r*(1000000000:Int)+xs.getD ((0:Nat)+((j:Int)+(v.length:Int)-(2:Int)).toNat) (0:Int)))=true from(by simp only [aw]<;>exact eL h12)),aK h1,aa (show(decide (t*v.getD ((v.length:Int)-(2:Int)).toNat (0:Int)>r*(1000000000:Int)+xs.getD ((0:Nat)+((j:Int)+(v.length:Int)-(2:Int)).toNat) (0:Int)))=true from(by simp only [aw]<;>exact ay dL)),yi gQ,yi je,ah mL,ah yC,yi yD,ah h19,vP (an (rr (t-(1:Int))) (rr (xs)))] 41254031541230140472553383178300452332773505826332860127072467285497352257
def ah5 (h1:¬t>=1000000000) (h2:i6 ((v.length:Int)-2)) (h3:0<=(v.length:Int)-2) (h4:((v.length:Int)-2).toNat<v.length) (h5:i6 (t*v.getD ((v.length:Int)-2).toNat 0)) (h6:i6 (r*1000000000)) (h7:i6 ((j:Int)+(v.length:Int))) (h8:i6 ((j:Int)+(v.length:Int)-2)) (h9:0<=(j:Int)+(v.length:Int)-2) (h10:((j:Int)+(v.length:Int)-2).toNat<n) (h11:(bz 3 (.int .i64) (some (bq.own 3 (.int .i64) xs)) ((j:Int)+(v.length:Int)-2).toNat)=true) (h12:i6 (r*1000000000+xs.getD ((j:Int)+(v.length:Int)-2).toNat 0)) (dL:t*v.getD ((v.length:Int)-2).toNat 0>r*1000000000+xs.getD ((j:Int)+(v.length:Int)-2).toNat 0) (gQ:i6 (t-1)) (je:i6 ((v.length:Int)-1)) (mL:0<=(v.length:Int)-1) (yC:((v.length:Int)-1).toNat<v.length) (yD:i6 (r+v.getD ((v.length:Int)-1).toNat 0)) (h19:¬r+v.getD ((v.length:Int)-1).toNat 0>=1000000000):
  bB (a8 []) (fl pP AV) (jh xs v j n cap t r) 2883583 .normal r64 (jh xs v j n cap (t-1) (r+cI v)):=
 wy [aa (bw (ab h1)),yi h2,ah h3,ah h4,aa (aF (v:=iv (v.getD ((v.length:Int)-(2:Int)).toNat (0:Int)))),yi h5,yi h6,yi h7,yi h8,ah h9,ah h10,aa (show(bz 3 (.int .i64) (some (bq.own 3 (.int .i64) xs)) ((0:Nat)+((j:Int)+(v.length:Int)-(2:Int)).toNat))=true from(by simp only [aw]<;>exact h11)),aa (aF (v:=iv (xs.getD ((0:Nat)+((j:Int)+(v.length:Int)-(2:Int)).toNat) (0:Int)))),aa (show(fits IntKind.i64 (r*(1000000000:Int)+xs.getD ((0:Nat)+((j:Int)+(v.length:Int)-(2:Int)).toNat) (0:Int)))=true from(by simp only [aw]<;>exact eL h12)),aK h1,aa (show(decide (t*v.getD ((v.length:Int)-(2:Int)).toNat (0:Int)>r*(1000000000:Int)+xs.getD ((0:Nat)+((j:Int)+(v.length:Int)-(2:Int)).toNat) (0:Int)))=true from(by simp only [aw]<;>exact ay dL)),yi gQ,yi je,ah mL,ah yC,yi yD,aK h19] 616549051327300892137540661213326468741376198193624090275524655767097409
def ah6 (h1:¬t>=1000000000) (h2:i6 ((v.length:Int)-2)) (h3:0<=(v.length:Int)-2) (h4:((v.length:Int)-2).toNat<v.length) (h5:i6 (t*v.getD ((v.length:Int)-2).toNat 0)) (h6:i6 (r*1000000000)) (h7:i6 ((j:Int)+(v.length:Int))) (h8:i6 ((j:Int)+(v.length:Int)-2)) (h9:0<=(j:Int)+(v.length:Int)-2) (h10:((j:Int)+(v.length:Int)-2).toNat<n) (h11:(bz 3 (.int .i64) (some (bq.own 3 (.int .i64) xs)) ((j:Int)+(v.length:Int)-2).toNat)=true) (h12:i6 (r*1000000000+xs.getD ((j:Int)+(v.length:Int)-2).toNat 0)) (dL:¬t*v.getD ((v.length:Int)-2).toNat 0>r*1000000000+xs.getD ((j:Int)+(v.length:Int)-2).toNat 0):
  bB (a8 []) (fl pP AV) (jh xs v j n cap t r) 1310719 (.exit 0) r64 (jh xs v j n cap t r):=
 wy [aa (bw (ab h1)),yi h2,ah h3,ah h4,aa (aF (v:=iv (v.getD ((v.length:Int)-(2:Int)).toNat (0:Int)))),yi h5,yi h6,yi h7,yi h8,ah h9,ah h10,aa (show(bz 3 (.int .i64) (some (bq.own 3 (.int .i64) xs)) ((0:Nat)+((j:Int)+(v.length:Int)-(2:Int)).toNat))=true from(by simp only [aw]<;>exact h11)),aa (aF (v:=iv (xs.getD ((0:Nat)+((j:Int)+(v.length:Int)-(2:Int)).toNat) (0:Int)))),aa (show(fits IntKind.i64 (r*(1000000000:Int)+xs.getD ((0:Nat)+((j:Int)+(v.length:Int)-(2:Int)).toNat) (0:Int)))=true from(by simp only [aw]<;>exact eL h12)),aK h1,aa (show(decide (t*v.getD ((v.length:Int)-(2:Int)).toNat (0:Int)>r*(1000000000:Int)+xs.getD ((0:Nat)+((j:Int)+(v.length:Int)-(2:Int)).toNat) (0:Int)))=false from(by simp only [aw]<;>exact ab dL))] 6522028266599319008889569978648965812446332058695169592266817
def ah7:
  aD.path (oa prog (a8 []) ((fl pP []).drop 5) (jh xs v j n cap t r)) (dl 1) (uv prog f185 3 (.int .i64) xs (iv t)):=
 wy [vP (an (rr (t)) (rr (xs)))] 1
end
def Ud:=IN 183 [.list false (.int .i64), .int .i64] [.list false (.int .i64), .int .i64] false (fun d=>okB d.1&&(decide (1<=d.2.1)&&decide (d.2.1<1000000000))) fun d=>(aG (ag d.1/d.2.1),ag d.1%d.2.1,())
def oy (v1 v2 u2:Int):Nat->Int->Int->Int
 |0,t,_=>t
 |f+1,t,r=>if 1000000000<=t\/r*1000000000+u2<t*v2 then(if 1000000000<=r+v1 then t-1 else oy v1 v2 u2 f (t-1) (r+v1))else t
def q6 (xs v:List Int) (j:Int):Int:=oy (cI v) (nx v) (pQ xs v j.toNat) 2 (fw xs v j.toNat/cI v) (fw xs v j.toNat%cI v)
def AW (xs:List Int) (k len:Nat) (v:List Int) (j:Int):Bool:=(Nat.beq k 0&&Nat.beq len xs.length)&&((Ay xs&&Ay v)&&((decide (2<=v.length)&&decide (0<=j))&&((decide (j+(v.length:Int)<(xs.length:Int))&&decide (500000000<=cI v))&&decide (xs.length<=1000000))))
noncomputable def wG:gN:={f:=185,e:=3,t:= .int .i64,ps:=[.list false (.int .i64), .int .i64],rs:=[.int .i64],pre:=fun xs k len d=>AW xs k len d.1 d.2.1,out:=fun xs _ _ _=>xs,fn:=fun xs _ _ d=>(q6 xs d.1 d.2.1,())}
def ah8 (a:List Int) (d:Int) (h:okB a=true) (aum:1<=d) (gw:d<1000000000):Holds prog false 183 [lv a,iv d] (.tuple [lv (aG (ag a/d)),iv (ag a%d)]):=by
 obtain⟨ha,la⟩:=oh.1 h;have hS:=Gh;refine bL (c:=yB) func183 rfl rfl fun w0 F=> ?_
 refine cP hS 4 (ahW a d ω ω (d8 _).symm (by rw [d8]) (L1 _)) ?_;refine aW.loop (ι:={x:List Int×Int×Nat//x.2.2<=a.length/\x.1.length=a.length/\aS 1000000000 x.1/\(0<=x.2.1/\x.2.1<d)/\ag (a.drop x.2.2)=ag (x.1.drop x.2.2)*d+x.2.1}) (id:=0) (b:=cat yB pM) (rest:=(fl yB []).drop 5) (by kernel_rfl) (fun x=>q5 a d x.1.1 x.1.2.1 x.1.2.2) (fun x=>x.1.2.2)
  ⟨(gi a.length,0,a.length),aJ _,d8 _,L0 _,⟨Int.le_refl 0,show(0:Int)<d by omega⟩,by
    show ag (a.drop a.length)=ag ((gi a.length).drop a.length)*d+0;rw [List.drop_length,List.drop_eq_nil_of_le (by rw [d8];exact aJ _)];simp [ag,vl]⟩ (fun _=>rfl) ?_
 rintro⟨⟨q,r,k⟩,hk,hq,ji,hr,hv⟩;have hk:k<=a.length:=hk;have hq:q.length=a.length:=hq;have ji:aS 1000000000 q:=ji;have hr:0<=r/\r<d:=hr;have hv:ag (a.drop k)=ag (q.drop k)*d+r:=hv;cases k with
 |zero=>
  refine bE (s:=q5 a d q r 0) hS (ahY a d q r 0 ω) ?_;refine cG (cO ?_);rw [List.drop_zero,List.drop_zero]at hv;obtain⟨g1,g2⟩:=yg (U:=ag a) (V:=d) (t:=ag q) ω ω ω;have e3:ag a%d=r:=by omega
  have key:=ahZ a d q r 0 (AB _ q) (by rw [List.drop_zero,dI];omega);rw [List.drop_zero,dI,yj ji]at key;rw [g1,e3];exact b5 (s:=q5 a d q r 0) hS key
 |succ j=>
  have ej:(((j+1:Nat):Int)-1).toNat=j:=by omega
  have haj:=ha.get δ j;have hs0:0<=r*1000000000+a.getD j 0:=by omega
  have et:Int.tdiv (r*1000000000+a.getD j 0) d=(r*1000000000+a.getD j 0)/d:=Int.tdiv_eq_ediv_of_nonneg hs0;have em:Int.tmod (r*1000000000+a.getD j 0) d=(r*1000000000+a.getD j 0)%d:=Int.tmod_eq_emod_of_nonneg hs0;have tT:=Int.emod_add_mul_ediv (r*1000000000+a.getD j 0) d;have hm0:=dM (r*1000000000+a.getD j 0) (show d≠0 by omega);have pN:=er (r*1000000000+a.getD j 0) (show 0<d by omega);have j4:0<=(r*1000000000+a.getD j 0)/d:=Int.ediv_nonneg hs0 ω;have hq1:(r*1000000000+a.getD j 0)/d<1000000000:=(Int.ediv_lt_iff_lt_mul ω).2 (by
   have:(r+1)*1000000000<=d*1000000000:=ar ω δ;rw [Int.mul_comm _ d];omega)
  have key:=ahX a d q r (j+1) ω ω ω ω;rw [ej,et,em]at key;refine bE (s:=q5 a d q r (j+1)) hS (key ω ω ω ω ω (by rw [b9]) (by rw [b9])) ?_;have j3:(((j+1:Nat):Int)-1-1)=(j:Int)-1:=by omega
  refine⟨⟨(q.set j ((r*1000000000+a.getD j 0)/d),(r*1000000000+a.getD j 0)%d,j),by show j<=_;omega,by show(q.set j _).length=_;rw [b9];exact hq,ji.set ⟨j4,hq1⟩,⟨hm0,pN⟩, ?_⟩,by show j<j+1;omega, ?_, ?_⟩
  .show ag (a.drop j)=ag ((q.set j ((r*1000000000+a.getD j 0)/d)).drop j)*d+(r*1000000000+a.getD j 0)%d;unfold ag at hv ⊢;rw [uq (l:=a) ω,uq (l:=q.set j _) (by rw [b9];omega),vX ω,hv];have Mu:(q.set j ((r*1000000000+a.getD j 0)/d)).drop (j+1)=q.drop (j+1):=by rw [List.drop_set];rw [if_pos ω]
   rw [Mu];generalize vl 1000000000 (q.drop (j+1))=z at*;generalize (r*1000000000+a.getD j 0)/d=dd at*;generalize (r*1000000000+a.getD j 0)%d=e at*;grind
  .show(Mt a d _ _ (j+1)).T=(q5 a d _ _ j).T;unfold Mt q5;rw [j3]
  .rfl
def ah9:Ud.Ok prog:=fun⟨a,d,_⟩ h=>by
 have h:(okB a&&(decide (1<=d)&&decide (d<1000000000)))=true:=h;rw [ae,ae]at h;exact ah8 a d h.1 (ap h.2.1) (ap h.2.2)
def pR {xs:List Int} {i:Nat} (h:i<xs.length):bz 3 (.int .i64) (some (.own 3 (.int .i64) xs)) i=true:=by
 unfold bz;simp only [Nat.beq_refl,decide_true,Bool.true_and];exact fA h
abbrev GG (xs:List Int) (t:Int):Exit->au af->ai->Prop:=CT prog f185 3 (.int .i64) xs (iv t)
def aW.Mv {X:Ext} {P:Program} {w0:World} {F:Sv.Env} {Q:Exit->au af->ai->Prop} (hK:e7 P) (hm:P.follows .mixedOrders=true) {bu:bG} (hS:bD P (bF bu)) {l:List Code} {s:bH} {fn:Func} {e:TypeId} {t:av} {xs:List t.den} {res:af} (D:List Bool) (h:(oa P bu l s).path D (uv P fn e t xs res))
  (hq:∀T H,CT P fn e t xs res .ret T H->Q .ret T H):cg X P w0 F s.n l s.T s.H Q:=
 aW.Mq hK hm hS (fn:=fn) (e:=e) (t:=t) (xs:=xs) (res:=res) l.length D (by rw [dI];exact h) hq
def aia (xs v:List Int) (j:Nat) (cap:aZ) (hx:aS 1000000000 xs) (hv:aS 1000000000 v) (h2:2<=v.length) (hj:j+v.length<xs.length) (h1:500000000<=cI v) (hl:xs.length<=1000000) (A:Nat->Option (Nat×Nat)) (Y:Nat->Option Obj) (w:World) (F:Sv.Env):
  cg (qF A Y) prog w F 77 (fl pP []) (dt [wF xs.length cap,lv v,iv j] .nil 0) (qG 3 (.int .i64) xs) (GG xs (q6 xs v j)):=by
 have hS:=cz;have i0:((j:Int)+(v.length:Int)).toNat=j+v.length:=by omega
 have i1:((j:Int)+(v.length:Int)-1).toNat=j+v.length-1:=by omega
 have i2:((j:Int)+(v.length:Int)-2).toNat=j+v.length-2:=by omega
 have i3:((v.length:Int)-1).toNat=v.length-1:=by omega
 have i4:((v.length:Int)-2).toNat=v.length-2:=by omega
 have b0:=hx.get δ (j+v.length);have b1:=hx.get δ (j+v.length-1);have b2:=hx.get δ (j+v.length-2);have b3:=hv.get δ (v.length-1);have b4:=hv.get δ (v.length-2);have o0:=pR (xs:=xs) (i:=j+v.length) ω;have o1:=pR (xs:=xs) (i:=j+v.length-1) ω;have o2:=pR (xs:=xs) (i:=j+v.length-2) ω;have aib:cI v=v.getD (v.length-1) 0:=by rw [<-i3]
 have aun:nx v=v.getD (v.length-2) 0:=by rw [<-i4]
 have auo:pQ xs v j=xs.getD (j+v.length-2) 0:=by rw [<-i2]
 have Mw:fw xs v j=xs.getD (j+v.length) 0*1000000000+xs.getD (j+v.length-1) 0:=by unfold fw;rw [i0,i1]
 have hF:q6 xs v j=oy (cI v) (nx v) (pQ xs v j) 2 (fw xs v j/cI v) (fw xs v j%cI v):=by unfold q6;rw [Int.toNat_natCast]
 obtain⟨res,hres⟩:∃res,oy (cI v) (nx v) (pQ xs v j) 2 (fw xs v j/cI v) (fw xs v j%cI v)=res:=⟨_,rfl⟩;rw [hF,hres];have Dk:0<=fw xs v j:=by rw [Mw];omega
 have ht1:fw xs v j<1000000000000000000:=by rw [Mw];omega
 have ed:Int.tdiv (fw xs v j) (cI v)=fw xs v j/cI v:=Int.tdiv_eq_ediv_of_nonneg Dk;have em:Int.tmod (fw xs v j) (cI v)=fw xs v j%cI v:=Int.tmod_eq_emod_of_nonneg Dk;have j4:0<=fw xs v j/cI v:=Int.ediv_nonneg Dk ω;have hq1:fw xs v j/cI v<=2000000000:=by
  have h3:fw xs v j/cI v*cI v<=fw xs v j:=Int.ediv_mul_le _ ω;rcases Int.lt_or_le 2000000000 (fw xs v j/cI v)with h|h
  .have:2000000001*500000000<=fw xs v j/cI v*cI v:=Int.mul_le_mul ω h1 δ ω;omega
  .exact h
 have qH:=dM (fw xs v j) (show cI v≠0 by omega);have kL:=er (fw xs v j) (show 0<cI v by omega);have key:=ah1 xs v j xs.length cap;rw [ed,em,i0,i1,i3]at key;have T1:xs.getD (j+v.length) 0*1000000000+xs.getD (j+v.length-1) 0=fw xs v j:=Mw.symm;have T2:v.getD (v.length-1) 0=cI v:=aib.symm;rw [T1,T2,ed]at key;have kP:=key ω ω o0 ω ω ω ω o1 ω ω ω ω ω ω rfl em;refine cP hS 4 kP ?_;refine aW.loop (ι:={x:Nat×Int×Int//oy (cI v) (nx v) (pQ xs v j) x.1 x.2.1 x.2.2=res/\(0<=x.2.1/\x.2.1<=2000000000)/\(0<=x.2.2/\x.2.2<1000000000)/\(x.1=2\/(x.1=1/\1000000000<=x.2.2+cI v))}) (id:=0) (b:=cat pP AV) (rest:=(fl pP []).drop 5) (by kernel_rfl) (fun x=>jh xs v j xs.length cap x.1.2.1 x.1.2.2) (fun x=>x.1.1) ⟨(2,fw xs v j/cI v,fw xs v j%cI v),hres,⟨j4,hq1⟩,⟨qH,by show _%_<_;omega⟩, .inl rfl⟩ (fun _=>rfl) ?_;rintro⟨⟨f,t,r⟩,c1,c2,c3,c4⟩;have c1:oy (cI v) (nx v) (pQ xs v j) f t r=res:=c1;have c2:0<=t/\t<=2000000000:=c2;have c3:0<=r/\r<1000000000:=c3;have c4:f=2\/(f=1/\1000000000<=r+cI v):=c4;obtain⟨g,rfl⟩:∃g,f=g+1:=⟨f-1,by omega⟩;unfold oy at c1;have d2:0<=t*nx v/\t*nx v<=2000000000*999999999:=⟨Int.mul_nonneg c2.1 ω,Int.mul_le_mul c2.2 ω ω δ⟩;have uh:1<=t->¬1000000000<=r+cI v->oy (cI v) (nx v) (pQ xs v j) g (t-1) (r+cI v)=res->∃x:{x:Nat×Int×Int//oy (cI v) (nx v) (pQ xs v j) x.1 x.2.1 x.2.2=res/\(0<=x.2.1/\x.2.1<=2000000000)/\(0<=x.2.2/\x.2.2<1000000000)/\(x.1=2\/(x.1=1/\1000000000<=x.2.2+cI v))},x.1.1<g+1/\(jh xs v j xs.length cap (t-1) (r+cI v)).T=(jh xs v j xs.length cap x.1.2.1 x.1.2.2).T/\(jh xs v j xs.length cap (t-1) (r+cI v)).H=(jh xs v j xs.length cap x.1.2.1 x.1.2.2).H:=fun h1 h2 h3=>
  ⟨⟨(g,t-1,r+cI v),h3,⟨by show 0<=t-1;omega,by show t-1<=_;omega⟩,⟨by show 0<=r+cI v;omega,by show r+cI v<_;omega⟩, .inr ⟨by show g=1;omega,by show _<=r+cI v+cI v;omega⟩⟩,fB _,rfl,rfl⟩
 have q1: -9223372036854775808<=r+cI v/\r+cI v<=9223372036854775807:=by omega
 have aQ: -9223372036854775808<=t*nx v/\t*nx v<=9223372036854775807:=by omega
 have b8: -9223372036854775808<=r*1000000000+pQ xs v j/\r*1000000000+pQ xs v j<=9223372036854775807:=by omega
 have fin:∀z:Int,z=res->∀T H,GG xs z .ret T H->GG xs res .ret T H:=fun z hz T H h=>by rw [<-hz];exact h
 by_cases h3:t>=1000000000
 .rw [if_pos (.inl h3)]at c1;by_cases h4:r+cI v>=1000000000
  .rw [if_pos h4]at c1;exact aW.Mv (s:=jh xs v j xs.length cap t r) known mixed hS _ (ah2 xs v j xs.length cap t r h3 ω ω ω ω q1 h4) fun T H h=>fin _ c1 T H h
  .rw [if_neg h4]at c1;exact bE (s:=jh xs v j xs.length cap t r) hS (ah3 xs v j xs.length cap t r h3 ω ω ω ω q1 h4) (uh ω h4 c1)
 .have Mx:bz 3 (.int .i64) (some (.own 3 (.int .i64) xs)) ((j:Int)+(v.length:Int)-2).toNat=true:=by rw [i2];exact o2
  by_cases h5:t*nx v>r*1000000000+pQ xs v j
  .have ht1:1<=t:=by
    rcases Int.lt_or_le 0 t with h|h
    .exact h
    .have e:t=0:=by omega
     rw [e,Int.zero_mul]at h5;omega
   rw [if_pos (.inr h5)]at c1;by_cases h4:r+cI v>=1000000000
   .rw [if_pos h4]at c1;exact aW.Mv (s:=jh xs v j xs.length cap t r) known mixed hS _ (ah4 xs v j xs.length cap t r h3 ω ω ω aQ ω ω ω ω ω Mx b8 h5 ω ω ω ω q1 h4) fun T H h=>fin _ c1 T H h
   .rw [if_neg h4]at c1;exact bE (s:=jh xs v j xs.length cap t r) hS (ah5 xs v j xs.length cap t r h3 ω ω ω aQ ω ω ω ω ω Mx b8 h5 ω ω ω ω q1 h4) (uh ht1 h4 c1)
  .rw [if_neg ω]at c1;refine bE (s:=jh xs v j xs.length cap t r) hS (ah6 xs v j xs.length cap t r h3 ω ω ω aQ ω ω ω ω ω Mx b8 h5) ?_;refine cG (cO ?_);exact aW.Mv (s:=jh xs v j xs.length cap t r) known mixed hS _ (ah7 xs v j xs.length cap t r) fun T H h=>fin _ c1 T H h
def aic (xs:List Int) (k len:Nat) (cap:aZ) (v:List Int) (j:Int) (hp:AW xs k len v j=true) (A:Nat->Option (Nat×Nat)) (Y:Nat->Option Obj) (w:World) (F:Sv.Env):
  cg (qF A Y) prog w F 77 (fl pP []) (dt [.bT 3 (.int .i64) 64 k len cap,lv v,iv j] .nil 0) (qG 3 (.int .i64) xs) (GG xs (q6 xs v j)):=by
 unfold AW at hp;simp only [ae,bA,C6]at hp;obtain⟨⟨h1,h2⟩,⟨h3,h4⟩,⟨h5,h6⟩,⟨h7,h8⟩,h9⟩:=hp;obtain rfl:=ac h1;obtain rfl:=ac h2;obtain⟨n,rfl⟩:=Int.eq_ofNat_of_zero_le h6;exact aia xs v n cap h3 h4 h5 ω h8 h9 A Y w F
def aid:wG.Ok prog:=
 ⟨rfl,rfl,_,pP,func185,rfl,by decide,fun xs k len cap d hp _ hk A Y w F=>aic xs k len cap d.1 d.2.1 hp A Y w F⟩
abbrev yE (res:List Int) (q:Int):Exit->au af->ai->Prop:=CT prog f226 167 aE res (cr q)
section
variable {v aI p s:List Int}
def rc {q:Int} (hv:aS 18446744073709551616 v) (hu:aS 18446744073709551616 aI) (fI:aI.length=v.length+1) (hvl:v.length<=1000000) (hV:0<ak v) (G:GF (ak v) (ak aI) q)
  (cap:aZ) (r o:Int) (A:Nat->Option (Nat×Nat)) (Y:Nat->Option Obj) (w:World) (F:Sv.Env):
  cg (qF A Y) prog w F 186 ((fl fc []).drop 7) (gj (p++(aI++s)) v p.length cap q r o).T (gj (p++(aI++s)) v p.length cap q r o).H (yE (p++(fL 18446744073709551616 (v.length+1) (ak aI%ak v)++s)) (ak aI/ak v)):=by
 have hS:=Mr;refine cX (s:=gj (p++(aI++s)) v p.length cap q r o) hS 2 (ahI _ v _ cap q r o) ?_;refine aW.loop (ι:={x:List Int×Int×Int×Nat//wC v aI q x.1 x.2.1 x.2.2.1 x.2.2.2}) (id:=2) (b:=cat fc GB) (rest:=(fl fc []).drop 10) (by kernel_rfl) (fun x=>j9 (p++(x.1.1++s)) v p.length cap q x.1.2.1 x.1.2.2.1 x.1.2.2.2) (fun x=>v.length-x.1.2.2.2)
  ⟨(aI,0,0,0),⟨Nat.zero_le _,fI,hu,⟨Int.le_refl 0,show(0:Int)<18446744073709551616 by decide⟩, .inl rfl,fun _ _=>rfl,by simp [ak,vl]⟩⟩ (fun _=>rfl) ?_
 rintro⟨⟨u,c,b,i⟩,I⟩;have I:wC v aI q u c b i:=I;have hlen:=I.len;by_cases hi:i<v.length
 .have N:=I.next hv G.Ms hi;have wD:=hv.get δ i;have fin:∃j:{x:List Int×Int×Int×Nat//wC v aI q x.1 x.2.1 x.2.2.1 x.2.2.2},v.length-j.1.2.2.2<v.length-i/\
    (j9 ((p++(u++s)).set (p.length+i) (dc ((p++(u++s)).getD (p.length+i) 0) (kA q (v.getD i 0) c) b)) v p.length cap q (q3 q (v.getD i 0) c) (ep ((p++(u++s)).getD (p.length+i) 0) (kA q (v.getD i 0) c) b) (i+1)).T=(j9 (p++(j.1.1++s)) v p.length cap q j.1.2.1 j.1.2.2.1 j.1.2.2.2).T/\
    (j9 ((p++(u++s)).set (p.length+i) (dc ((p++(u++s)).getD (p.length+i) 0) (kA q (v.getD i 0) c) b)) v p.length cap q (q3 q (v.getD i 0) c) (ep ((p++(u++s)).getD (p.length+i) 0) (kA q (v.getD i 0) c) b) (i+1)).H=(j9 (p++(j.1.1++s)) v p.length cap q j.1.2.1 j.1.2.2.1 j.1.2.2.2).H:=by
   rw [fa (p:=p) (s:=s) (show i<u.length by omega),ux (p:=p) (s:=s) (show i<u.length by omega)];exact⟨⟨(_,_,_,i+1),N⟩,by simp;omega,rfl,rfl⟩
  have ho:bz 167 aE (some (.own 167 aE (p++(u++s)))) (p.length+i)=true:=yA ω;have hm:=Db.2 ⟨G.Ms,wD⟩;rcases I.hb with hb|hb
  .subst hb;exact bE (s:=j9 (p++(u++s)) v p.length cap q c 0 i) hS (ahJ (p++(u++s)) v p.length cap q c i ω hi hm ω ho ω rfl rfl rfl) fin
  .subst hb;exact bE (s:=j9 (p++(u++s)) v p.length cap q c 1 i) hS (ahM (p++(u++s)) v p.length cap q c i ω hi hm ω ho ω rfl rfl rfl) fin
 .refine bE (s:=j9 (p++(u++s)) v p.length cap q c b i) hS (ahP _ v _ cap q c b i ω) ?_;refine cG (cO ?_);have hle:=I.le;obtain rfl:i=v.length:=by omega
  obtain⟨f1,f2,f3,f4⟩:=I.fin fI;have ho:bz 167 aE (some (.own 167 aE (p++(u++s)))) (p.length+v.length)=true:=yA ω
  -- the rest, from the state with the borrow
  have rest:∀u1 b1,u1=u.set v.length (dc (u.getD v.length 0) c b)->b1=ep (u.getD v.length 0) c b->
    cg (qF A Y) prog w F 186 ((fl fc []).drop 11) (uw (p++(u1++s)) v p.length cap q b1).T (uw (p++(u1++s)) v p.length cap q b1).H (yE (p++(fL 18446744073709551616 (v.length+1) (ak aI%ak v)++s)) (ak aI/ak v)):=by
   intro u1 b1 e1 e2;rw [<-e1,<-e2]at f1;rw [<-e1]at f2 f4;rw [<-e2]at f3;have hn:=gh (b:=18446744073709551616) δ f2;have hlt:=fK (b:=18446744073709551616) δ f2;rw [f4]at hlt;by_cases ju:b1=0
   .have hnn:0<=ak aI-q*ak v:=by
     rw [ju,Int.mul_zero]at f1;unfold ak at*;omega
    obtain⟨g1,g2⟩:=ahU hV G hnn;have e3:ak u1=ak aI-q*ak v:=by rw [ju,Int.mul_zero]at f1;omega
    have bV:=f2.Uc f4;rw [e3,<-g2]at bV;rw [g1,<-bV];exact aW.Mq known mixed hS 8 _ (ahQ (p++(u1++s)) v p.length cap q b1 ju) fun T H h=>h
   .have kI:b1=1:=f3.resolve_left ju;rw [kI,Int.mul_one]at f1;have hneg:ak aI-q*ak v<0:=by unfold ak at*;omega
    obtain⟨g1,g2⟩:=ahV hV G hneg;have uy:=dM (ak aI) (show ak v≠0 by omega);have lH:=er (ak aI) hV;have aup:=fK (b:=18446744073709551616) δ hv;refine cX (s:=uw (p++(u1++s)) v p.length cap q b1) hS 4 (ahR (p++(u1++s)) v p.length cap q b1 ju) ?_;refine aW.loop (ι:={x:List Int×Int×Nat//wE v u1 x.1 x.2.1 x.2.2}) (id:=4) (b:=cat fc GC) (rest:=(fl fc []).drop 16) (by kernel_rfl) (fun x=>kz (p++(x.1.1++s)) v p.length cap q x.1.2.1 x.1.2.2) (fun x=>v.length-x.1.2.2)
     ⟨(u1,0,0),⟨Nat.zero_le _,f4,f2, .inl rfl,fun _ _=>rfl,by simp [ak,vl]⟩⟩ (fun _=>rfl) ?_
    rintro⟨⟨u2,c2,j⟩,J⟩;have J:wE v u1 u2 c2 j:=J;have QZ:=J.len;by_cases hj:j<v.length
    .have aie:=J.next hv hj;have nr:bz 167 aE (some (.own 167 aE (p++(u2++s)))) (p.length+j)=true:=yA ω;have fin:∃y:{x:List Int×Int×Nat//wE v u1 x.1 x.2.1 x.2.2},v.length-y.1.2.2<v.length-j/\
       (kz ((p++(u2++s)).set (p.length+j) (cY ((p++(u2++s)).getD (p.length+j) 0) (v.getD j 0) c2)) v p.length cap q (dP ((p++(u2++s)).getD (p.length+j) 0) (v.getD j 0) c2) (j+1)).T=(kz (p++(y.1.1++s)) v p.length cap q y.1.2.1 y.1.2.2).T/\
       (kz ((p++(u2++s)).set (p.length+j) (cY ((p++(u2++s)).getD (p.length+j) 0) (v.getD j 0) c2)) v p.length cap q (dP ((p++(u2++s)).getD (p.length+j) 0) (v.getD j 0) c2) (j+1)).H=(kz (p++(y.1.1++s)) v p.length cap q y.1.2.1 y.1.2.2).H:=by
      rw [fa (p:=p) (s:=s) (show j<u2.length by omega),ux (p:=p) (s:=s) (show j<u2.length by omega)];exact⟨⟨(_,_,j+1),aie⟩,by simp;omega,rfl,rfl⟩
     rcases J.hc with hc2|hc2
     .subst hc2;exact bE (s:=kz (p++(u2++s)) v p.length cap q 0 j) hS (ahL (p++(u2++s)) v p.length cap q j ω ω nr hj ω rfl rfl) fin
     .subst hc2;exact bE (s:=kz (p++(u2++s)) v p.length cap q 1 j) hS (ahO (p++(u2++s)) v p.length cap q j ω ω nr hj ω rfl rfl) fin
    .refine bE (s:=kz (p++(u2++s)) v p.length cap q c2 j) hS (sd_end _ v _ cap q c2 j ω) ?_;refine cG (cO ?_);have hle2:=J.le;obtain rfl:j=v.length:=by omega
     have nr:bz 167 aE (some (.own 167 aE (p++(u2++s)))) (p.length+v.length)=true:=yA ω;have oo:=J.fin f4 (U:=ak aI-q*ak v) (R:=ak aI%ak v) ω ω uy (by unfold ak at*;omega);have My:pO q=ak aI/ak v:=by
      rw [g1];unfold pO;refine fG ⟨?_,by have:=G.Ms;omega⟩;rw [<-g1];exact Int.ediv_nonneg (gh δ hu) (cq hV)
     have:=aW.Mq (X:=qF A Y) (w0:=w) (F:=F) (l:=(fl fc []).drop 16) (n:=186) (T:=(kz (p++(u2++s)) v p.length cap q c2 v.length).T) (H:=(kz (p++(u2++s)) v p.length cap q c2 v.length).H) (Q:=yE ((p++(u2++s)).set (p.length+v.length) (IntKind.wrap .u64 ((p++(u2++s)).getD (p.length+v.length) 0+c2))) (pO q)) known mixed hS 8 _ (ahS (p++(u2++s)) v p.length cap q c2 v.length nr rfl) fun T H h=>h
     rw [fa (p:=p) (s:=s) (show v.length<u2.length by omega),ux (p:=p) (s:=s) (show v.length<u2.length by omega),oo,My]at this;exact this
  have fin:∀T H,(uw ((p++(u++s)).set (p.length+v.length) (dc ((p++(u++s)).getD (p.length+v.length) 0) c b)) v p.length cap q (ep ((p++(u++s)).getD (p.length+v.length) 0) c b)).T=T->(uw ((p++(u++s)).set (p.length+v.length) (dc ((p++(u++s)).getD (p.length+v.length) 0) c b)) v p.length cap q (ep ((p++(u++s)).getD (p.length+v.length) 0) c b)).H=H->
    cg (qF A Y) prog w F 186 ((fl fc []).drop 11) T H (yE (p++(fL 18446744073709551616 (v.length+1) (ak aI%ak v)++s)) (ak aI/ak v)):=by
   rw [fa (p:=p) (s:=s) (show v.length<u.length by omega),ux (p:=p) (s:=s) (show v.length<u.length by omega)];rintro T H rfl rfl;exact rest _ _ rfl rfl
  rcases I.hb with hb|hb
  .subst hb;exact cX (s:=j9 (p++(u++s)) v p.length cap q c 0 v.length) hS 1 (ahK (p++(u++s)) v p.length cap q c v.length ho rfl rfl) (fin _ _ rfl rfl)
  .subst hb;exact cX (s:=j9 (p++(u++s)) v p.length cap q c 1 v.length) hS 1 (ahN (p++(u++s)) v p.length cap q c v.length ho rfl rfl) (fin _ _ rfl rfl)
def Ue {m:Nat} (hv:aS 18446744073709551616 v) (hu:aS 18446744073709551616 aI) (fI:aI.length=v.length+1) (hlv:v.length=m+2) (hvl:v.length<=1000000) (h1:9223372036854775808<=v.getD (m+1) 0) (hlt:ak aI<18446744073709551616*ak v)
  (cap:aZ) (q r o:Int) (hq:0<=q/\q<18446744073709551616) (hr:0<=r/\r<18446744073709551616) (ho:o=0\/o=1) (hQ:ak aI/ak v<=q) (he:q*v.getD (m+1) 0+(r+18446744073709551616*o)=aI.getD (m+2) 0*18446744073709551616+aI.getD (m+1) 0)
  (A:Nat->Option (Nat×Nat)) (Y:Nat->Option Obj) (w:World) (F:Sv.Env):
  cg (qF A Y) prog w F 186 ((fl fc []).drop 6) (gj (p++(aI++s)) v p.length cap q r o).T (gj (p++(aI++s)) v p.length cap q r o).H (yE (p++(fL 18446744073709551616 (v.length+1) (ak aI%ak v)++s)) (ak aI/ak v)):=by
 have hS:=Mr;have P:=LA (b:=18446744073709551616) δ hu hv (n:=m) ω hlv ω;have sB:=LB (b:=18446744073709551616) hlv;have AX:=LC (b:=18446744073709551616) (u:=aI) (n:=m) ω;have hV:0<ak v:=by
  have h2:=sA (u:=v) (n:=m+1) hlv;have h3:=gh (b:=18446744073709551616) δ (hv.take (m+1));have h4:=Int.mul_pos (dD (b:=18446744073709551616) δ (m+1)) (show 0<v.getD (m+1) 0 by omega);unfold ak at h2 ⊢;omega
 have pS:0<=ak aI:=gh δ hu;have wH:0<=ak aI/ak v:=Int.ediv_nonneg pS (cq hV);have Mz:ak aI/ak v*ak v<=ak aI:=Int.ediv_mul_le _ ω;have wI:((v.length:Int)-1).toNat=m+1:=by omega
 have q7:((v.length:Int)-2).toNat=m:=by omega
 have yx:=hv.get δ (m+1);have iM:=hv.get δ m
 -- the digit that passes the test
 have pass:∀q r o:Int,0<=q/\q<18446744073709551616->ak aI/ak v<=q->q*v.getD (m+1) 0+(r+18446744073709551616*o)=aI.getD (m+2) 0*18446744073709551616+aI.getD (m+1) 0->q*v.getD m 0<=(r+18446744073709551616*o)*18446744073709551616+aI.getD m 0->GF (ak v) (ak aI) q:=fun q r o hq hQ he ht=>by
  refine⟨hq,hQ, ?_⟩;have:=Lw P (t:=q) hq (by rw [show aI.getD (m+2) 0*18446744073709551616+aI.getD (m+1) 0-q*v.getD (m+1) 0=r+18446744073709551616*o by omega];exact ht);rw [sB,AX]at this;exact this
 refine aW.loop (ι:={x:Int×Int×Int//(0<=x.1/\x.1<18446744073709551616)/\(0<=x.2.1/\x.2.1<18446744073709551616)/\(x.2.2=0\/x.2.2=1)/\ak aI/ak v<=x.1/\x.1*v.getD (m+1) 0+(x.2.1+18446744073709551616*x.2.2)=aI.getD (m+2) 0*18446744073709551616+aI.getD (m+1) 0}) (id:=0) (b:=cat fc AR) (rest:=(fl fc []).drop 7) (by kernel_rfl) (fun x=>gj (p++(aI++s)) v p.length cap x.1.1 x.1.2.1 x.1.2.2) (fun x=>x.1.1.toNat) ⟨(q,r,o),hq,hr,ho,hQ,he⟩ (fun _=>rfl) ?_;clear hq hr ho hQ he;rintro⟨⟨q,r,o⟩,hq,hr,ho,hQ,he⟩;have hq:0<=q/\q<18446744073709551616:=hq;have hr:0<=r/\r<18446744073709551616:=hr;have ho:o=0\/o=1:=ho;have hQ:ak aI/ak v<=q:=hQ;have he:q*v.getD (m+1) 0+(r+18446744073709551616*o)=aI.getD (m+2) 0*18446744073709551616+aI.getD (m+1) 0:=he;have hm:=Db.2 ⟨hq,iM⟩;have hm':kX q (v.getD ((v.length:Int)-2).toNat 0)=true:=by rw [q7];exact hm
 have auq:=Ub (q:=q) (x:=v.getD m 0);obtain⟨hh,hl⟩:=w7 hq iM;have aur:=hu.get δ m;have hown:bz 167 aE (some (.own 167 aE (p++(aI++s)))) (p.length+((v.length:Int)-2).toNat)=true:=by rw [q7];exact yA ω
 have hg2:(p++(aI++s)).getD (p.length+m) 0=aI.getD m 0:=fa ω;by_cases MA:o=0
 .subst MA
  -- the next guess
  have next:¬(q*v.getD m 0<=(r+18446744073709551616*0)*18446744073709551616+aI.getD m 0)->∃j:{x:Int×Int×Int//(0<=x.1/\x.1<18446744073709551616)/\(0<=x.2.1/\x.2.1<18446744073709551616)/\(x.2.2=0\/x.2.2=1)/\ak aI/ak v<=x.1/\x.1*v.getD (m+1) 0+(x.2.1+18446744073709551616*x.2.2)=aI.getD (m+2) 0*18446744073709551616+aI.getD (m+1) 0},j.1.1.toNat<q.toNat/\
    (gj (p++(aI++s)) v p.length cap (pO q) (cY r (v.getD ((v.length:Int)-1).toNat 0) 0) (dP r (v.getD ((v.length:Int)-1).toNat 0) 0)).T=(gj (p++(aI++s)) v p.length cap j.1.1 j.1.2.1 j.1.2.2).T/\
    (gj (p++(aI++s)) v p.length cap (pO q) (cY r (v.getD ((v.length:Int)-1).toNat 0) 0) (dP r (v.getD ((v.length:Int)-1).toNat 0) 0)).H=(gj (p++(aI++s)) v p.length cap j.1.1 j.1.2.1 j.1.2.2).H:=fun hn=>by
   have hgt:=S7 P (t:=q) (q:=ak aI/ak v) hq.1 (by rw [sB,AX];exact Mz) (by rw [show aI.getD (m+2) 0*18446744073709551616+aI.getD (m+1) 0-q*v.getD (m+1) 0=r+18446744073709551616*0 by omega];omega);obtain⟨g1,g2,g3⟩:=C8 (a:=r) (b:=v.getD (m+1) 0) (c:=0) hr yx (.inl rfl);have hd:pO q=q-1:=fG ω;rw [wI,hd];generalize cY r (v.getD (m+1) 0) 0=sd at*;generalize dP r (v.getD (m+1) 0) 0=cd at*;refine⟨⟨(q-1,sd,cd),by show 0<=q-1/\q-1<_;omega,g2,g3,by show _<=q-1;omega, ?_⟩,by show(q-1).toNat<q.toNat;omega,rfl,rfl⟩;show(q-1)*v.getD (m+1) 0+(sd+18446744073709551616*cd)=aI.getD (m+2) 0*18446744073709551616+aI.getD (m+1) 0;have j3:(q-1)*v.getD (m+1) 0=q*v.getD (m+1) 0-v.getD (m+1) 0:=by rw [Int.sub_mul,Int.one_mul]
   omega
  by_cases GH:fF q (v.getD m 0)<r
  .refine bE (s:=gj (p++(aI++s)) v p.length cap q r 0) hS (ahG (p++(aI++s)) v p.length cap q r 0 rfl ω ω ω hm' (by rw [q7];exact GH)) ?_;refine cG (cO ?_);exact rc hv hu fI hvl hV (pass q r 0 hq hQ he ω) cap r 0 A Y w F
  .by_cases heq:fF q (v.getD m 0)=r
   .by_cases hle:cH q (v.getD m 0)<=aI.getD m 0
    .refine bE (s:=gj (p++(aI++s)) v p.length cap q r 0) hS (ON (p++(aI++s)) v p.length cap q r 0 rfl ω ω ω hm' (by rw [q7];exact GH) (by rw [q7];exact heq) hown (by rw [q7,hg2];exact hle)) ?_;refine cG (cO ?_);exact rc hv hu fI hvl hV (pass q r 0 hq hQ he ω) cap r 0 A Y w F
    .exact bE (s:=gj (p++(aI++s)) v p.length cap q r 0) hS (ahE (p++(aI++s)) v p.length cap q r 0 rfl ω ω ω hm' (by rw [q7];exact GH) (by rw [q7];exact heq) hown (by rw [q7,hg2];exact hle) ω ω ω rfl rfl rfl) (next ω)
   .exact bE (s:=gj (p++(aI++s)) v p.length cap q r 0) hS (ahF (p++(aI++s)) v p.length cap q r 0 rfl ω ω ω hm' (by rw [q7];exact GH) (by rw [q7];exact heq) ω ω ω rfl rfl rfl) (next ω)
 .have Ga:o=1:=ho.resolve_left MA;refine bE (s:=gj (p++(aI++s)) v p.length cap q r o) hS (ahH (p++(aI++s)) v p.length cap q r o MA) ?_;refine cG (cO ?_);have hf:=S8 P (t:=q) hq (by rw [show aI.getD (m+2) 0*18446744073709551616+aI.getD (m+1) 0-q*v.getD (m+1) 0=r+18446744073709551616*o by omega];omega);rw [show aI.getD (m+2) 0*18446744073709551616+aI.getD (m+1) 0-q*v.getD (m+1) 0=r+18446744073709551616*o by omega]at hf;exact rc hv hu fI hvl hV (pass q r o hq hQ he hf) cap r o A Y w F
def aif {m:Nat} (hv:aS 18446744073709551616 v) (hu:aS 18446744073709551616 aI) (fI:aI.length=v.length+1) (hlv:v.length=m+2) (hvl:v.length<=1000000) (h1:9223372036854775808<=v.getD (m+1) 0) (hlt:ak aI<18446744073709551616*ak v)
  (cap:aZ) (A:Nat->Option (Nat×Nat)) (Y:Nat->Option Obj) (w:World) (F:Sv.Env):
  cg (qF A Y) prog w F 186 (fl fc []) (dt [yz v p.length cap,bI v] .nil 0) (qG 167 aE (p++(aI++s))) (yE (p++(fL 18446744073709551616 (v.length+1) (ak aI%ak v)++s)) (ak aI/ak v)):=by
 have hS:=Mr;have P:=LA (b:=18446744073709551616) δ hu hv (n:=m) ω hlv ω;have sB:=LB (b:=18446744073709551616) hlv;have AX:=LC (b:=18446744073709551616) (u:=aI) (n:=m) ω;have hV:0<ak v:=by
  have h2:=sA (u:=v) (n:=m+1) hlv;have h3:=gh (b:=18446744073709551616) δ (hv.take (m+1));have h4:=Int.mul_pos (dD (b:=18446744073709551616) δ (m+1)) (show 0<v.getD (m+1) 0 by omega);unfold ak at h2 ⊢;omega
 have pS:0<=ak aI:=gh δ hu;have wH:0<=ak aI/ak v:=Int.ediv_nonneg pS (cq hV);have Mz:ak aI/ak v*ak v<=ak aI:=Int.ediv_mul_le _ ω;have GI:ak aI/ak v<18446744073709551616:=(Int.ediv_lt_iff_lt_mul hV).2 hlt;have wI:((v.length:Int)-1).toNat=m+1:=by omega
 have yx:=hv.get δ (m+1);have aih:=hu.get δ (m+2);have hun:=hu.get δ (m+1);have hkn:p.length+v.length=p.length+(m+2):=by omega
 have gt:(p++(aI++s)).getD (p.length+v.length) 0=aI.getD (m+2) 0:=by rw [hkn];exact fa ω
 have gn:(p++(aI++s)).getD (p.length+(m+1)) 0=aI.getD (m+1) 0:=fa ω;have o1:bz 167 aE (some (.own 167 aE (p++(aI++s)))) (p.length+v.length)=true:=yA ω;have o2:bz 167 aE (some (.own 167 aE (p++(aI++s)))) (p.length+((v.length:Int)-1).toNat)=true:=by rw [wI];exact yA ω
 by_cases hge:aI.getD (m+2) 0>=v.getD (m+1) 0
 .have hle:aI.getD (m+2) 0<=v.getD (m+1) 0:=by
   have a1:=sA (u:=aI) (n:=m+2) ω;have a2:=gh (b:=18446744073709551616) δ (hu.take (m+2));have a3:=sA (u:=v) (n:=m+1) hlv;have a4:=fK (b:=18446744073709551616) δ (hv.take (m+1));rw [eE,Nat.min_eq_left ω]at a4;have a5:=dD (b:=18446744073709551616) δ (m+1);rw [show m+2=m+1+1 from rfl,Int.pow_succ]at a1;rw [show m+1+1=m+2 from rfl]at a1;unfold ak at a1 a3 hlt;generalize vl 18446744073709551616 (aI.take (m+2))=x at*;generalize vl 18446744073709551616 (v.take (m+1))=y at*;generalize aI.getD (m+2) 0=ut at*;generalize v.getD (m+1) 0=Uf at*;generalize (18446744073709551616:Int)^(m+1)=P at*;refine Int.not_lt.1 fun hn=> ?_
   have b1:=dZ (show Uf+1<=ut by omega) (cq a5);rw [Int.mul_add,Int.mul_one]at b1;have b2:P*18446744073709551616*ut=18446744073709551616*(P*ut):=by grind
   rw [b2]at a1;generalize P*ut=aus at*;generalize P*Uf=aut at*;omega
  obtain⟨g1,g2,g3⟩:=C8 (a:=aI.getD (m+1) 0) (b:=v.getD (m+1) 0) (c:=0) hun yx (.inl rfl);refine cP hS 6 (ahC (p++(aI++s)) v p.length cap o1 ω ω ω (by rw [gt,wI];exact hge) o2 rfl rfl) ?_;rw [wI,gn];refine Ue hv hu fI hlv hvl h1 hlt cap _ _ _ δ g2 g3 ω ?_ A Y w F;rw [g1];omega
 .have MB:0<v.getD (m+1) 0:=by omega
  have hD:ur (aI.getD (m+2) 0) (aI.getD (m+1) 0) (v.getD (m+1) 0)=true:=by
   unfold ur;rw [sj.2 hun,sj.2 yx,ay aih.1,ay (show aI.getD (m+2) 0<v.getD (m+1) 0 by omega)];rfl
  refine cP hS 6 (ahD (p++(aI++s)) v p.length cap o1 ω ω ω (by rw [gt,wI];exact hge) o2 (by rw [gt,wI,gn];exact hD)) ?_;rw [wI,gn,gt];have tT:=Int.emod_add_mul_ediv (aI.getD (m+2) 0*18446744073709551616+aI.getD (m+1) 0) (v.getD (m+1) 0);have hm0:=dM (aI.getD (m+2) 0*18446744073709551616+aI.getD (m+1) 0) (show v.getD (m+1) 0≠0 by omega);have pN:=er (aI.getD (m+2) 0*18446744073709551616+aI.getD (m+1) 0) MB;have aii:0<=ku (aI.getD (m+2) 0) (aI.getD (m+1) 0) (v.getD (m+1) 0):=Int.ediv_nonneg ω ω;have aij:ku (aI.getD (m+2) 0) (aI.getD (m+1) 0) (v.getD (m+1) 0)<18446744073709551616:=(Int.ediv_lt_iff_lt_mul MB).2 ω;have aik:=S9 P wH (by rw [sB,AX];exact Mz);refine Ue hv hu fI hlv hvl h1 hlt cap _ _ _ ⟨aii,aij⟩ ⟨hm0,by show _%_<_;omega⟩ (.inl rfl) ((Int.le_ediv_iff_mul_le MB).2 aik) ?_ A Y w F;show(_/_)*_+(_%_+_)=_;rw [Int.mul_comm];omega
end
def ail (xs v:List Int) (k len:Nat) (cap:aZ) (hp:wB xs k len v=true) (hk:k+len<=xs.length) (A:Nat->Option (Nat×Nat)) (Y:Nat->Option Obj) (w:World) (F:Sv.Env):
  cg (qF A Y) prog w F 186 (fl fc []) (dt [.bT 167 aE 64 k len cap,bI v] .nil 0) (qG 167 aE xs) (yE (k4 xs k len v) (jf xs k len v)):=by
 unfold wB at hp;simp only [ae,bA,hG]at hp;obtain⟨hx,hv,h2,h3,h4,h5,h6⟩:=hp;have h3:=ac h3;subst h3;obtain⟨m,hm⟩:∃m,v.length=m+2:=⟨v.length-2,by omega⟩;have hpl:(xs.take k).length=k:=by rw [eE];omega
 have Dl:(q4 xs k (v.length+1)).length=v.length+1:=by unfold q4;rw [eE,nQ];omega
 have My:xs=xs.take k++(q4 xs k (v.length+1)++xs.drop (k+(v.length+1))):=by
  unfold q4;rw [<-List.drop_drop,List.take_append_drop,List.take_append_drop]
 have:=aif (p:=xs.take k) (aI:=q4 xs k (v.length+1)) (s:=xs.drop (k+(v.length+1))) hv ((hx.drop k).take _) Dl hm h4 (by rw [show m+1=v.length-1 by omega];exact h5) h6 cap A Y w F;rw [<-My,hpl]at this;exact this
def aim:sx.Ok prog:=
 ⟨rfl,rfl,_,fc,func226,rfl,by decide,fun xs k len cap d hp _ hk A Y w F=>ail xs d.1 k len cap hp hk A Y w F⟩
end
end Go.Proofs.YtibikmmdbdlafaaGreatDoor
