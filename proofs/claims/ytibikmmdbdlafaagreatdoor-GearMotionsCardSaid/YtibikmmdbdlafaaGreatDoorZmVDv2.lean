import Derived.Test.YtibikmmdbdlafaaGreatDoorZmVSh
set_option linter.defProp false
set_option linter.unusedVariables false
set_option linter.unusedSectionVars false
set_option maxRecDepth 100000
set_option linter.unusedSimpArgs false
namespace Go.Proofs.YtibikmmdbdlafaaGreatDoor
open Go.RowKit Sv Go.Proofs.Tryz
noncomputable section
def uf (P:Program) (fn:Func) (e:TypeId) (t:av) (xs:List t.den) (res:aa):R->Prop
 | .ret T H []=>(match jS P fn T H with
   | .ok v _=>cE true H v res/\(match H.get 64 with
     |some (.own e' t' ys)=>gZ (Nat.beq e e') (oX t' t ys xs)
     |_=>False)
   |_=>False)
 |_=>False
noncomputable def eZ:Code:=(f226.body).getD .skip
noncomputable def jE:bI:=aR [Ft,K6]
abbrev Ar:List Nat:=[1,1,1,1,1,0,0,0]
abbrev FO:List Nat:=[1,1,1,1,1,1,1,0,1,0,0]
abbrev FP:List Nat:=[1,1,1,1,1,1,1,1,1,1,1,0,1,0,0]
abbrev yf (v:List Int) (k:Nat) (cap:aZ):aa:= .bR 167 aD 64 k (v.length+1) cap
abbrev FQ (xs:List Int):List (Nat×fG):=[(64, .blk (.own 167 aD xs))]
abbrev j4:Sv.Ren:=[(64,64,none)]
def fW (xs v:List Int) (k:Nat) (cap:aZ) (q r o:Int):bC:={n:=186,sl:=[(0,yf v k cap),(1,bE v),(5,iv v.length),(6,cr q),(7,cr r),(8,cr o)],bF:=FQ xs,next:=65}
def j5 (xs v:List Int) (k:Nat) (cap:aZ) (q c b:Int) (i:Nat):bC:={n:=186,sl:=[(0,yf v k cap),(1,bE v),(5,iv v.length),(6,cr q),(11,cr b),(12,cr c),(104,iv v.length),(105,iv i)],bF:=FQ xs,next:=65}
def ug (xs v:List Int) (k:Nat) (cap:aZ) (q b:Int):bC:={n:=186,sl:=[(0,yf v k cap),(1,bE v),(5,iv v.length),(6,cr q),(11,cr b)],bF:=FQ xs,next:=65}
def kz (xs v:List Int) (k:Nat) (cap:aZ) (q c:Int) (i:Nat):bC:={n:=186,sl:=[(0,yf v k cap),(1,bE v),(5,iv v.length),(6,cr q),(17,cr c),(156,iv v.length),(157,iv i)],bF:=FQ xs,next:=65}
def kA (q x c:Int):Int:=cZ (cJ q x) c 0
def qM (q x c:Int):Int:=IntKind.wrap .u64 (fA q x+dQ (cJ q x) c 0)
def pG (q:Int):Int:=IntKind.wrap .u64 (q-1)
theorem ae6 (xs v:List Int) (k:Nat) (cap:aZ) (h1:(bz 167 aD (some (bq.own 167 aD xs)) (k+v.length))=true) (h2:i6 ((v.length:Int)-1)) (h3:0<=(v.length:Int)-1) (h4:((v.length:Int)-1).toNat<v.length) (h5:xs.getD (k+v.length) 0>=v.getD ((v.length:Int)-1).toNat 0) (h6:(bz 167 aD (some (bq.own 167 aD xs)) (k+((v.length:Int)-1).toNat))=true) (h7:(↑(((xs.getD (k+((v.length:Int)-1).toNat) 0).toNat+(v.getD ((v.length:Int)-1).toNat 0).toNat+Int.toNat 0)%(2:Nat)^(64:Nat)):Int)=(cZ (xs.getD (k+((v.length:Int)-1).toNat) 0) (v.getD ((v.length:Int)-1).toNat 0) 0)) (h8:(↑(((xs.getD (k+((v.length:Int)-1).toNat) 0).toNat+(v.getD ((v.length:Int)-1).toNat 0).toNat+Int.toNat 0)/(2:Nat)^(64:Nat)):Int)=(dQ (xs.getD (k+((v.length:Int)-1).toNat) 0) (v.getD ((v.length:Int)-1).toNat 0) 0)):
  aC.path (iw prog jE 186 ((fl eZ []).take 6) (de [yf v k cap,bE v] .nil 0) (qv 167 aD xs)) (dl 3) (dP prog 186 .normal j4 (fW xs v k cap 18446744073709551615 (cZ (xs.getD (k+((v.length:Int)-1).toNat) 0) (v.getD ((v.length:Int)-1).toNat 0) 0) (dQ (xs.getD (k+((v.length:Int)-1).toNat) 0) (v.getD ((v.length:Int)-1).toNat 0) 0))):=
 wy [ah (by omega:v.length<v.length+(1:Nat)),af h1,af (aV (v:=aa.raw (Value.int IntKind.u64 (xs.getD (k+v.length) (0:Int))))),yi h2,ah h3,ah h4,af (aV (v:=aa.raw (Value.int IntKind.u64 (v.getD ((v.length:Int)-(1:Int)).toNat (0:Int))))),ah h5,ah (by omega:((v.length:Int)-(1:Int)).toNat<v.length+(1:Nat)),af h6,af (aV (v:=aa.raw (Value.int IntKind.u64 (xs.getD (k+((v.length:Int)-(1:Int)).toNat) (0:Int))))),az h7,az h8] 77094211369205276292351474339892351805825363746880
theorem ae7 (xs v:List Int) (k:Nat) (cap:aZ) (h1:(bz 167 aD (some (bq.own 167 aD xs)) (k+v.length))=true) (h2:i6 ((v.length:Int)-1)) (h3:0<=(v.length:Int)-1) (h4:((v.length:Int)-1).toNat<v.length) (h5:¬xs.getD (k+v.length) 0>=v.getD ((v.length:Int)-1).toNat 0) (h6:(bz 167 aD (some (bq.own 167 aD xs)) (k+((v.length:Int)-1).toNat))=true) (h7:(ud (xs.getD (k+v.length) 0) (xs.getD (k+((v.length:Int)-1).toNat) 0) (v.getD ((v.length:Int)-1).toNat 0))=true):
  aC.path (iw prog jE 186 ((fl eZ []).take 6) (de [yf v k cap,bE v] .nil 0) (qv 167 aD xs)) (dl 2) (dP prog 186 .normal j4 (fW xs v k cap (d9 (xs.getD (k+v.length) 0) (xs.getD (k+((v.length:Int)-1).toNat) 0) (v.getD ((v.length:Int)-1).toNat 0)) (ge (xs.getD (k+v.length) 0) (xs.getD (k+((v.length:Int)-1).toNat) 0) (v.getD ((v.length:Int)-1).toNat 0)) 0)):=
 wy [ah (by omega:v.length<v.length+(1:Nat)),af h1,af (aV (v:=aa.raw (Value.int IntKind.u64 (xs.getD (k+v.length) (0:Int))))),yi h2,ah h3,ah h4,af (aV (v:=aa.raw (Value.int IntKind.u64 (v.getD ((v.length:Int)-(1:Int)).toNat (0:Int))))),aA h5,ah (by omega:((v.length:Int)-(1:Int)).toNat<v.length+(1:Nat)),af h6,af (aV (v:=aa.raw (Value.int IntKind.u64 (xs.getD (k+((v.length:Int)-(1:Int)).toNat) (0:Int))))),af h7] 17285195801427806826710116508223698747578130496
theorem ae8 (xs v:List Int) (k:Nat) (cap:aZ) (q r o:Int) (h1:o=0) (h2:i6 ((v.length:Int)-2)) (h3:0<=(v.length:Int)-2) (h4:((v.length:Int)-2).toNat<v.length) (h5:(kW q (v.getD ((v.length:Int)-2).toNat 0))=true) (h6:¬fA q (v.getD ((v.length:Int)-2).toNat 0)<r) (h7:fA q (v.getD ((v.length:Int)-2).toNat 0)=r) (h8:(bz 167 aD (some (bq.own 167 aD xs)) (k+((v.length:Int)-2).toNat))=true) (h9:cJ q (v.getD ((v.length:Int)-2).toNat 0)<=xs.getD (k+((v.length:Int)-2).toNat) 0):
  bg jE (fl eZ Ar) (fW xs v k cap q r o) 114687 (.exit 0) j4 (fW xs v k cap q r o):=
 wy [cW h1,yi h2,ah h3,ah h4,af h5,af (aS (ab h6)),af (aN (gT.mpr h7)),ah (by omega:((v.length:Int)-(2:Int)).toNat<v.length+(1:Nat)),af h8,cW h7,aA h6,ah h9] 4242138250928964978126769479503194568536193
theorem ae9 (xs v:List Int) (k:Nat) (cap:aZ) (q r o:Int) (h1:o=0) (h2:i6 ((v.length:Int)-2)) (h3:0<=(v.length:Int)-2) (h4:((v.length:Int)-2).toNat<v.length) (h5:(kW q (v.getD ((v.length:Int)-2).toNat 0))=true) (h6:¬fA q (v.getD ((v.length:Int)-2).toNat 0)<r) (h7:fA q (v.getD ((v.length:Int)-2).toNat 0)=r) (h8:(bz 167 aD (some (bq.own 167 aD xs)) (k+((v.length:Int)-2).toNat))=true) (h9:¬cJ q (v.getD ((v.length:Int)-2).toNat 0)<=xs.getD (k+((v.length:Int)-2).toNat) 0) (h10:i6 ((v.length:Int)-1)) (h11:0<=(v.length:Int)-1) (h12:((v.length:Int)-1).toNat<v.length) (dG:(IntKind.wrap IntKind.u64 (q-1))=(pG q)) (gq:(↑((r.toNat+(v.getD ((v.length:Int)-1).toNat 0).toNat+Int.toNat 0)%(2:Nat)^(64:Nat)):Int)=(cZ r (v.getD ((v.length:Int)-1).toNat 0) 0)) (iB:(↑((r.toNat+(v.getD ((v.length:Int)-1).toNat 0).toNat+Int.toNat 0)/(2:Nat)^(64:Nat)):Int)=(dQ r (v.getD ((v.length:Int)-1).toNat 0) 0)):
  bg jE (fl eZ Ar) (fW xs v k cap q r o) 81919 .normal j4 (fW xs v k cap (pG q) (cZ r (v.getD ((v.length:Int)-1).toNat 0) 0) (dQ r (v.getD ((v.length:Int)-1).toNat 0) 0)):=
 wy [cW h1,yi h2,ah h3,ah h4,af h5,af (aS (ab h6)),af (aN (gT.mpr h7)),ah (by omega:((v.length:Int)-(2:Int)).toNat<v.length+(1:Nat)),af h8,cW h7,aA h6,aA h9,yi h10,ah h11,ah h12,az dG,az gq,az iB] 469728077062457485352764315554227309838396813452327361610526849
theorem afa (xs v:List Int) (k:Nat) (cap:aZ) (q r o:Int) (h1:o=0) (h2:i6 ((v.length:Int)-2)) (h3:0<=(v.length:Int)-2) (h4:((v.length:Int)-2).toNat<v.length) (h5:(kW q (v.getD ((v.length:Int)-2).toNat 0))=true) (h6:¬fA q (v.getD ((v.length:Int)-2).toNat 0)<r) (h7:¬fA q (v.getD ((v.length:Int)-2).toNat 0)=r) (h8:i6 ((v.length:Int)-1)) (h9:0<=(v.length:Int)-1) (h10:((v.length:Int)-1).toNat<v.length) (h11:(IntKind.wrap IntKind.u64 (q-1))=(pG q)) (h12:(↑((r.toNat+(v.getD ((v.length:Int)-1).toNat 0).toNat+Int.toNat 0)%(2:Nat)^(64:Nat)):Int)=(cZ r (v.getD ((v.length:Int)-1).toNat 0) 0)) (dG:(↑((r.toNat+(v.getD ((v.length:Int)-1).toNat 0).toNat+Int.toNat 0)/(2:Nat)^(64:Nat)):Int)=(dQ r (v.getD ((v.length:Int)-1).toNat 0) 0)):
  bg jE (fl eZ Ar) (fW xs v k cap q r o) 69663 .normal j4 (fW xs v k cap (pG q) (cZ r (v.getD ((v.length:Int)-1).toNat 0) 0) (dQ r (v.getD ((v.length:Int)-1).toNat 0) 0)):=
 wy [cW h1,yi h2,ah h3,ah h4,af h5,af (aS (ab h6)),af (aN (fF.mpr h7)),yn h7,aA h6,yi h8,ah h9,ah h10,az h11,az h12,az dG] 23327530390001849591339075209156203297049197881947336833
theorem afb (xs v:List Int) (k:Nat) (cap:aZ) (q r o:Int) (h1:o=0) (h2:i6 ((v.length:Int)-2)) (h3:0<=(v.length:Int)-2) (h4:((v.length:Int)-2).toNat<v.length) (h5:(kW q (v.getD ((v.length:Int)-2).toNat 0))=true) (h6:fA q (v.getD ((v.length:Int)-2).toNat 0)<r):
  bg jE (fl eZ Ar) (fW xs v k cap q r o) 449 (.exit 0) j4 (fW xs v k cap q r o):=
 wy [cW h1,yi h2,ah h3,ah h4,af h5,af (aS (ax h6)),ah h6] 8180252580288409729
theorem afc (xs v:List Int) (k:Nat) (cap:aZ) (q r o:Int) (h1:¬o=0):
  bg jE (fl eZ Ar) (fW xs v k cap q r o) 2 (.exit 0) j4 (fW xs v k cap q r o):=
 wy [yn h1] 1
theorem afd (xs v:List Int) (k:Nat) (cap:aZ) (q r o:Int):
  dD jE ((fl eZ []).drop 7) 2 (fW xs v k cap q r o) 1 .normal j4 (j5 xs v k cap q 0 0 0):=
 wy [] 0
theorem afe (xs v:List Int) (k:Nat) (cap:aZ) (q c:Int) (i:Nat) (h1:(i:Int)<(v.length:Int)) (h2:i<v.length) (h3:(kW q (v.getD i (0:Int)))=true) (h4:i<v.length+(1:Nat)) (h5:(bz 167 aD (some (bq.own 167 (.int .u64) xs)) (k+i))=true) (h6:i6 ((i:Int)+1)) (h7:(↑(if Int.toNat (xs.getD (k+i) (0:Int))<((cJ q (v.getD i (0:Int))).toNat+c.toNat+(0:Int).toNat)%(2:Nat)^(64:Nat)+Int.toNat (0:Int)then(1:Nat)else(0:Nat)):Int)=(eo (xs.getD (k+i) (0:Int)) (kA q (v.getD i (0:Int)) c) (0:Int))) (h8:(IntKind.wrap IntKind.u64 (fA q (v.getD i (0:Int))+(↑(((cJ q (v.getD i (0:Int))).toNat+c.toNat+(0:Int).toNat)/(2:Nat)^(64:Nat)):Int)))=(qM q (v.getD i (0:Int)) c)) (h9:(xs.set (k+i) (↑(((xs.getD (k+i) (0:Int)).toNat+(2:Nat)^(64:Nat)-((cJ q (v.getD i (0:Int))).toNat+c.toNat+(0:Int).toNat)%(2:Nat)^(64:Nat)-Int.toNat (0:Int))%(2:Nat)^(64:Nat)):Int))=(xs.set (k+i) (di (xs.getD (k+i) (0:Int)) (kA q (v.getD i (0:Int)) c) (0:Int)))):
  bg jE (fl eZ FO) (j5 xs v k cap q c 0 i) 3 .normal j4 (j5 (xs.set (k+i) (di (xs.getD (k+i) 0) (kA q (v.getD i 0) c) 0)) v k cap q (qM q (v.getD i 0) c) (eo (xs.getD (k+i) 0) (kA q (v.getD i 0) c) 0) (i+1)):=
 wy [ah h1,ah h2,af h3,ah h4,af h5,yi h6,az h7,az h8,az h9] 765637957214757616603839101145321316353
theorem aff (xs v:List Int) (k:Nat) (cap:aZ) (q c:Int) (i:Nat) (h1:(bz 167 aD (some (bq.own 167 (.int .u64) xs)) (k+v.length))=true) (h2:(↑(if Int.toNat (xs.getD (k+v.length) (0:Int))<c.toNat+Int.toNat (0:Int)then(1:Nat)else(0:Nat)):Int)=(eo (xs.getD (k+v.length) (0:Int)) c (0:Int))) (h3:(xs.set (k+v.length) (↑(((xs.getD (k+v.length) (0:Int)).toNat+(2:Nat)^(64:Nat)-Int.toNat c-Int.toNat (0:Int))%(2:Nat)^(64:Nat)):Int))=(xs.set (k+v.length) (di (xs.getD (k+v.length) (0:Int)) c (0:Int)))):
  dD jE ((fl eZ []).drop 10) 1 (j5 xs v k cap q c 0 i) 1 .normal j4 (ug (xs.set (k+v.length) (di (xs.getD (k+v.length) 0) c 0)) v k cap q (eo (xs.getD (k+v.length) 0) c 0)):=
 wy [ah (by omega:v.length<v.length+(1:Nat)),af h1,az h2,az h3] 1223092919063240274616384
theorem afg (xs v:List Int) (k:Nat) (cap:aZ) (q:Int) (i:Nat) (h1:(i:Int)<(v.length:Int)) (h2:i<v.length+1) (h3:(bz 167 aD (some (bq.own 167 aD xs)) (k+i))=true) (h4:i<v.length) (h5:i6 ((i:Int)+1)) (h6:(↑(((xs.getD (k+i) 0).toNat+(v.getD i 0).toNat+Int.toNat 0)/(2:Nat)^(64:Nat)):Int)=(dQ (xs.getD (k+i) 0) (v.getD i 0) 0)) (h7:(xs.set (k+i) (↑(((xs.getD (k+i) 0).toNat+(v.getD i 0).toNat+Int.toNat 0)%(2:Nat)^(64:Nat)):Int))=(xs.set (k+i) (cZ (xs.getD (k+i) 0) (v.getD i 0) 0))):
  bg jE (fl eZ FP) (kz xs v k cap q 0 i) 3 .normal j4 (kz (xs.set (k+i) (cZ (xs.getD (k+i) 0) (v.getD i 0) 0)) v k cap q (dQ (xs.getD (k+i) 0) (v.getD i 0) 0) (i+1)):=
 wy [ah h1,ah h2,af h3,af (aV (v:=aa.raw (Value.int IntKind.u64 (xs.getD (k+i) (0:Int))))),ah h4,af (aV (v:=aa.raw (Value.int IntKind.u64 (v.getD i (0:Int))))),yi h5,az h6,az h7] 49000826990114611886490290308882841214977
theorem afh (xs v:List Int) (k:Nat) (cap:aZ) (q c:Int) (i:Nat) (h1:(i:Int)<(v.length:Int)) (h2:i<v.length) (h3:(kW q (v.getD i (0:Int)))=true) (h4:i<v.length+(1:Nat)) (h5:(bz 167 aD (some (bq.own 167 (.int .u64) xs)) (k+i))=true) (h6:i6 ((i:Int)+1)) (h7:(↑(if Int.toNat (xs.getD (k+i) (0:Int))<((cJ q (v.getD i (0:Int))).toNat+c.toNat+(0:Int).toNat)%(2:Nat)^(64:Nat)+Int.toNat (1:Int)then(1:Nat)else(0:Nat)):Int)=(eo (xs.getD (k+i) (0:Int)) (kA q (v.getD i (0:Int)) c) (1:Int))) (h8:(IntKind.wrap IntKind.u64 (fA q (v.getD i (0:Int))+(↑(((cJ q (v.getD i (0:Int))).toNat+c.toNat+(0:Int).toNat)/(2:Nat)^(64:Nat)):Int)))=(qM q (v.getD i (0:Int)) c)) (h9:(xs.set (k+i) (↑(((xs.getD (k+i) (0:Int)).toNat+(2:Nat)^(64:Nat)-((cJ q (v.getD i (0:Int))).toNat+c.toNat+(0:Int).toNat)%(2:Nat)^(64:Nat)-Int.toNat (1:Int))%(2:Nat)^(64:Nat)):Int))=(xs.set (k+i) (di (xs.getD (k+i) (0:Int)) (kA q (v.getD i (0:Int)) c) (1:Int)))):
  bg jE (fl eZ FO) (j5 xs v k cap q c 1 i) 3 .normal j4 (j5 (xs.set (k+i) (di (xs.getD (k+i) 0) (kA q (v.getD i 0) c) 1)) v k cap q (qM q (v.getD i 0) c) (eo (xs.getD (k+i) 0) (kA q (v.getD i 0) c) 1) (i+1)):=
 wy [ah h1,ah h2,af h3,ah h4,af h5,yi h6,az h7,az h8,az h9] 765637957214757616603839101145321316353
theorem afi (xs v:List Int) (k:Nat) (cap:aZ) (q c:Int) (i:Nat) (h1:(bz 167 aD (some (bq.own 167 (.int .u64) xs)) (k+v.length))=true) (h2:(↑(if Int.toNat (xs.getD (k+v.length) (0:Int))<c.toNat+Int.toNat (1:Int)then(1:Nat)else(0:Nat)):Int)=(eo (xs.getD (k+v.length) (0:Int)) c (1:Int))) (h3:(xs.set (k+v.length) (↑(((xs.getD (k+v.length) (0:Int)).toNat+(2:Nat)^(64:Nat)-Int.toNat c-Int.toNat (1:Int))%(2:Nat)^(64:Nat)):Int))=(xs.set (k+v.length) (di (xs.getD (k+v.length) (0:Int)) c (1:Int)))):
  dD jE ((fl eZ []).drop 10) 1 (j5 xs v k cap q c 1 i) 1 .normal j4 (ug (xs.set (k+v.length) (di (xs.getD (k+v.length) 0) c 1)) v k cap q (eo (xs.getD (k+v.length) 0) c 1)):=
 wy [ah (by omega:v.length<v.length+(1:Nat)),af h1,az h2,az h3] 1223092919063240274616384
theorem afj (xs v:List Int) (k:Nat) (cap:aZ) (q:Int) (i:Nat) (h1:(i:Int)<(v.length:Int)) (h2:i<v.length+1) (h3:(bz 167 aD (some (bq.own 167 aD xs)) (k+i))=true) (h4:i<v.length) (h5:i6 ((i:Int)+1)) (h6:(↑(((xs.getD (k+i) 0).toNat+(v.getD i 0).toNat+Int.toNat 1)/(2:Nat)^(64:Nat)):Int)=(dQ (xs.getD (k+i) 0) (v.getD i 0) 1)) (h7:(xs.set (k+i) (↑(((xs.getD (k+i) 0).toNat+(v.getD i 0).toNat+Int.toNat 1)%(2:Nat)^(64:Nat)):Int))=(xs.set (k+i) (cZ (xs.getD (k+i) 0) (v.getD i 0) 1))):
  bg jE (fl eZ FP) (kz xs v k cap q 1 i) 3 .normal j4 (kz (xs.set (k+i) (cZ (xs.getD (k+i) 0) (v.getD i 0) 1)) v k cap q (dQ (xs.getD (k+i) 0) (v.getD i 0) 1) (i+1)):=
 wy [ah h1,ah h2,af h3,af (aV (v:=aa.raw (Value.int IntKind.u64 (xs.getD (k+i) (0:Int))))),ah h4,af (aV (v:=aa.raw (Value.int IntKind.u64 (v.getD i (0:Int))))),yi h5,az h6,az h7] 49000826990114611886490290308882841214977
theorem afk (xs v:List Int) (k:Nat) (cap:aZ) (q c b:Int) (i:Nat) (h1:¬(i:Int)<(v.length:Int)):
  bg jE (fl eZ FO) (j5 xs v k cap q c b i) 2 (.exit 2) j4 (j5 xs v k cap q c b i):=
 wy [aA h1] 1
theorem afl (xs v:List Int) (k:Nat) (cap:aZ) (q b:Int) (h1:b=0):
  aC.path (od prog jE ((fl eZ []).drop 11) (ug xs v k cap q b)) (dl 3) (uf prog f226 167 aD xs (cr q)):=
 wy [cW h1,vN (an (rr (q)) (rr (xs)))] 129
theorem afm (xs v:List Int) (k:Nat) (cap:aZ) (q b:Int) (h1:¬b=0):
  dD jE ((fl eZ []).drop 11) 4 (ug xs v k cap q b) 2 .normal j4 (kz xs v k cap q 0 0):=
 wy [yn h1] 1
theorem sd_end (xs v:List Int) (k:Nat) (cap:aZ) (q c:Int) (i:Nat) (h1:¬(i:Int)<(v.length:Int)):
  bg jE (fl eZ FP) (kz xs v k cap q c i) 2 (.exit 4) j4 (kz xs v k cap q c i):=
 wy [aA h1] 1
theorem afn (xs v:List Int) (k:Nat) (cap:aZ) (q c:Int) (i:Nat) (h1:(bz 167 aD (some (bq.own 167 aD xs)) (k+v.length))=true) (h2:(IntKind.wrap IntKind.u64 (q-1))=(pG q)):
  aC.path (od prog jE ((fl eZ []).drop 16) (kz xs v k cap q c i)) (dl 1) (uf prog f226 167 aD (xs.set (k+v.length) (IntKind.wrap .u64 (xs.getD (k+v.length) 0+c))) (cr (pG q))):=
 wy [ah (by omega:v.length<v.length+(1:Nat)),af h1,vN (an h2 (rr (xs.set (k+v.length) (IntKind.wrap IntKind.u64 (xs.getD (k+v.length) (0:Int)+c)))))] 208322699328
def qN (xs:List Int) (k len:Nat):List Int:=(xs.drop k).take len
def jh (xs:List Int) (k len:Nat) (v:List Int):Int:=aj (qN xs k len)/aj v
def gE (xs:List Int) (k len:Nat) (v:List Int):List Int:=xs.take k++(fI 18446744073709551616 len (aj (qN xs k len)%aj v)++xs.drop (k+len))
def we (xs:List Int) (k len:Nat) (v:List Int):Bool:=gL xs&&(gL v&&(decide (2<=v.length)&&(Nat.beq len (v.length+1)&&(decide (v.length<=1000000)&&(decide (9223372036854775808<=v.getD (v.length-1) 0)&&decide (aj (qN xs k len)<18446744073709551616*aj v))))))
noncomputable def rY:gK:={f:=226,e:=167,t:=aD,ps:=[.list false aD],rs:=[aD],pre:=fun xs k len d=>we xs k len d.1,out:=fun xs k len d=>gE xs k len d.1,fn:=fun xs k len d=>(jh xs k len d.1,())}
theorem ot {p u s:List Int} {i:Nat} (hi:i<u.length):(p++(u++s)).getD (p.length+i) 0=u.getD i 0:=by
 simp only [ao];rw [List.getElem?_append_right (by omega),Nat.add_sub_cancel_left,List.getElem?_append_left hi]
theorem uh {p u s:List Int} {i:Nat} {x:Int} (hi:i<u.length):(p++(u++s)).set (p.length+i) x=p++(u.set i x++s):=by
 rw [List.set_append_right _ _ (by omega),Nat.add_sub_cancel_left,List.set_append_left _ _ hi]
theorem yg {p u s:List Int} {i:Nat} (hi:i<u.length):bz 167 aD (some (.own 167 aD (p++(u++s)))) (p.length+i)=true:=by
 rw [zv];exact ax (by rw [dU,dU];omega)
theorem aP.Lb {X:Ext} {P:Program} {w0:World} {F:Sv.Env} {n:Nat} {T:aq aa} {H:ai} {Q:Exit->aq aa->ai->Prop} (hK:eW P) (hm:P.follows .mixedOrders=true) {bw:bI} (hS:bD P (bG bw)) {l:List Code} {fn:Func} {e:TypeId} {t:av} {xs:List t.den} {res:aa} (k:Nat) (D:List Bool) (h:(Sv.iw P bw n (l.take k) T H).path D (uf P fn e t xs res))
  (hq:∀T H,Cq P fn e t xs res .ret T H->Q .ret T H):bd X P w0 F n l T H Q:=by
 obtain⟨r,h1,h2⟩:=aC.tJ _ _ h;have key:bd X P w0 F n (l.take k) T H (hG (fun T H=>bd X P w0 F n (l.drop k) T H Q) Q):=by
  refine aP.iw hK hm hS (oe:=uf P fn e t xs res) (fun r hr=> ?_) h1 h2;unfold uf at hr;split at hr
  .refine hq _ _ ?_;rename_i aM H';show(match jS P fn aM H' with | .ok v _=>cE true H' v res/\H'.get 64=some (.own e t xs)|_=>False)
   split at hr
   .obtain⟨g1,g2⟩:=hr;refine⟨g1, ?_⟩;split at g2
    .rename_i hg;obtain⟨k1,k2⟩:=jc g2;obtain⟨e1,rfl⟩:=px k2;subst e1;rw [hg,ac k1]
    .exact g2.elim
   .exact hr.elim
  .exact hr.elim
 have:=aP.split key;rwa [List.take_append_drop]at this
theorem Lc:bD prog (bG jE):=cY (aX KG (aX Sn eA))
theorem Sr {q x:Int}:fA q x*18446744073709551616+cJ q x=q*x:=by
 unfold fA cJ;have:=Int.emod_add_mul_ediv (q*x) 18446744073709551616;omega
theorem wi {q x:Int} (hq:0<=q/\q<18446744073709551616) (hx:0<=x/\x<18446744073709551616):(0<=fA q x/\fA q x<18446744073709551616)/\(0<=cJ q x/\cJ q x<18446744073709551616):=by
 have h0:0<=q*x:=Int.mul_nonneg hq.1 hx.1;have h1:q*x<=18446744073709551615*18446744073709551615:=Int.mul_le_mul (by omega) (by omega) hx.1 (by decide);unfold fA cJ;omega
theorem afo {q x c:Int} (hq:0<=q/\q<18446744073709551616) (hx:0<=x/\x<18446744073709551616) (hc:0<=c/\c<18446744073709551616):
  qM q x c*18446744073709551616+kA q x c=q*x+c/\(0<=kA q x c/\kA q x c<18446744073709551616)/\(0<=qM q x c/\qM q x c<18446744073709551616):=by
 have h0:0<=q*x:=Int.mul_nonneg hq.1 hx.1;have h1:q*x<=18446744073709551615*18446744073709551615:=Int.mul_le_mul (by omega) (by omega) hx.1 (by decide);obtain⟨_,hlo⟩:=wi hq hx;have hs:=Sr (q:=q) (x:=x);have hA:cZ (cJ q x) c 0+18446744073709551616*dQ (cJ q x) c 0=cJ q x+c/\(0<=cZ (cJ q x) c 0/\cZ (cJ q x) c 0<18446744073709551616)/\(dQ (cJ q x) c 0=0\/dQ (cJ q x) c 0=1):=by
  have:=Cz hlo hc (.inl rfl);omega
 unfold qM kA;rw [fC (x:=fA q x+dQ (cJ q x) c 0) (by omega)];omega
structure FR (V U q:Int):Prop where
 Ld:0<=q/\q<18446744073709551616
 hi:U/V<=q
 lo:(q-1)*V<=U
structure wg (v aE:List Int) (q:Int) (u:List Int) (c b:Int) (i:Nat):Prop where
 le:i<=v.length
 len:u.length=v.length+1
 dg:aT 18446744073709551616 u
 hc:0<=c/\c<18446744073709551616
 hb:b=0\/b=1
 same:∀j,i<=j->u.getD j 0=aE.getD j 0
 val:aj (u.take i)-18446744073709551616^i*b=aj (aE.take i)-q*aj (v.take i)+18446744073709551616^i*c
theorem wg.next {v aE u:List Int} {q c b:Int} {i:Nat} (I:wg v aE q u c b i) (hv:aT 18446744073709551616 v) (hq:0<=q/\q<18446744073709551616) (hi:i<v.length):
  wg v aE q (u.set i (di (u.getD i 0) (kA q (v.getD i 0) c) b)) (qM q (v.getD i 0) c) (eo (u.getD i 0) (kA q (v.getD i 0) c) b) (i+1):=by
 have wh:=hv.get (by decide) i;have rZ:=I.dg.get (by decide) i;obtain⟨h1,h2,h3⟩:=afo hq wh I.hc;obtain⟨g1,g2,g3⟩:=KC rZ h2 I.hb;have hlen:=I.len;refine⟨hi,by rw [b6];exact hlen,I.dg.set g2,h3,g3,fun j hj=> ?_, ?_⟩
 .rw [eK,if_neg (by omega)];exact I.same j (by omega)
 .have hval:=I.val;unfold aj at hval ⊢;rw [x7 (by omega),kU aE,kU v,Int.pow_succ,<-I.same i (aG _)];exact aer h1 g1 hval
structure wj (v aE:List Int) (u:List Int) (c:Int) (i:Nat):Prop where
 le:i<=v.length
 len:u.length=v.length+1
 dg:aT 18446744073709551616 u
 hc:c=0\/c=1
 same:∀j,i<=j->u.getD j 0=aE.getD j 0
 val:aj (u.take i)+18446744073709551616^i*c=aj (aE.take i)+aj (v.take i)
theorem wj.next {v aE u:List Int} {c:Int} {i:Nat} (I:wj v aE u c i) (hv:aT 18446744073709551616 v) (hi:i<v.length):
  wj v aE (u.set i (cZ (u.getD i 0) (v.getD i 0) c)) (dQ (u.getD i 0) (v.getD i 0) c) (i+1):=by
 have wh:=hv.get (by decide) i;have rZ:=I.dg.get (by decide) i;obtain⟨g1,g2,g3⟩:=Cz rZ wh I.hc;have hlen:=I.len;refine⟨hi,by rw [b6];exact hlen,I.dg.set g2,g3,fun j hj=> ?_, ?_⟩
 .rw [eK,if_neg (by omega)];exact I.same j (by omega)
 .have hval:=I.val;unfold aj at hval ⊢;rw [x7 (by omega),kU aE,kU v,Int.pow_succ,<-I.same i (aG _)];exact KB g1 hval
section
variable {v aE p s:List Int} {m:Nat} {q:Int}
theorem aT.Ss {u:List Int} {n:Nat} (h:aT 18446744073709551616 u) (hl:u.length=n+1):u=fI 18446744073709551616 (n+1) (aj u):=by
 have:=KX (b:=18446744073709551616) (by decide) h;rw [hl]at this;exact this
theorem r0 {u:List Int} {n:Nat} (hl:u.length=n+1):aj u=aj (u.take n)+18446744073709551616^n*u.getD n 0:=by
 have:=dq (b:=18446744073709551616) (l:=u) (k:=n) (by omega);rw [eF (by omega)]at this;exact this
theorem wg.fin {u:List Int} {c b:Int} (I:wg v aE q u c b v.length) (fD:aE.length=v.length+1):
  aj (u.set v.length (di (u.getD v.length 0) c b))-18446744073709551616^(v.length+1)*eo (u.getD v.length 0) c b=aj aE-q*aj v/\aT 18446744073709551616 (u.set v.length (di (u.getD v.length 0) c b))/\(eo (u.getD v.length 0) c b=0\/eo (u.getD v.length 0) c b=1)/\(u.set v.length (di (u.getD v.length 0) c b)).length=v.length+1:=by
 have rZ:=I.dg.get (by decide) v.length;obtain⟨g1,g2,g3⟩:=KC rZ I.hc I.hb;have hlen:=I.len;refine⟨?_,I.dg.set g2,g3,by rw [b6];exact hlen⟩;have hval:=I.val;rw [dI]at hval;rw [r0 (n:=v.length) (by rw [b6];exact hlen),Aa,vV (by omega),r0 (u:=aE) fD,<-I.same v.length (aG _),Int.pow_succ];generalize aj (u.take v.length)=a at*;generalize aj (aE.take v.length)=a0 at*;generalize di (u.getD v.length 0) c b=d at*;generalize eo (u.getD v.length 0) c b=bb at*;generalize u.getD v.length 0=un at*;generalize (18446744073709551616:Int)^v.length=P at*;generalize q*aj v=asx at*;have:P*(d-18446744073709551616*bb)=P*(un-c-b):=by rw [g1]
 grind
theorem afp {U V:Int} (hV:0<V) (G:FR V U q) (h:0<=U-q*V):U/V=q/\U%V=U-q*V:=by
 have h1:q<=U/V:=(Int.le_ediv_iff_mul_le hV).2 (by omega);have h2:=G.hi;have e:U/V=q:=by omega
 refine⟨e, ?_⟩;have:=Int.emod_add_mul_ediv U V;rw [e,Int.mul_comm]at this;omega
theorem afq {U V:Int} (hV:0<V) (G:FR V U q) (h:U-q*V<0):U/V=q-1/\U%V=U-q*V+V:=by
 have h1:q-1<=U/V:=(Int.le_ediv_iff_mul_le hV).2 G.lo;have h2:U/V<q:=(Int.ediv_lt_iff_lt_mul hV).2 (by omega);have e:U/V=q-1:=by omega
 refine⟨e, ?_⟩;have:=Int.emod_add_mul_ediv U V;rw [e,Int.mul_comm,Int.sub_mul,Int.one_mul]at this;omega
theorem wj.fin {u1 u:List Int} {c:Int} {U R:Int} (I:wj v u1 u c v.length) (nh:u1.length=v.length+1) (Au:aj u1=U+18446744073709551616^(v.length+1)) (hR:U+aj v=R) (uj:0<=R) (lI:R<18446744073709551616^v.length):
  u.set v.length (IntKind.wrap .u64 (u.getD v.length 0+c))=fI 18446744073709551616 (v.length+1) R:=by
 have rZ:=I.dg.get (by decide) v.length;have hlen:=I.len;have hval:=I.val;rw [dI]at hval;rw [r0 nh,<-I.same v.length (aG _),Int.pow_succ]at Au;have CQ:=fO (b:=18446744073709551616) (by decide) (I.dg.take v.length);have ht1:=fP (b:=18446744073709551616) (by decide) (I.dg.take v.length);rw [ei,Nat.min_eq_left (by omega)]at ht1;have hP:=dK (b:=18446744073709551616) (by decide) v.length;have key:u.getD v.length 0+c=18446744073709551616/\aj (u.take v.length)=R:=by
  unfold aj at*;generalize vl 18446744073709551616 (u.take v.length)=a at*;generalize vl 18446744073709551616 (u1.take v.length)=a1 at*;generalize u.getD v.length 0=un at*;generalize (18446744073709551616:Int)^v.length=P at*;have e:P*(un+c-18446744073709551616)=R-a:=by grind
  have hz:un+c-18446744073709551616=0:=by
   rcases Int.lt_trichotomy (un+c-18446744073709551616) 0 with h|h|h
   .have:=eU (show un+c-18446744073709551616<= -1 by omega) (cm hP);omega
   .exact h
   .have:=eU (show 1<=un+c-18446744073709551616 by omega) (cm hP);omega
  rw [hz,Int.mul_zero]at e;omega
 rw [key.1];have hw:IntKind.wrap .u64 18446744073709551616=0:=by rw [dE];rfl
 rw [hw];have hd:aT 18446744073709551616 (u.set v.length 0):=I.dg.set (by decide);have:=hd.Ss (n:=v.length) (by rw [b6];exact hlen);rw [this];congr 1;rw [r0 (n:=v.length) (by rw [b6];exact hlen),Aa,vV (by omega),Int.mul_zero,Int.add_zero];exact key.2
end
end
noncomputable section
abbrev yh (res:List Int) (q:Int):Exit->aq aa->ai->Prop:=Cq prog f226 167 aD res (cr q)
def Le {v aE p s:List Int} {q:Int} (hv:aT 18446744073709551616 v) (hu:aT 18446744073709551616 aE) (fD:aE.length=v.length+1) (hvl:v.length<=1000000) (hV:0<aj v) (G:FR (aj v) (aj aE) q)
  (cap:aZ) (r o:Int) (A:Nat->Option (Nat×Nat)) (Y:Nat->Option Obj) (w:World) (F:Sv.Env):
  bd (qu A Y) prog w F 186 ((fl eZ []).drop 7) (fW (p++(aE++s)) v p.length cap q r o).T (fW (p++(aE++s)) v p.length cap q r o).H (yh (p++(fI 18446744073709551616 (v.length+1) (aj aE%aj v)++s)) (aj aE/aj v)):=by
 have hS:=Lc;refine dZ (s:=fW (p++(aE++s)) v p.length cap q r o) hS 2 (afd _ v _ cap q r o) ?_;refine aP.loop (ι:={x:List Int×Int×Int×Nat//wg v aE q x.1 x.2.1 x.2.2.1 x.2.2.2}) (id:=2) (b:=cat eZ FO) (rest:=(fl eZ []).drop 10) (by kernel_rfl) (fun x=>j5 (p++(x.1.1++s)) v p.length cap q x.1.2.1 x.1.2.2.1 x.1.2.2.2) (fun x=>v.length-x.1.2.2.2)
  ⟨(aE,0,0,0),⟨Nat.zero_le _,fD,hu,⟨Int.le_refl 0,show(0:Int)<18446744073709551616 by decide⟩, .inl rfl,fun _ _=>rfl,by simp [aj,vl]⟩⟩ (fun _=>rfl) ?_
 rintro⟨⟨u,c,b,i⟩,I⟩;have I:wg v aE q u c b i:=I;have hlen:=I.len;by_cases hi:i<v.length
 .have N:=I.next hv G.Ld hi;have wh:=hv.get (by decide) i;have fin:∃j:{x:List Int×Int×Int×Nat//wg v aE q x.1 x.2.1 x.2.2.1 x.2.2.2},v.length-j.1.2.2.2<v.length-i/\
    (j5 ((p++(u++s)).set (p.length+i) (di ((p++(u++s)).getD (p.length+i) 0) (kA q (v.getD i 0) c) b)) v p.length cap q (qM q (v.getD i 0) c) (eo ((p++(u++s)).getD (p.length+i) 0) (kA q (v.getD i 0) c) b) (i+1)).T=(j5 (p++(j.1.1++s)) v p.length cap q j.1.2.1 j.1.2.2.1 j.1.2.2.2).T/\
    (j5 ((p++(u++s)).set (p.length+i) (di ((p++(u++s)).getD (p.length+i) 0) (kA q (v.getD i 0) c) b)) v p.length cap q (qM q (v.getD i 0) c) (eo ((p++(u++s)).getD (p.length+i) 0) (kA q (v.getD i 0) c) b) (i+1)).H=(j5 (p++(j.1.1++s)) v p.length cap q j.1.2.1 j.1.2.2.1 j.1.2.2.2).H:=by
   rw [ot (p:=p) (s:=s) (show i<u.length by omega),uh (p:=p) (s:=s) (show i<u.length by omega)];exact⟨⟨(_,_,_,i+1),N⟩,by simp;omega,rfl,rfl⟩
  have ho:bz 167 aD (some (.own 167 aD (p++(u++s)))) (p.length+i)=true:=yg (by omega);have hm:=CC.2 ⟨G.Ld,wh⟩;rcases I.hb with hb|hb
  .subst hb;exact bl (s:=j5 (p++(u++s)) v p.length cap q c 0 i) hS (afe (p++(u++s)) v p.length cap q c i (by omega) hi hm (by omega) ho (by omega) rfl rfl rfl) fin
  .subst hb;exact bl (s:=j5 (p++(u++s)) v p.length cap q c 1 i) hS (afh (p++(u++s)) v p.length cap q c i (by omega) hi hm (by omega) ho (by omega) rfl rfl rfl) fin
 .refine bl (s:=j5 (p++(u++s)) v p.length cap q c b i) hS (afk _ v _ cap q c b i (by omega)) ?_;refine cw (cz ?_);have hle:=I.le;obtain rfl:i=v.length:=by omega
  obtain⟨f1,f2,f3,f4⟩:=I.fin fD;have ho:bz 167 aD (some (.own 167 aD (p++(u++s)))) (p.length+v.length)=true:=yg (by omega)
  -- the rest, from the state with the borrow
  have rest:∀u1 b1,u1=u.set v.length (di (u.getD v.length 0) c b)->b1=eo (u.getD v.length 0) c b->
    bd (qu A Y) prog w F 186 ((fl eZ []).drop 11) (ug (p++(u1++s)) v p.length cap q b1).T (ug (p++(u1++s)) v p.length cap q b1).H (yh (p++(fI 18446744073709551616 (v.length+1) (aj aE%aj v)++s)) (aj aE/aj v)):=by
   intro u1 b1 e1 e2;rw [<-e1,<-e2]at f1;rw [<-e1]at f2 f4;rw [<-e2]at f3;have hn:=fO (b:=18446744073709551616) (by decide) f2;have hlt:=fP (b:=18446744073709551616) (by decide) f2;rw [f4]at hlt;by_cases jw:b1=0
   .have hnn:0<=aj aE-q*aj v:=by
     rw [jw,Int.mul_zero]at f1;unfold aj at*;omega
    obtain⟨g1,g2⟩:=afp hV G hnn;have e3:aj u1=aj aE-q*aj v:=by rw [jw,Int.mul_zero]at f1;omega
    have bU:=f2.Ss f4;rw [e3,<-g2]at bU;rw [g1,<-bU];exact aP.Lb known mixed hS 8 _ (afl (p++(u1++s)) v p.length cap q b1 jw) fun T H h=>h
   .have kO:b1=1:=f3.resolve_left jw;rw [kO,Int.mul_one]at f1;have hneg:aj aE-q*aj v<0:=by unfold aj at*;omega
    obtain⟨g1,g2⟩:=afq hV G hneg;have uj:=eG (aj aE) (show aj v≠0 by omega);have lI:=e6 (aj aE) hV;have asy:=fP (b:=18446744073709551616) (by decide) hv;refine dZ (s:=ug (p++(u1++s)) v p.length cap q b1) hS 4 (afm (p++(u1++s)) v p.length cap q b1 jw) ?_;refine aP.loop (ι:={x:List Int×Int×Nat//wj v u1 x.1 x.2.1 x.2.2}) (id:=4) (b:=cat eZ FP) (rest:=(fl eZ []).drop 16) (by kernel_rfl) (fun x=>kz (p++(x.1.1++s)) v p.length cap q x.1.2.1 x.1.2.2) (fun x=>v.length-x.1.2.2)
     ⟨(u1,0,0),⟨Nat.zero_le _,f4,f2, .inl rfl,fun _ _=>rfl,by simp [aj,vl]⟩⟩ (fun _=>rfl) ?_
    rintro⟨⟨u2,c2,j⟩,J⟩;have J:wj v u1 u2 c2 j:=J;have Pt:=J.len;by_cases hj:j<v.length
    .have afr:=J.next hv hj;have nA:bz 167 aD (some (.own 167 aD (p++(u2++s)))) (p.length+j)=true:=yg (by omega);have fin:∃y:{x:List Int×Int×Nat//wj v u1 x.1 x.2.1 x.2.2},v.length-y.1.2.2<v.length-j/\
       (kz ((p++(u2++s)).set (p.length+j) (cZ ((p++(u2++s)).getD (p.length+j) 0) (v.getD j 0) c2)) v p.length cap q (dQ ((p++(u2++s)).getD (p.length+j) 0) (v.getD j 0) c2) (j+1)).T=(kz (p++(y.1.1++s)) v p.length cap q y.1.2.1 y.1.2.2).T/\
       (kz ((p++(u2++s)).set (p.length+j) (cZ ((p++(u2++s)).getD (p.length+j) 0) (v.getD j 0) c2)) v p.length cap q (dQ ((p++(u2++s)).getD (p.length+j) 0) (v.getD j 0) c2) (j+1)).H=(kz (p++(y.1.1++s)) v p.length cap q y.1.2.1 y.1.2.2).H:=by
      rw [ot (p:=p) (s:=s) (show j<u2.length by omega),uh (p:=p) (s:=s) (show j<u2.length by omega)];exact⟨⟨(_,_,j+1),afr⟩,by simp;omega,rfl,rfl⟩
     rcases J.hc with hc2|hc2
     .subst hc2;exact bl (s:=kz (p++(u2++s)) v p.length cap q 0 j) hS (afg (p++(u2++s)) v p.length cap q j (by omega) (by omega) nA hj (by omega) rfl rfl) fin
     .subst hc2;exact bl (s:=kz (p++(u2++s)) v p.length cap q 1 j) hS (afj (p++(u2++s)) v p.length cap q j (by omega) (by omega) nA hj (by omega) rfl rfl) fin
    .refine bl (s:=kz (p++(u2++s)) v p.length cap q c2 j) hS (sd_end _ v _ cap q c2 j (by omega)) ?_;refine cw (cz ?_);have hle2:=J.le;obtain rfl:j=v.length:=by omega
     have nA:bz 167 aD (some (.own 167 aD (p++(u2++s)))) (p.length+v.length)=true:=yg (by omega);have oo:=J.fin f4 (U:=aj aE-q*aj v) (R:=aj aE%aj v) (by omega) (by omega) uj (by unfold aj at*;omega);have Lf:pG q=aj aE/aj v:=by
      rw [g1];unfold pG;refine fC ⟨?_,by have:=G.Ld;omega⟩;rw [<-g1];exact Int.ediv_nonneg (fO (by decide) hu) (cm hV)
     have:=aP.Lb (X:=qu A Y) (w0:=w) (F:=F) (l:=(fl eZ []).drop 16) (n:=186) (T:=(kz (p++(u2++s)) v p.length cap q c2 v.length).T) (H:=(kz (p++(u2++s)) v p.length cap q c2 v.length).H) (Q:=yh ((p++(u2++s)).set (p.length+v.length) (IntKind.wrap .u64 ((p++(u2++s)).getD (p.length+v.length) 0+c2))) (pG q)) known mixed hS 8 _ (afn (p++(u2++s)) v p.length cap q c2 v.length nA rfl) fun T H h=>h
     rw [ot (p:=p) (s:=s) (show v.length<u2.length by omega),uh (p:=p) (s:=s) (show v.length<u2.length by omega),oo,Lf]at this;exact this
  have fin:∀T H,(ug ((p++(u++s)).set (p.length+v.length) (di ((p++(u++s)).getD (p.length+v.length) 0) c b)) v p.length cap q (eo ((p++(u++s)).getD (p.length+v.length) 0) c b)).T=T->(ug ((p++(u++s)).set (p.length+v.length) (di ((p++(u++s)).getD (p.length+v.length) 0) c b)) v p.length cap q (eo ((p++(u++s)).getD (p.length+v.length) 0) c b)).H=H->
    bd (qu A Y) prog w F 186 ((fl eZ []).drop 11) T H (yh (p++(fI 18446744073709551616 (v.length+1) (aj aE%aj v)++s)) (aj aE/aj v)):=by
   rw [ot (p:=p) (s:=s) (show v.length<u.length by omega),uh (p:=p) (s:=s) (show v.length<u.length by omega)];rintro T H rfl rfl;exact rest _ _ rfl rfl
  rcases I.hb with hb|hb
  .subst hb;exact dZ (s:=j5 (p++(u++s)) v p.length cap q c 0 v.length) hS 1 (aff (p++(u++s)) v p.length cap q c v.length ho rfl rfl) (fin _ _ rfl rfl)
  .subst hb;exact dZ (s:=j5 (p++(u++s)) v p.length cap q c 1 v.length) hS 1 (afi (p++(u++s)) v p.length cap q c v.length ho rfl rfl) (fin _ _ rfl rfl)
def St {v aE p s:List Int} {m:Nat} (hv:aT 18446744073709551616 v) (hu:aT 18446744073709551616 aE) (fD:aE.length=v.length+1) (hlv:v.length=m+2) (hvl:v.length<=1000000) (h1:9223372036854775808<=v.getD (m+1) 0) (hlt:aj aE<18446744073709551616*aj v)
  (cap:aZ) (q r o:Int) (hq:0<=q/\q<18446744073709551616) (hr:0<=r/\r<18446744073709551616) (ho:o=0\/o=1) (hQ:aj aE/aj v<=q) (he:q*v.getD (m+1) 0+(r+18446744073709551616*o)=aE.getD (m+2) 0*18446744073709551616+aE.getD (m+1) 0)
  (A:Nat->Option (Nat×Nat)) (Y:Nat->Option Obj) (w:World) (F:Sv.Env):
  bd (qu A Y) prog w F 186 ((fl eZ []).drop 6) (fW (p++(aE++s)) v p.length cap q r o).T (fW (p++(aE++s)) v p.length cap q r o).H (yh (p++(fI 18446744073709551616 (v.length+1) (aj aE%aj v)++s)) (aj aE/aj v)):=by
 have hS:=Lc;have P:=KY (b:=18446744073709551616) (by decide) hu hv (n:=m) (by omega) hlv (by omega);have r4:=KZ (b:=18446744073709551616) hlv;have Av:=K0 (b:=18446744073709551616) (u:=aE) (n:=m) (by omega);have hV:0<aj v:=by
  have h2:=r0 (u:=v) (n:=m+1) hlv;have h3:=fO (b:=18446744073709551616) (by decide) (hv.take (m+1));have h4:=Int.mul_pos (dK (b:=18446744073709551616) (by decide) (m+1)) (show 0<v.getD (m+1) 0 by omega);unfold aj at h2 ⊢;omega
 have pH:0<=aj aE:=fO (by decide) hu;have wk:0<=aj aE/aj v:=Int.ediv_nonneg pH (cm hV);have Lg:aj aE/aj v*aj v<=aj aE:=Int.ediv_mul_le _ (by omega);have wm:((v.length:Int)-1).toNat=m+1:=by omega
 have qO:((v.length:Int)-2).toNat=m:=by omega
 have yd:=hv.get (by decide) (m+1);have iO:=hv.get (by decide) m
 -- the digit that passes the test
 have pass:∀q r o:Int,0<=q/\q<18446744073709551616->aj aE/aj v<=q->q*v.getD (m+1) 0+(r+18446744073709551616*o)=aE.getD (m+2) 0*18446744073709551616+aE.getD (m+1) 0->q*v.getD m 0<=(r+18446744073709551616*o)*18446744073709551616+aE.getD m 0->FR (aj v) (aj aE) q:=fun q r o hq hQ he ht=>by
  refine⟨hq,hQ, ?_⟩;have:=tm P (t:=q) hq (by rw [show aE.getD (m+2) 0*18446744073709551616+aE.getD (m+1) 0-q*v.getD (m+1) 0=r+18446744073709551616*o by omega];exact ht);rw [r4,Av]at this;exact this
 refine aP.loop (ι:={x:Int×Int×Int//(0<=x.1/\x.1<18446744073709551616)/\(0<=x.2.1/\x.2.1<18446744073709551616)/\(x.2.2=0\/x.2.2=1)/\aj aE/aj v<=x.1/\x.1*v.getD (m+1) 0+(x.2.1+18446744073709551616*x.2.2)=aE.getD (m+2) 0*18446744073709551616+aE.getD (m+1) 0}) (id:=0) (b:=cat eZ Ar) (rest:=(fl eZ []).drop 7) (by kernel_rfl) (fun x=>fW (p++(aE++s)) v p.length cap x.1.1 x.1.2.1 x.1.2.2) (fun x=>x.1.1.toNat) ⟨(q,r,o),hq,hr,ho,hQ,he⟩ (fun _=>rfl) ?_;clear hq hr ho hQ he;rintro⟨⟨q,r,o⟩,hq,hr,ho,hQ,he⟩;have hq:0<=q/\q<18446744073709551616:=hq;have hr:0<=r/\r<18446744073709551616:=hr;have ho:o=0\/o=1:=ho;have hQ:aj aE/aj v<=q:=hQ;have he:q*v.getD (m+1) 0+(r+18446744073709551616*o)=aE.getD (m+2) 0*18446744073709551616+aE.getD (m+1) 0:=he;have hm:=CC.2 ⟨hq,iO⟩;have hm':kW q (v.getD ((v.length:Int)-2).toNat 0)=true:=by rw [qO];exact hm
 have asz:=Sr (q:=q) (x:=v.getD m 0);obtain⟨hh,hl⟩:=wi hq iO;have asA:=hu.get (by decide) m;have hown:bz 167 aD (some (.own 167 aD (p++(aE++s)))) (p.length+((v.length:Int)-2).toNat)=true:=by rw [qO];exact yg (by omega)
 have hg2:(p++(aE++s)).getD (p.length+m) 0=aE.getD m 0:=ot (by omega);by_cases Lh:o=0
 .subst Lh
  -- the next guess
  have next:¬(q*v.getD m 0<=(r+18446744073709551616*0)*18446744073709551616+aE.getD m 0)->∃j:{x:Int×Int×Int//(0<=x.1/\x.1<18446744073709551616)/\(0<=x.2.1/\x.2.1<18446744073709551616)/\(x.2.2=0\/x.2.2=1)/\aj aE/aj v<=x.1/\x.1*v.getD (m+1) 0+(x.2.1+18446744073709551616*x.2.2)=aE.getD (m+2) 0*18446744073709551616+aE.getD (m+1) 0},j.1.1.toNat<q.toNat/\
    (fW (p++(aE++s)) v p.length cap (pG q) (cZ r (v.getD ((v.length:Int)-1).toNat 0) 0) (dQ r (v.getD ((v.length:Int)-1).toNat 0) 0)).T=(fW (p++(aE++s)) v p.length cap j.1.1 j.1.2.1 j.1.2.2).T/\
    (fW (p++(aE++s)) v p.length cap (pG q) (cZ r (v.getD ((v.length:Int)-1).toNat 0) 0) (dQ r (v.getD ((v.length:Int)-1).toNat 0) 0)).H=(fW (p++(aE++s)) v p.length cap j.1.1 j.1.2.1 j.1.2.2).H:=fun hn=>by
   have hgt:=At P (t:=q) (q:=aj aE/aj v) hq.1 (by rw [r4,Av];exact Lg) (by rw [show aE.getD (m+2) 0*18446744073709551616+aE.getD (m+1) 0-q*v.getD (m+1) 0=r+18446744073709551616*0 by omega];omega);obtain⟨g1,g2,g3⟩:=Cz (a:=r) (b:=v.getD (m+1) 0) (c:=0) hr yd (.inl rfl);have hd:pG q=q-1:=fC (by omega);rw [wm,hd];generalize cZ r (v.getD (m+1) 0) 0=sd at*;generalize dQ r (v.getD (m+1) 0) 0=cd at*;refine⟨⟨(q-1,sd,cd),by show 0<=q-1/\q-1<_;omega,g2,g3,by show _<=q-1;omega, ?_⟩,by show(q-1).toNat<q.toNat;omega,rfl,rfl⟩;show(q-1)*v.getD (m+1) 0+(sd+18446744073709551616*cd)=aE.getD (m+2) 0*18446744073709551616+aE.getD (m+1) 0;have o7:(q-1)*v.getD (m+1) 0=q*v.getD (m+1) 0-v.getD (m+1) 0:=by rw [Int.sub_mul,Int.one_mul]
   omega
  by_cases FT:fA q (v.getD m 0)<r
  .refine bl (s:=fW (p++(aE++s)) v p.length cap q r 0) hS (afb (p++(aE++s)) v p.length cap q r 0 rfl (by omega) (by omega) (by omega) hm' (by rw [qO];exact FT)) ?_;refine cw (cz ?_);exact Le hv hu fD hvl hV (pass q r 0 hq hQ he (by omega)) cap r 0 A Y w F
  .by_cases heq:fA q (v.getD m 0)=r
   .by_cases hle:cJ q (v.getD m 0)<=aE.getD m 0
    .refine bl (s:=fW (p++(aE++s)) v p.length cap q r 0) hS (ae8 (p++(aE++s)) v p.length cap q r 0 rfl (by omega) (by omega) (by omega) hm' (by rw [qO];exact FT) (by rw [qO];exact heq) hown (by rw [qO,hg2];exact hle)) ?_;refine cw (cz ?_);exact Le hv hu fD hvl hV (pass q r 0 hq hQ he (by omega)) cap r 0 A Y w F
    .exact bl (s:=fW (p++(aE++s)) v p.length cap q r 0) hS (ae9 (p++(aE++s)) v p.length cap q r 0 rfl (by omega) (by omega) (by omega) hm' (by rw [qO];exact FT) (by rw [qO];exact heq) hown (by rw [qO,hg2];exact hle) (by omega) (by omega) (by omega) rfl rfl rfl) (next (by omega))
   .exact bl (s:=fW (p++(aE++s)) v p.length cap q r 0) hS (afa (p++(aE++s)) v p.length cap q r 0 rfl (by omega) (by omega) (by omega) hm' (by rw [qO];exact FT) (by rw [qO];exact heq) (by omega) (by omega) (by omega) rfl rfl rfl) (next (by omega))
 .have Fq:o=1:=ho.resolve_left Lh;refine bl (s:=fW (p++(aE++s)) v p.length cap q r o) hS (afc (p++(aE++s)) v p.length cap q r o Lh) ?_;refine cw (cz ?_);have hf:=wd P (t:=q) hq (by rw [show aE.getD (m+2) 0*18446744073709551616+aE.getD (m+1) 0-q*v.getD (m+1) 0=r+18446744073709551616*o by omega];omega);rw [show aE.getD (m+2) 0*18446744073709551616+aE.getD (m+1) 0-q*v.getD (m+1) 0=r+18446744073709551616*o by omega]at hf;exact Le hv hu fD hvl hV (pass q r o hq hQ he hf) cap r o A Y w F
def afs {v aE p s:List Int} {m:Nat} (hv:aT 18446744073709551616 v) (hu:aT 18446744073709551616 aE) (fD:aE.length=v.length+1) (hlv:v.length=m+2) (hvl:v.length<=1000000) (h1:9223372036854775808<=v.getD (m+1) 0) (hlt:aj aE<18446744073709551616*aj v)
  (cap:aZ) (A:Nat->Option (Nat×Nat)) (Y:Nat->Option Obj) (w:World) (F:Sv.Env):
  bd (qu A Y) prog w F 186 (fl eZ []) (de [yf v p.length cap,bE v] .nil 0) (qv 167 aD (p++(aE++s))) (yh (p++(fI 18446744073709551616 (v.length+1) (aj aE%aj v)++s)) (aj aE/aj v)):=by
 have hS:=Lc;have P:=KY (b:=18446744073709551616) (by decide) hu hv (n:=m) (by omega) hlv (by omega);have r4:=KZ (b:=18446744073709551616) hlv;have Av:=K0 (b:=18446744073709551616) (u:=aE) (n:=m) (by omega);have hV:0<aj v:=by
  have h2:=r0 (u:=v) (n:=m+1) hlv;have h3:=fO (b:=18446744073709551616) (by decide) (hv.take (m+1));have h4:=Int.mul_pos (dK (b:=18446744073709551616) (by decide) (m+1)) (show 0<v.getD (m+1) 0 by omega);unfold aj at h2 ⊢;omega
 have pH:0<=aj aE:=fO (by decide) hu;have wk:0<=aj aE/aj v:=Int.ediv_nonneg pH (cm hV);have Lg:aj aE/aj v*aj v<=aj aE:=Int.ediv_mul_le _ (by omega);have FU:aj aE/aj v<18446744073709551616:=(Int.ediv_lt_iff_lt_mul hV).2 hlt;have wm:((v.length:Int)-1).toNat=m+1:=by omega
 have yd:=hv.get (by decide) (m+1);have aft:=hu.get (by decide) (m+2);have hun:=hu.get (by decide) (m+1);have hkn:p.length+v.length=p.length+(m+2):=by omega
 have gt:(p++(aE++s)).getD (p.length+v.length) 0=aE.getD (m+2) 0:=by rw [hkn];exact ot (by omega)
 have gn:(p++(aE++s)).getD (p.length+(m+1)) 0=aE.getD (m+1) 0:=ot (by omega);have o1:bz 167 aD (some (.own 167 aD (p++(aE++s)))) (p.length+v.length)=true:=yg (by omega);have o2:bz 167 aD (some (.own 167 aD (p++(aE++s)))) (p.length+((v.length:Int)-1).toNat)=true:=by rw [wm];exact yg (by omega)
 by_cases hge:aE.getD (m+2) 0>=v.getD (m+1) 0
 .have hle:aE.getD (m+2) 0<=v.getD (m+1) 0:=by
   have a1:=r0 (u:=aE) (n:=m+2) (by omega);have a2:=fO (b:=18446744073709551616) (by decide) (hu.take (m+2));have a3:=r0 (u:=v) (n:=m+1) hlv;have a4:=fP (b:=18446744073709551616) (by decide) (hv.take (m+1));rw [ei,Nat.min_eq_left (by omega)]at a4;have a5:=dK (b:=18446744073709551616) (by decide) (m+1);rw [show m+2=m+1+1 from rfl,Int.pow_succ]at a1;rw [show m+1+1=m+2 from rfl]at a1;unfold aj at a1 a3 hlt;generalize vl 18446744073709551616 (aE.take (m+2))=x at*;generalize vl 18446744073709551616 (v.take (m+1))=y at*;generalize aE.getD (m+2) 0=ut at*;generalize v.getD (m+1) 0=Su at*;generalize (18446744073709551616:Int)^(m+1)=P at*;refine Int.not_lt.1 fun hn=> ?_
   have b1:=eU (show Su+1<=ut by omega) (cm a5);rw [Int.mul_add,Int.mul_one]at b1;have b2:P*18446744073709551616*ut=18446744073709551616*(P*ut):=by grind
   rw [b2]at a1;generalize P*ut=asB at*;generalize P*Su=asC at*;omega
  obtain⟨g1,g2,g3⟩:=Cz (a:=aE.getD (m+1) 0) (b:=v.getD (m+1) 0) (c:=0) hun yd (.inl rfl);refine cC hS 6 (ae6 (p++(aE++s)) v p.length cap o1 (by omega) (by omega) (by omega) (by rw [gt,wm];exact hge) o2 rfl rfl) ?_;rw [wm,gn];refine St hv hu fD hlv hvl h1 hlt cap _ _ _ (by decide) g2 g3 (by omega) ?_ A Y w F;rw [g1];omega
 .have Li:0<v.getD (m+1) 0:=by omega
  have hD:ud (aE.getD (m+2) 0) (aE.getD (m+1) 0) (v.getD (m+1) 0)=true:=by
   unfold ud;rw [pF.2 hun,pF.2 yd,ax aft.1,ax (show aE.getD (m+2) 0<v.getD (m+1) 0 by omega)];rfl
  refine cC hS 6 (ae7 (p++(aE++s)) v p.length cap o1 (by omega) (by omega) (by omega) (by rw [gt,wm];exact hge) o2 (by rw [gt,wm,gn];exact hD)) ?_;rw [wm,gn,gt];have tH:=Int.emod_add_mul_ediv (aE.getD (m+2) 0*18446744073709551616+aE.getD (m+1) 0) (v.getD (m+1) 0);have hm0:=eG (aE.getD (m+2) 0*18446744073709551616+aE.getD (m+1) 0) (show v.getD (m+1) 0≠0 by omega);have pE:=e6 (aE.getD (m+2) 0*18446744073709551616+aE.getD (m+1) 0) Li;have afu:0<=d9 (aE.getD (m+2) 0) (aE.getD (m+1) 0) (v.getD (m+1) 0):=Int.ediv_nonneg (by omega) (by omega);have afv:d9 (aE.getD (m+2) 0) (aE.getD (m+1) 0) (v.getD (m+1) 0)<18446744073709551616:=(Int.ediv_lt_iff_lt_mul Li).2 (by omega);have afw:=RF P wk (by rw [r4,Av];exact Lg);refine St hv hu fD hlv hvl h1 hlt cap _ _ _ ⟨afu,afv⟩ ⟨hm0,by show _%_<_;omega⟩ (.inl rfl) ((Int.le_ediv_iff_mul_le Li).2 afw) ?_ A Y w F;show(_/_)*_+(_%_+_)=_;rw [Int.mul_comm];omega
def afx (xs v:List Int) (k len:Nat) (cap:aZ) (hp:we xs k len v=true) (hk:k+len<=xs.length) (A:Nat->Option (Nat×Nat)) (Y:Nat->Option Obj) (w:World) (F:Sv.Env):
  bd (qu A Y) prog w F 186 (fl eZ []) (de [.bR 167 aD 64 k len cap,bE v] .nil 0) (qv 167 aD xs) (yh (gE xs k len v) (jh xs k len v)):=by
 unfold we at hp;simp only [ae,bB,cp]at hp;obtain⟨hx,hv,h2,h3,h4,h5,h6⟩:=hp;have h3:=ac h3;subst h3;obtain⟨m,hm⟩:∃m,v.length=m+2:=⟨v.length-2,by omega⟩;have hpl:(xs.take k).length=k:=by rw [ei];omega
 have CR:(qN xs k (v.length+1)).length=v.length+1:=by unfold qN;rw [ei,mW];omega
 have Lf:xs=xs.take k++(qN xs k (v.length+1)++xs.drop (k+(v.length+1))):=by
  unfold qN;rw [<-List.drop_drop,List.take_append_drop,List.take_append_drop]
 have:=afs (p:=xs.take k) (aE:=qN xs k (v.length+1)) (s:=xs.drop (k+(v.length+1))) hv ((hx.drop k).take _) CR hm h4 (by rw [show m+1=v.length-1 by omega];exact h5) h6 cap A Y w F;rw [<-Lf,hpl]at this;exact this
def afy:rY.Ok prog:=
 ⟨rfl,rfl,_,eZ,func226,rfl,by decide,fun xs k len cap d hp _ hk A Y w F=>afx xs d.1 k len cap hp hk A Y w F⟩
end
end Go.Proofs.YtibikmmdbdlafaaGreatDoor
namespace Go.Proofs.YtibikmmdbdlafaaGreatDoor.Sv
open Go.RowKit
variable [Ground]
noncomputable section
def yj (ty:av) (v:aa) (H:ai):aC (Option (aa×ai)):=match ty,v with
 | .list false t, .bR e u i k len _=>(match decide (u=t)with
   |true=> .must (Nat.beq len 0||bz e t (H.get i) (k+len-1)) (.ret (some (.bh false t (((bM t (H.get i)).drop k).take len),H.drop i)))
   |false=> .ret none)
 | .list false t, .slice i off n _=>(match H.get i with
   |some (.cells _ cs _ false false)=>(match t.q8 n (cut cs off (n*t.size))with
    |some ds=> .must (Nat.ble (off+n*t.size) cs.length) (.ret (some (.bh false t ds,H.drop i)))
    |none=> .ret none)
   |_=> .ret none)
 |_,v=> .ret (some (v,H))
def r5:List av->List aa->ai->aC (Option (List aa×ai))
 |t::ts,v::vs,H=>(yj t v H).bind fun r=>match r with
  |some (v1,H1)=>(r5 ts vs H1).bind fun r2=>match r2 with
   |some (ou,H2)=> .ret (some (v1::ou,H2))
   |none=> .ret none
  |none=> .ret none
 |_,vs,H=> .ret (some (vs,H))
def FV (c:bp) (args:List aa) (H:ai):aC aK:=(r5 c.ps args H).bind fun r=>match r with
 |some (args1,H1)=>xX c args1 H1
 |none=> .ret .no
def ov (l:List bp) (bw:bI):bI:=fun f args H=>match l with
 |[]=>bw f args H
 |c::l=>match Nat.beq f c.f with |true=>FV c args H|false=>ov l bw f args H
section
variable {P:Program} {B:Nat} {ρ:Env} {H:ai} {w:World}
theorem FW (hH:bf P B ρ H w) {i b c:Nat} {k:bq} {zs:Array Value} {e:TypeId} {fr:Nat×Nat} (hi:H.get i=some k) (hro:k.eL=false) (hr:ρ i=some (b,c)) (hz:w.heap[b]? =some (.cells zs e fr)):
  ∃cL:Env,cL.fz b=some zs/\(∀j,cL j=ρ j)/\cB ρ cL/\bf P B cL (H.drop i) w/\bO ρ H w cL (H.drop i) w:=by
 have hnf:ρ.fz b=none:=by
  cases oR:ρ.fz b with
  |none=>rfl
  |some A=>
   have:=(hH.fz b A oR).2 i k c hi hr;rw [hro]at this;cases this
 have hle:cB ρ ⟨ρ.at',fun q=>if q=b then some zs else ρ.fz q⟩:=⟨fun _ _ h=>h,fun q A h=>by
  show(if q=b then some zs else ρ.fz q)=some A;by_cases hq:q=b
  .subst hq;rw [hnf]at h;cases h
  .rw [if_neg hq];exact h⟩
 have key:∀j kk,(H.drop i).get j=some kk->j≠i/\H.get j=some kk:=fun j kk h=>by
  rw [ai.oP]at h;split at h
  .cases h
  .rename_i h2;exact⟨fun h=>h2 h.symm,h⟩
 refine⟨⟨ρ.at',fun q=>if q=b then some zs else ρ.fz q⟩,if_pos rfl,fun _=>rfl,hle,⟨fun j kk h=> ?_,fun i1 i2 k1 k2 bb c1 c2 g1 g2 g3 g4=>hH.inj i1 i2 k1 k2 bb c1 c2 (key _ _ g1).2 (key _ _ g2).2 g3 g4,fun j kk h=>hH.lt j kk (key j kk h).2,hH.base,fun bb A h=> ?_⟩,
  ⟨hle,fun _ _=>rfl,aG _,aG _,rfl,rfl,rfl,fun _ _ _=>rfl,fun q _ ⟨j,kk,cj,h1,h2,h3⟩=>⟨j,kk,cj,(key j kk h1).2,h2,h3⟩,fun q _ ⟨j,kk,cj,h1,h3⟩=>⟨j,kk,cj,(key j kk h1).2,h3⟩,fun bb A h=> ?_⟩⟩
 .obtain⟨bj,cj,o,e1,e2,e3,bU⟩:=hH.blk j kk (key j kk h).2;exact⟨bj,cj,o,e1,e2,e3.mono hle,bU⟩
 .have h:(if bb=b then some zs else ρ.fz bb)=some A:=h;by_cases hq:bb=b
  .subst hq;rw [if_pos rfl]at h;cases h;exact⟨⟨_,_,hz⟩,fun j kk c' g1 g2=>absurd (hH.inj j i kk k bb c' c (key j kk g1).2 hi g2 hr) (key j kk g1).1⟩
  .rw [if_neg hq]at h;exact⟨(hH.fz bb A h).1,fun j kk c' g1 g2=>(hH.fz bb A h).2 j kk c' (key j kk g1).2 g2⟩
 .have h:(if bb=b then some zs else ρ.fz bb)=some A:=h;by_cases hq:bb=b
  .subst hq;exact .inr (.inr ⟨i,k,c,hi,hro,hr⟩)
  .rw [if_neg hq]at h;exact .inl h
theorem afz (hH:bf P B ρ H w) {ty:av} {v v1:aa} {H1:ai} {x:Value} (h:(yj ty v H).gr=some (some (v1,H1))) (hd:Den ρ v x):∃cL:Env,cB ρ cL/\bf P B cL H1 w/\bO ρ H w cL H1 w/\Den cL v1 x:=by
 unfold yj at h;split at h
 .rename_i t e u i k len cap;split at h
  .rename_i hu;have hu:=ap hu;subst hu;cases hm:(Nat.beq len 0||bz e u (H.get i) (k+len-1))with
   |false=>rw [hm]at h;cases h
   |true=>
    rw [hm]at h;cases h;rcases hd.jv with⟨rfl,a,rfl⟩|⟨b,c,kc,g1,g2,g3,rfl⟩
    .rw [List.take_zero];by_cases hg:∃kk,H.get i=some kk/\kk.eL=false/\∃b c zs e fr,ρ i=some (b,c)/\w.heap[b]? =some (.cells zs e fr)
     .obtain⟨kk,q1,aO,b,c,zs,e',fr,bV,en⟩:=hg;obtain⟨cL,_,_,r1,r2,r3⟩:=FW hH q1 aO bV en;exact⟨cL,r1,r2,r3, .dW fun e=>by cases e⟩
     . -- the block is given up without being frozen
       have key:∀j kk,(H.drop i).get j=some kk->j≠i/\H.get j=some kk:=fun j kk h=>by
        rw [ai.oP]at h;split at h
        .cases h
        .rename_i h2;exact⟨fun h=>h2 h.symm,h⟩
       exact⟨ρ,cB.refl _,⟨fun j kk h=>hH.blk j kk (key j kk h).2,fun i1 i2 k1 k2 bb c1 c2 g1 g2 g3 g4=>hH.inj i1 i2 k1 k2 bb c1 c2 (key _ _ g1).2 (key _ _ g2).2 g3 g4,fun j kk h=>hH.lt j kk (key j kk h).2,hH.base,fun bb A h=>⟨(hH.fz bb A h).1,fun j kk c' g1 g2=>(hH.fz bb A h).2 j kk c' (key j kk g1).2 g2⟩⟩,
        ⟨cB.refl _,fun _ _=>rfl,aG _,aG _,rfl,rfl,rfl,fun _ _ _=>rfl,fun q _ ⟨j,kk,cj,h1,h2,h3⟩=>⟨j,kk,cj,(key j kk h1).2,h2,h3⟩,fun q _ ⟨j,kk,cj,h1,h3⟩=>⟨j,kk,cj,(key j kk h1).2,h3⟩,fun bb A h=> .inl h⟩, .dW fun e=>by cases e⟩
    .by_cases hl:len=0
     .subst hl;rw [List.take_zero];by_cases hg:∃kk,H.get i=some kk/\kk.eL=false/\∃b c zs e fr,ρ i=some (b,c)/\w.heap[b]? =some (.cells zs e fr)
      .obtain⟨kk,q1,aO,b,c,zs,e',fr,bV,en⟩:=hg;obtain⟨cL,_,_,r1,r2,r3⟩:=FW hH q1 aO bV en;exact⟨cL,r1,r2,r3, .dW fun e=>by cases e⟩
      .have key:∀j kk,(H.drop i).get j=some kk->j≠i/\H.get j=some kk:=fun j kk h=>by
        rw [ai.oP]at h;split at h
        .cases h
        .rename_i h2;exact⟨fun h=>h2 h.symm,h⟩
       exact⟨ρ,cB.refl _,⟨fun j kk h=>hH.blk j kk (key j kk h).2,fun i1 i2 k1 k2 bb c1 c2 g1 g2 g3 g4=>hH.inj i1 i2 k1 k2 bb c1 c2 (key _ _ g1).2 (key _ _ g2).2 g3 g4,fun j kk h=>hH.lt j kk (key j kk h).2,hH.base,fun bb A h=>⟨(hH.fz bb A h).1,fun j kk c' g1 g2=>(hH.fz bb A h).2 j kk c' (key j kk g1).2 g2⟩⟩,
        ⟨cB.refl _,fun _ _=>rfl,aG _,aG _,rfl,rfl,rfl,fun _ _ _=>rfl,fun q _ ⟨j,kk,cj,h1,h2,h3⟩=>⟨j,kk,cj,(key j kk h1).2,h2,h3⟩,fun q _ ⟨j,kk,cj,h1,h3⟩=>⟨j,kk,cj,(key j kk h1).2,h3⟩,fun bb A h=> .inl h⟩, .dW fun e=>by cases e⟩
     .rw [Bool.or_eq_true]at hm;have hm:=hm.resolve_left fun e=>hl (ac e)
      obtain⟨b1,b2⟩:=vp hm;obtain⟨zs,q1,aO,_⟩:=rA hH b1 g1;obtain⟨cL,f1,_,r1,r2,r3⟩:=FW hH b1 rfl g1 q1;refine⟨cL,r1,r2,r3, ?_⟩;generalize bM u (H.get i)=xs at b1 b2 aO ⊢;have hle2:k+len<=xs.length:=by omega
      have e1:(xs.drop k).take len=(xs.take (k+len)).drop k:=by rw [List.take_drop]
      have gG:=BJ (off:=0) (A:=zs.toList) (l:=k) (h:=k+len) (by simpa using aO) (by omega) hle2;rw [aw,<-e1]at gG;have hn:((xs.drop k).take len).length=len:=by simp;omega
      have gJ:=Den.bh (ρ:=cL) (z:=false) (t:=u) (xs:=(xs.drop k).take len) (b:=b) (off:=k*u.size) (k:=kc) (A:=zs) f1 (by
       have e3:(u.flat xs).length<=zs.toList.length:=by
        have:=aO.length;simp at this ⊢;omega
       rw [u.ig]at e3 ⊢;rw [hn,<-Nat.add_mul];have:=cX (Nat.mul_le_mul_right u.size hle2) e3;simpa using this) rfl (gG.mono r1) (by omega) (fun e=>by cases e)
      rwa [hn]at gJ
  .cases h
 .rename_i t i off n cap;split at h
  .rename_i e cs x hg;split at h
   .rename_i ds hrd;cases hm:Nat.ble (off+n*t.size) cs.length with
    |false=>rw [hm]at h;cases h
    |true=>
     rw [hm]at h;cases h;have hle:=bS hm;obtain⟨b,c,k,g1,_,g3,rfl⟩:=hd.ic;obtain⟨zs,xE,q1,_,bV,_,_,qs⟩:=mq hH hg g1;obtain⟨cL,f1,_,r1,r2,r3⟩:=FW hH hg rfl g1 q1;refine⟨cL,r1,r2,r3, ?_⟩;have hcut:=(bV.drop off).take (n*t.size);obtain⟨mI,hn⟩:=av.BF hrd hcut;subst hn;have hfl:=t.ig ds;have e2:((zs.toList.take cs.length).drop off).take (ds.length*t.size)=(zs.toList.drop off).take (t.flat ds).length:=by
      rw [hfl,List.drop_take,List.take_take,Nat.min_eq_left (by omega)]
     rw [e2]at mI;exact .bh f1 (by rw [hfl];omega) rfl (mI.mono r1) g3 fun e=>by cases e
   .cases h
  .cases h
 .cases h;exact⟨ρ,cB.refl _,hH,bO.refl _ _ _,hd⟩
theorem Sw:∀{ts:List av} {vs ou:List aa} {ρ:Env} {H H1:ai} {xs:List Value},bf P B ρ H w->(r5 ts vs H).gr=some (some (ou,H1))->aF ρ vs xs->∃cL:Env,cB ρ cL/\bf P B cL H1 w/\bO ρ H w cL H1 w/\aF cL ou xs
 |[],vs,ou,ρ,H,H1,xs,hH,h,hd=>by
  cases h;exact⟨ρ,cB.refl _,hH,bO.refl _ _ _,hd⟩
 |t::ts,[],ou,ρ,H,H1,xs,hH,h,hd=>by
  cases h;exact⟨ρ,cB.refl _,hH,bO.refl _ _ _,hd⟩
 |t::ts,v::vs,ou,ρ,H,H1,_,hH,h, .cons d1 d2=>by
  unfold r5 at h;rw [aC.qo]at h;cases h1:(yj t v H).gr with
  |none=>rw [h1]at h;cases h
  |some r=>
   rw [h1]at h;cases r with
   |none=>cases h
   |some r=>
    obtain⟨v1,H2⟩:=r;simp only [Option.bind_some]at h;rw [aC.qo]at h;cases h2:(r5 ts vs H2).gr with
    |none=>rw [h2]at h;cases h
    |some r2=>
     rw [h2]at h;cases r2 with
     |none=>cases h
     |some r2=>
      obtain⟨Sy,H3⟩:=r2;cases h;obtain⟨cL,l1,a1,s1,e1⟩:=afz hH h1 d1;obtain⟨dX,l2,a2,s2,e2⟩:=Sw a1 h2 (d2.mono l1);exact⟨dX,l1.trans l2,a2,s1.trans s2, .cons (e1.mono l2) e2⟩
theorem afA {ty:av} {v v1:aa} {H1:ai} (h:(yj ty v H).gr=some (some (v1,H1))):H1.next=H.next:=by
 unfold yj at h;split at h
 .split at h
  .rename_i e u i k len _ _ _;cases hm:(Nat.beq len 0||bz e _ (H.get i) (k+len-1))with
   |false=>rw [hm]at h;cases h
   |true=>rw [hm]at h;cases h;rfl
  .cases h
 .split at h
  .split at h
   .unfold aC.gr at h;generalize Nat.ble _ _=bb at h;cases bb with
    |false=>cases h
    |true=>cases h;rfl
   .cases h
  .cases h
 .cases h;rfl
theorem Sz:∀{ts:List av} {vs ou:List aa} {H H1:ai},(r5 ts vs H).gr=some (some (ou,H1))->H1.next=H.next
 |[],vs,ou,H,H1,h=>by cases h;rfl
 |t::ts,[],ou,H,H1,h=>by cases h;rfl
 |t::ts,v::vs,ou,H,H1,h=>by
  unfold r5 at h;rw [aC.qo]at h;cases h1:(yj t v H).gr with
  |none=>rw [h1]at h;cases h
  |some r=>
   rw [h1]at h;cases r with
   |none=>cases h
   |some r=>
    obtain⟨v1,H2⟩:=r;simp only [Option.bind_some]at h;rw [aC.qo]at h;cases h2:(r5 ts vs H2).gr with
    |none=>rw [h2]at h;cases h
    |some r2=>
     rw [h2]at h;cases r2 with
     |none=>cases h
     |some r2=>
      obtain⟨Sy,H3⟩:=r2;cases h;rw [Sz h2,afA h1]
theorem SA {c:bp} {args:List aa} {v:aa} {H':ai} (h:(FV c args H).gr=some (.ok v H')):∃args1,(r5 c.ps args H).gr=some (some (args1,H'))/\(xX c args1 H').gr=some (.ok v H'):=by
 unfold FV at h;rw [aC.qo]at h;cases h1:(r5 c.ps args H).gr with
 |none=>rw [h1]at h;cases h
 |some r=>
  rw [h1]at h;cases r with
  |none=>cases h
  |some r=>
   obtain⟨a1,H1⟩:=r;have h:(xX c a1 H1).gr=some (.ok v H'):=h;have e:=J4 h;subst e;exact⟨a1,rfl,h⟩
theorem Lj {bw:bI} {f:FuncId} {args:List aa} {v:aa} {H':ai}:∀{l:List bp},(ov l bw f args H).gr=some (.ok v H')->(∃c∈l,c.f=f/\(FV c args H).gr=some (.ok v H'))\/(bw f args H).gr=some (.ok v H')
 |[],h=> .inr h
 |c::l,h=>by
  unfold ov at h;cases hb:Nat.beq f c.f with
  |true=>simp only [hb]at h;exact .inl ⟨c,kK,(ac hb).symm,h⟩
  |false=>
   simp only [hb]at h;rcases Lj h with⟨c',h1,h2⟩|h1
   .exact .inl ⟨c',j8 _ h1,h2⟩
   .exact .inr h1
theorem uk {l:List bp} {bw:bI} (hl:∀c∈l,c.Ok P) (hS:bD P (bG bw)):bD P (bG (ov l bw)) where
 mono f args H v H' h:=by
  rcases Lj (rO h)with⟨c,_,_,h3⟩|h3
  .obtain⟨a1,g1,_⟩:=SA h3;rw [Sz g1];exact aG _
  .exact hS.mono f args H v H' (by unfold bG;rw [h3];rfl)
 cy f args H v H' h B ρ xs w m hH cu hd hf:=by
  rcases Lj (rO h)with⟨c,h1,rfl,h3⟩|h3
  .obtain⟨a1,g1,g2⟩:=SA h3;obtain⟨cL,l1,a2,s1,e1⟩:=Sw hH g1 hd;refine(Rj (hl c h1) g2 m a2 (cu.mono l1) e1).mono ?_;rintro e w' ⟨x,ρ',rfl,q1,aO,bV⟩;exact⟨x,ρ',rfl,q1,aO,s1.trans bV⟩
  .exact hS.cy f args H v H' (by unfold bG;rw [h3];rfl) B ρ xs w m hH cu hd hf
end
end
end Go.Proofs.YtibikmmdbdlafaaGreatDoor.Sv
namespace Go.Proofs.YtibikmmdbdlafaaGreatDoor
open Go.RowKit Sv Go.Proofs.Tryz
noncomputable section
noncomputable def fR:Code:=(f178.body).getD .skip
noncomputable def kB:bI:=Cv [FN] (v6 [rY] (ov [Fk] (aR [KE,K6,K5])))
abbrev CS:List Nat:=[1,1,0,1,0]
abbrev Ll:List Nat:=[1,1,0,1,0,1,1,0,1,0,0]
abbrev FX:List Nat:=[1,1,1,1,1,1,1,1,0,1,0,0]
abbrev FY:List Nat:=[1,1,1,1,1,1,1,1,1,0,1,0,0]
abbrev Lm (j:Nat) (l:List Int):aa:= .bR 167 aD j 0 l.length .full
abbrev Ln (l:List Int):fG:= .blk (.own 167 aD l)
def r6 (a b:List Int):bC:={n:=137,sl:=[(0,bE a),(1,bE b),(23,bv ((b.length:Int)==1))],bF:=[],next:=64}
def qP (a b q:List Int) (r:Int) (k:Nat):bC:={n:=137,sl:=[(0,bE a),(1,bE b),(6,qA 64 q),(7,cr r),(8,iv ((k:Int)-1))],bF:=[(64,qC q)],next:=65}
def Lo (a b q:List Int) (r:Int) (k:Nat):bC:={n:=137,sl:=[(0,bE a),(1,bE b),(6,qA 64 q),(7,cr r),(8,iv ((k:Int)-1-1))],bF:=[(64,qC q)],next:=65}
def k4 (a v u q:List Int) (s:Int) (k:Nat):bC:={n:=137,sl:=[(0,bE a),(9,iv s),(10,bE v),(11,Lm 64 u),(12,iv v.length),(13,qA 65 q),(14,iv ((k:Int)-1))],bF:=[(64,Ln u),(65,qC q)],next:=66}
def Aw (a v u q:List Int) (s:Int) (k:Nat):bC:={n:=137,sl:=[(0,bE a),(9,iv s),(10,bE v),(11,Lm 64 u),(12,iv v.length),(13,qA 65 q),(14,iv ((k:Int)-1-1))],bF:=[(64,Ln u),(65,qC q)],next:=66}
def jF (n:Nat) (u q:List Int) (s:Int) (i:Nat):bC:={n:=137,sl:=[(9,iv s),(11,Lm 64 u),(12,iv n),(13,qA 65 q),(96,iv n),(97,iv i)],bF:=[(64,Ln u),(65,qC q)],next:=66}
abbrev yl:Sv.Ren:=[(64,64,none),(65,65,none)]
def Lp (a v:List Int) (s:Int):bC:={n:=137,sl:=[(0,bE a),(9,iv s),(10,bE v)],bF:=[],next:=64}
def afB (a b:List Int) (h1:(mO a b)=true) (h2:kV (aj a) (aj b)<0):
  bu kB (fl fR []) 3 137 [bE a,bE b] 3 f178 false (.tuple [bE [],bE a]):=
 wy [af h1,ah h2] 129
def afC (a b:List Int) (h1:(mO a b)=true) (h2:¬kV (aj a) (aj b)<0):
  cO kB (fl fR []) 4 137 [bE a,bE b] 2 .normal [] (r6 a b):=
 wy [af h1,aA h2] 129
def afD (a b:List Int) (h1:a.length<=1000000) (h2: -9223372036854775808<=(a.length:Int)-1/\(a.length:Int)-1<=9223372036854775807) (h3:a.length=(cG a.length).length) (h4:(bJ (cG a.length).length)=(bJ a.length)) (h5:(List.flatten (List.replicate a.length (List.map aa.raw (Array.toList #[Value.int .u64 (0:Int)]))))=(List.flatMap (fun x=>[aa.raw (Value.int .u64 x)]) (cG a.length))):
  aC.path (tP prog kB (fl fR CS) 3 (r6 a b)) (dl 1) (dP prog 137 .normal [(64,64,some a.length)] (qP a b (cG a.length) 0 a.length)):=
 mp (Fc rt rt (show(decide (a.length<=a.length))=true from ax (by omega)) (og (show(bounded a.length (8:Nat))=true from o6 h1 (by omega)) (br h2) (rr a) (rr b) (an h3 (an (rr (aZ.known a.length)) h4)) (rr (0:Int)) (rr ((a.length:Int)-1)) (an h5 h3) trivial))
def afE (a b q:List Int) (r:Int) (k:Nat) (h1:(k:Int)-1>=0) (h2:0<=(k:Int)-1) (h3:((k:Int)-1).toNat<a.length) (h4:Int.toNat 0<b.length) (h5:(ud r (a.getD ((k:Int)-1).toNat 0) (b.getD (Int.toNat 0) 0))=true) (h6:((k:Int)-1).toNat<q.length) (h7:i6 ((k:Int)-1-1)) (h8:q.length=(q.set ((k:Int)-1).toNat (d9 r (a.getD ((k:Int)-1).toNat 0) (b.getD 0 0))).length) (h9:(bJ q.length)=(bJ (q.set ((k:Int)-1).toNat (d9 r (a.getD ((k:Int)-1).toNat 0) (b.getD 0 0))).length)) (h10:(ge r (a.getD ((k:Int)-1).toNat 0) (b.getD (Int.toNat 0) 0))=(ge r (a.getD ((k:Int)-1).toNat 0) (b.getD 0 0))) (h11:(q.set ((k:Int)-1).toNat (d9 r (a.getD ((k:Int)-1).toNat 0) (b.getD (Int.toNat 0) 0)))=(q.set ((k:Int)-1).toNat (d9 r (a.getD ((k:Int)-1).toNat 0) (b.getD 0 0)))):
  bg kB (fl fR Ll) (qP a b q r k) 3 .normal j4 (Lo a b (q.set ((k:Int)-1).toNat (d9 r (a.getD ((k:Int)-1).toNat 0) (b.getD 0 0))) (ge r (a.getD ((k:Int)-1).toNat 0) (b.getD 0 0)) k):=
 wy [ah h1,ah h2,ah h3,af (aV (v:=aa.raw (Value.int IntKind.u64 (a.getD ((k:Int)-(1:Int)).toNat (0:Int))))),ah h4,af (aV (v:=aa.raw (Value.int IntKind.u64 (b.getD (0:Int).toNat (0:Int))))),af h5,ah h6,jd 167 aD h6,yi h7,az h8,az h9,az h10,mJ 167 aD h11] 290835506264453566828585601305948289
def afF (a b q:List Int) (r:Int) (k:Nat) (h1:¬(k:Int)-1>=0):
  bg kB (fl fR Ll) (qP a b q r k) 2 (.exit 0) j4 (qP a b q r k):=
 wy [aA h1] 1
def afG (a b q:List Int) (r:Int) (k:Nat) (h1:(Nat.beq q.length 0||bz 167 aD (ba 167 aD q) (q.length-1))=true) (h2:((q.drop 0).take q.length).length<=1000000) (h3:1*1<=(aa.raw (Value.int .u64 r)::List.append._f [] PUnit.unit (List.flatten._f [] PUnit.unit)).length) (h4:List.length [r]<=1000000) (h5:(dL ((q.drop 0).take q.length))=(dL q)):
  bH kB ((fl fR CS).drop 4) (qP a b q r k) 1 f178 false (.tuple [bE (dL q),bE (dL [r])]):=
 wy [af (show(Nat.beq q.length (0:Nat)||bz 167 aD (ba 167 aD q) ((0:Nat)+q.length-(1:Nat)))=true from(by simp only [aw]<;>exact h1)),af (show(decide ((((bM aD (ba 167 aD q)).drop (0:Nat)).take q.length).length<=(1000000:Nat)))=true from(by simp only [ew]<;>exact ax h2)),af (show(Nat.ble ((0:Nat)+(1:Nat)*(1:Nat)) (aa.raw (Value.int IntKind.u64 r)::List.append._f [] PUnit.unit (List.flatten._f [] PUnit.unit)).length)=true from(by simp only [aw]<;>exact fo h3)),ah h4,az (show(dL (((bM aD (ba 167 aD q)).drop (0:Nat)).take q.length))=(dL q)from(by simp only [ew]<;>exact h5))] 84947073
def afH (a b:List Int) (h1:¬(b.length:Int)=1):
  dD kB ((fl fR []).drop 4) 1 (r6 a b) 2 .normal [] (r6 a b):=
 wy [yn h1] 1
def afI (a b v:List Int) (s:Int) (h1:i6 ((b.length:Int)-1)) (h2:0<=(b.length:Int)-1) (h3:((b.length:Int)-1).toNat<b.length) (h4:(rV (b.getD ((b.length:Int)-1).toNat 0))=true) (h5:(ye b (dM (b.getD ((b.length:Int)-1).toNat 0)))=true) (h6:(Nat.beq (cH b (dM (b.getD ((b.length:Int)-1).toNat 0))).length 0||bz (qw.e FN) aD (some (bq.own 167 aD (cH b (dM (b.getD ((b.length:Int)-1).toNat 0))))) ((cH b (dM (b.getD ((b.length:Int)-1).toNat 0))).length-1))=true) (h7:(((cH b (dM (b.getD ((b.length:Int)-1).toNat 0))).drop 0).take (cH b (dM (b.getD ((b.length:Int)-1).toNat 0))).length).length<=1000000) (h8:(dM (b.getD ((b.length:Int)-1).toNat 0))=(s)) (h9:(dL (((cH b (dM (b.getD ((b.length:Int)-1).toNat 0))).drop 0).take (cH b (dM (b.getD ((b.length:Int)-1).toNat 0))).length))=(v)):
  dD kB ((fl fR []).drop 5) 2 (r6 a b) 1 .normal [] (Lp a v s):=
 wy [yi h1,ah h2,ah h3,af h4,af h5,af (show(Nat.beq (cH b (dM (b.getD ((b.length:Int)-(1:Int)).toNat (0:Int)))).length (0:Nat)||bz (qw.e FN) aD (some (bq.own 167 aD (cH b (dM (b.getD ((b.length:Int)-(1:Int)).toNat (0:Int)))))) ((0:Nat)+(cH b (dM (b.getD ((b.length:Int)-(1:Int)).toNat (0:Int)))).length-(1:Nat)))=true from(by simp only [aw]<;>exact h6)),ah h7,az h8,az h9] 164381873962758273
def afJ (a v:List Int) (s:Int) (m:Nat) (h1:(ye a s)=true) (h2: -9223372036854775808<=(a.length:Int)-(v.length:Int)/\(a.length:Int)-(v.length:Int)<=9223372036854775807) (h3: -9223372036854775808<=(a.length:Int)-(v.length:Int)+1/\(a.length:Int)-(v.length:Int)+1<=9223372036854775807) (h4:(0:Int)<=(a.length:Int)-(v.length:Int)+1) (h5:((a.length:Int)-(v.length:Int)+1).toNat<=1000000) (h6:(cH a s).length=(cH a s).length) (h7:(((a.length:Int)-(v.length:Int)+1).toNat)=(cG m).length) (h8:(aZ.known ((a.length:Int)-(v.length:Int)+1).toNat)=(aZ.known m)) (h9:(bJ (cG m).length)=(bJ m)) (h10:((a.length:Int)-(v.length:Int))=((m:Int)-1)) (h11:(List.flatten (List.replicate ((a.length:Int)-(v.length:Int)+1).toNat (List.map aa.raw (Array.toList #[Value.int .u64 (0:Int)]))))=(List.flatMap (fun x=>[aa.raw (Value.int .u64 x)]) (cG m))) (h12:(m)=(cG m).length):
  aC.path (tP prog kB ((fl fR []).drop 7) 4 (Lp a v s)) (dl 1) (dP prog 137 .normal [(64,64,none),(65,65,some m)] (k4 a v (cH a s) (cG m) s m)):=
 mp (an h1 (og (br h2) (br h3) (ax h4) (ax h4) (show(decide (((a.length:Int)-(v.length:Int)+1).toNat<=((a.length:Int)-(v.length:Int)+1).toNat))=true from ax (by omega)) (show(bounded ((a.length:Int)-(v.length:Int)+1).toNat (8:Nat))=true from o6 h5 (by omega)) (br h2) (rr a) (og (rr s) (rr v) (an (rr (0:Nat)) (an h6 (rr (aZ.full)))) (rr (v.length:Int)) (an h7 (an h8 h9)) h10 (rr (cH a s)) (an h11 h12) trivial)))
def afK (a v u q:List Int) (s:Int) (k:Nat) (h1:(k:Int)-1>=0) (h2:i6 ((k:Int)-1+(v.length:Int))) (h3:i6 ((k:Int)-1+(v.length:Int)+1)) (h4:0<=(k:Int)-1) (h5:((k:Int)-1+(v.length:Int)+1).toNat<=u.length) (h6:((k:Int)-1).toNat=0) (h7:(bz (gK.e rY) (gK.t rY) (some (bq.own 167 aD u)) (((k:Int)-1+(v.length:Int)+1).toNat-1)&&Nat.ble 1 ((k:Int)-1+(v.length:Int)+1).toNat)=true) (h8:(we u 0 ((k:Int)-1+(v.length:Int)+1).toNat v)=true) (h9:((k:Int)-1).toNat<q.length) (h10:i6 ((k:Int)-1-1)) (h11:u.length=(gE u 0 ((k:Int)-1+(v.length:Int)+1).toNat v).length) (h12:q.length=(q.set ((k:Int)-1).toNat (jh u 0 ((k:Int)-1+(v.length:Int)+1).toNat v)).length) (dG:(bJ q.length)=(bJ (q.set ((k:Int)-1).toNat (jh u 0 ((k:Int)-1+(v.length:Int)+1).toNat v)).length)):
  bg kB (fl fR FX) (k4 a v u q s k) 7 .normal yl (Aw a v (gE u 0 (((k:Int)-1+v.length+1).toNat) v) (q.set ((k:Int)-1).toNat (jh u 0 (((k:Int)-1+v.length+1).toNat) v)) s k):=
 wy [ah h1,yi h2,yi h3,ah (by omega:(0:Int)<=(k:Int)-(1:Int)+(v.length:Int)+(1:Int)),ah h4,ah (by omega:((k:Int)-(1:Int)).toNat<=((k:Int)-(1:Int)+(v.length:Int)+(1:Int)).toNat),ah h5,af (abt h6),af (show(bz (gK.e rY) (gK.t rY) (some (bq.own 167 aD u)) ((0:Nat)+((k:Int)-(1:Int)+(v.length:Int)+(1:Int)).toNat-(1:Nat))&&Nat.ble (1:Nat) ((k:Int)-(1:Int)+(v.length:Int)+(1:Int)).toNat)=true from(by simp only [aw]<;>exact h7)),af h8,ah h9,jd 167 aD h9,yi h10,az h11,az h12,az dG,mJ 167 aD (Eq.refl (q.set ((k:Int)-(1:Int)).toNat (jh u (0:Nat) ((k:Int)-(1:Int)+(v.length:Int)+(1:Int)).toNat v)))] 1552851146518156587532186954369615219962099544193
def afL (a v u q:List Int) (s:Int) (k:Nat) (h1:(k:Int)-1>=0) (h2:i6 ((k:Int)-1+(v.length:Int))) (h3:i6 ((k:Int)-1+(v.length:Int)+1)) (h4:0<=(k:Int)-1) (h5:((k:Int)-1+(v.length:Int)+1).toNat<=u.length) (h6:(Nat.beq ((k:Int)-1).toNat 0)=false) (h7:((k:Int)-1).toNat<((k:Int)-1+(v.length:Int)+1).toNat) (h8:(bz (gK.e rY) (gK.t rY) (some (bq.own 167 aD u)) (((k:Int)-1).toNat+(((k:Int)-1+(v.length:Int)+1).toNat-Int.toNat ((k:Int)-1))-1)&&Nat.ble 1 (((k:Int)-1+(v.length:Int)+1).toNat-Int.toNat ((k:Int)-1)))=true) (h9:(we u ((k:Int)-1).toNat (((k:Int)-1+(v.length:Int)+1).toNat-Int.toNat ((k:Int)-1)) v)=true) (h10:((k:Int)-1).toNat<q.length) (h11:i6 ((k:Int)-1-1)) (h12:u.length=(gE u ((k:Int)-1).toNat (((k:Int)-1+(v.length:Int)+1).toNat-Int.toNat ((k:Int)-1)) v).length) (dG:q.length=(q.set ((k:Int)-1).toNat (jh u ((k:Int)-1).toNat (((k:Int)-1+(v.length:Int)+1).toNat-Int.toNat ((k:Int)-1)) v)).length) (gq:(bJ q.length)=(bJ (q.set ((k:Int)-1).toNat (jh u ((k:Int)-1).toNat (((k:Int)-1+(v.length:Int)+1).toNat-Int.toNat ((k:Int)-1)) v)).length)):
  bg kB (fl fR FX) (k4 a v u q s k) 13 .normal yl (Aw a v (gE u ((k:Int)-1).toNat ((((k:Int)-1+v.length+1).toNat)-((k:Int)-1).toNat) v) (q.set ((k:Int)-1).toNat (jh u ((k:Int)-1).toNat ((((k:Int)-1+v.length+1).toNat)-((k:Int)-1).toNat) v)) s k):=
 wy [ah h1,yi h2,yi h3,ah (by omega:(0:Int)<=(k:Int)-(1:Int)+(v.length:Int)+(1:Int)),ah h4,ah (by omega:((k:Int)-(1:Int)).toNat<=((k:Int)-(1:Int)+(v.length:Int)+(1:Int)).toNat),ah h5,af h6,ah h7,af (show(bz (gK.e rY) (gK.t rY) (some (bq.own 167 aD u)) ((0:Nat)+((k:Int)-(1:Int)).toNat+(((k:Int)-(1:Int)+(v.length:Int)+(1:Int)).toNat-Int.toNat ((k:Int)-(1:Int)))-(1:Nat))&&Nat.ble (1:Nat) (((k:Int)-(1:Int)+(v.length:Int)+(1:Int)).toNat-Int.toNat ((k:Int)-(1:Int))))=true from(by simp only [aw]<;>exact h8)),af (show(we u ((0:Nat)+((k:Int)-(1:Int)).toNat) (((k:Int)-(1:Int)+(v.length:Int)+(1:Int)).toNat-Int.toNat ((k:Int)-(1:Int))) v)=true from(by simp only [aw]<;>exact h9)),ah h10,jd 167 aD h10,yi h11,az h12,az dG,az gq,az (show(gE u ((0:Nat)+((k:Int)-(1:Int)).toNat) (((k:Int)-(1:Int)+(v.length:Int)+(1:Int)).toNat-Int.toNat ((k:Int)-(1:Int))) v)=(gE u ((k:Int)-(1:Int)).toNat (((k:Int)-(1:Int)+(v.length:Int)+(1:Int)).toNat-Int.toNat ((k:Int)-(1:Int))) v)from(by simp only [aw])),o5 prog 167 aD (show((bM aD (ba 167 aD q)).set ((0:Nat)+((k:Int)-(1:Int)).toNat) (jh u ((0:Nat)+((k:Int)-(1:Int)).toNat) (((k:Int)-(1:Int)+(v.length:Int)+(1:Int)).toNat-Int.toNat ((k:Int)-(1:Int))) v))=(q.set ((k:Int)-(1:Int)).toNat (jh u ((k:Int)-(1:Int)).toNat (((k:Int)-(1:Int)+(v.length:Int)+(1:Int)).toNat-Int.toNat ((k:Int)-(1:Int))) v))from(by simp only [ew,aw]<;>rfl))] 112718698467000873757520171089483947854851910676609
def afM (a v u q:List Int) (s:Int) (k:Nat) (h1:¬(k:Int)-1>=0):
  bg kB (fl fR FX) (k4 a v u q s k) 2 (.exit 2) yl (k4 a v u q s k):=
 wy [aA h1] 1
def afN (a v u q:List Int) (s:Int) (k:Nat):
  dD kB ((fl fR []).drop 12) 1 (k4 a v u q s k) 1 .normal yl (jF v.length u q s 0):=
 wy [] 0
def afO (n:Nat) (u q:List Int) (s:Int) (i:Nat) (h1:(i:Int)<(n:Int)) (h2:i<u.length) (h3:(bz 167 aD (some (bq.own 167 aD u)) i)=true) (h4:0<=s) (h5:s>0) (h6:i6 ((i:Int)+1)) (h7:(i:Int)+1<(u.length:Int)) (h8:(bz 167 aD (some (bq.own 167 aD (u.set i (Int.fdiv (u.getD i 0) ((2:Int)^min s.toNat 64))))) i)=true) (h9:((i:Int)+1).toNat<u.length) (h10:(bz 167 aD (some (bq.own 167 aD (u.set i (Int.fdiv (u.getD i 0) ((2:Int)^min s.toNat 64))))) ((i:Int)+1).toNat)=true) (h11:i6 (64-s)) (h12:0<=64-s) (dG:u.length=((u.set i (dy (u.getD i 0) s)).set i (eN ((u.set i (dy (u.getD i 0) s)).getD i 0) (fh ((u.set i (dy (u.getD i 0) s)).getD (i+1) 0) (64-s)))).length) (gq:((u.set i (Int.fdiv (u.getD i 0) ((2:Int)^min s.toNat 64))).set i (IntKind.wrap IntKind.u64 (↑(BitVec.toNat (BitVec.ofInt 64 ((u.set i (Int.fdiv (u.getD i 0) ((2:Int)^min s.toNat 64))).getD i 0)|||BitVec.ofInt 64 (IntKind.wrap IntKind.u64 ((u.set i (Int.fdiv (u.getD i 0) ((2:Int)^min s.toNat 64))).getD ((i:Int)+1).toNat 0*(2:Int)^min (64-s).toNat 64)))):Int)))=((u.set i (dy (u.getD i 0) s)).set i (eN ((u.set i (dy (u.getD i 0) s)).getD i 0) (fh ((u.set i (dy (u.getD i 0) s)).getD (i+1) 0) (64-s))))):
  bg kB (fl fR FY) (jF n u q s i) 511 .normal yl (jF n ((u.set i (dy (u.getD i 0) s)).set i (eN ((u.set i (dy (u.getD i 0) s)).getD i 0) (fh ((u.set i (dy (u.getD i 0) s)).getD (i+1) 0) (64-s)))) q s (i+1)):=
 wy [ah h1,ah h2,af (show(bz 167 aD (some (bq.own 167 aD u)) ((0:Nat)+i))=true from(by simp only [aw]<;>exact h3)),ah h4,af (aN (ax h5)),yi h6,ah h5,ah h7,af (show(bz 167 aD (some (bq.own 167 aD (u.set ((0:Nat)+i) (Int.fdiv (u.getD ((0:Nat)+i) (0:Int)) ((2:Int)^min s.toNat (64:Nat)))))) ((0:Nat)+i))=true from(by simp only [aw]<;>exact h8)),af (aV (v:=aa.raw (Value.int IntKind.u64 ((u.set ((0:Nat)+i) (Int.fdiv (u.getD ((0:Nat)+i) (0:Int)) ((2:Int)^min s.toNat (64:Nat)))).getD ((0:Nat)+i) (0:Int))))),ah h9,af (show(bz 167 aD (some (bq.own 167 aD (u.set ((0:Nat)+i) (Int.fdiv (u.getD ((0:Nat)+i) (0:Int)) ((2:Int)^min s.toNat (64:Nat)))))) ((0:Nat)+((i:Int)+(1:Int)).toNat))=true from(by simp only [aw]<;>exact h10)),af (aV (v:=aa.raw (Value.int IntKind.u64 ((u.set ((0:Nat)+i) (Int.fdiv (u.getD ((0:Nat)+i) (0:Int)) ((2:Int)^min s.toNat (64:Nat)))).getD ((0:Nat)+((i:Int)+(1:Int)).toNat) (0:Int))))),yi h11,ah h12,az dG,az (show((u.set ((0:Nat)+i) (Int.fdiv (u.getD ((0:Nat)+i) (0:Int)) ((2:Int)^min s.toNat (64:Nat)))).set ((0:Nat)+i) (IntKind.wrap IntKind.u64 (↑(BitVec.toNat (BitVec.ofInt (64:Nat) ((u.set ((0:Nat)+i) (Int.fdiv (u.getD ((0:Nat)+i) (0:Int)) ((2:Int)^min s.toNat (64:Nat)))).getD ((0:Nat)+i) (0:Int))|||BitVec.ofInt (64:Nat) (IntKind.wrap IntKind.u64 ((u.set ((0:Nat)+i) (Int.fdiv (u.getD ((0:Nat)+i) (0:Int)) ((2:Int)^min s.toNat (64:Nat)))).getD ((0:Nat)+((i:Int)+(1:Int)).toNat) (0:Int)*(2:Int)^min ((64:Int)-s).toNat (64:Nat))))):Int)))=((u.set i (dy (u.getD i (0:Int)) s)).set i (eN ((u.set i (dy (u.getD i (0:Int)) s)).getD i (0:Int)) (fh ((u.set i (dy (u.getD i (0:Int)) s)).getD (i+(1:Nat)) (0:Int)) ((64:Int)-s))))from(by simp only [aw]<;>exact gq))] 7873862068137527616914292518417608029408674204502519200453172716118206636105729
def afP (n:Nat) (u q:List Int) (s:Int) (i:Nat) (h1:(i:Int)<(n:Int)) (h2:i<u.length) (h3:(bz 167 aD (some (bq.own 167 aD u)) i)=true) (h4:0<=s) (h5:¬s>0) (h6:i6 ((i:Int)+1)) (h7:u.length=(u.set i (dy (u.getD i 0) s)).length) (h8:(u.set i (Int.fdiv (u.getD i 0) ((2:Int)^min s.toNat 64)))=(u.set i (dy (u.getD i 0) s))):
  bg kB (fl fR FY) (jF n u q s i) 257 .normal yl (jF n (u.set i (dy (u.getD i 0) s)) q s (i+1)):=
 wy [ah h1,ah h2,af (show(bz 167 aD (some (bq.own 167 aD u)) ((0:Nat)+i))=true from(by simp only [aw]<;>exact h3)),ah h4,af (aN (ab h5)),aA h5,yi h6,az h7,az (show(u.set ((0:Nat)+i) (Int.fdiv (u.getD ((0:Nat)+i) (0:Int)) ((2:Int)^min s.toNat (64:Nat))))=(u.set i (dy (u.getD i (0:Int)) s))from(by simp only [aw]<;>exact h8))] 822094670998635487646669403467073943717211283457
def afQ (n:Nat) (u q:List Int) (s:Int) (i:Nat) (h1:¬(i:Int)<(n:Int)):
  bg kB (fl fR FY) (jF n u q s i) 2 (.exit 4) yl (jF n u q s i):=
 wy [aA h1] 1
def afR (n:Nat) (u q:List Int) (s:Int) (i:Nat) (h1:(Nat.beq q.length 0||bz 167 aD (ba 167 aD q) (q.length-1))=true) (h2:((q.drop 0).take q.length).length<=1000000) (h3:n<=u.length) (h4:(Nat.beq n 0||bz 167 aD (some (bq.own 167 aD u)) (n-1))=true) (h5:((u.drop 0).take n).length<=1000000) (h6:(dL ((q.drop 0).take q.length))=(dL q)) (h7:(dL ((u.drop 0).take n))=(dL (u.take n))):
  bH kB ((fl fR []).drop 14) (jF n u q s i) 3 f178 false (.tuple [bE (dL q),bE (dL (u.take n))]):=
 wy [af (show(Nat.beq q.length (0:Nat)||bz 167 aD (ba 167 aD q) ((0:Nat)+q.length-(1:Nat)))=true from(by simp only [aw]<;>exact h1)),af (show(decide ((((bM aD (ba 167 aD q)).drop (0:Nat)).take q.length).length<=(1000000:Nat)))=true from(by simp only [ew]<;>exact ax h2)),ah h3,af (show(Nat.beq n (0:Nat)||bz 167 aD (some (bq.own 167 aD u)) ((0:Nat)+n-(1:Nat)))=true from(by simp only [aw]<;>exact h4)),ah h5,az (show(dL (((bM aD (ba 167 aD q)).drop (0:Nat)).take q.length))=(dL q)from(by simp only [ew]<;>exact h6)),az h7] 127811904587432065
def SB {X:Ext} {P:Program} {w0:World} {F:Sv.Env} {n:Nat} {T:aq aa} {H:ai} {Q:Exit->aq aa->ai->Prop} {l rest:List Code} {o:Operand} {x y:Code} (hl:l= .cond o x y::rest) (hb:gD (ck T o)= .mk true)
  (h:bd X P w0 F n (tO x) T H (hG (fun T H=>bd X P w0 F n rest T H Q) Q)):bd X P w0 F n l T H Q:=by
 subst hl;intro a w hs k;obtain⟨ρ,aQ,_⟩:=hs.ex;have hc:=xG aQ.T aQ.G o;rw [nF hb]at hc;exact wpIn_cond hc.b8 (vM h a w hs k)
def FZ:bD prog (bG kB):=by
 refine abN (fun c hc=> ?_) (Rv (fun c hc=> ?_) (uk (fun c hc=> ?_) (cY fun c hc=> ?_)))
 .rw [List.mem_singleton.1 hc];exact ae5
 .rw [List.mem_singleton.1 hc];exact afy
 .rw [List.mem_singleton.1 hc];exact tn
 .simp only [ep,j7,or_false]at hc;rcases hc with rfl |rfl |rfl
  .exact Ax
  .exact Sn
  .exact R8
def pI (a b:List Int):Bool:=mO a b&&(decide (1<=b.length)&&(decide (a.length<=300000)&&decide (b.length<=300000)))
def eT (a b:List Int):List Int:=cM 18446744073709551616 (aj a/aj b)
def cI (a b:List Int):List Int:=cM 18446744073709551616 (aj a%aj b)
noncomputable def Lq:bp:={f:=178,ps:=[.list false aD, .list false aD],rs:=[.list false aD, .list false aD],fresh:=false,pre:=fun d=>pI d.1 d.2.1,fn:=fun d=>(eT d.1 d.2.1,(cI d.1 d.2.1,()))}
abbrev Lr (q r:List Int):Exit->aq aa->ai->Prop:=fy prog false f178 (.tuple [bE q,bE r])
def SC {l:List Int} {k:Nat} (h:k=l.length):(Nat.beq l.length 0||bz 167 aD (ba 167 aD l) (k-1))=true:=by
 subst h;cases l with
 |nil=>rfl
 |cons x r=>rw [Ea];simp
def afS {a:List Int} {y:Int} (ha:aT 18446744073709551616 a) (hy:1<=y/\y<18446744073709551616) (hla:a.length<=300000) (w:World) (F:Sv.Env):
  aP prog w F 137 (fl fR CS) (r6 a [y]).T (r6 a [y]).H (fun e T H=>e= .ret/\Lr (eT a [y]) (cI a [y]) .ret T H):=by
 have hS:=FZ;refine dZ (s:=r6 a [y]) hS 3 (afD a [y] (by omega) (by omega) (gz _).symm (by rw [gz]) (x8 _)) ?_;refine aP.loop (ι:={x:List Int×Int×Nat//x.2.2<=a.length/\x.1.length=a.length/\aT 18446744073709551616 x.1/\(0<=x.2.1/\x.2.1<y)/\aj (a.drop x.2.2)=aj (x.1.drop x.2.2)*y+x.2.1}) (id:=0) (b:=cat fR Ll) (rest:=(fl fR CS).drop 4) (by kernel_rfl) (fun x=>qP a [y] x.1.1 x.1.2.1 x.1.2.2) (fun x=>x.1.2.2)
  ⟨(cG a.length,0,a.length),aG _,gz _,Ad _,⟨Int.le_refl 0,show(0:Int)<y by omega⟩,by
    show aj (a.drop a.length)=aj ((cG a.length).drop a.length)*y+0;rw [List.drop_length,List.drop_eq_nil_of_le (by rw [gz];exact aG _)];simp [aj,vl]⟩ (fun _=>rfl) ?_
 rintro⟨⟨q,r,k⟩,hk,hq,jl,hr,hv⟩;have hk:k<=a.length:=hk;have hq:q.length=a.length:=hq;have jl:aT 18446744073709551616 q:=jl;have hr:0<=r/\r<y:=hr;have hv:aj (a.drop k)=aj (q.drop k)*y+r:=hv;cases k with
 |zero=>
  refine bl (s:=qP a [y] q r 0) hS (afF a [y] q r 0 (by omega)) ?_;refine cw (cz ?_);rw [List.drop_zero,List.drop_zero]at hv;have e1:aj [y]=y:=Ae y;obtain⟨g1,g2⟩:=kd (U:=aj a) (V:=y) (t:=aj q) (by omega) (by omega) (by omega);have e2:eT a [y]=dL q:=by unfold eT;rw [e1,g1,lw jl]
  have e3:cI a [y]=dL [r]:=by
   unfold cI;rw [e1,g2,lw (KI (by omega)),Ae];congr 1;omega
  rw [e2,e3];have bU:(q.drop 0).take q.length=q:=by simp
  exact aP.jB (s:=qP a [y] q r 0) known mixed hS _ (afG a [y] q r 0 (SC rfl) (by rw [bU];omega) (aG 1) (by simp) (by rw [bU])) fun T H h=>⟨rfl,h⟩
 |succ j=>
  have ej:(((j+1:Nat):Int)-1).toNat=j:=by omega
  have haj:=ha.get (by decide) j;have hD:ud r (a.getD j 0) y=true:=by
   unfold ud;rw [pF.2 haj,pF.2 (by omega),ax hr.1,ax hr.2];rfl
  have tH:=Int.emod_add_mul_ediv (r*18446744073709551616+a.getD j 0) y;have hm0:=eG (r*18446744073709551616+a.getD j 0) (show y≠0 by omega);have pE:=e6 (r*18446744073709551616+a.getD j 0) (show 0<y by omega);have mK:0<=(r*18446744073709551616+a.getD j 0)/y:=Int.ediv_nonneg (by omega) (by omega);have hq1:(r*18446744073709551616+a.getD j 0)/y<18446744073709551616:=(Int.ediv_lt_iff_lt_mul (by omega)).2 (by
   have:(r+1)*18446744073709551616<=y*18446744073709551616:=ar (by omega) (by decide);rw [Int.mul_comm _ y];omega)
  refine bl (s:=qP a [y] q r (j+1)) hS (afE a [y] q r (j+1) (by omega) (by omega) (by omega) (by simp) (by rw [ej];exact hD) (by omega) (by omega) (by rw [b6]) (by rw [b6]) rfl rfl) ?_;rw [ej];have o7:(((j+1:Nat):Int)-1-1)=(j:Int)-1:=by omega
  refine⟨⟨(q.set j (d9 r (a.getD j 0) y),ge r (a.getD j 0) y,j),by show j<=_;omega,by show(q.set j _).length=_;rw [b6];exact hq,jl.set ⟨mK,hq1⟩,⟨hm0,pE⟩, ?_⟩,by show j<j+1;omega, ?_, ?_⟩
  .show aj (a.drop j)=aj ((q.set j (d9 r (a.getD j 0) y)).drop j)*y+ge r (a.getD j 0) y;unfold aj at hv ⊢;rw [ua (l:=a) (by omega),ua (l:=q.set j _) (by rw [b6];omega),vV (by omega),hv];have Ls:(q.set j (d9 r (a.getD j 0) y)).drop (j+1)=q.drop (j+1):=by rw [List.drop_set];rw [if_pos (by omega)]
   rw [Ls];unfold d9 ge;generalize vl 18446744073709551616 (q.drop (j+1))=z at*;generalize (r*18446744073709551616+a.getD j 0)/y=d at*;generalize (r*18446744073709551616+a.getD j 0)%y=e at*;grind
  .show(Lo a [y] _ _ (j+1)).T=(qP a [y] _ _ j).T;unfold Lo qP;rw [o7];rfl
  .rfl
end
end Go.Proofs.YtibikmmdbdlafaaGreatDoor
