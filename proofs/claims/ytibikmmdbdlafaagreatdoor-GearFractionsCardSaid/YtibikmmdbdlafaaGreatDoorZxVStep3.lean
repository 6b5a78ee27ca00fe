/- Package num: one step of the long division. -/
import Derived.Test.YtibikmmdbdlafaaGreatDoorZxVSh
import Derived.Test.YtibikmmdbdlafaaGreatDoorZxNI
set_option linter.unusedVariables false
set_option linter.unusedSimpArgs false
set_option maxRecDepth 100000
namespace Go.Proofs.YtibikmmdbdlafaaGreatDoor
open Go.RowKit Sv Go.Proofs.Tryz
noncomputable section
def tL (P:Program) (fn:Func) (e:TypeId) (t:au) (xs:List t.den) (res:aa):R->Prop
 | .ret T H []=>(match jD P fn T H with
   | .ok v _=>cz true H v res/\(match H.get 64 with
     |some (.own e' t' ys)=>gO (Nat.beq e e') (oO t' t ys xs)
     |_=>False)
   |_=>False)
 |_=>False
noncomputable def eZ:Code:=(f226.body).getD .skip
noncomputable def jn:bF:=a7 [E4,KK]
abbrev Af:List Nat:=[1,1,1,1,1,0,0,0]
abbrev Ft:List Nat:=[1,1,1,1,1,1,1,0,1,0,0]
abbrev Fu:List Nat:=[1,1,1,1,1,1,1,1,1,1,1,0,1,0,0]
abbrev x6 (v:List Int) (k:Nat) (cap:aS):aa:= .bN 167 aB 64 k (v.length+1) cap
abbrev Fv (xs:List Int):List (Nat×fy):=[(64, .blk (.own 167 aB xs))]
abbrev jS:Sv.Ren:=[(64,64,none)]
def fT (xs v:List Int) (k:Nat) (cap:aS) (q r o:Int):bC:={n:=186,sl:=[(0,x6 v k cap),(1,bE v),(5,iv v.length),(6,cl q),(7,cl r),(8,cl o)],bG:=Fv xs,next:=65}
def jT (xs v:List Int) (k:Nat) (cap:aS) (q c b:Int) (i:Nat):bC:={n:=186,sl:=[(0,x6 v k cap),(1,bE v),(5,iv v.length),(6,cl q),(11,cl b),(12,cl c),(104,iv v.length),(105,iv i)],bG:=Fv xs,next:=65}
def tM (xs v:List Int) (k:Nat) (cap:aS) (q b:Int):bC:={n:=186,sl:=[(0,x6 v k cap),(1,bE v),(5,iv v.length),(6,cl q),(11,cl b)],bG:=Fv xs,next:=65}
def j9 (xs v:List Int) (k:Nat) (cap:aS) (q c:Int) (i:Nat):bC:={n:=186,sl:=[(0,x6 v k cap),(1,bE v),(5,iv v.length),(6,cl q),(17,cl c),(156,iv v.length),(157,iv i)],bG:=Fv xs,next:=65}
def ke (q x c:Int):Int:=cU (cH q x) c 0
def qx (q x c:Int):Int:=IntKind.wrap .u64 (fj q x+dN (cH q x) c 0)
def o9 (q:Int):Int:=IntKind.wrap .u64 (q-1)
theorem afj (xs v:List Int) (k:Nat) (cap:aS) (h1:(bt 167 aB (some (bf.own 167 aB xs)) (k+v.length))=true) (h2:i6 ((v.length:Int)-1)) (h3:0<=(v.length:Int)-1) (h4:((v.length:Int)-1).toNat<v.length) (h5:xs.getD (k+v.length) 0>=v.getD ((v.length:Int)-1).toNat 0) (h6:(bt 167 aB (some (bf.own 167 aB xs)) (k+((v.length:Int)-1).toNat))=true) (h7:(↑(((xs.getD (k+((v.length:Int)-1).toNat) 0).toNat+(v.getD ((v.length:Int)-1).toNat 0).toNat+Int.toNat 0)%(2:Nat)^(64:Nat)):Int)=(cU (xs.getD (k+((v.length:Int)-1).toNat) 0) (v.getD ((v.length:Int)-1).toNat 0) 0)) (h8:(↑(((xs.getD (k+((v.length:Int)-1).toNat) 0).toNat+(v.getD ((v.length:Int)-1).toNat 0).toNat+Int.toNat 0)/(2:Nat)^(64:Nat)):Int)=(dN (xs.getD (k+((v.length:Int)-1).toNat) 0) (v.getD ((v.length:Int)-1).toNat 0) 0)):
  aA.path (hU prog jn 186 ((fl eZ []).take 6) (fG [x6 v k cap,bE v] .nil 0) (qd 167 aB xs)) (dl 3) (dX prog 186 .normal jS (fT xs v k cap 18446744073709551615 (cU (xs.getD (k+((v.length:Int)-1).toNat) 0) (v.getD ((v.length:Int)-1).toNat 0) 0) (dN (xs.getD (k+((v.length:Int)-1).toNat) 0) (v.getD ((v.length:Int)-1).toNat 0) 0))):=
 wy [ah (by omega:v.length<v.length+(1:Nat)),af h1,af (aW (v:=aa.raw (Value.int IntKind.u64 (xs.getD (k+v.length) (0:Int)))) (by kernel_rfl)),yi h2,ah h3,ah h4,af (aW (v:=aa.raw (Value.int IntKind.u64 (v.getD ((v.length:Int)-(1:Int)).toNat (0:Int)))) (by kernel_rfl)),ah h5,ah (by omega:((v.length:Int)-(1:Int)).toNat<v.length+(1:Nat)),af h6,af (aW (v:=aa.raw (Value.int IntKind.u64 (xs.getD (k+((v.length:Int)-(1:Int)).toNat) (0:Int)))) (by kernel_rfl)),ax h7,ax h8] 77094211369205276292351474339892351805825363746880
theorem afk (xs v:List Int) (k:Nat) (cap:aS) (h1:(bt 167 aB (some (bf.own 167 aB xs)) (k+v.length))=true) (h2:i6 ((v.length:Int)-1)) (h3:0<=(v.length:Int)-1) (h4:((v.length:Int)-1).toNat<v.length) (h5:¬xs.getD (k+v.length) 0>=v.getD ((v.length:Int)-1).toNat 0) (h6:(bt 167 aB (some (bf.own 167 aB xs)) (k+((v.length:Int)-1).toNat))=true) (h7:(tJ (xs.getD (k+v.length) 0) (xs.getD (k+((v.length:Int)-1).toNat) 0) (v.getD ((v.length:Int)-1).toNat 0))=true):
  aA.path (hU prog jn 186 ((fl eZ []).take 6) (fG [x6 v k cap,bE v] .nil 0) (qd 167 aB xs)) (dl 2) (dX prog 186 .normal jS (fT xs v k cap (dT (xs.getD (k+v.length) 0) (xs.getD (k+((v.length:Int)-1).toNat) 0) (v.getD ((v.length:Int)-1).toNat 0)) (n9 (xs.getD (k+v.length) 0) (xs.getD (k+((v.length:Int)-1).toNat) 0) (v.getD ((v.length:Int)-1).toNat 0)) 0)):=
 wy [ah (by omega:v.length<v.length+(1:Nat)),af h1,af (aW (v:=aa.raw (Value.int IntKind.u64 (xs.getD (k+v.length) (0:Int)))) (by kernel_rfl)),yi h2,ah h3,ah h4,af (aW (v:=aa.raw (Value.int IntKind.u64 (v.getD ((v.length:Int)-(1:Int)).toNat (0:Int)))) (by kernel_rfl)),aJ h5,ah (by omega:((v.length:Int)-(1:Int)).toNat<v.length+(1:Nat)),af h6,af (aW (v:=aa.raw (Value.int IntKind.u64 (xs.getD (k+((v.length:Int)-(1:Int)).toNat) (0:Int)))) (by kernel_rfl)),af h7] 17285195801427806826710116508223698747578130496
theorem afl (xs v:List Int) (k:Nat) (cap:aS) (q r o:Int) (h1:o=0) (h2:i6 ((v.length:Int)-2)) (h3:0<=(v.length:Int)-2) (h4:((v.length:Int)-2).toNat<v.length) (h5:(kQ q (v.getD ((v.length:Int)-2).toNat 0))=true) (h6:¬fj q (v.getD ((v.length:Int)-2).toNat 0)<r) (h7:fj q (v.getD ((v.length:Int)-2).toNat 0)=r) (h8:(bt 167 aB (some (bf.own 167 aB xs)) (k+((v.length:Int)-2).toNat))=true) (h9:cH q (v.getD ((v.length:Int)-2).toNat 0)<=xs.getD (k+((v.length:Int)-2).toNat) 0):
  bh jn (fl eZ Af) (fT xs v k cap q r o) 114687 (.exit 0) jS (fT xs v k cap q r o):=
 wy [c8 h1,yi h2,ah h3,ah h4,af h5,af (bx (ab h6)),af (aQ (fU.mpr h7)),ah (by omega:((v.length:Int)-(2:Int)).toNat<v.length+(1:Nat)),af h8,c8 h7,aJ h6,ah h9] 4242138250928964978126769479503194568536193
theorem afm (xs v:List Int) (k:Nat) (cap:aS) (q r o:Int) (h1:o=0) (h2:i6 ((v.length:Int)-2)) (h3:0<=(v.length:Int)-2) (h4:((v.length:Int)-2).toNat<v.length) (h5:(kQ q (v.getD ((v.length:Int)-2).toNat 0))=true) (h6:¬fj q (v.getD ((v.length:Int)-2).toNat 0)<r) (h7:fj q (v.getD ((v.length:Int)-2).toNat 0)=r) (h8:(bt 167 aB (some (bf.own 167 aB xs)) (k+((v.length:Int)-2).toNat))=true) (h9:¬cH q (v.getD ((v.length:Int)-2).toNat 0)<=xs.getD (k+((v.length:Int)-2).toNat) 0) (h10:i6 ((v.length:Int)-1)) (h11:0<=(v.length:Int)-1) (h12:((v.length:Int)-1).toNat<v.length) (dP:(IntKind.wrap IntKind.u64 (q-1))=(o9 q)) (gD:(↑((r.toNat+(v.getD ((v.length:Int)-1).toNat 0).toNat+Int.toNat 0)%(2:Nat)^(64:Nat)):Int)=(cU r (v.getD ((v.length:Int)-1).toNat 0) 0)) (iZ:(↑((r.toNat+(v.getD ((v.length:Int)-1).toNat 0).toNat+Int.toNat 0)/(2:Nat)^(64:Nat)):Int)=(dN r (v.getD ((v.length:Int)-1).toNat 0) 0)):
  bh jn (fl eZ Af) (fT xs v k cap q r o) 81919 .normal jS (fT xs v k cap (o9 q) (cU r (v.getD ((v.length:Int)-1).toNat 0) 0) (dN r (v.getD ((v.length:Int)-1).toNat 0) 0)):=
 wy [c8 h1,yi h2,ah h3,ah h4,af h5,af (bx (ab h6)),af (aQ (fU.mpr h7)),ah (by omega:((v.length:Int)-(2:Int)).toNat<v.length+(1:Nat)),af h8,c8 h7,aJ h6,aJ h9,yi h10,ah h11,ah h12,ax dP,ax gD,ax iZ] 469728077062457485352764315554227309838396813452327361610526849
theorem afn (xs v:List Int) (k:Nat) (cap:aS) (q r o:Int) (h1:o=0) (h2:i6 ((v.length:Int)-2)) (h3:0<=(v.length:Int)-2) (h4:((v.length:Int)-2).toNat<v.length) (h5:(kQ q (v.getD ((v.length:Int)-2).toNat 0))=true) (h6:¬fj q (v.getD ((v.length:Int)-2).toNat 0)<r) (h7:¬fj q (v.getD ((v.length:Int)-2).toNat 0)=r) (h8:i6 ((v.length:Int)-1)) (h9:0<=(v.length:Int)-1) (h10:((v.length:Int)-1).toNat<v.length) (h11:(IntKind.wrap IntKind.u64 (q-1))=(o9 q)) (h12:(↑((r.toNat+(v.getD ((v.length:Int)-1).toNat 0).toNat+Int.toNat 0)%(2:Nat)^(64:Nat)):Int)=(cU r (v.getD ((v.length:Int)-1).toNat 0) 0)) (dP:(↑((r.toNat+(v.getD ((v.length:Int)-1).toNat 0).toNat+Int.toNat 0)/(2:Nat)^(64:Nat)):Int)=(dN r (v.getD ((v.length:Int)-1).toNat 0) 0)):
  bh jn (fl eZ Af) (fT xs v k cap q r o) 69663 .normal jS (fT xs v k cap (o9 q) (cU r (v.getD ((v.length:Int)-1).toNat 0) 0) (dN r (v.getD ((v.length:Int)-1).toNat 0) 0)):=
 wy [c8 h1,yi h2,ah h3,ah h4,af h5,af (bx (ab h6)),af (aQ (fP.mpr h7)),yn h7,aJ h6,yi h8,ah h9,ah h10,ax h11,ax h12,ax dP] 23327530390001849591339075209156203297049197881947336833
theorem afo (xs v:List Int) (k:Nat) (cap:aS) (q r o:Int) (h1:o=0) (h2:i6 ((v.length:Int)-2)) (h3:0<=(v.length:Int)-2) (h4:((v.length:Int)-2).toNat<v.length) (h5:(kQ q (v.getD ((v.length:Int)-2).toNat 0))=true) (h6:fj q (v.getD ((v.length:Int)-2).toNat 0)<r):
  bh jn (fl eZ Af) (fT xs v k cap q r o) 449 (.exit 0) jS (fT xs v k cap q r o):=
 wy [c8 h1,yi h2,ah h3,ah h4,af h5,af (bx (az h6)),ah h6] 8180252580288409729
theorem afp (xs v:List Int) (k:Nat) (cap:aS) (q r o:Int) (h1:¬o=0):
  bh jn (fl eZ Af) (fT xs v k cap q r o) 2 (.exit 0) jS (fT xs v k cap q r o):=
 wy [yn h1] 1
theorem afq (xs v:List Int) (k:Nat) (cap:aS) (q r o:Int):
  en jn ((fl eZ []).drop 7) 2 (fT xs v k cap q r o) 1 .normal jS (jT xs v k cap q 0 0 0):=
 wy [] 0
theorem afr (xs v:List Int) (k:Nat) (cap:aS) (q c:Int) (i:Nat) (h1:(i:Int)<(v.length:Int)) (h2:i<v.length) (h3:(kQ q (v.getD i (0:Int)))=true) (h4:i<v.length+(1:Nat)) (h5:(bt 167 aB (some (bf.own 167 (.int .u64) xs)) (k+i))=true) (h6:i6 ((i:Int)+1)) (h7:(↑(if Int.toNat (xs.getD (k+i) (0:Int))<((cH q (v.getD i (0:Int))).toNat+c.toNat+(0:Int).toNat)%(2:Nat)^(64:Nat)+Int.toNat (0:Int)then(1:Nat)else(0:Nat)):Int)=(eo (xs.getD (k+i) (0:Int)) (ke q (v.getD i (0:Int)) c) (0:Int))) (h8:(IntKind.wrap IntKind.u64 (fj q (v.getD i (0:Int))+(↑(((cH q (v.getD i (0:Int))).toNat+c.toNat+(0:Int).toNat)/(2:Nat)^(64:Nat)):Int)))=(qx q (v.getD i (0:Int)) c)) (h9:(xs.set (k+i) (↑(((xs.getD (k+i) (0:Int)).toNat+(2:Nat)^(64:Nat)-((cH q (v.getD i (0:Int))).toNat+c.toNat+(0:Int).toNat)%(2:Nat)^(64:Nat)-Int.toNat (0:Int))%(2:Nat)^(64:Nat)):Int))=(xs.set (k+i) (c9 (xs.getD (k+i) (0:Int)) (ke q (v.getD i (0:Int)) c) (0:Int)))):
  bh jn (fl eZ Ft) (jT xs v k cap q c 0 i) 3 .normal jS (jT (xs.set (k+i) (c9 (xs.getD (k+i) 0) (ke q (v.getD i 0) c) 0)) v k cap q (qx q (v.getD i 0) c) (eo (xs.getD (k+i) 0) (ke q (v.getD i 0) c) 0) (i+1)):=
 wy [ah h1,ah h2,af h3,ah h4,af h5,yi h6,ax h7,ax h8,ax h9] 765637957214757616603839101145321316353
theorem afs (xs v:List Int) (k:Nat) (cap:aS) (q c:Int) (i:Nat) (h1:(bt 167 aB (some (bf.own 167 (.int .u64) xs)) (k+v.length))=true) (h2:(↑(if Int.toNat (xs.getD (k+v.length) (0:Int))<c.toNat+Int.toNat (0:Int)then(1:Nat)else(0:Nat)):Int)=(eo (xs.getD (k+v.length) (0:Int)) c (0:Int))) (h3:(xs.set (k+v.length) (↑(((xs.getD (k+v.length) (0:Int)).toNat+(2:Nat)^(64:Nat)-Int.toNat c-Int.toNat (0:Int))%(2:Nat)^(64:Nat)):Int))=(xs.set (k+v.length) (c9 (xs.getD (k+v.length) (0:Int)) c (0:Int)))):
  en jn ((fl eZ []).drop 10) 1 (jT xs v k cap q c 0 i) 1 .normal jS (tM (xs.set (k+v.length) (c9 (xs.getD (k+v.length) 0) c 0)) v k cap q (eo (xs.getD (k+v.length) 0) c 0)):=
 wy [ah (by omega:v.length<v.length+(1:Nat)),af h1,ax h2,ax h3] 1223092919063240274616384
theorem aft (xs v:List Int) (k:Nat) (cap:aS) (q:Int) (i:Nat) (h1:(i:Int)<(v.length:Int)) (h2:i<v.length+1) (h3:(bt 167 aB (some (bf.own 167 aB xs)) (k+i))=true) (h4:i<v.length) (h5:i6 ((i:Int)+1)) (h6:(↑(((xs.getD (k+i) 0).toNat+(v.getD i 0).toNat+Int.toNat 0)/(2:Nat)^(64:Nat)):Int)=(dN (xs.getD (k+i) 0) (v.getD i 0) 0)) (h7:(xs.set (k+i) (↑(((xs.getD (k+i) 0).toNat+(v.getD i 0).toNat+Int.toNat 0)%(2:Nat)^(64:Nat)):Int))=(xs.set (k+i) (cU (xs.getD (k+i) 0) (v.getD i 0) 0))):
  bh jn (fl eZ Fu) (j9 xs v k cap q 0 i) 3 .normal jS (j9 (xs.set (k+i) (cU (xs.getD (k+i) 0) (v.getD i 0) 0)) v k cap q (dN (xs.getD (k+i) 0) (v.getD i 0) 0) (i+1)):=
 wy [ah h1,ah h2,af h3,af (aW (v:=aa.raw (Value.int IntKind.u64 (xs.getD (k+i) (0:Int)))) (by kernel_rfl)),ah h4,af (aW (v:=aa.raw (Value.int IntKind.u64 (v.getD i (0:Int)))) (by kernel_rfl)),yi h5,ax h6,ax h7] 49000826990114611886490290308882841214977
theorem afu (xs v:List Int) (k:Nat) (cap:aS) (q c:Int) (i:Nat) (h1:(i:Int)<(v.length:Int)) (h2:i<v.length) (h3:(kQ q (v.getD i (0:Int)))=true) (h4:i<v.length+(1:Nat)) (h5:(bt 167 aB (some (bf.own 167 (.int .u64) xs)) (k+i))=true) (h6:i6 ((i:Int)+1)) (h7:(↑(if Int.toNat (xs.getD (k+i) (0:Int))<((cH q (v.getD i (0:Int))).toNat+c.toNat+(0:Int).toNat)%(2:Nat)^(64:Nat)+Int.toNat (1:Int)then(1:Nat)else(0:Nat)):Int)=(eo (xs.getD (k+i) (0:Int)) (ke q (v.getD i (0:Int)) c) (1:Int))) (h8:(IntKind.wrap IntKind.u64 (fj q (v.getD i (0:Int))+(↑(((cH q (v.getD i (0:Int))).toNat+c.toNat+(0:Int).toNat)/(2:Nat)^(64:Nat)):Int)))=(qx q (v.getD i (0:Int)) c)) (h9:(xs.set (k+i) (↑(((xs.getD (k+i) (0:Int)).toNat+(2:Nat)^(64:Nat)-((cH q (v.getD i (0:Int))).toNat+c.toNat+(0:Int).toNat)%(2:Nat)^(64:Nat)-Int.toNat (1:Int))%(2:Nat)^(64:Nat)):Int))=(xs.set (k+i) (c9 (xs.getD (k+i) (0:Int)) (ke q (v.getD i (0:Int)) c) (1:Int)))):
  bh jn (fl eZ Ft) (jT xs v k cap q c 1 i) 3 .normal jS (jT (xs.set (k+i) (c9 (xs.getD (k+i) 0) (ke q (v.getD i 0) c) 1)) v k cap q (qx q (v.getD i 0) c) (eo (xs.getD (k+i) 0) (ke q (v.getD i 0) c) 1) (i+1)):=
 wy [ah h1,ah h2,af h3,ah h4,af h5,yi h6,ax h7,ax h8,ax h9] 765637957214757616603839101145321316353
theorem afv (xs v:List Int) (k:Nat) (cap:aS) (q c:Int) (i:Nat) (h1:(bt 167 aB (some (bf.own 167 (.int .u64) xs)) (k+v.length))=true) (h2:(↑(if Int.toNat (xs.getD (k+v.length) (0:Int))<c.toNat+Int.toNat (1:Int)then(1:Nat)else(0:Nat)):Int)=(eo (xs.getD (k+v.length) (0:Int)) c (1:Int))) (h3:(xs.set (k+v.length) (↑(((xs.getD (k+v.length) (0:Int)).toNat+(2:Nat)^(64:Nat)-Int.toNat c-Int.toNat (1:Int))%(2:Nat)^(64:Nat)):Int))=(xs.set (k+v.length) (c9 (xs.getD (k+v.length) (0:Int)) c (1:Int)))):
  en jn ((fl eZ []).drop 10) 1 (jT xs v k cap q c 1 i) 1 .normal jS (tM (xs.set (k+v.length) (c9 (xs.getD (k+v.length) 0) c 1)) v k cap q (eo (xs.getD (k+v.length) 0) c 1)):=
 wy [ah (by omega:v.length<v.length+(1:Nat)),af h1,ax h2,ax h3] 1223092919063240274616384
theorem afw (xs v:List Int) (k:Nat) (cap:aS) (q:Int) (i:Nat) (h1:(i:Int)<(v.length:Int)) (h2:i<v.length+1) (h3:(bt 167 aB (some (bf.own 167 aB xs)) (k+i))=true) (h4:i<v.length) (h5:i6 ((i:Int)+1)) (h6:(↑(((xs.getD (k+i) 0).toNat+(v.getD i 0).toNat+Int.toNat 1)/(2:Nat)^(64:Nat)):Int)=(dN (xs.getD (k+i) 0) (v.getD i 0) 1)) (h7:(xs.set (k+i) (↑(((xs.getD (k+i) 0).toNat+(v.getD i 0).toNat+Int.toNat 1)%(2:Nat)^(64:Nat)):Int))=(xs.set (k+i) (cU (xs.getD (k+i) 0) (v.getD i 0) 1))):
  bh jn (fl eZ Fu) (j9 xs v k cap q 1 i) 3 .normal jS (j9 (xs.set (k+i) (cU (xs.getD (k+i) 0) (v.getD i 0) 1)) v k cap q (dN (xs.getD (k+i) 0) (v.getD i 0) 1) (i+1)):=
 wy [ah h1,ah h2,af h3,af (aW (v:=aa.raw (Value.int IntKind.u64 (xs.getD (k+i) (0:Int)))) (by kernel_rfl)),ah h4,af (aW (v:=aa.raw (Value.int IntKind.u64 (v.getD i (0:Int)))) (by kernel_rfl)),yi h5,ax h6,ax h7] 49000826990114611886490290308882841214977
theorem QP (xs v:List Int) (k:Nat) (cap:aS) (q c b:Int) (i:Nat) (h1:¬(i:Int)<(v.length:Int)):
  bh jn (fl eZ Ft) (jT xs v k cap q c b i) 2 (.exit 2) jS (jT xs v k cap q c b i):=
 wy [aJ h1] 1
theorem QQ (xs v:List Int) (k:Nat) (cap:aS) (q b:Int) (h1:b=0):
  aA.path (nV prog jn ((fl eZ []).drop 11) (tM xs v k cap q b)) (dl 3) (tL prog f226 167 aB xs (cl q)):=
 wy [c8 h1,oT (an (rr (q)) (rr (xs)))] 129
theorem afx (xs v:List Int) (k:Nat) (cap:aS) (q b:Int) (h1:¬b=0):
  en jn ((fl eZ []).drop 11) 4 (tM xs v k cap q b) 2 .normal jS (j9 xs v k cap q 0 0):=
 wy [yn h1] 1
theorem sd_end (xs v:List Int) (k:Nat) (cap:aS) (q c:Int) (i:Nat) (h1:¬(i:Int)<(v.length:Int)):
  bh jn (fl eZ Fu) (j9 xs v k cap q c i) 2 (.exit 4) jS (j9 xs v k cap q c i):=
 wy [aJ h1] 1
theorem afy (xs v:List Int) (k:Nat) (cap:aS) (q c:Int) (i:Nat) (h1:(bt 167 aB (some (bf.own 167 aB xs)) (k+v.length))=true) (h2:(IntKind.wrap IntKind.u64 (q-1))=(o9 q)):
  aA.path (nV prog jn ((fl eZ []).drop 16) (j9 xs v k cap q c i)) (dl 1) (tL prog f226 167 aB (xs.set (k+v.length) (IntKind.wrap .u64 (xs.getD (k+v.length) 0+c))) (cl (o9 q))):=
 wy [ah (by omega:v.length<v.length+(1:Nat)),af h1,oT (an h2 (rr (xs.set (k+v.length) (IntKind.wrap IntKind.u64 (xs.getD (k+v.length) (0:Int)+c)))))] 208322699328
def qy (xs:List Int) (k len:Nat):List Int:=(xs.drop k).take len
def ja (xs:List Int) (k len:Nat) (v:List Int):Int:=aj (qy xs k len)/aj v
def gf (xs:List Int) (k len:Nat) (v:List Int):List Int:=xs.take k++(fx 18446744073709551616 len (aj (qy xs k len)%aj v)++xs.drop (k+len))
def vH (xs:List Int) (k len:Nat) (v:List Int):Bool:=gA xs&&(gA v&&(decide (2<=v.length)&&(Nat.beq len (v.length+1)&&(decide (v.length<=1000000)&&(decide (9223372036854775808<=v.getD (v.length-1) 0)&&decide (aj (qy xs k len)<18446744073709551616*aj v))))))
noncomputable def rF:gz:={f:=226,e:=167,t:=aB,ps:=[.list false aB],rs:=[aB],pre:=fun xs k len d=>vH xs k len d.1,out:=fun xs k len d=>gf xs k len d.1,fn:=fun xs k len d=>(ja xs k len d.1,())}
theorem ob {p u s:List Int} {i:Nat} (hi:i<u.length):(p++(u++s)).getD (p.length+i) 0=u.getD i 0:=by
 simp only [ao];rw [List.getElem?_append_right (by omega),Nat.add_sub_cancel_left,List.getElem?_append_left hi]
theorem tN {p u s:List Int} {i:Nat} {x:Int} (hi:i<u.length):(p++(u++s)).set (p.length+i) x=p++(u.set i x++s):=by
 rw [List.set_append_right _ _ (by omega),Nat.add_sub_cancel_left,List.set_append_left _ _ hi]
theorem x7 {p u s:List Int} {i:Nat} (hi:i<u.length):bt 167 aB (some (.own 167 aB (p++(u++s)))) (p.length+i)=true:=by
 rw [wV];exact az (by rw [cG,cG];omega)
theorem aR.KO {X:Ext} {P:Program} {w0:World} {F:Sv.Env} {n:Nat} {T:av aa} {H:ai} {Q:Exit->av aa->ai->Prop} (hK:eW P) (hm:P.follows .mixedOrders=true) {bl:bF} (hS:bB P (bD bl)) {l:List Code} {fn:Func} {e:TypeId} {t:au} {xs:List t.den} {res:aa} (k:Nat) (D:List Bool) (h:(Sv.hU P bl n (l.take k) T H).path D (tL P fn e t xs res))
  (hq:∀T H,Cg P fn e t xs res .ret T H->Q .ret T H):a8 X P w0 F n l T H Q:=by
 obtain⟨r,h1,h2⟩:=aA.s9 _ _ h;have key:a8 X P w0 F n (l.take k) T H (gP (fun T H=>a8 X P w0 F n (l.drop k) T H Q) Q):=by
  refine aR.hU hK hm hS (nW:=tL P fn e t xs res) (fun r hr=> ?_) h1 h2;unfold tL at hr;split at hr
  .refine hq _ _ ?_;rename_i aL H';show(match jD P fn aL H' with | .ok v _=>cz true H' v res/\H'.get 64=some (.own e t xs)|_=>False)
   split at hr
   .obtain⟨g1,g2⟩:=hr;refine⟨g1, ?_⟩;split at g2
    .rename_i hg;obtain⟨k1,k2⟩:=iU g2;obtain⟨e1,rfl⟩:=zJ k2;subst e1;rw [hg,ac k1]
    .exact g2.elim
   .exact hr.elim
  .exact hr.elim
 have:=aR.split key;rwa [List.take_append_drop]at this
theorem KP:bB prog (bD jn):=cR (aT ph (aT R4 dY))
theorem R6 {q x:Int}:fj q x*18446744073709551616+cH q x=q*x:=by
 unfold fj cH;have:=Int.emod_add_mul_ediv (q*x) 18446744073709551616;omega
theorem R7 {q x:Int} (hq:0<=q/\q<18446744073709551616) (hx:0<=x/\x<18446744073709551616):(0<=fj q x/\fj q x<18446744073709551616)/\(0<=cH q x/\cH q x<18446744073709551616):=by
 have h0:0<=q*x:=Int.mul_nonneg hq.1 hx.1;have h1:q*x<=18446744073709551615*18446744073709551615:=Int.mul_le_mul (by omega) (by omega) hx.1 (by decide);unfold fj cH;omega
theorem afz {q x c:Int} (hq:0<=q/\q<18446744073709551616) (hx:0<=x/\x<18446744073709551616) (hc:0<=c/\c<18446744073709551616):
  qx q x c*18446744073709551616+ke q x c=q*x+c/\(0<=ke q x c/\ke q x c<18446744073709551616)/\(0<=qx q x c/\qx q x c<18446744073709551616):=by
 have h0:0<=q*x:=Int.mul_nonneg hq.1 hx.1;have h1:q*x<=18446744073709551615*18446744073709551615:=Int.mul_le_mul (by omega) (by omega) hx.1 (by decide);obtain⟨_,hlo⟩:=R7 hq hx;have hs:=R6 (q:=q) (x:=x);have hA:cU (cH q x) c 0+18446744073709551616*dN (cH q x) c 0=cH q x+c/\(0<=cU (cH q x) c 0/\cU (cH q x) c 0<18446744073709551616)/\(dN (cH q x) c 0=0\/dN (cH q x) c 0=1):=by
  have:=Cv hlo hc (.inl rfl);omega
 unfold qx ke;rw [fA (x:=fj q x+dN (cH q x) c 0) (by omega)];omega
structure Fw (V U q:Int):Prop where
 KQ:0<=q/\q<18446744073709551616
 hi:U/V<=q
 lo:(q-1)*V<=U
structure vI (v aG:List Int) (q:Int) (u:List Int) (c b:Int) (i:Nat):Prop where
 le:i<=v.length
 len:u.length=v.length+1
 dg:aP 18446744073709551616 u
 hc:0<=c/\c<18446744073709551616
 hb:b=0\/b=1
 same:∀j,i<=j->u.getD j 0=aG.getD j 0
 val:aj (u.take i)-18446744073709551616^i*b=aj (aG.take i)-q*aj (v.take i)+18446744073709551616^i*c
theorem vI.next {v aG u:List Int} {q c b:Int} {i:Nat} (I:vI v aG q u c b i) (hv:aP 18446744073709551616 v) (hq:0<=q/\q<18446744073709551616) (hi:i<v.length):
  vI v aG q (u.set i (c9 (u.getD i 0) (ke q (v.getD i 0) c) b)) (qx q (v.getD i 0) c) (eo (u.getD i 0) (ke q (v.getD i 0) c) b) (i+1):=by
 have vJ:=hv.get (by decide) i;have rG:=I.dg.get (by decide) i;obtain⟨h1,h2,h3⟩:=afz hq vJ I.hc;obtain⟨g1,g2,g3⟩:=Kc rG h2 I.hb;have hlen:=I.len;refine⟨hi,by rw [bY];exact hlen,I.dg.set g2,h3,g3,fun j hj=> ?_, ?_⟩
 .rw [oa,if_neg (by omega)];exact I.same j (by omega)
 .have hval:=I.val;unfold aj at hval ⊢;rw [xM (by omega),kJ aG,kJ v,Int.pow_succ,<-I.same i (aE _)];exact abu h1 g1 hval
structure vK (v aG:List Int) (u:List Int) (c:Int) (i:Nat):Prop where
 le:i<=v.length
 len:u.length=v.length+1
 dg:aP 18446744073709551616 u
 hc:c=0\/c=1
 same:∀j,i<=j->u.getD j 0=aG.getD j 0
 val:aj (u.take i)+18446744073709551616^i*c=aj (aG.take i)+aj (v.take i)
theorem vK.next {v aG u:List Int} {c:Int} {i:Nat} (I:vK v aG u c i) (hv:aP 18446744073709551616 v) (hi:i<v.length):
  vK v aG (u.set i (cU (u.getD i 0) (v.getD i 0) c)) (dN (u.getD i 0) (v.getD i 0) c) (i+1):=by
 have vJ:=hv.get (by decide) i;have rG:=I.dg.get (by decide) i;obtain⟨g1,g2,g3⟩:=Cv rG vJ I.hc;have hlen:=I.len;refine⟨hi,by rw [bY];exact hlen,I.dg.set g2,g3,fun j hj=> ?_, ?_⟩
 .rw [oa,if_neg (by omega)];exact I.same j (by omega)
 .have hval:=I.val;unfold aj at hval ⊢;rw [xM (by omega),kJ aG,kJ v,Int.pow_succ,<-I.same i (aE _)];exact J0 g1 hval
section
variable {v aG p s:List Int} {m:Nat} {q:Int}
theorem aP.R8 {u:List Int} {n:Nat} (h:aP 18446744073709551616 u) (hl:u.length=n+1):u=fx 18446744073709551616 (n+1) (aj u):=by
 have:=J1 (b:=18446744073709551616) (by decide) h;rw [hl]at this;exact this
theorem f7 {u:List Int} {n:Nat} (hl:u.length=n+1):aj u=aj (u.take n)+18446744073709551616^n*u.getD n 0:=by
 have:=lC (b:=18446744073709551616) (l:=u) (k:=n) (by omega);rw [ef (by omega)]at this;exact this
theorem vI.fin {u:List Int} {c b:Int} (I:vI v aG q u c b v.length) (fB:aG.length=v.length+1):
  aj (u.set v.length (c9 (u.getD v.length 0) c b))-18446744073709551616^(v.length+1)*eo (u.getD v.length 0) c b=aj aG-q*aj v/\aP 18446744073709551616 (u.set v.length (c9 (u.getD v.length 0) c b))/\(eo (u.getD v.length 0) c b=0\/eo (u.getD v.length 0) c b=1)/\(u.set v.length (c9 (u.getD v.length 0) c b)).length=v.length+1:=by
 have rG:=I.dg.get (by decide) v.length;obtain⟨g1,g2,g3⟩:=Kc rG I.hc I.hb;have hlen:=I.len;refine⟨?_,I.dg.set g2,g3,by rw [bY];exact hlen⟩;have hval:=I.val;rw [dA]at hval;rw [f7 (n:=v.length) (by rw [bY];exact hlen),zV,vn (by omega),f7 (u:=aG) fB,<-I.same v.length (aE _),Int.pow_succ];generalize aj (u.take v.length)=a at*;generalize aj (aG.take v.length)=a0 at*;generalize c9 (u.getD v.length 0) c b=d at*;generalize eo (u.getD v.length 0) c b=bb at*;generalize u.getD v.length 0=un at*;generalize (18446744073709551616:Int)^v.length=P at*;generalize q*aj v=aqQ at*;have:P*(d-18446744073709551616*bb)=P*(un-c-b):=by rw [g1]
 grind
theorem afA {U V:Int} (hV:0<V) (G:Fw V U q) (h:0<=U-q*V):U/V=q/\U%V=U-q*V:=by
 have h1:q<=U/V:=(Int.le_ediv_iff_mul_le hV).2 (by omega);have h2:=G.hi;have e:U/V=q:=by omega
 refine⟨e, ?_⟩;have:=Int.emod_add_mul_ediv U V;rw [e,Int.mul_comm]at this;omega
theorem afB {U V:Int} (hV:0<V) (G:Fw V U q) (h:U-q*V<0):U/V=q-1/\U%V=U-q*V+V:=by
 have h1:q-1<=U/V:=(Int.le_ediv_iff_mul_le hV).2 G.lo;have h2:U/V<q:=(Int.ediv_lt_iff_lt_mul hV).2 (by omega);have e:U/V=q-1:=by omega
 refine⟨e, ?_⟩;have:=Int.emod_add_mul_ediv U V;rw [e,Int.mul_comm,Int.sub_mul,Int.one_mul]at this;omega
theorem vK.fin {u1 u:List Int} {c:Int} {U R:Int} (I:vK v u1 u c v.length) (uP:u1.length=v.length+1) (Ag:aj u1=U+18446744073709551616^(v.length+1)) (hR:U+aj v=R) (tO:0<=R) (lu:R<18446744073709551616^v.length):
  u.set v.length (IntKind.wrap .u64 (u.getD v.length 0+c))=fx 18446744073709551616 (v.length+1) R:=by
 have rG:=I.dg.get (by decide) v.length;have hlen:=I.len;have hval:=I.val;rw [dA]at hval;rw [f7 uP,<-I.same v.length (aE _),Int.pow_succ]at Ag;have CG:=fK (b:=18446744073709551616) (by decide) (I.dg.take v.length);have ht1:=fC (b:=18446744073709551616) (by decide) (I.dg.take v.length);rw [dK,Nat.min_eq_left (by omega)]at ht1;have hP:=bc (b:=18446744073709551616) (by decide) v.length;have key:u.getD v.length 0+c=18446744073709551616/\aj (u.take v.length)=R:=by
  unfold aj at*;generalize vl 18446744073709551616 (u.take v.length)=a at*;generalize vl 18446744073709551616 (u1.take v.length)=a1 at*;generalize u.getD v.length 0=un at*;generalize (18446744073709551616:Int)^v.length=P at*;have e:P*(un+c-18446744073709551616)=R-a:=by grind
  have hz:un+c-18446744073709551616=0:=by
   rcases Int.lt_trichotomy (un+c-18446744073709551616) 0 with h|h|h
   .have:=dU (show un+c-18446744073709551616<= -1 by omega) (ck hP);omega
   .exact h
   .have:=dU (show 1<=un+c-18446744073709551616 by omega) (ck hP);omega
  rw [hz,Int.mul_zero]at e;omega
 rw [key.1];have hw:IntKind.wrap .u64 18446744073709551616=0:=by rw [dq];rfl
 rw [hw];have hd:aP 18446744073709551616 (u.set v.length 0):=I.dg.set (by decide);have:=hd.R8 (n:=v.length) (by rw [bY];exact hlen);rw [this];congr 1;rw [f7 (n:=v.length) (by rw [bY];exact hlen),zV,vn (by omega),Int.mul_zero,Int.add_zero];exact key.2
end
end
end Go.Proofs.YtibikmmdbdlafaaGreatDoor
/- The reference of chapter 1: divDigit, guess. -/
namespace Go.Proofs.YtibikmmdbdlafaaGreatDoor
open Go.RowKit Sv Go.Proofs.Tryz
noncomputable section
noncomputable def x8:Code:=(f183.body).getD .skip
noncomputable def qS:Code:=(f185.body).getD .skip
def qz (a:List Int) (d:Int) (out:List Int) (r:Int) (k:Nat):bC:={n:=39,sl:=[(0,lv a),(1,iv d),(6,mC 64 out),(7,iv r),(8,iv ((k:Int)-1))],bG:=[(64,mD out)],next:=65}
def KR (a:List Int) (d:Int) (out:List Int) (r:Int) (k:Nat):bC:={n:=39,sl:=[(0,lv a),(1,iv d),(6,mC 64 out),(7,iv r),(8,iv ((k:Int)-1-1))],bG:=[(64,mD out)],next:=65}
theorem afC (a:List Int) (d:Int) (h1:a.length<=1000000) (h2: -9223372036854775808<=(a.length:Int)-1/\(a.length:Int)-1<=9223372036854775807) (h3:a.length=(fS a.length).length) (h4:(bA (fS a.length).length)=(bA a.length)) (h5:(List.flatten (List.replicate a.length (List.map aa.raw (Array.toList #[Value.int .i64 (0:Int)]))))=(List.flatMap (fun x=>[iv x]) (fS a.length))):
  aA.path (oS prog gB (fl x8 []) 4 39 [lv a,iv d]) (dl 1) (dX prog 39 .normal [(64,64,some a.length)] (qz a d (fS a.length) 0 a.length)):=
 mp (EJ rt rt (show(decide (a.length<=a.length))=true from az (by omega)) (nY (show(bounded a.length (8:Nat))=true from oV h1 (by omega)) (bm h2) (rr a) (rr d) (an h3 (an (rr (aS.known a.length)) h4)) (rr (0:Int)) (rr ((a.length:Int)-1)) (an h5 h3) trivial))
theorem afD (a:List Int) (d:Int) (out:List Int) (r:Int) (k:Nat) (h1:(k:Int)-1>=0) (h2:i6 (r*1000000000)) (h3:0<=(k:Int)-1) (h4:((k:Int)-1).toNat<a.length) (h5:i6 (r*1000000000+a.getD ((k:Int)-1).toNat 0)) (h6:d≠0) (h7:i6 (Int.tdiv (r*1000000000+a.getD ((k:Int)-1).toNat 0) d)) (h8:((k:Int)-1).toNat<out.length) (h9:i6 ((k:Int)-1-1)) (h10:out.length=(out.set ((k:Int)-1).toNat (Int.tdiv (r*1000000000+a.getD ((k:Int)-1).toNat 0) d)).length) (h11:(bA out.length)=(bA (out.set ((k:Int)-1).toNat (Int.tdiv (r*1000000000+a.getD ((k:Int)-1).toNat 0) d)).length)):
  bh gB (fl x8 o4) (qz a d out r k) 3 .normal [(64,64,none)] (KR a d (out.set ((k:Int)-1).toNat (Int.tdiv (r*1000000000+a.getD ((k:Int)-1).toNat 0) d)) (Int.tmod (r*1000000000+a.getD ((k:Int)-1).toNat 0) d) k):=
 wy [ah h1,yi h2,ah h3,ah h4,yi h5,ah h6,yi h7,ah h8,iW 3 (.int .i64) h8,yi h9,ax h10,ax h11,mB 3 (.int .i64) (Eq.refl (out.set ((k:Int)-(1:Int)).toNat (Int.tdiv (r*(1000000000:Int)+a.getD ((k:Int)-(1:Int)).toNat (0:Int)) d)))] 270000400999102384946506999662653569
theorem afE (a:List Int) (d:Int) (out:List Int) (r:Int) (k:Nat) (h1:¬(k:Int)-1>=0):
  bh gB (fl x8 o4) (qz a d out r k) 2 (.exit 0) [(64,64,none)] (qz a d out r k):=
 wy [aJ h1] 1
theorem afF (a:List Int) (d:Int) (out:List Int) (r:Int) (k:Nat) (h1:(Nat.beq out.length 0||bt 3 (.int .i64) (bM 3 (.int .i64) out) (out.length-1))=true) (h2:((out.drop 0).take out.length).length<=1000000):
  bQ gB ((fl x8 []).drop 5) (qz a d out r k) 1 f183 false (.tuple [lv (ec ((out.drop 0).take out.length)),iv r]):=
 wy [af (show(Nat.beq out.length (0:Nat)||bt 3 (.int .i64) (bM 3 (.int .i64) out) ((0:Nat)+out.length-(1:Nat)))=true from(by simp only [aw]<;>exact h1)),af (show(decide ((((bI (.int .i64) (bM 3 (.int .i64) out)).drop (0:Nat)).take out.length).length<=(1000000:Nat)))=true from(by simp only [dI]<;>exact az h2)),ax (show(ec (((bI (.int .i64) (bM 3 (.int .i64) out)).drop (0:Nat)).take out.length))=(ec ((out.drop (0:Nat)).take out.length))from(by simp only [dI]<;>rfl))] 12417
abbrev vL (n:Nat) (cap:aS):aa:= .bN 3 (.int .i64) 64 0 n cap
abbrev afG (xs:List Int):List (Nat×fy):=[(64, .blk (.own 3 (.int .i64) xs))]
abbrev r64:Sv.Ren:=[(64,64,none)]
def jb (xs v:List Int) (j n:Nat) (cap:aS) (t r:Int):bC:={n:=77,sl:=[(0,vL n cap),(1,lv v),(2,iv j),(7,iv v.length),(9,iv t),(10,iv r)],bG:=afG xs,next:=65}
def fh (xs v:List Int) (j:Nat):Int:=xs.getD ((j:Int)+(v.length:Int)).toNat 0*1000000000+xs.getD ((j:Int)+(v.length:Int)-1).toNat 0
abbrev cI (v:List Int):Int:=v.getD ((v.length:Int)-1).toNat 0
abbrev nu (v:List Int):Int:=v.getD ((v.length:Int)-2).toNat 0
abbrev pg (xs v:List Int) (j:Nat):Int:=xs.getD ((j:Int)+(v.length:Int)-2).toNat 0
theorem afH (xs v:List Int) (j n:Nat) (cap:aS) (h1:i6 ((j:Int)+(v.length:Int))) (h2:((j:Int)+(v.length:Int)).toNat<n) (h3:(bt 3 (.int .i64) (some (bf.own 3 (.int .i64) xs)) ((j:Int)+(v.length:Int)).toNat)=true) (h4:i6 (xs.getD ((j:Int)+(v.length:Int)).toNat 0*1000000000)) (h5:i6 ((j:Int)+(v.length:Int)-1)) (h6:0<=(j:Int)+(v.length:Int)-1) (h7:((j:Int)+(v.length:Int)-1).toNat<n) (h8:(bt 3 (.int .i64) (some (bf.own 3 (.int .i64) xs)) ((j:Int)+(v.length:Int)-1).toNat)=true) (h9:i6 (xs.getD ((j:Int)+(v.length:Int)).toNat 0*1000000000+xs.getD ((j:Int)+(v.length:Int)-1).toNat 0)) (h10:i6 ((v.length:Int)-1)) (h11:0<=(v.length:Int)-1) (h12:((v.length:Int)-1).toNat<v.length) (dP:v.getD ((v.length:Int)-1).toNat 0≠0) (gD:i6 (Int.tdiv (xs.getD ((j:Int)+(v.length:Int)).toNat 0*1000000000+xs.getD ((j:Int)+(v.length:Int)-1).toNat 0) (v.getD ((v.length:Int)-1).toNat 0))) (iZ:(Int.tdiv (xs.getD ((j:Int)+(v.length:Int)).toNat 0*1000000000+xs.getD ((j:Int)+(v.length:Int)-1).toNat 0) (v.getD ((v.length:Int)-1).toNat 0))=(Int.tdiv (fh xs v j) (v.getD ((v.length:Int)-1).toNat 0))) (kW:(Int.tmod (xs.getD ((j:Int)+(v.length:Int)).toNat 0*1000000000+xs.getD ((j:Int)+(v.length:Int)-1).toNat 0) (v.getD ((v.length:Int)-1).toNat 0))=(Int.tmod (fh xs v j) (v.getD ((v.length:Int)-1).toNat 0))):
  aA.path (hU prog (a7 []) 77 ((fl qS []).take 4) (fG [vL n cap,lv v,iv j] .nil 0) (qd 3 (.int .i64) xs)) (dl 1) (dX prog 77 .normal r64 (jb xs v j n cap (Int.tdiv (fh xs v j) (cI v)) (Int.tmod (fh xs v j) (cI v)))):=
 wy [yi h1,ah h2,af (show(bt 3 (.int .i64) (some (bf.own 3 (.int .i64) xs)) ((0:Nat)+((j:Int)+(v.length:Int)).toNat))=true from(by simp only [aw]<;>exact h3)),af (aW (v:=iv (xs.getD ((0:Nat)+((j:Int)+(v.length:Int)).toNat) (0:Int))) (by kernel_rfl)),af (show(fits IntKind.i64 (xs.getD ((0:Nat)+((j:Int)+(v.length:Int)).toNat) (0:Int)*(1000000000:Int)))=true from(by simp only [aw]<;>exact bm h4)),yi h5,ah h6,ah h7,af (show(bt 3 (.int .i64) (some (bf.own 3 (.int .i64) xs)) ((0:Nat)+((j:Int)+(v.length:Int)-(1:Int)).toNat))=true from(by simp only [aw]<;>exact h8)),af (aW (v:=iv (xs.getD ((0:Nat)+((j:Int)+(v.length:Int)-(1:Int)).toNat) (0:Int))) (by kernel_rfl)),af (show(fits IntKind.i64 (xs.getD ((0:Nat)+((j:Int)+(v.length:Int)).toNat) (0:Int)*(1000000000:Int)+xs.getD ((0:Nat)+((j:Int)+(v.length:Int)-(1:Int)).toNat) (0:Int)))=true from(by simp only [aw]<;>exact bm h9)),yi h10,ah h11,ah h12,af (aW (v:=iv (v.getD ((v.length:Int)-(1:Int)).toNat (0:Int))) (by kernel_rfl)),ah dP,af (show(fits IntKind.i64 (Int.tdiv (xs.getD ((0:Nat)+((j:Int)+(v.length:Int)).toNat) (0:Int)*(1000000000:Int)+xs.getD ((0:Nat)+((j:Int)+(v.length:Int)-(1:Int)).toNat) (0:Int)) (v.getD ((v.length:Int)-(1:Int)).toNat (0:Int))))=true from(by simp only [aw]<;>exact bm gD)),ax (show(Int.tdiv (xs.getD ((0:Nat)+((j:Int)+(v.length:Int)).toNat) (0:Int)*(1000000000:Int)+xs.getD ((0:Nat)+((j:Int)+(v.length:Int)-(1:Int)).toNat) (0:Int)) (v.getD ((v.length:Int)-(1:Int)).toNat (0:Int)))=(Int.tdiv (fh xs v j) (v.getD ((v.length:Int)-(1:Int)).toNat (0:Int)))from(by simp only [aw]<;>exact iZ)),ax (show(Int.tmod (xs.getD ((0:Nat)+((j:Int)+(v.length:Int)).toNat) (0:Int)*(1000000000:Int)+xs.getD ((0:Nat)+((j:Int)+(v.length:Int)-(1:Int)).toNat) (0:Int)) (v.getD ((v.length:Int)-(1:Int)).toNat (0:Int)))=(Int.tmod (fh xs v j) (v.getD ((v.length:Int)-(1:Int)).toNat (0:Int)))from(by simp only [aw]<;>exact kW))] 7745943541467187237997735947277335306600882047791326166786049
abbrev Ah:List Nat:=[1,1,1,1,0,0,0]
theorem afI (xs v:List Int) (j n:Nat) (cap:aS) (t r:Int) (h1:t>=1000000000) (h2:i6 (t-1)) (h3:i6 ((v.length:Int)-1)) (h4:0<=(v.length:Int)-1) (h5:((v.length:Int)-1).toNat<v.length) (h6:i6 (r+v.getD ((v.length:Int)-1).toNat 0)) (h7:r+v.getD ((v.length:Int)-1).toNat 0>=1000000000):
  aA.path (nV prog (a7 []) (fl qS Ah) (jb xs v j n cap t r)) (dl 3932160) (tL prog f185 3 (.int .i64) xs (iv (t-1))):=
 wy [af (bx (az h1)),ah h1,yi h2,yi h3,ah h4,ah h5,yi h6,ah h7,oT (an (rr (t-(1:Int))) (rr (xs)))] 833670876018392705917515033473870691017842495553
theorem afJ (xs v:List Int) (j n:Nat) (cap:aS) (t r:Int) (h1:t>=1000000000) (h2:i6 (t-1)) (h3:i6 ((v.length:Int)-1)) (h4:0<=(v.length:Int)-1) (h5:((v.length:Int)-1).toNat<v.length) (h6:i6 (r+v.getD ((v.length:Int)-1).toNat 0)) (h7:¬r+v.getD ((v.length:Int)-1).toNat 0>=1000000000):
  bh (a7 []) (fl qS Ah) (jb xs v j n cap t r) 2883584 .normal r64 (jb xs v j n cap (t-1) (r+cI v)):=
 wy [af (bx (az h1)),ah h1,yi h2,yi h3,ah h4,ah h5,yi h6,aJ h7] 11576205019759814427942315070961492461380440129
theorem afK (xs v:List Int) (j n:Nat) (cap:aS) (t r:Int) (h1:¬t>=1000000000) (h2:i6 ((v.length:Int)-2)) (h3:0<=(v.length:Int)-2) (h4:((v.length:Int)-2).toNat<v.length) (h5:i6 (t*v.getD ((v.length:Int)-2).toNat 0)) (h6:i6 (r*1000000000)) (h7:i6 ((j:Int)+(v.length:Int))) (h8:i6 ((j:Int)+(v.length:Int)-2)) (h9:0<=(j:Int)+(v.length:Int)-2) (h10:((j:Int)+(v.length:Int)-2).toNat<n) (h11:(bt 3 (.int .i64) (some (bf.own 3 (.int .i64) xs)) ((j:Int)+(v.length:Int)-2).toNat)=true) (h12:i6 (r*1000000000+xs.getD ((j:Int)+(v.length:Int)-2).toNat 0)) (dP:t*v.getD ((v.length:Int)-2).toNat 0>r*1000000000+xs.getD ((j:Int)+(v.length:Int)-2).toNat 0) (gD:i6 (t-1)) (iZ:i6 ((v.length:Int)-1)) (kW:0<=(v.length:Int)-1) (tP:((v.length:Int)-1).toNat<v.length) (x9:i6 (r+v.getD ((v.length:Int)-1).toNat 0)) (h19:r+v.getD ((v.length:Int)-1).toNat 0>=1000000000):
  aA.path (nV prog (a7 []) (fl qS Ah) (jb xs v j n cap t r)) (dl 3932159) (tL prog f185 3 (.int .i64) xs (iv (t-1))):=
 wy [af (bx (ab h1)),yi h2,ah h3,ah h4,af (aW (v:=iv (v.getD ((v.length:Int)-(2:Int)).toNat (0:Int))) (by kernel_rfl)),yi h5,yi h6,yi h7,yi h8,ah h9,ah h10,af (show(bt 3 (.int .i64) (some (bf.own 3 (.int .i64) xs)) ((0:Nat)+((j:Int)+(v.length:Int)-(2:Int)).toNat))=true from(by simp only [aw]<;>exact h11)),af (aW (v:=iv (xs.getD ((0:Nat)+((j:Int)+(v.length:Int)-(2:Int)).toNat) (0:Int))) (by kernel_rfl)),af (show(fits IntKind.i64 (r*(1000000000:Int)+xs.getD ((0:Nat)+((j:Int)+(v.length:Int)-(2:Int)).toNat) (0:Int)))=true from(by simp only [aw]<;>exact bm h12)),aJ h1,af (show(decide (t*v.getD ((v.length:Int)-(2:Int)).toNat (0:Int)>r*(1000000000:Int)+xs.getD ((0:Nat)+((j:Int)+(v.length:Int)-(2:Int)).toNat) (0:Int)))=true from(by simp only [aw]<;>exact az dP)),yi gD,yi iZ,ah kW,ah tP,yi x9,ah h19,oT (an (rr (t-(1:Int))) (rr (xs)))] 41254031541230140472553383178300452332773505826332860127072467285497352257
theorem afL (xs v:List Int) (j n:Nat) (cap:aS) (t r:Int) (h1:¬t>=1000000000) (h2:i6 ((v.length:Int)-2)) (h3:0<=(v.length:Int)-2) (h4:((v.length:Int)-2).toNat<v.length) (h5:i6 (t*v.getD ((v.length:Int)-2).toNat 0)) (h6:i6 (r*1000000000)) (h7:i6 ((j:Int)+(v.length:Int))) (h8:i6 ((j:Int)+(v.length:Int)-2)) (h9:0<=(j:Int)+(v.length:Int)-2) (h10:((j:Int)+(v.length:Int)-2).toNat<n) (h11:(bt 3 (.int .i64) (some (bf.own 3 (.int .i64) xs)) ((j:Int)+(v.length:Int)-2).toNat)=true) (h12:i6 (r*1000000000+xs.getD ((j:Int)+(v.length:Int)-2).toNat 0)) (dP:t*v.getD ((v.length:Int)-2).toNat 0>r*1000000000+xs.getD ((j:Int)+(v.length:Int)-2).toNat 0) (gD:i6 (t-1)) (iZ:i6 ((v.length:Int)-1)) (kW:0<=(v.length:Int)-1) (tP:((v.length:Int)-1).toNat<v.length) (x9:i6 (r+v.getD ((v.length:Int)-1).toNat 0)) (h19:¬r+v.getD ((v.length:Int)-1).toNat 0>=1000000000):
  bh (a7 []) (fl qS Ah) (jb xs v j n cap t r) 2883583 .normal r64 (jb xs v j n cap (t-1) (r+cI v)):=
 wy [af (bx (ab h1)),yi h2,ah h3,ah h4,af (aW (v:=iv (v.getD ((v.length:Int)-(2:Int)).toNat (0:Int))) (by kernel_rfl)),yi h5,yi h6,yi h7,yi h8,ah h9,ah h10,af (show(bt 3 (.int .i64) (some (bf.own 3 (.int .i64) xs)) ((0:Nat)+((j:Int)+(v.length:Int)-(2:Int)).toNat))=true from(by simp only [aw]<;>exact h11)),af (aW (v:=iv (xs.getD ((0:Nat)+((j:Int)+(v.length:Int)-(2:Int)).toNat) (0:Int))) (by kernel_rfl)),af (show(fits IntKind.i64 (r*(1000000000:Int)+xs.getD ((0:Nat)+((j:Int)+(v.length:Int)-(2:Int)).toNat) (0:Int)))=true from(by simp only [aw]<;>exact bm h12)),aJ h1,af (show(decide (t*v.getD ((v.length:Int)-(2:Int)).toNat (0:Int)>r*(1000000000:Int)+xs.getD ((0:Nat)+((j:Int)+(v.length:Int)-(2:Int)).toNat) (0:Int)))=true from(by simp only [aw]<;>exact az dP)),yi gD,yi iZ,ah kW,ah tP,yi x9,aJ h19] 616549051327300892137540661213326468741376198193624090275524655767097409
theorem afM (xs v:List Int) (j n:Nat) (cap:aS) (t r:Int) (h1:¬t>=1000000000) (h2:i6 ((v.length:Int)-2)) (h3:0<=(v.length:Int)-2) (h4:((v.length:Int)-2).toNat<v.length) (h5:i6 (t*v.getD ((v.length:Int)-2).toNat 0)) (h6:i6 (r*1000000000)) (h7:i6 ((j:Int)+(v.length:Int))) (h8:i6 ((j:Int)+(v.length:Int)-2)) (h9:0<=(j:Int)+(v.length:Int)-2) (h10:((j:Int)+(v.length:Int)-2).toNat<n) (h11:(bt 3 (.int .i64) (some (bf.own 3 (.int .i64) xs)) ((j:Int)+(v.length:Int)-2).toNat)=true) (h12:i6 (r*1000000000+xs.getD ((j:Int)+(v.length:Int)-2).toNat 0)) (dP:¬t*v.getD ((v.length:Int)-2).toNat 0>r*1000000000+xs.getD ((j:Int)+(v.length:Int)-2).toNat 0):
  bh (a7 []) (fl qS Ah) (jb xs v j n cap t r) 1310719 (.exit 0) r64 (jb xs v j n cap t r):=
 wy [af (bx (ab h1)),yi h2,ah h3,ah h4,af (aW (v:=iv (v.getD ((v.length:Int)-(2:Int)).toNat (0:Int))) (by kernel_rfl)),yi h5,yi h6,yi h7,yi h8,ah h9,ah h10,af (show(bt 3 (.int .i64) (some (bf.own 3 (.int .i64) xs)) ((0:Nat)+((j:Int)+(v.length:Int)-(2:Int)).toNat))=true from(by simp only [aw]<;>exact h11)),af (aW (v:=iv (xs.getD ((0:Nat)+((j:Int)+(v.length:Int)-(2:Int)).toNat) (0:Int))) (by kernel_rfl)),af (show(fits IntKind.i64 (r*(1000000000:Int)+xs.getD ((0:Nat)+((j:Int)+(v.length:Int)-(2:Int)).toNat) (0:Int)))=true from(by simp only [aw]<;>exact bm h12)),aJ h1,af (show(decide (t*v.getD ((v.length:Int)-(2:Int)).toNat (0:Int)>r*(1000000000:Int)+xs.getD ((0:Nat)+((j:Int)+(v.length:Int)-(2:Int)).toNat) (0:Int)))=false from(by simp only [aw]<;>exact ab dP))] 6522028266599319008889569978648965812446332058695169592266817
theorem afN (xs v:List Int) (j n:Nat) (cap:aS) (t r:Int):
  aA.path (nV prog (a7 []) ((fl qS []).drop 5) (jb xs v j n cap t r)) (dl 1) (tL prog f185 3 (.int .i64) xs (iv t)):=
 wy [oT (an (rr (t)) (rr (xs)))] 1
noncomputable def R9:bn:={f:=183,ps:=[.list false (.int .i64), .int .i64],rs:=[.list false (.int .i64), .int .i64],fresh:=false,pre:=fun d=>okB d.1&&(decide (1<=d.2.1)&&decide (d.2.1<1000000000)),fn:=fun d=>(aC (ag d.1/d.2.1),ag d.1%d.2.1,())}
def oc (v1 v2 u2:Int):Nat->Int->Int->Int
 |0,t,_=>t
 |f+1,t,r=>if 1000000000<=t\/r*1000000000+u2<t*v2 then(if 1000000000<=r+v1 then t-1 else oc v1 v2 u2 f (t-1) (r+v1))else t
def qA (xs v:List Int) (j:Int):Int:=oc (cI v) (nu v) (pg xs v j.toNat) 2 (fh xs v j.toNat/cI v) (fh xs v j.toNat%cI v)
def Ai (xs:List Int) (k len:Nat) (v:List Int) (j:Int):Bool:=(Nat.beq k 0&&Nat.beq len xs.length)&&((zW xs&&zW v)&&((decide (2<=v.length)&&decide (0<=j))&&((decide (j+(v.length:Int)<(xs.length:Int))&&decide (500000000<=cI v))&&decide (xs.length<=1000000))))
noncomputable def vM:gz:={f:=185,e:=3,t:= .int .i64,ps:=[.list false (.int .i64), .int .i64],rs:=[.int .i64],pre:=fun xs k len d=>Ai xs k len d.1 d.2.1,out:=fun xs _ _ _=>xs,fn:=fun xs _ _ d=>(qA xs d.1 d.2.1,())}
theorem afO (a:List Int) (d:Int) (h:okB a=true) (aqR:1<=d) (gy:d<1000000000):Holds prog false 183 [lv a,iv d] (.tuple [lv (aC (ag a/d)),iv (ag a%d)]):=by
 obtain⟨ha,la⟩:=n4.1 h;have hS:=E9;refine bJ (c:=x8) func183 rfl rfl fun w0 F=> ?_
 refine cE hS 4 (afC a d (by omega) (by omega) (o5 _).symm (by rw [o5]) (Ko _)) ?_;refine aR.loop (ι:={x:List Int×Int×Nat//x.2.2<=a.length/\x.1.length=a.length/\aP 1000000000 x.1/\(0<=x.2.1/\x.2.1<d)/\ag (a.drop x.2.2)=ag (x.1.drop x.2.2)*d+x.2.1}) (id:=0) (b:=cat x8 o4) (rest:=(fl x8 []).drop 5) (by kernel_rfl) (fun x=>qz a d x.1.1 x.1.2.1 x.1.2.2) (fun x=>x.1.2.2)
  ⟨(fS a.length,0,a.length),aE _,o5 _,Kn _,⟨Int.le_refl 0,show(0:Int)<d by omega⟩,by
    show ag (a.drop a.length)=ag ((fS a.length).drop a.length)*d+0;rw [List.drop_length,List.drop_eq_nil_of_le (by rw [o5];exact aE _)];simp [ag,vl]⟩ (fun _=>rfl) ?_
 rintro⟨⟨q,r,k⟩,hk,hq,jc,hr,hv⟩;have hk:k<=a.length:=hk;have hq:q.length=a.length:=hq;have jc:aP 1000000000 q:=jc;have hr:0<=r/\r<d:=hr;have hv:ag (a.drop k)=ag (q.drop k)*d+r:=hv;cases k with
 |zero=>
  refine bp (s:=qz a d q r 0) hS (afE a d q r 0 (by omega)) ?_;refine cv (cD ?_);rw [List.drop_zero,List.drop_zero]at hv;obtain⟨g1,g2⟩:=xO (U:=ag a) (V:=d) (t:=ag q) (by omega) (by omega) (by omega);have e3:ag a%d=r:=by omega
  have key:=afF a d q r 0 (vy _ q) (by rw [List.drop_zero,dA];omega);rw [List.drop_zero,dA,xQ jc]at key;rw [g1,e3];exact bT (s:=qz a d q r 0) hS key
 |succ j=>
  have ej:(((j+1:Nat):Int)-1).toNat=j:=by omega
  have haj:=ha.get (by decide) j;have hs0:0<=r*1000000000+a.getD j 0:=by omega
  have et:Int.tdiv (r*1000000000+a.getD j 0) d=(r*1000000000+a.getD j 0)/d:=Int.tdiv_eq_ediv_of_nonneg hs0;have em:Int.tmod (r*1000000000+a.getD j 0) d=(r*1000000000+a.getD j 0)%d:=Int.tmod_eq_emod_of_nonneg hs0;have s7:=Int.emod_add_mul_ediv (r*1000000000+a.getD j 0) d;have hm0:=c6 (r*1000000000+a.getD j 0) (show d≠0 by omega);have o8:=cS (r*1000000000+a.getD j 0) (show 0<d by omega);have jO:0<=(r*1000000000+a.getD j 0)/d:=Int.ediv_nonneg hs0 (by omega);have hq1:(r*1000000000+a.getD j 0)/d<1000000000:=(Int.ediv_lt_iff_lt_mul (by omega)).2 (by
   have:(r+1)*1000000000<=d*1000000000:=ar (by omega) (by decide);rw [Int.mul_comm _ d];omega)
  have key:=afD a d q r (j+1) (by omega) (by omega) (by omega) (by omega);rw [ej,et,em]at key;refine bp (s:=qz a d q r (j+1)) hS (key (by omega) (by omega) (by omega) (by omega) (by omega) (by rw [bY]) (by rw [bY])) ?_;have jt:(((j+1:Nat):Int)-1-1)=(j:Int)-1:=by omega
  refine⟨⟨(q.set j ((r*1000000000+a.getD j 0)/d),(r*1000000000+a.getD j 0)%d,j),by show j<=_;omega,by show(q.set j _).length=_;rw [bY];exact hq,jc.set ⟨jO,hq1⟩,⟨hm0,o8⟩, ?_⟩,by show j<j+1;omega, ?_, ?_⟩
  .show ag (a.drop j)=ag ((q.set j ((r*1000000000+a.getD j 0)/d)).drop j)*d+(r*1000000000+a.getD j 0)%d;unfold ag at hv ⊢;rw [tI (l:=a) (by omega),tI (l:=q.set j _) (by rw [bY];omega),vn (by omega),hv];have qC:(q.set j ((r*1000000000+a.getD j 0)/d)).drop (j+1)=q.drop (j+1):=by rw [List.drop_set];rw [if_pos (by omega)]
   rw [qC];generalize vl 1000000000 (q.drop (j+1))=z at*;generalize (r*1000000000+a.getD j 0)/d=dd at*;generalize (r*1000000000+a.getD j 0)%d=e at*;grind
  .show(KR a d _ _ (j+1)).T=(qz a d _ _ j).T;unfold KR qz;rw [jt]
  .rfl
theorem afP:R9.Ok prog:=fun⟨a,d,_⟩ h=>by
 have h:(okB a&&(decide (1<=d)&&decide (d<1000000000)))=true:=h;rw [ae,ae]at h;exact afO a d h.1 (ap h.2.1) (ap h.2.2)
theorem fa {xs:List Int} {i:Nat} (h:i<xs.length):bt 3 (.int .i64) (some (.own 3 (.int .i64) xs)) i=true:=by
 unfold bt;simp only [Nat.beq_refl,decide_true,Bool.true_and];exact fo h
abbrev Fx (xs:List Int) (t:Int):Exit->av aa->ai->Prop:=Cg prog f185 3 (.int .i64) xs (iv t)
theorem aR.KS {X:Ext} {P:Program} {w0:World} {F:Sv.Env} {Q:Exit->av aa->ai->Prop} (hK:eW P) (hm:P.follows .mixedOrders=true) {bl:bF} (hS:bB P (bD bl)) {l:List Code} {s:bC} {fn:Func} {e:TypeId} {t:au} {xs:List t.den} {res:aa} (D:List Bool) (h:(nV P bl l s).path D (tL P fn e t xs res))
  (hq:∀T H,Cg P fn e t xs res .ret T H->Q .ret T H):a8 X P w0 F s.n l s.T s.H Q:=
 aR.KO hK hm hS (fn:=fn) (e:=e) (t:=t) (xs:=xs) (res:=res) l.length D (by rw [dA];exact h) hq
theorem afQ (xs v:List Int) (j:Nat) (cap:aS) (hx:aP 1000000000 xs) (hv:aP 1000000000 v) (h2:2<=v.length) (hj:j+v.length<xs.length) (h1:500000000<=cI v) (hl:xs.length<=1000000) (A:Nat->Option (Nat×Nat)) (Y:Nat->Option Obj) (w:World) (F:Sv.Env):
  a8 (qc A Y) prog w F 77 (fl qS []) (fG [vL xs.length cap,lv v,iv j] .nil 0) (qd 3 (.int .i64) xs) (Fx xs (qA xs v j)):=by
 have hS:=ba;have i0:((j:Int)+(v.length:Int)).toNat=j+v.length:=by omega
 have i1:((j:Int)+(v.length:Int)-1).toNat=j+v.length-1:=by omega
 have i2:((j:Int)+(v.length:Int)-2).toNat=j+v.length-2:=by omega
 have i3:((v.length:Int)-1).toNat=v.length-1:=by omega
 have i4:((v.length:Int)-2).toNat=v.length-2:=by omega
 have b0:=hx.get (by decide) (j+v.length);have b1:=hx.get (by decide) (j+v.length-1);have b2:=hx.get (by decide) (j+v.length-2);have b3:=hv.get (by decide) (v.length-1);have b4:=hv.get (by decide) (v.length-2);have o0:=fa (xs:=xs) (i:=j+v.length) (by omega);have o1:=fa (xs:=xs) (i:=j+v.length-1) (by omega);have o2:=fa (xs:=xs) (i:=j+v.length-2) (by omega);have afR:cI v=v.getD (v.length-1) 0:=by rw [<-i3]
 have aqS:nu v=v.getD (v.length-2) 0:=by rw [<-i4]
 have aqT:pg xs v j=xs.getD (j+v.length-2) 0:=by rw [<-i2]
 have KT:fh xs v j=xs.getD (j+v.length) 0*1000000000+xs.getD (j+v.length-1) 0:=by unfold fh;rw [i0,i1]
 have hF:qA xs v j=oc (cI v) (nu v) (pg xs v j) 2 (fh xs v j/cI v) (fh xs v j%cI v):=by unfold qA;rw [Int.toNat_natCast]
 obtain⟨res,hres⟩:∃res,oc (cI v) (nu v) (pg xs v j) 2 (fh xs v j/cI v) (fh xs v j%cI v)=res:=⟨_,rfl⟩;rw [hF,hres];have CG:0<=fh xs v j:=by rw [KT];omega
 have ht1:fh xs v j<1000000000000000000:=by rw [KT];omega
 have ed:Int.tdiv (fh xs v j) (cI v)=fh xs v j/cI v:=Int.tdiv_eq_ediv_of_nonneg CG;have em:Int.tmod (fh xs v j) (cI v)=fh xs v j%cI v:=Int.tmod_eq_emod_of_nonneg CG;have jO:0<=fh xs v j/cI v:=Int.ediv_nonneg CG (by omega);have hq1:fh xs v j/cI v<=2000000000:=by
  have h3:fh xs v j/cI v*cI v<=fh xs v j:=Int.ediv_mul_le _ (by omega);rcases Int.lt_or_le 2000000000 (fh xs v j/cI v)with h|h
  .have:2000000001*500000000<=fh xs v j/cI v*cI v:=Int.mul_le_mul (by omega) h1 (by decide) (by omega);omega
  .exact h
 have qf:=c6 (fh xs v j) (show cI v≠0 by omega);have kE:=cS (fh xs v j) (show 0<cI v by omega);have key:=afH xs v j xs.length cap;rw [ed,em,i0,i1,i3]at key;have T1:xs.getD (j+v.length) 0*1000000000+xs.getD (j+v.length-1) 0=fh xs v j:=KT.symm;have T2:v.getD (v.length-1) 0=cI v:=afR.symm;rw [T1,T2,ed]at key;have kI:=key (by omega) (by omega) o0 (by omega) (by omega) (by omega) (by omega) o1 (by omega) (by omega) (by omega) (by omega) (by omega) (by omega) rfl em;refine cE hS 4 kI ?_;refine aR.loop (ι:={x:Nat×Int×Int//oc (cI v) (nu v) (pg xs v j) x.1 x.2.1 x.2.2=res/\(0<=x.2.1/\x.2.1<=2000000000)/\(0<=x.2.2/\x.2.2<1000000000)/\(x.1=2\/(x.1=1/\1000000000<=x.2.2+cI v))}) (id:=0) (b:=cat qS Ah) (rest:=(fl qS []).drop 5) (by kernel_rfl) (fun x=>jb xs v j xs.length cap x.1.2.1 x.1.2.2) (fun x=>x.1.1) ⟨(2,fh xs v j/cI v,fh xs v j%cI v),hres,⟨jO,hq1⟩,⟨qf,by show _%_<_;omega⟩, .inl rfl⟩ (fun _=>rfl) ?_;rintro⟨⟨f,t,r⟩,c1,c2,c3,c4⟩;have c1:oc (cI v) (nu v) (pg xs v j) f t r=res:=c1;have c2:0<=t/\t<=2000000000:=c2;have c3:0<=r/\r<1000000000:=c3;have c4:f=2\/(f=1/\1000000000<=r+cI v):=c4;obtain⟨g,rfl⟩:∃g,f=g+1:=⟨f-1,by omega⟩;unfold oc at c1;have d2:0<=t*nu v/\t*nu v<=2000000000*999999999:=⟨Int.mul_nonneg c2.1 (by omega),Int.mul_le_mul c2.2 (by omega) (by omega) (by decide)⟩;have tF:1<=t->¬1000000000<=r+cI v->oc (cI v) (nu v) (pg xs v j) g (t-1) (r+cI v)=res->∃x:{x:Nat×Int×Int//oc (cI v) (nu v) (pg xs v j) x.1 x.2.1 x.2.2=res/\(0<=x.2.1/\x.2.1<=2000000000)/\(0<=x.2.2/\x.2.2<1000000000)/\(x.1=2\/(x.1=1/\1000000000<=x.2.2+cI v))},x.1.1<g+1/\(jb xs v j xs.length cap (t-1) (r+cI v)).T=(jb xs v j xs.length cap x.1.2.1 x.1.2.2).T/\(jb xs v j xs.length cap (t-1) (r+cI v)).H=(jb xs v j xs.length cap x.1.2.1 x.1.2.2).H:=fun h1 h2 h3=>
  ⟨⟨(g,t-1,r+cI v),h3,⟨by show 0<=t-1;omega,by show t-1<=_;omega⟩,⟨by show 0<=r+cI v;omega,by show r+cI v<_;omega⟩, .inr ⟨by show g=1;omega,by show _<=r+cI v+cI v;omega⟩⟩,e7 _,rfl,rfl⟩
 have q1: -9223372036854775808<=r+cI v/\r+cI v<=9223372036854775807:=by omega
 have aO: -9223372036854775808<=t*nu v/\t*nu v<=9223372036854775807:=by omega
 have bZ: -9223372036854775808<=r*1000000000+pg xs v j/\r*1000000000+pg xs v j<=9223372036854775807:=by omega
 have fin:∀z:Int,z=res->∀T H,Fx xs z .ret T H->Fx xs res .ret T H:=fun z hz T H h=>by rw [<-hz];exact h
 by_cases h3:t>=1000000000
 .rw [if_pos (.inl h3)]at c1;by_cases h4:r+cI v>=1000000000
  .rw [if_pos h4]at c1;exact aR.KS (s:=jb xs v j xs.length cap t r) known mixed hS _ (afI xs v j xs.length cap t r h3 (by omega) (by omega) (by omega) (by omega) q1 h4) fun T H h=>fin _ c1 T H h
  .rw [if_neg h4]at c1;exact bp (s:=jb xs v j xs.length cap t r) hS (afJ xs v j xs.length cap t r h3 (by omega) (by omega) (by omega) (by omega) q1 h4) (tF (by omega) h4 c1)
 .have KU:bt 3 (.int .i64) (some (.own 3 (.int .i64) xs)) ((j:Int)+(v.length:Int)-2).toNat=true:=by rw [i2];exact o2
  by_cases h5:t*nu v>r*1000000000+pg xs v j
  .have ht1:1<=t:=by
    rcases Int.lt_or_le 0 t with h|h
    .exact h
    .have e:t=0:=by omega
     rw [e,Int.zero_mul]at h5;omega
   rw [if_pos (.inr h5)]at c1;by_cases h4:r+cI v>=1000000000
   .rw [if_pos h4]at c1;exact aR.KS (s:=jb xs v j xs.length cap t r) known mixed hS _ (afK xs v j xs.length cap t r h3 (by omega) (by omega) (by omega) aO (by omega) (by omega) (by omega) (by omega) (by omega) KU bZ h5 (by omega) (by omega) (by omega) (by omega) q1 h4) fun T H h=>fin _ c1 T H h
   .rw [if_neg h4]at c1;exact bp (s:=jb xs v j xs.length cap t r) hS (afL xs v j xs.length cap t r h3 (by omega) (by omega) (by omega) aO (by omega) (by omega) (by omega) (by omega) (by omega) KU bZ h5 (by omega) (by omega) (by omega) (by omega) q1 h4) (tF ht1 h4 c1)
  .rw [if_neg (by omega)]at c1;refine bp (s:=jb xs v j xs.length cap t r) hS (afM xs v j xs.length cap t r h3 (by omega) (by omega) (by omega) aO (by omega) (by omega) (by omega) (by omega) (by omega) KU bZ h5) ?_;refine cv (cD ?_);exact aR.KS (s:=jb xs v j xs.length cap t r) known mixed hS _ (afN xs v j xs.length cap t r) fun T H h=>fin _ c1 T H h
theorem afS (xs:List Int) (k len:Nat) (cap:aS) (v:List Int) (j:Int) (hp:Ai xs k len v j=true) (A:Nat->Option (Nat×Nat)) (Y:Nat->Option Obj) (w:World) (F:Sv.Env):
  a8 (qc A Y) prog w F 77 (fl qS []) (fG [.bN 3 (.int .i64) 64 k len cap,lv v,iv j] .nil 0) (qd 3 (.int .i64) xs) (Fx xs (qA xs v j)):=by
 unfold Ai at hp;simp only [ae,bz,nz]at hp;obtain⟨⟨h1,h2⟩,⟨h3,h4⟩,⟨h5,h6⟩,⟨h7,h8⟩,h9⟩:=hp;obtain rfl:=ac h1;obtain rfl:=ac h2;obtain⟨n,rfl⟩:=Int.eq_ofNat_of_zero_le h6;exact afQ xs v n cap h3 h4 h5 (by omega) h8 h9 A Y w F
theorem afT:vM.Ok prog:=
 ⟨rfl,rfl,_,qS,func185,rfl,by decide,fun xs k len cap d hp _ hk A Y w F=>afS xs k len cap d.1 d.2.1 hp A Y w F⟩
end
noncomputable section
abbrev ya (res:List Int) (q:Int):Exit->av aa->ai->Prop:=Cg prog f226 167 aB res (cl q)
theorem pu {v aG p s:List Int} {q:Int} (hv:aP 18446744073709551616 v) (hu:aP 18446744073709551616 aG) (fB:aG.length=v.length+1) (hvl:v.length<=1000000) (hV:0<aj v) (G:Fw (aj v) (aj aG) q)
  (cap:aS) (r o:Int) (A:Nat->Option (Nat×Nat)) (Y:Nat->Option Obj) (w:World) (F:Sv.Env):
  a8 (qc A Y) prog w F 186 ((fl eZ []).drop 7) (fT (p++(aG++s)) v p.length cap q r o).T (fT (p++(aG++s)) v p.length cap q r o).H (ya (p++(fx 18446744073709551616 (v.length+1) (aj aG%aj v)++s)) (aj aG/aj v)):=by
 have hS:=KP;refine dZ (s:=fT (p++(aG++s)) v p.length cap q r o) hS 2 (afq _ v _ cap q r o) ?_;refine aR.loop (ι:={x:List Int×Int×Int×Nat//vI v aG q x.1 x.2.1 x.2.2.1 x.2.2.2}) (id:=2) (b:=cat eZ Ft) (rest:=(fl eZ []).drop 10) (by kernel_rfl) (fun x=>jT (p++(x.1.1++s)) v p.length cap q x.1.2.1 x.1.2.2.1 x.1.2.2.2) (fun x=>v.length-x.1.2.2.2)
  ⟨(aG,0,0,0),⟨Nat.zero_le _,fB,hu,⟨Int.le_refl 0,show(0:Int)<18446744073709551616 by decide⟩, .inl rfl,fun _ _=>rfl,by simp [aj,vl]⟩⟩ (fun _=>rfl) ?_
 rintro⟨⟨u,c,b,i⟩,I⟩;have I:vI v aG q u c b i:=I;have hlen:=I.len;by_cases hi:i<v.length
 .have N:=I.next hv G.KQ hi;have vJ:=hv.get (by decide) i;have fin:∃j:{x:List Int×Int×Int×Nat//vI v aG q x.1 x.2.1 x.2.2.1 x.2.2.2},v.length-j.1.2.2.2<v.length-i/\
    (jT ((p++(u++s)).set (p.length+i) (c9 ((p++(u++s)).getD (p.length+i) 0) (ke q (v.getD i 0) c) b)) v p.length cap q (qx q (v.getD i 0) c) (eo ((p++(u++s)).getD (p.length+i) 0) (ke q (v.getD i 0) c) b) (i+1)).T=(jT (p++(j.1.1++s)) v p.length cap q j.1.2.1 j.1.2.2.1 j.1.2.2.2).T/\
    (jT ((p++(u++s)).set (p.length+i) (c9 ((p++(u++s)).getD (p.length+i) 0) (ke q (v.getD i 0) c) b)) v p.length cap q (qx q (v.getD i 0) c) (eo ((p++(u++s)).getD (p.length+i) 0) (ke q (v.getD i 0) c) b) (i+1)).H=(jT (p++(j.1.1++s)) v p.length cap q j.1.2.1 j.1.2.2.1 j.1.2.2.2).H:=by
   rw [ob (p:=p) (s:=s) (show i<u.length by omega),tN (p:=p) (s:=s) (show i<u.length by omega)];exact⟨⟨(_,_,_,i+1),N⟩,by simp;omega,rfl,rfl⟩
  have ho:bt 167 aB (some (.own 167 aB (p++(u++s)))) (p.length+i)=true:=x7 (by omega);have hm:=nF.2 ⟨G.KQ,vJ⟩;rcases I.hb with hb|hb
  .subst hb;exact bp (s:=jT (p++(u++s)) v p.length cap q c 0 i) hS (afr (p++(u++s)) v p.length cap q c i (by omega) hi hm (by omega) ho (by omega) rfl rfl rfl) fin
  .subst hb;exact bp (s:=jT (p++(u++s)) v p.length cap q c 1 i) hS (afu (p++(u++s)) v p.length cap q c i (by omega) hi hm (by omega) ho (by omega) rfl rfl rfl) fin
 .refine bp (s:=jT (p++(u++s)) v p.length cap q c b i) hS (QP _ v _ cap q c b i (by omega)) ?_;refine cv (cD ?_);have hle:=I.le;obtain rfl:i=v.length:=by omega
  obtain⟨f1,f2,f3,f4⟩:=I.fin fB;have ho:bt 167 aB (some (.own 167 aB (p++(u++s)))) (p.length+v.length)=true:=x7 (by omega)
  -- the rest, from the state with the borrow
  have rest:∀u1 b1,u1=u.set v.length (c9 (u.getD v.length 0) c b)->b1=eo (u.getD v.length 0) c b->
    a8 (qc A Y) prog w F 186 ((fl eZ []).drop 11) (tM (p++(u1++s)) v p.length cap q b1).T (tM (p++(u1++s)) v p.length cap q b1).H (ya (p++(fx 18446744073709551616 (v.length+1) (aj aG%aj v)++s)) (aj aG/aj v)):=by
   intro u1 b1 e1 e2;rw [<-e1,<-e2]at f1;rw [<-e1]at f2 f4;rw [<-e2]at f3;have hn:=fK (b:=18446744073709551616) (by decide) f2;have hlt:=fC (b:=18446744073709551616) (by decide) f2;rw [f4]at hlt;by_cases lp:b1=0
   .have hnn:0<=aj aG-q*aj v:=by
     rw [lp,Int.mul_zero]at f1;unfold aj at*;omega
    obtain⟨g1,g2⟩:=afA hV G hnn;have e3:aj u1=aj aG-q*aj v:=by rw [lp,Int.mul_zero]at f1;omega
    have bP:=f2.R8 f4;rw [e3,<-g2]at bP;rw [g1,<-bP];exact aR.KO known mixed hS 8 _ (QQ (p++(u1++s)) v p.length cap q b1 lp) fun T H h=>h
   .have kA:b1=1:=f3.resolve_left lp;rw [kA,Int.mul_one]at f1;have hneg:aj aG-q*aj v<0:=by unfold aj at*;omega
    obtain⟨g1,g2⟩:=afB hV G hneg;have tO:=c6 (aj aG) (show aj v≠0 by omega);have lu:=cS (aj aG) hV;have aqU:=fC (b:=18446744073709551616) (by decide) hv;refine dZ (s:=tM (p++(u1++s)) v p.length cap q b1) hS 4 (afx (p++(u1++s)) v p.length cap q b1 lp) ?_;refine aR.loop (ι:={x:List Int×Int×Nat//vK v u1 x.1 x.2.1 x.2.2}) (id:=4) (b:=cat eZ Fu) (rest:=(fl eZ []).drop 16) (by kernel_rfl) (fun x=>j9 (p++(x.1.1++s)) v p.length cap q x.1.2.1 x.1.2.2) (fun x=>v.length-x.1.2.2)
     ⟨(u1,0,0),⟨Nat.zero_le _,f4,f2, .inl rfl,fun _ _=>rfl,by simp [aj,vl]⟩⟩ (fun _=>rfl) ?_
    rintro⟨⟨u2,c2,j⟩,J⟩;have J:vK v u1 u2 c2 j:=J;have O1:=J.len;by_cases hj:j<v.length
    .have afU:=J.next hv hj;have nj:bt 167 aB (some (.own 167 aB (p++(u2++s)))) (p.length+j)=true:=x7 (by omega);have fin:∃y:{x:List Int×Int×Nat//vK v u1 x.1 x.2.1 x.2.2},v.length-y.1.2.2<v.length-j/\
       (j9 ((p++(u2++s)).set (p.length+j) (cU ((p++(u2++s)).getD (p.length+j) 0) (v.getD j 0) c2)) v p.length cap q (dN ((p++(u2++s)).getD (p.length+j) 0) (v.getD j 0) c2) (j+1)).T=(j9 (p++(y.1.1++s)) v p.length cap q y.1.2.1 y.1.2.2).T/\
       (j9 ((p++(u2++s)).set (p.length+j) (cU ((p++(u2++s)).getD (p.length+j) 0) (v.getD j 0) c2)) v p.length cap q (dN ((p++(u2++s)).getD (p.length+j) 0) (v.getD j 0) c2) (j+1)).H=(j9 (p++(y.1.1++s)) v p.length cap q y.1.2.1 y.1.2.2).H:=by
      rw [ob (p:=p) (s:=s) (show j<u2.length by omega),tN (p:=p) (s:=s) (show j<u2.length by omega)];exact⟨⟨(_,_,j+1),afU⟩,by simp;omega,rfl,rfl⟩
     rcases J.hc with hc2|hc2
     .subst hc2;exact bp (s:=j9 (p++(u2++s)) v p.length cap q 0 j) hS (aft (p++(u2++s)) v p.length cap q j (by omega) (by omega) nj hj (by omega) rfl rfl) fin
     .subst hc2;exact bp (s:=j9 (p++(u2++s)) v p.length cap q 1 j) hS (afw (p++(u2++s)) v p.length cap q j (by omega) (by omega) nj hj (by omega) rfl rfl) fin
    .refine bp (s:=j9 (p++(u2++s)) v p.length cap q c2 j) hS (sd_end _ v _ cap q c2 j (by omega)) ?_;refine cv (cD ?_);have hle2:=J.le;obtain rfl:j=v.length:=by omega
     have nj:bt 167 aB (some (.own 167 aB (p++(u2++s)))) (p.length+v.length)=true:=x7 (by omega);have n5:=J.fin f4 (U:=aj aG-q*aj v) (R:=aj aG%aj v) (by omega) (by omega) tO (by unfold aj at*;omega);have KV:o9 q=aj aG/aj v:=by
      rw [g1];unfold o9;refine fA ⟨?_,by have:=G.KQ;omega⟩;rw [<-g1];exact Int.ediv_nonneg (fK (by decide) hu) (ck hV)
     have:=aR.KO (X:=qc A Y) (w0:=w) (F:=F) (l:=(fl eZ []).drop 16) (n:=186) (T:=(j9 (p++(u2++s)) v p.length cap q c2 v.length).T) (H:=(j9 (p++(u2++s)) v p.length cap q c2 v.length).H) (Q:=ya ((p++(u2++s)).set (p.length+v.length) (IntKind.wrap .u64 ((p++(u2++s)).getD (p.length+v.length) 0+c2))) (o9 q)) known mixed hS 8 _ (afy (p++(u2++s)) v p.length cap q c2 v.length nj rfl) fun T H h=>h
     rw [ob (p:=p) (s:=s) (show v.length<u2.length by omega),tN (p:=p) (s:=s) (show v.length<u2.length by omega),n5,KV]at this;exact this
  have fin:∀T H,(tM ((p++(u++s)).set (p.length+v.length) (c9 ((p++(u++s)).getD (p.length+v.length) 0) c b)) v p.length cap q (eo ((p++(u++s)).getD (p.length+v.length) 0) c b)).T=T->(tM ((p++(u++s)).set (p.length+v.length) (c9 ((p++(u++s)).getD (p.length+v.length) 0) c b)) v p.length cap q (eo ((p++(u++s)).getD (p.length+v.length) 0) c b)).H=H->
    a8 (qc A Y) prog w F 186 ((fl eZ []).drop 11) T H (ya (p++(fx 18446744073709551616 (v.length+1) (aj aG%aj v)++s)) (aj aG/aj v)):=by
   rw [ob (p:=p) (s:=s) (show v.length<u.length by omega),tN (p:=p) (s:=s) (show v.length<u.length by omega)];rintro T H rfl rfl;exact rest _ _ rfl rfl
  rcases I.hb with hb|hb
  .subst hb;exact dZ (s:=jT (p++(u++s)) v p.length cap q c 0 v.length) hS 1 (afs (p++(u++s)) v p.length cap q c v.length ho rfl rfl) (fin _ _ rfl rfl)
  .subst hb;exact dZ (s:=jT (p++(u++s)) v p.length cap q c 1 v.length) hS 1 (afv (p++(u++s)) v p.length cap q c v.length ho rfl rfl) (fin _ _ rfl rfl)
theorem tc {v aG p s:List Int} {m:Nat} (hv:aP 18446744073709551616 v) (hu:aP 18446744073709551616 aG) (fB:aG.length=v.length+1) (hlv:v.length=m+2) (hvl:v.length<=1000000) (h1:9223372036854775808<=v.getD (m+1) 0) (hlt:aj aG<18446744073709551616*aj v)
  (cap:aS) (q r o:Int) (hq:0<=q/\q<18446744073709551616) (hr:0<=r/\r<18446744073709551616) (ho:o=0\/o=1) (hQ:aj aG/aj v<=q) (he:q*v.getD (m+1) 0+(r+18446744073709551616*o)=aG.getD (m+2) 0*18446744073709551616+aG.getD (m+1) 0)
  (A:Nat->Option (Nat×Nat)) (Y:Nat->Option Obj) (w:World) (F:Sv.Env):
  a8 (qc A Y) prog w F 186 ((fl eZ []).drop 6) (fT (p++(aG++s)) v p.length cap q r o).T (fT (p++(aG++s)) v p.length cap q r o).H (ya (p++(fx 18446744073709551616 (v.length+1) (aj aG%aj v)++s)) (aj aG/aj v)):=by
 have hS:=KP;have P:=J2 (b:=18446744073709551616) (by decide) hu hv (n:=m) (by omega) hlv (by omega);have rH:=w7 (b:=18446744073709551616) hlv;have Aj:=J3 (b:=18446744073709551616) (u:=aG) (n:=m) (by omega);have hV:0<aj v:=by
  have h2:=f7 (u:=v) (n:=m+1) hlv;have h3:=fK (b:=18446744073709551616) (by decide) (hv.take (m+1));have h4:=Int.mul_pos (bc (b:=18446744073709551616) (by decide) (m+1)) (show 0<v.getD (m+1) 0 by omega);unfold aj at h2 ⊢;omega
 have pn:0<=aj aG:=fK (by decide) hu;have vN:0<=aj aG/aj v:=Int.ediv_nonneg pn (ck hV);have KW:aj aG/aj v*aj v<=aj aG:=Int.ediv_mul_le _ (by omega);have vO:((v.length:Int)-1).toNat=m+1:=by omega
 have qD:((v.length:Int)-2).toNat=m:=by omega
 have x4:=hv.get (by decide) (m+1);have iF:=hv.get (by decide) m
 -- the digit that passes the test
 have pass:∀q r o:Int,0<=q/\q<18446744073709551616->aj aG/aj v<=q->q*v.getD (m+1) 0+(r+18446744073709551616*o)=aG.getD (m+2) 0*18446744073709551616+aG.getD (m+1) 0->q*v.getD m 0<=(r+18446744073709551616*o)*18446744073709551616+aG.getD m 0->Fw (aj v) (aj aG) q:=fun q r o hq hQ he ht=>by
  refine⟨hq,hQ, ?_⟩;have:=JZ P (t:=q) hq (by rw [show aG.getD (m+2) 0*18446744073709551616+aG.getD (m+1) 0-q*v.getD (m+1) 0=r+18446744073709551616*o by omega];exact ht);rw [rH,Aj]at this;exact this
 refine aR.loop (ι:={x:Int×Int×Int//(0<=x.1/\x.1<18446744073709551616)/\(0<=x.2.1/\x.2.1<18446744073709551616)/\(x.2.2=0\/x.2.2=1)/\aj aG/aj v<=x.1/\x.1*v.getD (m+1) 0+(x.2.1+18446744073709551616*x.2.2)=aG.getD (m+2) 0*18446744073709551616+aG.getD (m+1) 0}) (id:=0) (b:=cat eZ Af) (rest:=(fl eZ []).drop 7) (by kernel_rfl) (fun x=>fT (p++(aG++s)) v p.length cap x.1.1 x.1.2.1 x.1.2.2) (fun x=>x.1.1.toNat) ⟨(q,r,o),hq,hr,ho,hQ,he⟩ (fun _=>rfl) ?_;clear hq hr ho hQ he;rintro⟨⟨q,r,o⟩,hq,hr,ho,hQ,he⟩;have hq:0<=q/\q<18446744073709551616:=hq;have hr:0<=r/\r<18446744073709551616:=hr;have ho:o=0\/o=1:=ho;have hQ:aj aG/aj v<=q:=hQ;have he:q*v.getD (m+1) 0+(r+18446744073709551616*o)=aG.getD (m+2) 0*18446744073709551616+aG.getD (m+1) 0:=he;have hm:=nF.2 ⟨hq,iF⟩;have hm':kQ q (v.getD ((v.length:Int)-2).toNat 0)=true:=by rw [qD];exact hm
 have aqV:=R6 (q:=q) (x:=v.getD m 0);obtain⟨hh,hl⟩:=R7 hq iF;have aqW:=hu.get (by decide) m;have hown:bt 167 aB (some (.own 167 aB (p++(aG++s)))) (p.length+((v.length:Int)-2).toNat)=true:=by rw [qD];exact x7 (by omega)
 have hg2:(p++(aG++s)).getD (p.length+m) 0=aG.getD m 0:=ob (by omega);by_cases KX:o=0
 .subst KX
  -- the next guess
  have next:¬(q*v.getD m 0<=(r+18446744073709551616*0)*18446744073709551616+aG.getD m 0)->∃j:{x:Int×Int×Int//(0<=x.1/\x.1<18446744073709551616)/\(0<=x.2.1/\x.2.1<18446744073709551616)/\(x.2.2=0\/x.2.2=1)/\aj aG/aj v<=x.1/\x.1*v.getD (m+1) 0+(x.2.1+18446744073709551616*x.2.2)=aG.getD (m+2) 0*18446744073709551616+aG.getD (m+1) 0},j.1.1.toNat<q.toNat/\
    (fT (p++(aG++s)) v p.length cap (o9 q) (cU r (v.getD ((v.length:Int)-1).toNat 0) 0) (dN r (v.getD ((v.length:Int)-1).toNat 0) 0)).T=(fT (p++(aG++s)) v p.length cap j.1.1 j.1.2.1 j.1.2.2).T/\
    (fT (p++(aG++s)) v p.length cap (o9 q) (cU r (v.getD ((v.length:Int)-1).toNat 0) 0) (dN r (v.getD ((v.length:Int)-1).toNat 0) 0)).H=(fT (p++(aG++s)) v p.length cap j.1.1 j.1.2.1 j.1.2.2).H:=fun hn=>by
   have hgt:=Q3 P (t:=q) (q:=aj aG/aj v) hq.1 (by rw [rH,Aj];exact KW) (by rw [show aG.getD (m+2) 0*18446744073709551616+aG.getD (m+1) 0-q*v.getD (m+1) 0=r+18446744073709551616*0 by omega];omega);obtain⟨g1,g2,g3⟩:=Cv (a:=r) (b:=v.getD (m+1) 0) (c:=0) hr x4 (.inl rfl);have hd:o9 q=q-1:=fA (by omega);rw [vO,hd];generalize cU r (v.getD (m+1) 0) 0=sd at*;generalize dN r (v.getD (m+1) 0) 0=cd at*;refine⟨⟨(q-1,sd,cd),by show 0<=q-1/\q-1<_;omega,g2,g3,by show _<=q-1;omega, ?_⟩,by show(q-1).toNat<q.toNat;omega,rfl,rfl⟩;show(q-1)*v.getD (m+1) 0+(sd+18446744073709551616*cd)=aG.getD (m+2) 0*18446744073709551616+aG.getD (m+1) 0;have jt:(q-1)*v.getD (m+1) 0=q*v.getD (m+1) 0-v.getD (m+1) 0:=by rw [Int.sub_mul,Int.one_mul]
   omega
  by_cases Fy:fj q (v.getD m 0)<r
  .refine bp (s:=fT (p++(aG++s)) v p.length cap q r 0) hS (afo (p++(aG++s)) v p.length cap q r 0 rfl (by omega) (by omega) (by omega) hm' (by rw [qD];exact Fy)) ?_;refine cv (cD ?_);exact pu hv hu fB hvl hV (pass q r 0 hq hQ he (by omega)) cap r 0 A Y w F
  .by_cases heq:fj q (v.getD m 0)=r
   .by_cases hle:cH q (v.getD m 0)<=aG.getD m 0
    .refine bp (s:=fT (p++(aG++s)) v p.length cap q r 0) hS (afl (p++(aG++s)) v p.length cap q r 0 rfl (by omega) (by omega) (by omega) hm' (by rw [qD];exact Fy) (by rw [qD];exact heq) hown (by rw [qD,hg2];exact hle)) ?_;refine cv (cD ?_);exact pu hv hu fB hvl hV (pass q r 0 hq hQ he (by omega)) cap r 0 A Y w F
    .exact bp (s:=fT (p++(aG++s)) v p.length cap q r 0) hS (afm (p++(aG++s)) v p.length cap q r 0 rfl (by omega) (by omega) (by omega) hm' (by rw [qD];exact Fy) (by rw [qD];exact heq) hown (by rw [qD,hg2];exact hle) (by omega) (by omega) (by omega) rfl rfl rfl) (next (by omega))
   .exact bp (s:=fT (p++(aG++s)) v p.length cap q r 0) hS (afn (p++(aG++s)) v p.length cap q r 0 rfl (by omega) (by omega) (by omega) hm' (by rw [qD];exact Fy) (by rw [qD];exact heq) (by omega) (by omega) (by omega) rfl rfl rfl) (next (by omega))
 .have E2:o=1:=ho.resolve_left KX;refine bp (s:=fT (p++(aG++s)) v p.length cap q r o) hS (afp (p++(aG++s)) v p.length cap q r o KX) ?_;refine cv (cD ?_);have hf:=Q4 P (t:=q) hq (by rw [show aG.getD (m+2) 0*18446744073709551616+aG.getD (m+1) 0-q*v.getD (m+1) 0=r+18446744073709551616*o by omega];omega);rw [show aG.getD (m+2) 0*18446744073709551616+aG.getD (m+1) 0-q*v.getD (m+1) 0=r+18446744073709551616*o by omega]at hf;exact pu hv hu fB hvl hV (pass q r o hq hQ he hf) cap r o A Y w F
end
noncomputable section
theorem afV {v aG p s:List Int} {m:Nat} (hv:aP 18446744073709551616 v) (hu:aP 18446744073709551616 aG) (fB:aG.length=v.length+1) (hlv:v.length=m+2) (hvl:v.length<=1000000) (h1:9223372036854775808<=v.getD (m+1) 0) (hlt:aj aG<18446744073709551616*aj v)
  (cap:aS) (A:Nat->Option (Nat×Nat)) (Y:Nat->Option Obj) (w:World) (F:Sv.Env):
  a8 (qc A Y) prog w F 186 (fl eZ []) (fG [x6 v p.length cap,bE v] .nil 0) (qd 167 aB (p++(aG++s))) (ya (p++(fx 18446744073709551616 (v.length+1) (aj aG%aj v)++s)) (aj aG/aj v)):=by
 have hS:=KP;have P:=J2 (b:=18446744073709551616) (by decide) hu hv (n:=m) (by omega) hlv (by omega);have rH:=w7 (b:=18446744073709551616) hlv;have Aj:=J3 (b:=18446744073709551616) (u:=aG) (n:=m) (by omega);have hV:0<aj v:=by
  have h2:=f7 (u:=v) (n:=m+1) hlv;have h3:=fK (b:=18446744073709551616) (by decide) (hv.take (m+1));have h4:=Int.mul_pos (bc (b:=18446744073709551616) (by decide) (m+1)) (show 0<v.getD (m+1) 0 by omega);unfold aj at h2 ⊢;omega
 have pn:0<=aj aG:=fK (by decide) hu;have vN:0<=aj aG/aj v:=Int.ediv_nonneg pn (ck hV);have KW:aj aG/aj v*aj v<=aj aG:=Int.ediv_mul_le _ (by omega);have Fz:aj aG/aj v<18446744073709551616:=(Int.ediv_lt_iff_lt_mul hV).2 hlt;have vO:((v.length:Int)-1).toNat=m+1:=by omega
 have x4:=hv.get (by decide) (m+1);have afW:=hu.get (by decide) (m+2);have hun:=hu.get (by decide) (m+1);have hkn:p.length+v.length=p.length+(m+2):=by omega
 have gt:(p++(aG++s)).getD (p.length+v.length) 0=aG.getD (m+2) 0:=by rw [hkn];exact ob (by omega)
 have gn:(p++(aG++s)).getD (p.length+(m+1)) 0=aG.getD (m+1) 0:=ob (by omega);have o1:bt 167 aB (some (.own 167 aB (p++(aG++s)))) (p.length+v.length)=true:=x7 (by omega);have o2:bt 167 aB (some (.own 167 aB (p++(aG++s)))) (p.length+((v.length:Int)-1).toNat)=true:=by rw [vO];exact x7 (by omega)
 by_cases hge:aG.getD (m+2) 0>=v.getD (m+1) 0
 .have hle:aG.getD (m+2) 0<=v.getD (m+1) 0:=by
   have a1:=f7 (u:=aG) (n:=m+2) (by omega);have a2:=fK (b:=18446744073709551616) (by decide) (hu.take (m+2));have a3:=f7 (u:=v) (n:=m+1) hlv;have a4:=fC (b:=18446744073709551616) (by decide) (hv.take (m+1));rw [dK,Nat.min_eq_left (by omega)]at a4;have a5:=bc (b:=18446744073709551616) (by decide) (m+1);rw [show m+2=m+1+1 from rfl,Int.pow_succ]at a1;rw [show m+1+1=m+2 from rfl]at a1;unfold aj at a1 a3 hlt;generalize vl 18446744073709551616 (aG.take (m+2))=x at*;generalize vl 18446744073709551616 (v.take (m+1))=y at*;generalize aG.getD (m+2) 0=ut at*;generalize v.getD (m+1) 0=Sa at*;generalize (18446744073709551616:Int)^(m+1)=P at*;refine Int.not_lt.1 fun hn=> ?_
   have b1:=dU (show Sa+1<=ut by omega) (ck a5);rw [Int.mul_add,Int.mul_one]at b1;have b2:P*18446744073709551616*ut=18446744073709551616*(P*ut):=by grind
   rw [b2]at a1;generalize P*ut=aqX at*;generalize P*Sa=aqY at*;omega
  obtain⟨g1,g2,g3⟩:=Cv (a:=aG.getD (m+1) 0) (b:=v.getD (m+1) 0) (c:=0) hun x4 (.inl rfl);refine cE hS 6 (afj (p++(aG++s)) v p.length cap o1 (by omega) (by omega) (by omega) (by rw [gt,vO];exact hge) o2 rfl rfl) ?_;rw [vO,gn];refine tc hv hu fB hlv hvl h1 hlt cap _ _ _ (by decide) g2 g3 (by omega) ?_ A Y w F;rw [g1];omega
 .have KY:0<v.getD (m+1) 0:=by omega
  have hD:tJ (aG.getD (m+2) 0) (aG.getD (m+1) 0) (v.getD (m+1) 0)=true:=by
   unfold tJ;rw [f6.2 hun,f6.2 x4,az afW.1,az (show aG.getD (m+2) 0<v.getD (m+1) 0 by omega)];rfl
  refine cE hS 6 (afk (p++(aG++s)) v p.length cap o1 (by omega) (by omega) (by omega) (by rw [gt,vO];exact hge) o2 (by rw [gt,vO,gn];exact hD)) ?_;rw [vO,gn,gt];have s7:=Int.emod_add_mul_ediv (aG.getD (m+2) 0*18446744073709551616+aG.getD (m+1) 0) (v.getD (m+1) 0);have hm0:=c6 (aG.getD (m+2) 0*18446744073709551616+aG.getD (m+1) 0) (show v.getD (m+1) 0≠0 by omega);have o8:=cS (aG.getD (m+2) 0*18446744073709551616+aG.getD (m+1) 0) KY;have afX:0<=dT (aG.getD (m+2) 0) (aG.getD (m+1) 0) (v.getD (m+1) 0):=Int.ediv_nonneg (by omega) (by omega);have afY:dT (aG.getD (m+2) 0) (aG.getD (m+1) 0) (v.getD (m+1) 0)<18446744073709551616:=(Int.ediv_lt_iff_lt_mul KY).2 (by omega);have afZ:=Q5 P vN (by rw [rH,Aj];exact KW);refine tc hv hu fB hlv hvl h1 hlt cap _ _ _ ⟨afX,afY⟩ ⟨hm0,by show _%_<_;omega⟩ (.inl rfl) ((Int.le_ediv_iff_mul_le KY).2 afZ) ?_ A Y w F;show(_/_)*_+(_%_+_)=_;rw [Int.mul_comm];omega
theorem af0 (xs v:List Int) (k len:Nat) (cap:aS) (hp:vH xs k len v=true) (hk:k+len<=xs.length) (A:Nat->Option (Nat×Nat)) (Y:Nat->Option Obj) (w:World) (F:Sv.Env):
  a8 (qc A Y) prog w F 186 (fl eZ []) (fG [.bN 167 aB 64 k len cap,bE v] .nil 0) (qd 167 aB xs) (ya (gf xs k len v) (ja xs k len v)):=by
 unfold vH at hp;simp only [ae,bz,cf]at hp;obtain⟨hx,hv,h2,h3,h4,h5,h6⟩:=hp;have h3:=ac h3;subst h3;obtain⟨m,hm⟩:∃m,v.length=m+2:=⟨v.length-2,by omega⟩;have hpl:(xs.take k).length=k:=by rw [dK];omega
 have CI:(qy xs k (v.length+1)).length=v.length+1:=by unfold qy;rw [dK,mQ];omega
 have KV:xs=xs.take k++(qy xs k (v.length+1)++xs.drop (k+(v.length+1))):=by
  unfold qy;rw [<-List.drop_drop,List.take_append_drop,List.take_append_drop]
 have:=afV (p:=xs.take k) (aG:=qy xs k (v.length+1)) (s:=xs.drop (k+(v.length+1))) hv ((hx.drop k).take _) CI hm h4 (by rw [show m+1=v.length-1 by omega];exact h5) h6 cap A Y w F;rw [<-KV,hpl]at this;exact this
theorem af1:rF.Ok prog:=
 ⟨rfl,rfl,_,eZ,func226,rfl,by decide,fun xs k len cap d hp _ hk A Y w F=>af0 xs d.1 k len cap hp hk A Y w F⟩
end
end Go.Proofs.YtibikmmdbdlafaaGreatDoor
