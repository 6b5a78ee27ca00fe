import Derived.Test.YtibikmmdbdlafaaGreatDoorZmA1
set_option linter.defProp false
set_option linter.unusedVariables false
set_option linter.unusedSimpArgs false
set_option maxRecDepth 100000
namespace Go.Proofs.YtibikmmdbdlafaaGreatDoor
open Go.RowKit Sv Go.Proofs.Tryz
noncomputable section
noncomputable def uz:Code:=(f133.body).getD .skip
noncomputable def wH:Code:=(f135.body).getD .skip
noncomputable def lY:Code:=(f136.body).getD .skip
noncomputable def gP:bI:=ov [Gp] (aR [TW])
abbrev pK:List Nat:=[1,1,1,0,1,0,0]
def jJ (a b out:List Int) (c:Int) (k:Nat):bC:={n:=42,sl:=[(0,lv a),(1,lv b),(5,mR 64 out),(6,iv c),(7,iv k)],bF:=[(64,mS out)],next:=65}
def aiw (a b:List Int):
  cO gP (fl uz []) 4 42 [lv a,lv b] 1 .normal [] (jJ a b [] 0 0):=
 wy [] 0
def aix (a b out:List Int) (c:Int) (k:Nat) (h1:(k:Int)<(a.length:Int)) (h2:(0:av.den (.int .i64))<=(k:Int)) (h3:i6 (bT a (k:Int)+bT b (k:Int))) (h4:i6 (bT a (k:Int)+bT b (k:Int)+c)) (h5:out.length+1<=1000000) (h6:i6 (Int.tdiv (bT a (k:Int)+bT b (k:Int)+c) 1000000000)) (h7:i6 ((k:Int)+1)) (h8:(out.length+1)=(out++[Int.tmod (bT a (k:Int)+bT b (k:Int)+c) 1000000000]).length) (h9:(aZ.full)=(bJ (out++[Int.tmod (bT a (k:Int)+bT b (k:Int)+c) 1000000000]).length)):
  bg gP (fl uz pK) (jJ a b out c k) 1424 .normal [(64,66,none)] (jJ a b (out++[Int.tmod (bT a k+bT b k+c) 1000000000]) (Int.tdiv (bT a k+bT b k+c) 1000000000) (k+1)):=
 wy [af (aS (ax h1)),ah h1,ah h2,yi h3,yi h4,yk 3 (.int .i64) out,lM 8 h5,yi h6,yi h7,az h8,az h9,oh 3 (.int .i64) (Eq.refl (out++[Int.tmod (bT a (k:Int)+bT b (k:Int)+c) (1000000000:Int)]))] 4489748952612617644828073985769994856947271015338049
def aiy (a b out:List Int) (c:Int) (k:Nat) (h1:¬(k:Int)<(a.length:Int)) (h2:(k:Int)<(b.length:Int)) (h3:(0:av.den (.int .i64))<=(k:Int)) (h4:i6 (bT a (k:Int)+bT b (k:Int))) (h5:i6 (bT a (k:Int)+bT b (k:Int)+c)) (h6:out.length+1<=1000000) (h7:i6 (Int.tdiv (bT a (k:Int)+bT b (k:Int)+c) 1000000000)) (h8:i6 ((k:Int)+1)) (h9:(out.length+1)=(out++[Int.tmod (bT a (k:Int)+bT b (k:Int)+c) 1000000000]).length) (h10:(aZ.full)=(bJ (out++[Int.tmod (bT a (k:Int)+bT b (k:Int)+c) 1000000000]).length)):
  bg gP (fl uz pK) (jJ a b out c k) 1423 .normal [(64,66,none)] (jJ a b (out++[Int.tmod (bT a k+bT b k+c) 1000000000]) (Int.tdiv (bT a k+bT b k+c) 1000000000) (k+1)):=
 wy [af (aS (ab h1)),aA h1,af (aS (ax h2)),ah h2,ah h3,yi h4,yi h5,yk 3 (.int .i64) out,lM 8 h6,yi h7,yi h8,az h9,az h10,oh 3 (.int .i64) (Eq.refl (out++[Int.tmod (bT a (k:Int)+bT b (k:Int)+c) (1000000000:Int)]))] 5238040690022918447934035119010923055851292927987777
def aiz (a b out:List Int) (c:Int) (k:Nat) (h1:¬(k:Int)<(a.length:Int)) (h2:¬(k:Int)<(b.length:Int)) (h3:c>0) (h4:(0:av.den (.int .i64))<=(k:Int)) (h5:i6 (bT a (k:Int)+bT b (k:Int))) (h6:i6 (bT a (k:Int)+bT b (k:Int)+c)) (h7:out.length+1<=1000000) (h8:i6 (Int.tdiv (bT a (k:Int)+bT b (k:Int)+c) 1000000000)) (h9:i6 ((k:Int)+1)) (h10:(out.length+1)=(out++[Int.tmod (bT a (k:Int)+bT b (k:Int)+c) 1000000000]).length) (h11:(aZ.full)=(bJ (out++[Int.tmod (bT a (k:Int)+bT b (k:Int)+c) 1000000000]).length)):
  bg gP (fl uz pK) (jJ a b out c k) 1391 .normal [(64,66,none)] (jJ a b (out++[Int.tmod (bT a k+bT b k+c) 1000000000]) (Int.tdiv (bT a k+bT b k+c) 1000000000) (k+1)):=
 wy [af (aS (ab h1)),aA h1,af (aS (ab h2)),aA h2,ah h3,ah h4,yi h5,yi h6,yk 3 (.int .i64) out,lM 8 h7,yi h8,yi h9,az h10,az h11,oh 3 (.int .i64) (Eq.refl (out++[Int.tmod (bT a (k:Int)+bT b (k:Int)+c) (1000000000:Int)]))] 5612186558728068849487015685631387156701777985015873
def aiA (a b out:List Int) (c:Int) (k:Nat) (h1:¬(k:Int)<(a.length:Int)) (h2:¬(k:Int)<(b.length:Int)) (h3:¬c>0):
  bg gP (fl uz pK) (jJ a b out c k) 623 (.exit 0) [(64,64,none)] (jJ a b out c k):=
 wy [af (aS (ab h1)),aA h1,af (aS (ab h2)),aA h2,aA h3] 1425176483074113
def aiB (a b out:List Int) (c:Int) (k:Nat) (h1:(out)=((out.drop 0).take out.length)) (h2:out.length=0\/bz 3 (.int .i64) (ba 3 (.int .i64) out) (0+out.length-1)=true) (h3:false=true->out.length≠0):
  bH gP ((fl uz []).drop 5) (jJ a b out c k) 1 f133 false (lv out):=
 wy [vN (an (rr out.length) (an (show(out)=(((bM (.int .i64) (ba 3 (.int .i64) out)).drop (0:Nat)).take out.length)from(by simp only [ew]<;>exact h1)) (an h2 h3)))] 1
def qe (a b out:List Int) (c:Int) (k:Nat):bC:={n:=35,sl:=[(0,lv a),(1,lv b),(5,mR 64 out),(6,iv c),(7,iv k)],bF:=[(64,mS out)],next:=65}
def aiC (a b:List Int):
  cO gP (fl wH []) 4 35 [lv a,lv b] 1 .normal [] (qe a b [] 0 0):=
 wy [] 0
def aiD (a b out:List Int) (c:Int) (k:Nat) (h1:(k:Int)<(a.length:Int)) (h2:k<a.length) (h3:(0:av.den (.int .i64))<=(k:Int)) (h4:i6 (a.getD k 0-bT b (k:Int))) (h5:i6 (a.getD k 0-bT b (k:Int)-c)) (h6:¬a.getD k 0-bT b (k:Int)-c<0) (h7:out.length+1<=1000000) (h8:i6 ((k:Int)+1)) (h9:(out.length+1)=(out++[a.getD k 0-bT b (k:Int)-c]).length) (h10:(aZ.full)=(bJ (out++[a.getD k 0-bT b (k:Int)-c]).length)):
  bg gP (fl wH pK) (qe a b out c k) 9 .normal [(64,66,none)] (qe a b (out++[a.getD k 0-bT b k-c]) 0 (k+1)):=
 wy [ah h1,ah h2,af (aV (v:=iv (a.getD k (0:Int)))),ah h3,yi h4,yi h5,aA h6,yk 3 (.int .i64) out,lM 8 h7,yi h8,az h9,az h10,oh 3 (.int .i64) (Eq.refl (out++[a.getD k (0:Int)-bT b (k:Int)-c]))] 1105921642492323382824927727698886533121
def aiE (a b out:List Int) (c:Int) (k:Nat) (h1:(k:Int)<(a.length:Int)) (h2:k<a.length) (h3:(0:av.den (.int .i64))<=(k:Int)) (h4:i6 (a.getD k 0-bT b (k:Int))) (h5:i6 (a.getD k 0-bT b (k:Int)-c)) (h6:a.getD k 0-bT b (k:Int)-c<0) (h7:i6 (a.getD k 0-bT b (k:Int)-c+1000000000)) (h8:out.length+1<=1000000) (h9:i6 ((k:Int)+1)) (h10:(out.length+1)=(out++[a.getD k 0-bT b (k:Int)-c+1000000000]).length) (h11:(aZ.full)=(bJ (out++[a.getD k 0-bT b (k:Int)-c+1000000000]).length)):
  bg gP (fl wH pK) (qe a b out c k) 11 .normal [(64,66,none)] (qe a b (out++[a.getD k 0-bT b k-c+1000000000]) 1 (k+1)):=
 wy [ah h1,ah h2,af (aV (v:=iv (a.getD k (0:Int)))),ah h3,yi h4,yi h5,ah h6,yi h7,yk 3 (.int .i64) out,lM 8 h8,yi h9,az h10,az h11,oh 3 (.int .i64) (Eq.refl (out++[a.getD k (0:Int)-bT b (k:Int)-c+(1000000000:Int)]))] 76223524083949719363713562717780016111617
def aiF (a b out:List Int) (c:Int) (k:Nat) (h1:¬(k:Int)<(a.length:Int)):
  bg gP (fl wH pK) (qe a b out c k) 2 (.exit 0) [(64,64,none)] (qe a b out c k):=
 wy [aA h1] 1
def aiG (a b out:List Int) (c:Int) (k:Nat) (h1:(Nat.beq out.length 0||bz 3 (.int .i64) (ba 3 (.int .i64) out) (out.length-1))=true) (h2:((out.drop 0).take out.length).length<=1000000):
  bH gP ((fl wH []).drop 5) (qe a b out c k) 1 f135 false (lv (ec ((out.drop 0).take out.length))):=
 wy [af (show(Nat.beq out.length (0:Nat)||bz 3 (.int .i64) (ba 3 (.int .i64) out) ((0:Nat)+out.length-(1:Nat)))=true from(by simp only [aw]<;>exact h1)),af (show(decide ((((bM (.int .i64) (ba 3 (.int .i64) out)).drop (0:Nat)).take out.length).length<=(1000000:Nat)))=true from(by simp only [ew]<;>exact ax h2)),az (show(ec (((bM (.int .i64) (ba 3 (.int .i64) out)).drop (0:Nat)).take out.length))=(ec ((out.drop (0:Nat)).take out.length))from(by simp only [ew]<;>rfl))] 12417
abbrev C9:List Nat:=[1,1,0,1,0,0]
abbrev Gw:List Nat:=[1,1,0,1,0,0,1,0,0]
abbrev Mg:List Nat:=[1,1,0,1,0,0,1,0,0,1,0,1,0,0]
def k9 (a b out:List Int) (i:Nat):bC:={n:=72,sl:=[(0,lv a),(1,lv b),(5,mR 64 out),(6,iv i)],bF:=[(64,mS out)],next:=65}
def qV (a b out:List Int) (i:Nat) (c:Int) (j:Nat):bC:={n:=72,sl:=[(0,lv a),(1,lv b),(5,mR 64 out),(6,iv i),(7,iv c),(8,iv j)],bF:=[(64,mS out)],next:=65}
def fY (n:Nat):List Int:=List.replicate n 0
def aiH (a b:List Int) (h1: -9223372036854775808<=(a.length:Int)+(b.length:Int)/\(a.length:Int)+(b.length:Int)<=9223372036854775807) (h2:((a.length:Int)+(b.length:Int)).toNat<=1000000) (h3:(((a.length:Int)+(b.length:Int)).toNat)=(fY (a.length+b.length)).length) (h4:(aZ.known ((a.length:Int)+(b.length:Int)).toNat)=(aZ.known (a.length+b.length))) (h5:(bJ (fY (a.length+b.length)).length)=(bJ (a.length+b.length))) (h6:(List.flatten (List.replicate ((a.length:Int)+(b.length:Int)).toNat (List.map aa.raw (Array.toList #[Value.int .i64 (0:Int)]))))=(List.flatMap (fun x=>[iv x]) (fY (a.length+b.length)))) (h7:(a.length+b.length)=(fY (a.length+b.length)).length):
  aC.path (o4 prog gP (fl lY []) 3 72 [lv a,lv b]) (dl 1) (dP prog 72 .normal [(64,64,some (a.length+b.length))] (k9 a b (fY (a.length+b.length)) 0)):=
 mp (abV (br h1) rt (og rt (show(decide (((a.length:Int)+(b.length:Int)).toNat<=((a.length:Int)+(b.length:Int)).toNat))=true from ax (by omega)) (show(bounded ((a.length:Int)+(b.length:Int)).toNat (8:Nat))=true from o6 h2 (by omega)) (rr a) (rr b) (an h3 (an h4 h5)) (rr (0:Int)) (an h6 h7) trivial))
def aiI (a b out:List Int) (i:Nat) (h1:(i:Int)<(a.length:Int)):
  dD gP (fl lY C9) 2 (k9 a b out i) 3 .normal [(64,64,none)] (k9 a b out i):=
 wy [ah h1] 1
def aiJ (a b out:List Int) (i:Nat) (h1:¬(i:Int)<(a.length:Int)):
  dD gP (fl lY C9) 2 (k9 a b out i) 2 (.exit 0) [(64,64,none)] (k9 a b out i):=
 wy [aA h1] 1
def aiK (a b out:List Int) (i:Nat):
  dD gP (fl lY Gw) 2 (k9 a b out i) 1 .normal [(64,64,none)] (qV a b out i 0 0):=
 wy [] 0
def NE (a b out:List Int) (i:Nat) (c:Int) (j:Nat) (h1:(j:Int)<(b.length:Int)) (h2:i6 ((i:Int)+(j:Int))) (h3:((i:Int)+(j:Int)).toNat<out.length) (h4:i<a.length) (h5:j<b.length) (h6:i6 (a.getD i 0*b.getD j 0)) (h7:i6 (out.getD ((i:Int)+(j:Int)).toNat 0+a.getD i 0*b.getD j 0)) (h8:i6 (out.getD ((i:Int)+(j:Int)).toNat 0+a.getD i 0*b.getD j 0+c)) (h9:i6 (Int.tdiv (out.getD ((i:Int)+(j:Int)).toNat 0+a.getD i 0*b.getD j 0+c) 1000000000)) (h10:i6 ((j:Int)+1)) (h11:out.length=(out.set ((i:Int)+(j:Int)).toNat (Int.tmod (out.getD ((i:Int)+(j:Int)).toNat 0+a.getD i 0*b.getD j 0+c) 1000000000)).length) (h12:(bJ out.length)=(bJ (out.set ((i:Int)+(j:Int)).toNat (Int.tmod (out.getD ((i:Int)+(j:Int)).toNat 0+a.getD i 0*b.getD j 0+c) 1000000000)).length)):
  bg gP (fl lY Mg) (qV a b out i c j) 3 .normal [(64,64,none)] (qV a b (out.set ((i:Int)+(j:Int)).toNat (Int.tmod (out.getD ((i:Int)+(j:Int)).toNat 0+a.getD i 0*b.getD j 0+c) 1000000000)) i (Int.tdiv (out.getD ((i:Int)+(j:Int)).toNat 0+a.getD i 0*b.getD j 0+c) 1000000000) (j+1)):=
 wy [ah h1,yi h2,ah h3,jd 3 (.int .i64) h3,af (aV (v:=iv ((bM (.int .i64) (ba 3 (.int .i64) out)).getD ((0:Nat)+((i:Int)+(j:Int)).toNat) (0:Int)))),ah h4,af (aV (v:=iv (a.getD i (0:Int)))),ah h5,af (aV (v:=iv (b.getD j (0:Int)))),yi h6,af (show(fits IntKind.i64 ((bM (.int .i64) (ba 3 (.int .i64) out)).getD ((0:Nat)+((i:Int)+(j:Int)).toNat) (0:Int)+a.getD i (0:Int)*b.getD j (0:Int)))=true from(by simp only [ew,aw]<;>exact br h7)),af (show(fits IntKind.i64 ((bM (.int .i64) (ba 3 (.int .i64) out)).getD ((0:Nat)+((i:Int)+(j:Int)).toNat) (0:Int)+a.getD i (0:Int)*b.getD j (0:Int)+c))=true from(by simp only [ew,aw]<;>exact br h8)),af (show(fits IntKind.i64 (Int.tdiv ((bM (.int .i64) (ba 3 (.int .i64) out)).getD ((0:Nat)+((i:Int)+(j:Int)).toNat) (0:Int)+a.getD i (0:Int)*b.getD j (0:Int)+c) (1000000000:Int)))=true from(by simp only [ew,aw]<;>exact br h9)),yi h10,az h11,az h12,az (show(Int.tdiv ((bM (.int .i64) (ba 3 (.int .i64) out)).getD ((0:Nat)+((i:Int)+(j:Int)).toNat) (0:Int)+a.getD i (0:Int)*b.getD j (0:Int)+c) (1000000000:Int))=(Int.tdiv (out.getD ((i:Int)+(j:Int)).toNat (0:Int)+a.getD i (0:Int)*b.getD j (0:Int)+c) (1000000000:Int))from(by simp only [ew,aw]<;>rfl)),o5 prog 3 (.int .i64) (show((bM (.int .i64) (ba 3 (.int .i64) out)).set ((0:Nat)+((i:Int)+(j:Int)).toNat) (Int.tmod ((bM (.int .i64) (ba 3 (.int .i64) out)).getD ((0:Nat)+((i:Int)+(j:Int)).toNat) (0:Int)+a.getD i (0:Int)*b.getD j (0:Int)+c) (1000000000:Int)))=(out.set ((i:Int)+(j:Int)).toNat (Int.tmod (out.getD ((i:Int)+(j:Int)).toNat (0:Int)+a.getD i (0:Int)*b.getD j (0:Int)+c) (1000000000:Int)))from(by simp only [ew,aw]<;>rfl))] 113013889735155783555940953289561697649430070733285792415873
def aiL (a b out:List Int) (i:Nat) (c:Int) (j:Nat) (h1:¬(j:Int)<(b.length:Int)):
  bg gP (fl lY Mg) (qV a b out i c j) 2 (.exit 2) [(64,64,none)] (qV a b out i c j):=
 wy [aA h1] 1
def aiM (a b out:List Int) (i:Nat) (c:Int) (j:Nat) (h1:i6 ((i:Int)+(b.length:Int))) (h2:((i:Int)+(b.length:Int)).toNat<out.length) (h3:i6 (out.getD ((i:Int)+(b.length:Int)).toNat 0+c)) (h4:out.length=(out.set ((i:Int)+(b.length:Int)).toNat (out.getD ((i:Int)+(b.length:Int)).toNat 0+c)).length) (h5:(bJ out.length)=(bJ (out.set ((i:Int)+(b.length:Int)).toNat (out.getD ((i:Int)+(b.length:Int)).toNat 0+c)).length)):
  bg gP ((fl lY Gw).drop 3) (qV a b out i c j) 1 .normal [(64,64,none)] (k9 a b (out.set ((i:Int)+(b.length:Int)).toNat (out.getD ((i:Int)+(b.length:Int)).toNat 0+c)) i):=
 wy [yi h1,ah h2,jd 3 (.int .i64) h2,af (show(fits IntKind.i64 ((bM (.int .i64) (ba 3 (.int .i64) out)).getD ((0:Nat)+((i:Int)+(b.length:Int)).toNat) (0:Int)+c))=true from(by simp only [ew,aw]<;>exact br h3)),az h4,az h5,o5 prog 3 (.int .i64) (show((bM (.int .i64) (ba 3 (.int .i64) out)).set ((0:Nat)+((i:Int)+(b.length:Int)).toNat) ((bM (.int .i64) (ba 3 (.int .i64) out)).getD ((0:Nat)+((i:Int)+(b.length:Int)).toNat) (0:Int)+c))=(out.set ((i:Int)+(b.length:Int)).toNat (out.getD ((i:Int)+(b.length:Int)).toNat (0:Int)+c))from(by simp only [ew,aw]<;>rfl))] 8667417275560351441650974785
def aiN (a b out:List Int) (i:Nat) (h1:i6 ((i:Int)+1)):
  bg gP ((fl lY C9).drop 3) (k9 a b out i) 1 .normal [(64,64,none)] (k9 a b out (i+1)):=
 wy [yi h1] 1
def aiO (a b out:List Int) (i:Nat) (h1:(Nat.beq out.length 0||bz 3 (.int .i64) (ba 3 (.int .i64) out) (out.length-1))=true) (h2:((out.drop 0).take out.length).length<=1000000):
  bH gP ((fl lY []).drop 4) (k9 a b out i) 1 f136 false (lv (ec ((out.drop 0).take out.length))):=
 wy [af (show(Nat.beq out.length (0:Nat)||bz 3 (.int .i64) (ba 3 (.int .i64) out) ((0:Nat)+out.length-(1:Nat)))=true from(by simp only [aw]<;>exact h1)),af (show(decide ((((bM (.int .i64) (ba 3 (.int .i64) out)).drop (0:Nat)).take out.length).length<=(1000000:Nat)))=true from(by simp only [ew]<;>exact ax h2)),az (show(ec (((bM (.int .i64) (ba 3 (.int .i64) out)).drop (0:Nat)).take out.length))=(ec ((out.drop (0:Nat)).take out.length))from(by simp only [ew]<;>rfl))] 12417
def wI (a b:List Int):Bool:=okA a&&okA b
noncomputable def T5:bp:={f:=133,ps:=[.list false (.int .i64), .list false (.int .i64)],rs:=[.list false (.int .i64)],fresh:=false,pre:=fun d=>wI d.1 d.2.1,fn:=fun d=>(aI (ag d.1+ag d.2.1),())}
noncomputable def T6:bp:={f:=135,ps:=[.list false (.int .i64), .list false (.int .i64)],rs:=[.list false (.int .i64)],fresh:=false,pre:=fun d=>wI d.1 d.2.1&&decide (ag d.2.1<=ag d.1),fn:=fun d=>(aI (ag d.1-ag d.2.1),())}
noncomputable def Mh:bp:={f:=136,ps:=[.list false (.int .i64), .list false (.int .i64)],rs:=[.list false (.int .i64)],fresh:=false,pre:=fun d=>okB d.1&&okB d.2.1,fn:=fun d=>(aI (ag d.1*ag d.2.1),())}
def Gx:bD prog (bG gP):=uk (fun c hc=>by
 simp only [ep,j7,or_false]at hc;obtain rfl:=hc;exact Me) (tV ain)
def Da {a b:List Int}:wI a b=true↔okA a=true/\okA b=true:=by unfold wI;rw [ae]
def Mi (a:List Int) (k:Nat):bT a (k:Int)=a.getD k 0:=by unfold bT;rw [Int.toNat_natCast]
def aiP {b:Int} (hb:1<b) {l:List Int} (h:aT b l) (hg:∀k,l.length=k+1->b^k<=vl b l):eX l:=fun k hk h0=>by
 have h1:=hg k hk;have h2:vl b l=vl b (l.take k):=by
  have:=dq (b:=b) (show k<l.length by omega);rw [eF (by omega),h0]at this;simpa using this
 have h3:=fP (show 0<b by omega) (h.take k);rw [ei,show min k l.length=k by omega]at h3;omega
structure wJ (a b out:List Int) (c:Int) (k:Nat):Prop where
 dg:aT 1000000000 out
 len:out.length=k
 ni:c=0\/c=1
 val:ag out+1000000000^k*c=ag (a.take k)+ag (b.take k)
 top:k<=max a.length b.length\/(k=max a.length b.length+1/\1000000000^max a.length b.length<=ag a+ag b)
def Gy (l:List Int) (k:Nat):ag (l.take (k+1))=ag (l.take k)+1000000000^k*l.getD k 0:=kU l k
def AQ {l:List Int} {k:Nat} (h:l.length<=k):ag (l.take k)=ag l:=by rw [eF h]
def aiQ {a b:List Int} (ha:aT 1000000000 a) (hb:aT 1000000000 b):ag a+ag b<1000000000^(max a.length b.length+1):=by
 have h1:=fP (show(0:Int)<1000000000 by decide) ha;have h2:=fP (show(0:Int)<1000000000 by decide) hb;have h3:=iQ (b:=1000000000) (by decide) (show a.length<=max a.length b.length by omega);have h4:=iQ (b:=1000000000) (by decide) (show b.length<=max a.length b.length by omega);have h5:=dK (show(0:Int)<1000000000 by decide) (max a.length b.length);rw [Int.pow_succ];unfold ag;omega
def wJ.next {a b out:List Int} {c:Int} {k:Nat} (h:wJ a b out c k) (ha:aT 1000000000 a) (hb:aT 1000000000 b) (hc:k<a.length\/k<b.length\/c>0):wJ a b (out++[(a.getD k 0+b.getD k 0+c)%1000000000]) ((a.getD k 0+b.getD k 0+c)/1000000000) (k+1)/\k<=max a.length b.length:=by
 have g1:=ha.get (by decide) k;have g2:=hb.get (by decide) k;have Mj:=h.ni;obtain⟨s,hs⟩:∃s,a.getD k 0+b.getD k 0+c=s:=⟨_,rfl⟩;rw [hs];have hk:k<=max a.length b.length:=by
  rcases h.top with h1|⟨h1,h2⟩
  .exact h1
  .have h3:c>0:=by omega
   have h4:c=1:=by omega
   have h5:=h.val;rw [h4,AQ (show a.length<=k by omega),AQ (show b.length<=k by omega),h1]at h5;have h6:=aiQ ha hb;have h7:=gO h.dg;omega
 refine⟨⟨h.dg.app (.cons (by omega) .nil),by simp [h.len],by omega, ?_, ?_⟩,hk⟩
 .have e:ag (out++[s%1000000000])=ag out+1000000000^k*(s%1000000000):=by rw [<-h.len];exact x6 _ _ _
  rw [e,Gy,Gy,Int.pow_succ];exact KB (by omega) h.val
 .by_cases hm:k<max a.length b.length
  .exact .inl (by omega)
  .refine .inr ⟨by omega, ?_⟩;have h4:c=1:=by omega
   have h5:=h.val;rw [h4,AQ (show a.length<=k by omega),AQ (show b.length<=k by omega)]at h5;have h7:=gO h.dg;have h8:k=max a.length b.length:=by omega
   rw [<-h8];omega
def wJ.fin {a b out:List Int} {c:Int} {k:Nat} (h:wJ a b out c k) (ha:aT 1000000000 a) (hb:aT 1000000000 b) (ta:eX a) (tb:eX b) (h1:a.length<=k) (h2:b.length<=k) (h3:¬c>0):out=aI (ag a+ag b):=by
 have hc:c=0:=by have:=h.ni;omega
 have hv:ag out=ag a+ag b:=by
  have:=h.val;rw [hc,AQ h1,AQ h2]at this;simpa using this
 have na:=gO ha;have nb:=gO hb;refine qE k8 h.dg (aiP k8 h.dg fun j hj=> ?_) hv;show _<=ag out;rw [hv];have hl:=h.len;rcases h.top with h4|⟨h4,h5⟩
 .by_cases hla:a.length=j+1
  .have h6:(1000000000:Int)^j<=ag a:=tl (by decide) ha ta hla;omega
  .have h6:(1000000000:Int)^j<=ag b:=tl (by decide) hb tb (by omega);omega
 .have e:j=max a.length b.length:=by omega
  rw [e];exact h5
def aiR (a b:List Int) (h:okA a=true) (g:okA b=true):Holds prog false 133 [lv a,lv b] (lv (aI (ag a+ag b))):=by
 obtain⟨ha,ta,la⟩:=fE.1 h;obtain⟨hb,tb,lb⟩:=fE.1 g;have hS:=Gx;refine bL (c:=uz) func133 rfl rfl fun w0 F=> ?_
 refine cC hS 4 (aiw a b) ?_;refine aP.loop (ι:={s:List Int×Int×Nat//wJ a b s.1 s.2.1 s.2.2}) (id:=0) (b:=cat uz pK) (rest:=(fl uz []).drop 5) (by kernel_rfl) (fun s=>jJ a b s.1.1 s.1.2.1 s.1.2.2) (fun s=>max a.length b.length+2-s.1.2.2) ⟨([],0,0), .nil,rfl, .inl rfl,by simp [ag,vl], .inl (Nat.zero_le _)⟩ (fun _=>rfl) ?_;rintro⟨⟨out,c,k⟩,hI⟩;have hI:wJ a b out c k:=hI;have g1:=ha.get (by decide) k;have g2:=hb.get (by decide) k;have Mj:=hI.ni;have hlo:=hI.len;have hk0:(0:Int)<=(k:Int):=by omega
 have ea:=Mi a k;have eb:=Mi b k;by_cases hgo:k<a.length\/k<b.length\/c>0
 .obtain⟨hn,hk⟩:=hI.next ha hb hgo;have em:Int.tmod (a.getD k 0+b.getD k 0+c) 1000000000=(a.getD k 0+b.getD k 0+c)%1000000000:=Int.tmod_eq_emod_of_nonneg (by omega);have ed:Int.tdiv (a.getD k 0+b.getD k 0+c) 1000000000=(a.getD k 0+b.getD k 0+c)/1000000000:=Int.tdiv_eq_ediv_of_nonneg (by omega);have uy:∃j:{s:List Int×Int×Nat//wJ a b s.1 s.2.1 s.2.2},max a.length b.length+2-j.1.2.2<max a.length b.length+2-k/\(jJ a b (out++[Int.tmod (bT a k+bT b k+c) 1000000000]) (Int.tdiv (bT a k+bT b k+c) 1000000000) (k+1)).T=(jJ a b j.1.1 j.1.2.1 j.1.2.2).T/\(jJ a b (out++[Int.tmod (bT a k+bT b k+c) 1000000000]) (Int.tdiv (bT a k+bT b k+c) 1000000000) (k+1)).H=(jJ a b j.1.1 j.1.2.1 j.1.2.2).H:=by
   rw [ea,eb,em,ed];exact⟨⟨(_,_,k+1),hn⟩,by show max a.length b.length+2-(k+1)<_;omega,rfl,rfl⟩
  have q1: -9223372036854775808<=bT a k+bT b k/\bT a k+bT b k<=9223372036854775807:=by rw [ea,eb];omega
  have aO: -9223372036854775808<=bT a k+bT b k+c/\bT a k+bT b k+c<=9223372036854775807:=by rw [ea,eb];omega
  have bV: -9223372036854775808<=Int.tdiv (bT a k+bT b k+c) 1000000000/\Int.tdiv (bT a k+bT b k+c) 1000000000<=9223372036854775807:=by rw [ea,eb,ed];omega
  by_cases h1:k<a.length
  .exact bl (s:=jJ a b out c k) hS (aix a b out c k (by omega) hk0 q1 aO (by omega) bV (by omega) (qU _ _) (ux _ _)) uy
  .by_cases h2:k<b.length
   .exact bl (s:=jJ a b out c k) hS (aiy a b out c k (by omega) (by omega) hk0 q1 aO (by omega) bV (by omega) (qU _ _) (ux _ _)) uy
   .exact bl (s:=jJ a b out c k) hS (aiz a b out c k (by omega) (by omega) (by omega) hk0 q1 aO (by omega) bV (by omega) (qU _ _) (ux _ _)) uy
 .refine bl (s:=jJ a b out c k) hS (aiA a b out c k (by omega) (by omega) (by omega)) ?_;refine cw (cz ?_);rw [<-hI.fin ha hb ta tb (by omega) (by omega) (by omega)];have ho:=AP 3 out;refine aP.jB (s:=jJ a b out c k) known mixed hS _ (aiB a b out c k (by simp) ?_ (fun h=>by cases h)) fun T H h=> ?_
  .by_cases hz:out.length=0
   .exact .inl hz
   .rw [Bool.or_eq_true]at ho;rw [aw];exact .inr (ho.resolve_left fun e=>hz (ac e))
  .exact h
def aiS:T5.Ok prog:=fun⟨a,b,_⟩ h=>by
 obtain⟨h1,h2⟩:=Da.1 h;exact aiR a b h1 h2
structure Mk (a b out:List Int) (c:Int) (k:Nat):Prop where
 dg:aT 1000000000 out
 len:out.length=k
 ni:c=0\/c=1
 val:ag out-1000000000^k*c=ag (a.take k)-ag (b.take k)
def aiT (a b:List Int) (h:okA a=true) (g:okA b=true) (hle:ag b<=ag a):Holds prog false 135 [lv a,lv b] (lv (aI (ag a-ag b))):=by
 obtain⟨ha,ta,la⟩:=fE.1 h;obtain⟨hb,tb,lb⟩:=fE.1 g;have hS:=Gx;refine bL (c:=wH) func135 rfl rfl fun w0 F=> ?_
 refine cC hS 4 (aiC a b) ?_;refine aP.loop (ι:={s:List Int×Int×Nat//s.2.2<=a.length/\Mk a b s.1 s.2.1 s.2.2}) (id:=0) (b:=cat wH pK) (rest:=(fl wH []).drop 5) (by kernel_rfl) (fun s=>qe a b s.1.1 s.1.2.1 s.1.2.2) (fun s=>a.length-s.1.2.2) ⟨([],0,0),Nat.zero_le _, .nil,rfl, .inl rfl,by simp [ag,vl]⟩ (fun _=>rfl) ?_;rintro⟨⟨out,c,k⟩,hk,hI⟩;have hk:k<=a.length:=hk;have hI:Mk a b out c k:=hI;have g1:=ha.get (by decide) k;have g2:=hb.get (by decide) k;have Mj:=hI.ni;have hlo:=hI.len;have hk0:(0:Int)<=(k:Int):=by omega
 have eb:=Mi b k;have hstep:∀d c':Int,0<=d/\d<1000000000->(c'=0\/c'=1)->d-1000000000*c'=a.getD k 0-b.getD k 0-c->Mk a b (out++[d]) c' (k+1):=fun d c' hd tA he=>by
  refine⟨hI.dg.app (.cons hd .nil),by simp [hlo],tA, ?_⟩;have e:ag (out++[d])=ag out+1000000000^k*d:=by rw [<-hlo];exact x6 _ _ _
  rw [e,Gy,Gy,Int.pow_succ];exact RI he hI.val
 by_cases hlt:k<a.length
 .by_cases hs:a.getD k 0-bT b k-c<0
  .refine bl (s:=qe a b out c k) hS (aiE a b out c k (by omega) hlt hk0 (by rw [eb];omega) (by rw [eb];omega) hs (by rw [eb];omega) (by omega) (by omega) (qU _ _) (ux _ _)) ?_;rw [eb]at hs ⊢;exact⟨⟨(_,1,k+1),hlt,hstep _ 1 (by omega) (.inr rfl) (by omega)⟩,by show a.length-(k+1)<a.length-k;omega,rfl,rfl⟩
  .refine bl (s:=qe a b out c k) hS (aiD a b out c k (by omega) hlt hk0 (by rw [eb];omega) (by rw [eb];omega) hs (by omega) (by omega) (qU _ _) (ux _ _)) ?_;rw [eb]at hs ⊢;exact⟨⟨(_,0,k+1),hlt,hstep _ 0 (by omega) (.inl rfl) (by omega)⟩,by show a.length-(k+1)<a.length-k;omega,rfl,rfl⟩
 .refine bl (s:=qe a b out c k) hS (aiF a b out c k (by omega)) ?_;refine cw (cz ?_);obtain rfl:k=a.length:=by omega
  have hxl:ag a<1000000000^a.length:=fP (by decide) ha;have mz:ag (b.take a.length)=ag b:=tp (by decide) hb (show ag b<_ by omega);have hv:ag out=ag a-ag b:=by
   have h1:=hI.val;have h2:ag out<1000000000^a.length:=by rw [<-hlo];exact fP (by decide) hI.dg
   rw [dI,mz]at h1;rcases Mj with rfl |rfl
   .omega
   .omega
  have key:=aiG a b out c a.length (AP _ out) (by rw [List.drop_zero,dI];omega);rw [List.drop_zero,dI,nq hI.dg,hv]at key;exact bP (s:=qe a b out c a.length) hS key
def aiU:T6.Ok prog:=fun⟨a,b,_⟩ h=>by
 have h:(wI a b&&decide (ag b<=ag a))=true:=h;rw [ae]at h;obtain⟨h1,h2⟩:=Da.1 h.1;exact aiT a b h1 h2 (ap h.2)
def Ml (n:Nat):aT 1000000000 (fY n):=aT.rep (by decide) n
def pL (n:Nat):(fY n).length=n:=List.length_replicate
def Mm (n:Nat):(List.replicate n (List.map aa.raw (Array.toList #[Value.int IntKind.i64 (0:Int)]))).flatten=(fY n).flatMap (fun x=>[aa.raw (Value.int IntKind.i64 x)]):=by
 unfold fY;induction n with
 |zero=>rfl
 |succ n ih=>rw [List.replicate_succ,List.replicate_succ,List.flatten_cons,List.flatMap_cons,ih];rfl
def aiV {o x y c:Int} (ho:0<=o/\o<1000000000) (hx:0<=x/\x<1000000000) (hy:0<=y/\y<1000000000) (hc:0<=c/\c<1000000000):
  (0<=x*y/\x*y<=999999998000000001)/\Int.tmod (o+x*y+c) 1000000000+1000000000*Int.tdiv (o+x*y+c) 1000000000=x*y+o+c/\(0<=Int.tmod (o+x*y+c) 1000000000/\Int.tmod (o+x*y+c) 1000000000<1000000000)/\(0<=Int.tdiv (o+x*y+c) 1000000000/\Int.tdiv (o+x*y+c) 1000000000<1000000000):=by
 have h0:0<=x*y:=Int.mul_nonneg hx.1 hy.1;have h1:x*y<=999999999*999999999:=Int.mul_le_mul (by omega) (by omega) hy.1 (by decide);rw [Int.tmod_eq_emod_of_nonneg (by omega),Int.tdiv_eq_ediv_of_nonneg (by omega)];generalize x*y=p at*;omega
def aiW (x y:List Int) (h:okB x=true) (g:okB y=true):Holds prog false 136 [lv x,lv y] (lv (aI (ag x*ag y))):=by
 obtain⟨hx,lx⟩:=oy.1 h;obtain⟨hy,ly⟩:=oy.1 g;have hS:=Gx;have e1:((x.length:Int)+(y.length:Int)).toNat=x.length+y.length:=by omega
 refine bL (c:=lY) func136 rfl rfl fun w0 F=> ?_
 refine cC hS 3 (aiH x y (by omega) (by omega) (by rw [pL,e1]) (by rw [e1]) (by rw [pL]) (by rw [e1];exact Mm _) (by rw [pL])) ?_;refine aP.loop (ι:={s:List Int×Nat//s.2<=x.length/\s.1.length=x.length+y.length/\aT 1000000000 s.1/\ag s.1=ag (x.take s.2)*ag y/\∀k,s.2+y.length<=k->s.1.getD k 0=0}) (id:=0) (b:=cat lY C9) (rest:=(fl lY []).drop 4) (by kernel_rfl) (fun s=>k9 x y s.1.1 s.1.2) (fun s=>x.length-s.1.2)
  ⟨(fY (x.length+y.length),0),Nat.zero_le _,pL _,Ml _,by
    show vl _ (List.replicate _ 0)=vl _ (x.take 0)*_;rw [tk];simp [vl],fun k _=>by
    show(List.replicate _ (0:Int)).getD k 0=0;rw [ao,List.getElem?_replicate];split<;>rfl⟩ (fun _=>rfl) ?_
 rintro⟨⟨out,i⟩,hi,ho,iR,hval,hz⟩;have hi:i<=x.length:=hi;have ho:out.length=x.length+y.length:=ho;have iR:aT 1000000000 out:=iR;have hval:ag out=ag (x.take i)*ag y:=hval;have hz:∀k,i+y.length<=k->out.getD k 0=0:=hz;by_cases hlt:i<x.length
 .have vX:=hx.get (by decide) i;refine dZ (s:=k9 x y out i) hS 2 (aiI x y out i (by omega)) ?_;refine Ku (id:=1) (c:=cat lY Gw) (rest:=(fl lY C9).drop 3) (by kernel_rfl) ?_;refine dZ (s:=k9 x y out i) hS 2 (aiK x y out i) ?_;refine aP.loop (ι:={s:List Int×Int×Nat//s.2.2<=y.length/\s.1.length=x.length+y.length/\aT 1000000000 s.1/\(0<=s.2.1/\s.2.1<1000000000)/\ag s.1+1000000000^(i+s.2.2)*s.2.1=ag out+1000000000^i*(x.getD i 0*ag (y.take s.2.2))/\∀k,i+y.length<=k->s.1.getD k 0=0}) (id:=2) (b:=cat lY Mg) (rest:=(fl lY Gw).drop 3) (by kernel_rfl) (fun s=>qV x y s.1.1 i s.1.2.1 s.1.2.2) (fun s=>y.length-s.1.2.2)
   ⟨(out,0,0),Nat.zero_le _,ho,iR,⟨Int.le_refl 0,show(0:Int)<1000000000 by decide⟩,by simp [ag,vl],hz⟩ (fun _=>rfl) ?_
  rintro⟨⟨cS,c,j⟩,hj,nA,qI,hc,hinv,nB⟩;have hj:j<=y.length:=hj;have nA:cS.length=x.length+y.length:=nA;have qI:aT 1000000000 cS:=qI;have hc:0<=c/\c<1000000000:=hc;have hinv:ag cS+1000000000^(i+j)*c=ag out+1000000000^i*(x.getD i 0*ag (y.take j)):=hinv;have nB:∀k,i+y.length<=k->cS.getD k 0=0:=nB;have e2:((i:Int)+(j:Int)).toNat=i+j:=by omega
  have e3:((i:Int)+(y.length:Int)).toNat=i+y.length:=by omega
  by_cases hlj:j<y.length
  .have Fw:=hy.get (by decide) j;have zK:=qI.get (by decide) (i+j);obtain⟨g0,g1,g2,g3⟩:=aiV zK vX Fw hc;have key:=NE x y cS i c j (by omega) (by omega) (by omega) hlt hlj (by omega);rw [e2]at key;refine bl (s:=qV x y cS i c j) (s':=qV x y (cS.set (i+j) (Int.tmod (cS.getD (i+j) 0+x.getD i 0*y.getD j 0+c) 1000000000)) i (Int.tdiv (cS.getD (i+j) 0+x.getD i 0*y.getD j 0+c) 1000000000) (j+1)) hS (key (by omega) (by omega) (by omega) (by omega) (by rw [b6]) (by rw [b6])) ?_;refine⟨⟨(cS.set (i+j) (Int.tmod (cS.getD (i+j) 0+x.getD i 0*y.getD j 0+c) 1000000000),Int.tdiv (cS.getD (i+j) 0+x.getD i 0*y.getD j 0+c) 1000000000,j+1),hlj,by rw [b6];exact nA,qI.set g2,g3, ?_,fun k hk=> ?_⟩,by show y.length-(j+1)<y.length-j;omega,rfl,rfl⟩
   .show vl 1000000000 (cS.set (i+j) (Int.tmod (cS.getD (i+j) 0+x.getD i 0*y.getD j 0+c) 1000000000))+1000000000^(i+(j+1))*Int.tdiv (cS.getD (i+j) 0+x.getD i 0*y.getD j 0+c) 1000000000=vl 1000000000 out+1000000000^i*(x.getD i 0*vl 1000000000 (y.take (j+1)));rw [qz _ _ _ _ (by omega),<-Nat.add_assoc,Int.pow_succ,kU,Int.mul_add,Int.mul_add];have:=RU (W:=0) g1 hinv;unfold ag at this;rw [this,Int.add_assoc,Int.pow_add];congr 2;rw [Int.mul_assoc,Int.mul_left_comm (x.getD i 0)]
   .show(cS.set (i+j) _).getD k 0=0;rw [ao,List.getElem?_set_ne (by omega),<-ao];exact nB k hk
  .refine bl (s:=qV x y cS i c j) hS (aiL x y cS i c j (by omega)) ?_;refine cw (cz ?_);obtain rfl:j=y.length:=by omega
   have hk0:=nB (i+y.length) (aG _);have key:=aiM x y cS i c y.length (by omega) (by omega);rw [e3,hk0,Int.zero_add]at key;refine bl (s:=qV x y cS i c y.length) (s':=k9 x y (cS.set (i+y.length) c) i) hS (key (by omega) (by rw [b6]) (by rw [b6])) ?_;refine bl (s:=k9 x y (cS.set (i+y.length) c) i) hS (aiN x y (cS.set (i+y.length) c) i (by omega)) ?_;refine⟨⟨(cS.set (i+y.length) c,i+1),hlt,by rw [b6];exact nA,qI.set hc, ?_,fun k hk=> ?_⟩,by show x.length-(i+1)<x.length-i;omega,rfl,rfl⟩
   .show vl _ (cS.set (i+y.length) c)=vl _ (x.take (i+1))*_;rw [qz _ _ _ _ (by omega),hk0,Int.sub_zero,kU,Int.add_mul,Int.mul_assoc];rw [dI,hval]at hinv;exact hinv
   .show(cS.set (i+y.length) c).getD k 0=0;rw [ao,List.getElem?_set_ne (by omega),<-ao];exact nB k (by omega)
 .refine dZ (s:=k9 x y out i) hS 2 (aiJ x y out i (by omega)) ?_;refine cw (cw (cz ?_));obtain rfl:i=x.length:=by omega
  rw [dI]at hval;have key:=aiO x y out x.length (AP _ out) (by rw [List.drop_zero,dI];omega);rw [List.drop_zero,dI,nq iR,hval]at key;exact bP (s:=k9 x y out x.length) hS key
def T7:Mh.Ok prog:=fun⟨a,b,_⟩ h=>by
 have h:(okB a&&okB b)=true:=h;rw [ae]at h;exact aiW a b h.1 h.2
noncomputable def yu:Code:=(f183.body).getD .skip
noncomputable def pM:Code:=(f185.body).getD .skip
def qW (a:List Int) (d:Int) (out:List Int) (r:Int) (k:Nat):bC:={n:=39,sl:=[(0,lv a),(1,iv d),(6,mR 64 out),(7,iv r),(8,iv ((k:Int)-1))],bF:=[(64,mS out)],next:=65}
def Mn (a:List Int) (d:Int) (out:List Int) (r:Int) (k:Nat):bC:={n:=39,sl:=[(0,lv a),(1,iv d),(6,mR 64 out),(7,iv r),(8,iv ((k:Int)-1-1))],bF:=[(64,mS out)],next:=65}
def aiX (a:List Int) (d:Int) (h1:a.length<=1000000) (h2: -9223372036854775808<=(a.length:Int)-1/\(a.length:Int)-1<=9223372036854775807) (h3:a.length=(fY a.length).length) (h4:(bJ (fY a.length).length)=(bJ a.length)) (h5:(List.flatten (List.replicate a.length (List.map aa.raw (Array.toList #[Value.int .i64 (0:Int)]))))=(List.flatMap (fun x=>[iv x]) (fY a.length))):
  aC.path (o4 prog gP (fl yu []) 4 39 [lv a,iv d]) (dl 1) (dP prog 39 .normal [(64,64,some a.length)] (qW a d (fY a.length) 0 a.length)):=
 mp (Fc rt rt (show(decide (a.length<=a.length))=true from ax (by omega)) (og (show(bounded a.length (8:Nat))=true from o6 h1 (by omega)) (br h2) (rr a) (rr d) (an h3 (an (rr (aZ.known a.length)) h4)) (rr (0:Int)) (rr ((a.length:Int)-1)) (an h5 h3) trivial))
def aiY (a:List Int) (d:Int) (out:List Int) (r:Int) (k:Nat) (h1:(k:Int)-1>=0) (h2:i6 (r*1000000000)) (h3:0<=(k:Int)-1) (h4:((k:Int)-1).toNat<a.length) (h5:i6 (r*1000000000+a.getD ((k:Int)-1).toNat 0)) (h6:d≠0) (h7:i6 (Int.tdiv (r*1000000000+a.getD ((k:Int)-1).toNat 0) d)) (h8:((k:Int)-1).toNat<out.length) (h9:i6 ((k:Int)-1-1)) (h10:out.length=(out.set ((k:Int)-1).toNat (Int.tdiv (r*1000000000+a.getD ((k:Int)-1).toNat 0) d)).length) (h11:(bJ out.length)=(bJ (out.set ((k:Int)-1).toNat (Int.tdiv (r*1000000000+a.getD ((k:Int)-1).toNat 0) d)).length)):
  bg gP (fl yu pK) (qW a d out r k) 3 .normal [(64,64,none)] (Mn a d (out.set ((k:Int)-1).toNat (Int.tdiv (r*1000000000+a.getD ((k:Int)-1).toNat 0) d)) (Int.tmod (r*1000000000+a.getD ((k:Int)-1).toNat 0) d) k):=
 wy [ah h1,yi h2,ah h3,ah h4,yi h5,ah h6,yi h7,ah h8,jd 3 (.int .i64) h8,yi h9,az h10,az h11,mJ 3 (.int .i64) (Eq.refl (out.set ((k:Int)-(1:Int)).toNat (Int.tdiv (r*(1000000000:Int)+a.getD ((k:Int)-(1:Int)).toNat (0:Int)) d)))] 270000400999102384946506999662653569
def aiZ (a:List Int) (d:Int) (out:List Int) (r:Int) (k:Nat) (h1:¬(k:Int)-1>=0):
  bg gP (fl yu pK) (qW a d out r k) 2 (.exit 0) [(64,64,none)] (qW a d out r k):=
 wy [aA h1] 1
def ai0 (a:List Int) (d:Int) (out:List Int) (r:Int) (k:Nat) (h1:(Nat.beq out.length 0||bz 3 (.int .i64) (ba 3 (.int .i64) out) (out.length-1))=true) (h2:((out.drop 0).take out.length).length<=1000000):
  bH gP ((fl yu []).drop 5) (qW a d out r k) 1 f183 false (.tuple [lv (ec ((out.drop 0).take out.length)),iv r]):=
 wy [af (show(Nat.beq out.length (0:Nat)||bz 3 (.int .i64) (ba 3 (.int .i64) out) ((0:Nat)+out.length-(1:Nat)))=true from(by simp only [aw]<;>exact h1)),af (show(decide ((((bM (.int .i64) (ba 3 (.int .i64) out)).drop (0:Nat)).take out.length).length<=(1000000:Nat)))=true from(by simp only [ew]<;>exact ax h2)),az (show(ec (((bM (.int .i64) (ba 3 (.int .i64) out)).drop (0:Nat)).take out.length))=(ec ((out.drop (0:Nat)).take out.length))from(by simp only [ew]<;>rfl))] 12417
abbrev wK (n:Nat) (cap:aZ):aa:= .bR 3 (.int .i64) 64 0 n cap
abbrev ai1 (xs:List Int):List (Nat×fG):=[(64, .blk (.own 3 (.int .i64) xs))]
abbrev r64:Sv.Ren:=[(64,64,none)]
def jj (xs v:List Int) (j n:Nat) (cap:aZ) (t r:Int):bC:={n:=77,sl:=[(0,wK n cap),(1,lv v),(2,iv j),(7,iv v.length),(9,iv t),(10,iv r)],bF:=ai1 xs,next:=65}
def fb (xs v:List Int) (j:Nat):Int:=xs.getD ((j:Int)+(v.length:Int)).toNat 0*1000000000+xs.getD ((j:Int)+(v.length:Int)-1).toNat 0
abbrev cK (v:List Int):Int:=v.getD ((v.length:Int)-1).toNat 0
abbrev nI (v:List Int):Int:=v.getD ((v.length:Int)-2).toNat 0
abbrev pN (xs v:List Int) (j:Nat):Int:=xs.getD ((j:Int)+(v.length:Int)-2).toNat 0
def ai2 (xs v:List Int) (j n:Nat) (cap:aZ) (h1:i6 ((j:Int)+(v.length:Int))) (h2:((j:Int)+(v.length:Int)).toNat<n) (h3:(bz 3 (.int .i64) (some (bq.own 3 (.int .i64) xs)) ((j:Int)+(v.length:Int)).toNat)=true) (h4:i6 (xs.getD ((j:Int)+(v.length:Int)).toNat 0*1000000000)) (h5:i6 ((j:Int)+(v.length:Int)-1)) (h6:0<=(j:Int)+(v.length:Int)-1) (h7:((j:Int)+(v.length:Int)-1).toNat<n) (h8:(bz 3 (.int .i64) (some (bq.own 3 (.int .i64) xs)) ((j:Int)+(v.length:Int)-1).toNat)=true) (h9:i6 (xs.getD ((j:Int)+(v.length:Int)).toNat 0*1000000000+xs.getD ((j:Int)+(v.length:Int)-1).toNat 0)) (h10:i6 ((v.length:Int)-1)) (h11:0<=(v.length:Int)-1) (h12:((v.length:Int)-1).toNat<v.length) (dG:v.getD ((v.length:Int)-1).toNat 0≠0) (gq:i6 (Int.tdiv (xs.getD ((j:Int)+(v.length:Int)).toNat 0*1000000000+xs.getD ((j:Int)+(v.length:Int)-1).toNat 0) (v.getD ((v.length:Int)-1).toNat 0))) (iB:(Int.tdiv (xs.getD ((j:Int)+(v.length:Int)).toNat 0*1000000000+xs.getD ((j:Int)+(v.length:Int)-1).toNat 0) (v.getD ((v.length:Int)-1).toNat 0))=(Int.tdiv (fb xs v j) (v.getD ((v.length:Int)-1).toNat 0))) (j3:(Int.tmod (xs.getD ((j:Int)+(v.length:Int)).toNat 0*1000000000+xs.getD ((j:Int)+(v.length:Int)-1).toNat 0) (v.getD ((v.length:Int)-1).toNat 0))=(Int.tmod (fb xs v j) (v.getD ((v.length:Int)-1).toNat 0))):
  aC.path (iw prog (aR []) 77 ((fl pM []).take 4) (de [wK n cap,lv v,iv j] .nil 0) (qv 3 (.int .i64) xs)) (dl 1) (dP prog 77 .normal r64 (jj xs v j n cap (Int.tdiv (fb xs v j) (cK v)) (Int.tmod (fb xs v j) (cK v)))):=
 wy [yi h1,ah h2,af (show(bz 3 (.int .i64) (some (bq.own 3 (.int .i64) xs)) ((0:Nat)+((j:Int)+(v.length:Int)).toNat))=true from(by simp only [aw]<;>exact h3)),af (aV (v:=iv (xs.getD ((0:Nat)+((j:Int)+(v.length:Int)).toNat) (0:Int)))),af (show(fits IntKind.i64 (xs.getD ((0:Nat)+((j:Int)+(v.length:Int)).toNat) (0:Int)*(1000000000:Int)))=true from(by simp only [aw]<;>exact br h4)),yi h5,ah h6,ah h7,af (show(bz 3 (.int .i64) (some (bq.own 3 (.int .i64) xs)) ((0:Nat)+((j:Int)+(v.length:Int)-(1:Int)).toNat))=true from(by simp only [aw]<;>exact h8)),af (aV (v:=iv (xs.getD ((0:Nat)+((j:Int)+(v.length:Int)-(1:Int)).toNat) (0:Int)))),af (show(fits IntKind.i64 (xs.getD ((0:Nat)+((j:Int)+(v.length:Int)).toNat) (0:Int)*(1000000000:Int)+xs.getD ((0:Nat)+((j:Int)+(v.length:Int)-(1:Int)).toNat) (0:Int)))=true from(by simp only [aw]<;>exact br h9)),yi h10,ah h11,ah h12,af (aV (v:=iv (v.getD ((v.length:Int)-(1:Int)).toNat (0:Int)))),ah dG,af (show(fits IntKind.i64 (Int.tdiv (xs.getD ((0:Nat)+((j:Int)+(v.length:Int)).toNat) (0:Int)*(1000000000:Int)+xs.getD ((0:Nat)+((j:Int)+(v.length:Int)-(1:Int)).toNat) (0:Int)) (v.getD ((v.length:Int)-(1:Int)).toNat (0:Int))))=true from(by simp only [aw]<;>exact br gq)),az (show(Int.tdiv (xs.getD ((0:Nat)+((j:Int)+(v.length:Int)).toNat) (0:Int)*(1000000000:Int)+xs.getD ((0:Nat)+((j:Int)+(v.length:Int)-(1:Int)).toNat) (0:Int)) (v.getD ((v.length:Int)-(1:Int)).toNat (0:Int)))=(Int.tdiv (fb xs v j) (v.getD ((v.length:Int)-(1:Int)).toNat (0:Int)))from(by simp only [aw]<;>exact iB)),az (show(Int.tmod (xs.getD ((0:Nat)+((j:Int)+(v.length:Int)).toNat) (0:Int)*(1000000000:Int)+xs.getD ((0:Nat)+((j:Int)+(v.length:Int)-(1:Int)).toNat) (0:Int)) (v.getD ((v.length:Int)-(1:Int)).toNat (0:Int)))=(Int.tmod (fb xs v j) (v.getD ((v.length:Int)-(1:Int)).toNat (0:Int)))from(by simp only [aw]<;>exact j3))] 7745943541467187237997735947277335306600882047791326166786049
abbrev AR:List Nat:=[1,1,1,1,0,0,0]
def ai3 (xs v:List Int) (j n:Nat) (cap:aZ) (t r:Int) (h1:t>=1000000000) (h2:i6 (t-1)) (h3:i6 ((v.length:Int)-1)) (h4:0<=(v.length:Int)-1) (h5:((v.length:Int)-1).toNat<v.length) (h6:i6 (r+v.getD ((v.length:Int)-1).toNat 0)) (h7:r+v.getD ((v.length:Int)-1).toNat 0>=1000000000):
  aC.path (od prog (aR []) (fl pM AR) (jj xs v j n cap t r)) (dl 3932160) (uf prog f185 3 (.int .i64) xs (iv (t-1))):=
 wy [af (aS (ax h1)),ah h1,yi h2,yi h3,ah h4,ah h5,yi h6,ah h7,vN (an (rr (t-(1:Int))) (rr (xs)))] 833670876018392705917515033473870691017842495553
def ai4 (xs v:List Int) (j n:Nat) (cap:aZ) (t r:Int) (h1:t>=1000000000) (h2:i6 (t-1)) (h3:i6 ((v.length:Int)-1)) (h4:0<=(v.length:Int)-1) (h5:((v.length:Int)-1).toNat<v.length) (h6:i6 (r+v.getD ((v.length:Int)-1).toNat 0)) (h7:¬r+v.getD ((v.length:Int)-1).toNat 0>=1000000000):
  bg (aR []) (fl pM AR) (jj xs v j n cap t r) 2883584 .normal r64 (jj xs v j n cap (t-1) (r+cK v)):=
 wy [af (aS (ax h1)),ah h1,yi h2,yi h3,ah h4,ah h5,yi h6,aA h7] 11576205019759814427942315070961492461380440129
def ai5 (xs v:List Int) (j n:Nat) (cap:aZ) (t r:Int) (h1:¬t>=1000000000) (h2:i6 ((v.length:Int)-2)) (h3:0<=(v.length:Int)-2) (h4:((v.length:Int)-2).toNat<v.length) (h5:i6 (t*v.getD ((v.length:Int)-2).toNat 0)) (h6:i6 (r*1000000000)) (h7:i6 ((j:Int)+(v.length:Int))) (h8:i6 ((j:Int)+(v.length:Int)-2)) (h9:0<=(j:Int)+(v.length:Int)-2) (h10:((j:Int)+(v.length:Int)-2).toNat<n) (h11:(bz 3 (.int .i64) (some (bq.own 3 (.int .i64) xs)) ((j:Int)+(v.length:Int)-2).toNat)=true) (h12:i6 (r*1000000000+xs.getD ((j:Int)+(v.length:Int)-2).toNat 0)) (dG:t*v.getD ((v.length:Int)-2).toNat 0>r*1000000000+xs.getD ((j:Int)+(v.length:Int)-2).toNat 0) (gq:i6 (t-1)) (iB:i6 ((v.length:Int)-1)) (j3:0<=(v.length:Int)-1) (uA:((v.length:Int)-1).toNat<v.length) (uB:i6 (r+v.getD ((v.length:Int)-1).toNat 0)) (h19:r+v.getD ((v.length:Int)-1).toNat 0>=1000000000):
  aC.path (od prog (aR []) (fl pM AR) (jj xs v j n cap t r)) (dl 3932159) (uf prog f185 3 (.int .i64) xs (iv (t-1))):=
 wy [af (aS (ab h1)),yi h2,ah h3,ah h4,af (aV (v:=iv (v.getD ((v.length:Int)-(2:Int)).toNat (0:Int)))),yi h5,yi h6,yi h7,yi h8,ah h9,ah h10,af (show(bz 3 (.int .i64) (some (bq.own 3 (.int .i64) xs)) ((0:Nat)+((j:Int)+(v.length:Int)-(2:Int)).toNat))=true from(by simp only [aw]<;>exact h11)),af (aV (v:=iv (xs.getD ((0:Nat)+((j:Int)+(v.length:Int)-(2:Int)).toNat) (0:Int)))),af (show(fits IntKind.i64 (r*(1000000000:Int)+xs.getD ((0:Nat)+((j:Int)+(v.length:Int)-(2:Int)).toNat) (0:Int)))=true from(by simp only [aw]<;>exact br h12)),aA h1,af (show(decide (t*v.getD ((v.length:Int)-(2:Int)).toNat (0:Int)>r*(1000000000:Int)+xs.getD ((0:Nat)+((j:Int)+(v.length:Int)-(2:Int)).toNat) (0:Int)))=true from(by simp only [aw]<;>exact ax dG)),yi gq,yi iB,ah j3,ah uA,yi uB,ah h19,vN (an (rr (t-(1:Int))) (rr (xs)))] 41254031541230140472553383178300452332773505826332860127072467285497352257
def ai6 (xs v:List Int) (j n:Nat) (cap:aZ) (t r:Int) (h1:¬t>=1000000000) (h2:i6 ((v.length:Int)-2)) (h3:0<=(v.length:Int)-2) (h4:((v.length:Int)-2).toNat<v.length) (h5:i6 (t*v.getD ((v.length:Int)-2).toNat 0)) (h6:i6 (r*1000000000)) (h7:i6 ((j:Int)+(v.length:Int))) (h8:i6 ((j:Int)+(v.length:Int)-2)) (h9:0<=(j:Int)+(v.length:Int)-2) (h10:((j:Int)+(v.length:Int)-2).toNat<n) (h11:(bz 3 (.int .i64) (some (bq.own 3 (.int .i64) xs)) ((j:Int)+(v.length:Int)-2).toNat)=true) (h12:i6 (r*1000000000+xs.getD ((j:Int)+(v.length:Int)-2).toNat 0)) (dG:t*v.getD ((v.length:Int)-2).toNat 0>r*1000000000+xs.getD ((j:Int)+(v.length:Int)-2).toNat 0) (gq:i6 (t-1)) (iB:i6 ((v.length:Int)-1)) (j3:0<=(v.length:Int)-1) (uA:((v.length:Int)-1).toNat<v.length) (uB:i6 (r+v.getD ((v.length:Int)-1).toNat 0)) (h19:¬r+v.getD ((v.length:Int)-1).toNat 0>=1000000000):
  bg (aR []) (fl pM AR) (jj xs v j n cap t r) 2883583 .normal r64 (jj xs v j n cap (t-1) (r+cK v)):=
 wy [af (aS (ab h1)),yi h2,ah h3,ah h4,af (aV (v:=iv (v.getD ((v.length:Int)-(2:Int)).toNat (0:Int)))),yi h5,yi h6,yi h7,yi h8,ah h9,ah h10,af (show(bz 3 (.int .i64) (some (bq.own 3 (.int .i64) xs)) ((0:Nat)+((j:Int)+(v.length:Int)-(2:Int)).toNat))=true from(by simp only [aw]<;>exact h11)),af (aV (v:=iv (xs.getD ((0:Nat)+((j:Int)+(v.length:Int)-(2:Int)).toNat) (0:Int)))),af (show(fits IntKind.i64 (r*(1000000000:Int)+xs.getD ((0:Nat)+((j:Int)+(v.length:Int)-(2:Int)).toNat) (0:Int)))=true from(by simp only [aw]<;>exact br h12)),aA h1,af (show(decide (t*v.getD ((v.length:Int)-(2:Int)).toNat (0:Int)>r*(1000000000:Int)+xs.getD ((0:Nat)+((j:Int)+(v.length:Int)-(2:Int)).toNat) (0:Int)))=true from(by simp only [aw]<;>exact ax dG)),yi gq,yi iB,ah j3,ah uA,yi uB,aA h19] 616549051327300892137540661213326468741376198193624090275524655767097409
def ai7 (xs v:List Int) (j n:Nat) (cap:aZ) (t r:Int) (h1:¬t>=1000000000) (h2:i6 ((v.length:Int)-2)) (h3:0<=(v.length:Int)-2) (h4:((v.length:Int)-2).toNat<v.length) (h5:i6 (t*v.getD ((v.length:Int)-2).toNat 0)) (h6:i6 (r*1000000000)) (h7:i6 ((j:Int)+(v.length:Int))) (h8:i6 ((j:Int)+(v.length:Int)-2)) (h9:0<=(j:Int)+(v.length:Int)-2) (h10:((j:Int)+(v.length:Int)-2).toNat<n) (h11:(bz 3 (.int .i64) (some (bq.own 3 (.int .i64) xs)) ((j:Int)+(v.length:Int)-2).toNat)=true) (h12:i6 (r*1000000000+xs.getD ((j:Int)+(v.length:Int)-2).toNat 0)) (dG:¬t*v.getD ((v.length:Int)-2).toNat 0>r*1000000000+xs.getD ((j:Int)+(v.length:Int)-2).toNat 0):
  bg (aR []) (fl pM AR) (jj xs v j n cap t r) 1310719 (.exit 0) r64 (jj xs v j n cap t r):=
 wy [af (aS (ab h1)),yi h2,ah h3,ah h4,af (aV (v:=iv (v.getD ((v.length:Int)-(2:Int)).toNat (0:Int)))),yi h5,yi h6,yi h7,yi h8,ah h9,ah h10,af (show(bz 3 (.int .i64) (some (bq.own 3 (.int .i64) xs)) ((0:Nat)+((j:Int)+(v.length:Int)-(2:Int)).toNat))=true from(by simp only [aw]<;>exact h11)),af (aV (v:=iv (xs.getD ((0:Nat)+((j:Int)+(v.length:Int)-(2:Int)).toNat) (0:Int)))),af (show(fits IntKind.i64 (r*(1000000000:Int)+xs.getD ((0:Nat)+((j:Int)+(v.length:Int)-(2:Int)).toNat) (0:Int)))=true from(by simp only [aw]<;>exact br h12)),aA h1,af (show(decide (t*v.getD ((v.length:Int)-(2:Int)).toNat (0:Int)>r*(1000000000:Int)+xs.getD ((0:Nat)+((j:Int)+(v.length:Int)-(2:Int)).toNat) (0:Int)))=false from(by simp only [aw]<;>exact ab dG))] 6522028266599319008889569978648965812446332058695169592266817
def ai8 (xs v:List Int) (j n:Nat) (cap:aZ) (t r:Int):
  aC.path (od prog (aR []) ((fl pM []).drop 5) (jj xs v j n cap t r)) (dl 1) (uf prog f185 3 (.int .i64) xs (iv t)):=
 wy [vN (an (rr (t)) (rr (xs)))] 1
noncomputable def T8:bp:={f:=183,ps:=[.list false (.int .i64), .int .i64],rs:=[.list false (.int .i64), .int .i64],fresh:=false,pre:=fun d=>okB d.1&&(decide (1<=d.2.1)&&decide (d.2.1<1000000000)),fn:=fun d=>(aI (ag d.1/d.2.1),ag d.1%d.2.1,())}
def oz (v1 v2 u2:Int):Nat->Int->Int->Int
 |0,t,_=>t
 |f+1,t,r=>if 1000000000<=t\/r*1000000000+u2<t*v2 then(if 1000000000<=r+v1 then t-1 else oz v1 v2 u2 f (t-1) (r+v1))else t
def qX (xs v:List Int) (j:Int):Int:=oz (cK v) (nI v) (pN xs v j.toNat) 2 (fb xs v j.toNat/cK v) (fb xs v j.toNat%cK v)
def AU (xs:List Int) (k len:Nat) (v:List Int) (j:Int):Bool:=(Nat.beq k 0&&Nat.beq len xs.length)&&((AN xs&&AN v)&&((decide (2<=v.length)&&decide (0<=j))&&((decide (j+(v.length:Int)<(xs.length:Int))&&decide (500000000<=cK v))&&decide (xs.length<=1000000))))
noncomputable def wL:gK:={f:=185,e:=3,t:= .int .i64,ps:=[.list false (.int .i64), .int .i64],rs:=[.int .i64],pre:=fun xs k len d=>AU xs k len d.1 d.2.1,out:=fun xs _ _ _=>xs,fn:=fun xs _ _ d=>(qX xs d.1 d.2.1,())}
def ai9 (a:List Int) (d:Int) (h:okB a=true) (asN:1<=d) (gJ:d<1000000000):Holds prog false 183 [lv a,iv d] (.tuple [lv (aI (ag a/d)),iv (ag a%d)]):=by
 obtain⟨ha,la⟩:=oy.1 h;have hS:=Gx;refine bL (c:=yu) func183 rfl rfl fun w0 F=> ?_
 refine cC hS 4 (aiX a d (by omega) (by omega) (pL _).symm (by rw [pL]) (Mm _)) ?_;refine aP.loop (ι:={x:List Int×Int×Nat//x.2.2<=a.length/\x.1.length=a.length/\aT 1000000000 x.1/\(0<=x.2.1/\x.2.1<d)/\ag (a.drop x.2.2)=ag (x.1.drop x.2.2)*d+x.2.1}) (id:=0) (b:=cat yu pK) (rest:=(fl yu []).drop 5) (by kernel_rfl) (fun x=>qW a d x.1.1 x.1.2.1 x.1.2.2) (fun x=>x.1.2.2)
  ⟨(fY a.length,0,a.length),aG _,pL _,Ml _,⟨Int.le_refl 0,show(0:Int)<d by omega⟩,by
    show ag (a.drop a.length)=ag ((fY a.length).drop a.length)*d+0;rw [List.drop_length,List.drop_eq_nil_of_le (by rw [pL];exact aG _)];simp [ag,vl]⟩ (fun _=>rfl) ?_
 rintro⟨⟨q,r,k⟩,hk,hq,jl,hr,hv⟩;have hk:k<=a.length:=hk;have hq:q.length=a.length:=hq;have jl:aT 1000000000 q:=jl;have hr:0<=r/\r<d:=hr;have hv:ag (a.drop k)=ag (q.drop k)*d+r:=hv;cases k with
 |zero=>
  refine bl (s:=qW a d q r 0) hS (aiZ a d q r 0 (by omega)) ?_;refine cw (cz ?_);rw [List.drop_zero,List.drop_zero]at hv;obtain⟨g1,g2⟩:=kd (U:=ag a) (V:=d) (t:=ag q) (by omega) (by omega) (by omega);have e3:ag a%d=r:=by omega
  have key:=ai0 a d q r 0 (AP _ q) (by rw [List.drop_zero,dI];omega);rw [List.drop_zero,dI,nq jl]at key;rw [g1,e3];exact bP (s:=qW a d q r 0) hS key
 |succ j=>
  have ej:(((j+1:Nat):Int)-1).toNat=j:=by omega
  have haj:=ha.get (by decide) j;have hs0:0<=r*1000000000+a.getD j 0:=by omega
  have et:Int.tdiv (r*1000000000+a.getD j 0) d=(r*1000000000+a.getD j 0)/d:=Int.tdiv_eq_ediv_of_nonneg hs0;have em:Int.tmod (r*1000000000+a.getD j 0) d=(r*1000000000+a.getD j 0)%d:=Int.tmod_eq_emod_of_nonneg hs0;have tH:=Int.emod_add_mul_ediv (r*1000000000+a.getD j 0) d;have hm0:=eG (r*1000000000+a.getD j 0) (show d≠0 by omega);have pE:=e6 (r*1000000000+a.getD j 0) (show 0<d by omega);have mK:0<=(r*1000000000+a.getD j 0)/d:=Int.ediv_nonneg hs0 (by omega);have hq1:(r*1000000000+a.getD j 0)/d<1000000000:=(Int.ediv_lt_iff_lt_mul (by omega)).2 (by
   have:(r+1)*1000000000<=d*1000000000:=ar (by omega) (by decide);rw [Int.mul_comm _ d];omega)
  have key:=aiY a d q r (j+1) (by omega) (by omega) (by omega) (by omega);rw [ej,et,em]at key;refine bl (s:=qW a d q r (j+1)) hS (key (by omega) (by omega) (by omega) (by omega) (by omega) (by rw [b6]) (by rw [b6])) ?_;have o7:(((j+1:Nat):Int)-1-1)=(j:Int)-1:=by omega
  refine⟨⟨(q.set j ((r*1000000000+a.getD j 0)/d),(r*1000000000+a.getD j 0)%d,j),by show j<=_;omega,by show(q.set j _).length=_;rw [b6];exact hq,jl.set ⟨mK,hq1⟩,⟨hm0,pE⟩, ?_⟩,by show j<j+1;omega, ?_, ?_⟩
  .show ag (a.drop j)=ag ((q.set j ((r*1000000000+a.getD j 0)/d)).drop j)*d+(r*1000000000+a.getD j 0)%d;unfold ag at hv ⊢;rw [ua (l:=a) (by omega),ua (l:=q.set j _) (by rw [b6];omega),vV (by omega),hv];have Ls:(q.set j ((r*1000000000+a.getD j 0)/d)).drop (j+1)=q.drop (j+1):=by rw [List.drop_set];rw [if_pos (by omega)]
   rw [Ls];generalize vl 1000000000 (q.drop (j+1))=z at*;generalize (r*1000000000+a.getD j 0)/d=dd at*;generalize (r*1000000000+a.getD j 0)%d=e at*;grind
  .show(Mn a d _ _ (j+1)).T=(qW a d _ _ j).T;unfold Mn qW;rw [o7]
  .rfl
def aja:T8.Ok prog:=fun⟨a,d,_⟩ h=>by
 have h:(okB a&&(decide (1<=d)&&decide (d<1000000000)))=true:=h;rw [ae,ae]at h;exact ai9 a d h.1 (ap h.2.1) (ap h.2.2)
def fi {xs:List Int} {i:Nat} (h:i<xs.length):bz 3 (.int .i64) (some (.own 3 (.int .i64) xs)) i=true:=by
 unfold bz;simp only [Nat.beq_refl,decide_true,Bool.true_and];exact fo h
abbrev Gz (xs:List Int) (t:Int):Exit->aq aa->ai->Prop:=Cq prog f185 3 (.int .i64) xs (iv t)
def aP.Mo {X:Ext} {P:Program} {w0:World} {F:Sv.Env} {Q:Exit->aq aa->ai->Prop} (hK:eW P) (hm:P.follows .mixedOrders=true) {bw:bI} (hS:bD P (bG bw)) {l:List Code} {s:bC} {fn:Func} {e:TypeId} {t:av} {xs:List t.den} {res:aa} (D:List Bool) (h:(od P bw l s).path D (uf P fn e t xs res))
  (hq:∀T H,Cq P fn e t xs res .ret T H->Q .ret T H):bd X P w0 F s.n l s.T s.H Q:=
 aP.Lb hK hm hS (fn:=fn) (e:=e) (t:=t) (xs:=xs) (res:=res) l.length D (by rw [dI];exact h) hq
def ajb (xs v:List Int) (j:Nat) (cap:aZ) (hx:aT 1000000000 xs) (hv:aT 1000000000 v) (h2:2<=v.length) (hj:j+v.length<xs.length) (h1:500000000<=cK v) (hl:xs.length<=1000000) (A:Nat->Option (Nat×Nat)) (Y:Nat->Option Obj) (w:World) (F:Sv.Env):
  bd (qu A Y) prog w F 77 (fl pM []) (de [wK xs.length cap,lv v,iv j] .nil 0) (qv 3 (.int .i64) xs) (Gz xs (qX xs v j)):=by
 have hS:=bc;have i0:((j:Int)+(v.length:Int)).toNat=j+v.length:=by omega
 have i1:((j:Int)+(v.length:Int)-1).toNat=j+v.length-1:=by omega
 have i2:((j:Int)+(v.length:Int)-2).toNat=j+v.length-2:=by omega
 have i3:((v.length:Int)-1).toNat=v.length-1:=by omega
 have i4:((v.length:Int)-2).toNat=v.length-2:=by omega
 have b0:=hx.get (by decide) (j+v.length);have b1:=hx.get (by decide) (j+v.length-1);have b2:=hx.get (by decide) (j+v.length-2);have b3:=hv.get (by decide) (v.length-1);have b4:=hv.get (by decide) (v.length-2);have o0:=fi (xs:=xs) (i:=j+v.length) (by omega);have o1:=fi (xs:=xs) (i:=j+v.length-1) (by omega);have o2:=fi (xs:=xs) (i:=j+v.length-2) (by omega);have ajc:cK v=v.getD (v.length-1) 0:=by rw [<-i3]
 have asO:nI v=v.getD (v.length-2) 0:=by rw [<-i4]
 have asP:pN xs v j=xs.getD (j+v.length-2) 0:=by rw [<-i2]
 have Mp:fb xs v j=xs.getD (j+v.length) 0*1000000000+xs.getD (j+v.length-1) 0:=by unfold fb;rw [i0,i1]
 have hF:qX xs v j=oz (cK v) (nI v) (pN xs v j) 2 (fb xs v j/cK v) (fb xs v j%cK v):=by unfold qX;rw [Int.toNat_natCast]
 obtain⟨res,hres⟩:∃res,oz (cK v) (nI v) (pN xs v j) 2 (fb xs v j/cK v) (fb xs v j%cK v)=res:=⟨_,rfl⟩;rw [hF,hres];have CQ:0<=fb xs v j:=by rw [Mp];omega
 have ht1:fb xs v j<1000000000000000000:=by rw [Mp];omega
 have ed:Int.tdiv (fb xs v j) (cK v)=fb xs v j/cK v:=Int.tdiv_eq_ediv_of_nonneg CQ;have em:Int.tmod (fb xs v j) (cK v)=fb xs v j%cK v:=Int.tmod_eq_emod_of_nonneg CQ;have mK:0<=fb xs v j/cK v:=Int.ediv_nonneg CQ (by omega);have hq1:fb xs v j/cK v<=2000000000:=by
  have h3:fb xs v j/cK v*cK v<=fb xs v j:=Int.ediv_mul_le _ (by omega);rcases Int.lt_or_le 2000000000 (fb xs v j/cK v)with h|h
  .have:2000000001*500000000<=fb xs v j/cK v*cK v:=Int.mul_le_mul (by omega) h1 (by decide) (by omega);omega
  .exact h
 have tS:=eG (fb xs v j) (show cK v≠0 by omega);have kQ:=e6 (fb xs v j) (show 0<cK v by omega);have key:=ai2 xs v j xs.length cap;rw [ed,em,i0,i1,i3]at key;have T1:xs.getD (j+v.length) 0*1000000000+xs.getD (j+v.length-1) 0=fb xs v j:=Mp.symm;have T2:v.getD (v.length-1) 0=cK v:=ajc.symm;rw [T1,T2,ed]at key;have kT:=key (by omega) (by omega) o0 (by omega) (by omega) (by omega) (by omega) o1 (by omega) (by omega) (by omega) (by omega) (by omega) (by omega) rfl em;refine cC hS 4 kT ?_;refine aP.loop (ι:={x:Nat×Int×Int//oz (cK v) (nI v) (pN xs v j) x.1 x.2.1 x.2.2=res/\(0<=x.2.1/\x.2.1<=2000000000)/\(0<=x.2.2/\x.2.2<1000000000)/\(x.1=2\/(x.1=1/\1000000000<=x.2.2+cK v))}) (id:=0) (b:=cat pM AR) (rest:=(fl pM []).drop 5) (by kernel_rfl) (fun x=>jj xs v j xs.length cap x.1.2.1 x.1.2.2) (fun x=>x.1.1) ⟨(2,fb xs v j/cK v,fb xs v j%cK v),hres,⟨mK,hq1⟩,⟨tS,by show _%_<_;omega⟩, .inl rfl⟩ (fun _=>rfl) ?_;rintro⟨⟨f,t,r⟩,c1,c2,c3,c4⟩;have c1:oz (cK v) (nI v) (pN xs v j) f t r=res:=c1;have c2:0<=t/\t<=2000000000:=c2;have c3:0<=r/\r<1000000000:=c3;have c4:f=2\/(f=1/\1000000000<=r+cK v):=c4;obtain⟨g,rfl⟩:∃g,f=g+1:=⟨f-1,by omega⟩;unfold oz at c1;have d2:0<=t*nI v/\t*nI v<=2000000000*999999999:=⟨Int.mul_nonneg c2.1 (by omega),Int.mul_le_mul c2.2 (by omega) (by omega) (by decide)⟩;have uy:1<=t->¬1000000000<=r+cK v->oz (cK v) (nI v) (pN xs v j) g (t-1) (r+cK v)=res->∃x:{x:Nat×Int×Int//oz (cK v) (nI v) (pN xs v j) x.1 x.2.1 x.2.2=res/\(0<=x.2.1/\x.2.1<=2000000000)/\(0<=x.2.2/\x.2.2<1000000000)/\(x.1=2\/(x.1=1/\1000000000<=x.2.2+cK v))},x.1.1<g+1/\(jj xs v j xs.length cap (t-1) (r+cK v)).T=(jj xs v j xs.length cap x.1.2.1 x.1.2.2).T/\(jj xs v j xs.length cap (t-1) (r+cK v)).H=(jj xs v j xs.length cap x.1.2.1 x.1.2.2).H:=fun h1 h2 h3=>
  ⟨⟨(g,t-1,r+cK v),h3,⟨by show 0<=t-1;omega,by show t-1<=_;omega⟩,⟨by show 0<=r+cK v;omega,by show r+cK v<_;omega⟩, .inr ⟨by show g=1;omega,by show _<=r+cK v+cK v;omega⟩⟩,e8 _,rfl,rfl⟩
 have q1: -9223372036854775808<=r+cK v/\r+cK v<=9223372036854775807:=by omega
 have aO: -9223372036854775808<=t*nI v/\t*nI v<=9223372036854775807:=by omega
 have bV: -9223372036854775808<=r*1000000000+pN xs v j/\r*1000000000+pN xs v j<=9223372036854775807:=by omega
 have fin:∀z:Int,z=res->∀T H,Gz xs z .ret T H->Gz xs res .ret T H:=fun z hz T H h=>by rw [<-hz];exact h
 by_cases h3:t>=1000000000
 .rw [if_pos (.inl h3)]at c1;by_cases h4:r+cK v>=1000000000
  .rw [if_pos h4]at c1;exact aP.Mo (s:=jj xs v j xs.length cap t r) known mixed hS _ (ai3 xs v j xs.length cap t r h3 (by omega) (by omega) (by omega) (by omega) q1 h4) fun T H h=>fin _ c1 T H h
  .rw [if_neg h4]at c1;exact bl (s:=jj xs v j xs.length cap t r) hS (ai4 xs v j xs.length cap t r h3 (by omega) (by omega) (by omega) (by omega) q1 h4) (uy (by omega) h4 c1)
 .have Mq:bz 3 (.int .i64) (some (.own 3 (.int .i64) xs)) ((j:Int)+(v.length:Int)-2).toNat=true:=by rw [i2];exact o2
  by_cases h5:t*nI v>r*1000000000+pN xs v j
  .have ht1:1<=t:=by
    rcases Int.lt_or_le 0 t with h|h
    .exact h
    .have e:t=0:=by omega
     rw [e,Int.zero_mul]at h5;omega
   rw [if_pos (.inr h5)]at c1;by_cases h4:r+cK v>=1000000000
   .rw [if_pos h4]at c1;exact aP.Mo (s:=jj xs v j xs.length cap t r) known mixed hS _ (ai5 xs v j xs.length cap t r h3 (by omega) (by omega) (by omega) aO (by omega) (by omega) (by omega) (by omega) (by omega) Mq bV h5 (by omega) (by omega) (by omega) (by omega) q1 h4) fun T H h=>fin _ c1 T H h
   .rw [if_neg h4]at c1;exact bl (s:=jj xs v j xs.length cap t r) hS (ai6 xs v j xs.length cap t r h3 (by omega) (by omega) (by omega) aO (by omega) (by omega) (by omega) (by omega) (by omega) Mq bV h5 (by omega) (by omega) (by omega) (by omega) q1 h4) (uy ht1 h4 c1)
  .rw [if_neg (by omega)]at c1;refine bl (s:=jj xs v j xs.length cap t r) hS (ai7 xs v j xs.length cap t r h3 (by omega) (by omega) (by omega) aO (by omega) (by omega) (by omega) (by omega) (by omega) Mq bV h5) ?_;refine cw (cz ?_);exact aP.Mo (s:=jj xs v j xs.length cap t r) known mixed hS _ (ai8 xs v j xs.length cap t r) fun T H h=>fin _ c1 T H h
def ajd (xs:List Int) (k len:Nat) (cap:aZ) (v:List Int) (j:Int) (hp:AU xs k len v j=true) (A:Nat->Option (Nat×Nat)) (Y:Nat->Option Obj) (w:World) (F:Sv.Env):
  bd (qu A Y) prog w F 77 (fl pM []) (de [.bR 3 (.int .i64) 64 k len cap,lv v,iv j] .nil 0) (qv 3 (.int .i64) xs) (Gz xs (qX xs v j)):=by
 unfold AU at hp;simp only [ae,bB,C8]at hp;obtain⟨⟨h1,h2⟩,⟨h3,h4⟩,⟨h5,h6⟩,⟨h7,h8⟩,h9⟩:=hp;obtain rfl:=ac h1;obtain rfl:=ac h2;obtain⟨n,rfl⟩:=Int.eq_ofNat_of_zero_le h6;exact ajb xs v n cap h3 h4 h5 (by omega) h8 h9 A Y w F
def So:wL.Ok prog:=
 ⟨rfl,rfl,_,pM,func185,rfl,by decide,fun xs k len cap d hp _ hk A Y w F=>ajd xs k len cap d.1 d.2.1 hp A Y w F⟩
end
end Go.Proofs.YtibikmmdbdlafaaGreatDoor
