import Derived.Test.YtibikmmdbdlafaaGreatDoorZcA1
set_option linter.defProp false
set_option linter.unusedSimpArgs false
set_option linter.unusedVariables false
set_option maxRecDepth 100000
namespace Go.Proofs.YtibikmmdbdlafaaGreatDoor
open Go.RowKit Sv Go.Proofs.Tryz
noncomputable section
def uW:=k_a f133
def w6:=k_a f135
def l6:=k_a f136
def ik:=ow [Ho] (bc [Vm])
abbrev pT:List Nat:=[1,1,1,0,1,0,0]
def jO (a b out:List Int) (c:Int) (k:Nat):bD:={n:=42,sl:=[(0,lv a),(1,lv b),(5,mW 64 out),(6,iv c),(7,iv k)],bJ:=[(64,mX out)],next:=65}
def akc (a b:List Int):
  cZ ik (fl uW []) 4 42 [lv a,lv b] 1 .normal [] (jO a b [] 0 0):=
 wy [] 0
section
variable (a b out:List Int) (c:Int) (k:Nat)
def akd (h1:(k:Int)<(a.length:Int)) (h2:(0:av.den (.int .i64))<=(k:Int)) (h3:i6 (bW a (k:Int)+bW b (k:Int))) (h4:i6 (bW a (k:Int)+bW b (k:Int)+c)) (h5:out.length+1<=1000000) (h6:i6 (Int.tdiv (bW a (k:Int)+bW b (k:Int)+c) 1000000000)) (h7:i6 ((k:Int)+1)) (h8:(out.length+1)=(out++[Int.tmod (bW a (k:Int)+bW b (k:Int)+c) 1000000000]).length) (h9:(aX.full)=(bH (out++[Int.tmod (bW a (k:Int)+bW b (k:Int)+c) 1000000000]).length)):
  bt ik (fl uW pT) (jO a b out c k) 1424 .normal [(64,66,none)] (jO a b (out++[Int.tmod (bW a k+bW b k+c) 1000000000]) (Int.tdiv (bW a k+bW b k+c) 1000000000) (k+1)):=
 wy [af (bq (az h1)),ah h1,ah h2,yi h3,yi h4,yk 3 (.int .i64) out,jF 8 h5,yi h6,yi h7,ax h8,ax h9,kW 3 (.int .i64) (Eq.refl (out++[Int.tmod (bW a (k:Int)+bW b (k:Int)+c) (1000000000:Int)]))] 4489748952612617644828073985769994856947271015338049
def ake (h1:¬(k:Int)<(a.length:Int)) (h2:(k:Int)<(b.length:Int)) (h3:(0:av.den (.int .i64))<=(k:Int)) (h4:i6 (bW a (k:Int)+bW b (k:Int))) (h5:i6 (bW a (k:Int)+bW b (k:Int)+c)) (h6:out.length+1<=1000000) (h7:i6 (Int.tdiv (bW a (k:Int)+bW b (k:Int)+c) 1000000000)) (h8:i6 ((k:Int)+1)) (h9:(out.length+1)=(out++[Int.tmod (bW a (k:Int)+bW b (k:Int)+c) 1000000000]).length) (h10:(aX.full)=(bH (out++[Int.tmod (bW a (k:Int)+bW b (k:Int)+c) 1000000000]).length)):
  bt ik (fl uW pT) (jO a b out c k) 1423 .normal [(64,66,none)] (jO a b (out++[Int.tmod (bW a k+bW b k+c) 1000000000]) (Int.tdiv (bW a k+bW b k+c) 1000000000) (k+1)):=
 wy [af (bq (ab h1)),aJ h1,af (bq (az h2)),ah h2,ah h3,yi h4,yi h5,yk 3 (.int .i64) out,jF 8 h6,yi h7,yi h8,ax h9,ax h10,kW 3 (.int .i64) (Eq.refl (out++[Int.tmod (bW a (k:Int)+bW b (k:Int)+c) (1000000000:Int)]))] 5238040690022918447934035119010923055851292927987777
def akf (h1:¬(k:Int)<(a.length:Int)) (h2:¬(k:Int)<(b.length:Int)) (h3:c>0) (h4:(0:av.den (.int .i64))<=(k:Int)) (h5:i6 (bW a (k:Int)+bW b (k:Int))) (h6:i6 (bW a (k:Int)+bW b (k:Int)+c)) (h7:out.length+1<=1000000) (h8:i6 (Int.tdiv (bW a (k:Int)+bW b (k:Int)+c) 1000000000)) (h9:i6 ((k:Int)+1)) (h10:(out.length+1)=(out++[Int.tmod (bW a (k:Int)+bW b (k:Int)+c) 1000000000]).length) (h11:(aX.full)=(bH (out++[Int.tmod (bW a (k:Int)+bW b (k:Int)+c) 1000000000]).length)):
  bt ik (fl uW pT) (jO a b out c k) 1391 .normal [(64,66,none)] (jO a b (out++[Int.tmod (bW a k+bW b k+c) 1000000000]) (Int.tdiv (bW a k+bW b k+c) 1000000000) (k+1)):=
 wy [af (bq (ab h1)),aJ h1,af (bq (ab h2)),aJ h2,ah h3,ah h4,yi h5,yi h6,yk 3 (.int .i64) out,jF 8 h7,yi h8,yi h9,ax h10,ax h11,kW 3 (.int .i64) (Eq.refl (out++[Int.tmod (bW a (k:Int)+bW b (k:Int)+c) (1000000000:Int)]))] 5612186558728068849487015685631387156701777985015873
def akg (h1:¬(k:Int)<(a.length:Int)) (h2:¬(k:Int)<(b.length:Int)) (h3:¬c>0):
  bt ik (fl uW pT) (jO a b out c k) 623 (.exit 0) [(64,64,none)] (jO a b out c k):=
 wy [af (bq (ab h1)),aJ h1,af (bq (ab h2)),aJ h2,aJ h3] 1425176483074113
def akh (h1:(out)=((out.drop 0).take out.length)) (h2:out.length=0\/bz 3 (.int .i64) (bU 3 (.int .i64) out) (0+out.length-1)=true) (h3:false=true->out.length≠0):
  bS ik ((fl uW []).drop 5) (jO a b out c k) 1 f133 false (lv out):=
 wy [r9 (an (rr out.length) (an (show(out)=(((bN (.int .i64) (bU 3 (.int .i64) out)).drop (0:Nat)).take out.length)from(by simp only [ep]<;>exact h1)) (an h2 h3)))] 1
def oB:bD:={n:=35,sl:=[(0,lv a),(1,lv b),(5,mW 64 out),(6,iv c),(7,iv k)],bJ:=[(64,mX out)],next:=65}
end
def aki (a b:List Int):
  cZ ik (fl w6 []) 4 35 [lv a,lv b] 1 .normal [] (oB a b [] 0 0):=
 wy [] 0
section
variable (a b out:List Int) (c:Int) (k:Nat) (h1:(k:Int)<(a.length:Int)) (h2:k<a.length) (h3:(0:av.den (.int .i64))<=(k:Int)) (h4:i6 (a.getD k 0-bW b (k:Int))) (h5:i6 (a.getD k 0-bW b (k:Int)-c))
def akj (h6:¬a.getD k 0-bW b (k:Int)-c<0) (h7:out.length+1<=1000000) (h8:i6 ((k:Int)+1)) (h9:(out.length+1)=(out++[a.getD k 0-bW b (k:Int)-c]).length) (h10:(aX.full)=(bH (out++[a.getD k 0-bW b (k:Int)-c]).length)):
  bt ik (fl w6 pT) (oB a b out c k) 9 .normal [(64,66,none)] (oB a b (out++[a.getD k 0-bW b k-c]) 0 (k+1)):=
 wy [ah h1,ah h2,af (aF (v:=iv (a.getD k (0:Int)))),ah h3,yi h4,yi h5,aJ h6,yk 3 (.int .i64) out,jF 8 h7,yi h8,ax h9,ax h10,kW 3 (.int .i64) (Eq.refl (out++[a.getD k (0:Int)-bW b (k:Int)-c]))] 1105921642492323382824927727698886533121
def akk (h6:a.getD k 0-bW b (k:Int)-c<0) (h7:i6 (a.getD k 0-bW b (k:Int)-c+1000000000)) (h8:out.length+1<=1000000) (h9:i6 ((k:Int)+1)) (h10:(out.length+1)=(out++[a.getD k 0-bW b (k:Int)-c+1000000000]).length) (h11:(aX.full)=(bH (out++[a.getD k 0-bW b (k:Int)-c+1000000000]).length)):
  bt ik (fl w6 pT) (oB a b out c k) 11 .normal [(64,66,none)] (oB a b (out++[a.getD k 0-bW b k-c+1000000000]) 1 (k+1)):=
 wy [ah h1,ah h2,af (aF (v:=iv (a.getD k (0:Int)))),ah h3,yi h4,yi h5,ah h6,yi h7,yk 3 (.int .i64) out,jF 8 h8,yi h9,ax h10,ax h11,kW 3 (.int .i64) (Eq.refl (out++[a.getD k (0:Int)-bW b (k:Int)-c+(1000000000:Int)]))] 76223524083949719363713562717780016111617
end
def akl (a b out:List Int) (c:Int) (k:Nat) (h1:¬(k:Int)<(a.length:Int)):
  bt ik (fl w6 pT) (oB a b out c k) 2 (.exit 0) [(64,64,none)] (oB a b out c k):=
 wy [aJ h1] 1
def akm (a b out:List Int) (c:Int) (k:Nat) (h1:(Nat.beq out.length 0||bz 3 (.int .i64) (bU 3 (.int .i64) out) (out.length-1))=true) (h2:((out.drop 0).take out.length).length<=1000000):
  bS ik ((fl w6 []).drop 5) (oB a b out c k) 1 f135 false (lv (ew ((out.drop 0).take out.length))):=
 wy [af (show(Nat.beq out.length (0:Nat)||bz 3 (.int .i64) (bU 3 (.int .i64) out) ((0:Nat)+out.length-(1:Nat)))=true from(by simp only [aw]<;>exact h1)),af (show(decide ((((bN (.int .i64) (bU 3 (.int .i64) out)).drop (0:Nat)).take out.length).length<=(1000000:Nat)))=true from(by simp only [ep]<;>exact az h2)),ax (show(ew (((bN (.int .i64) (bU 3 (.int .i64) out)).drop (0:Nat)).take out.length))=(ew ((out.drop (0:Nat)).take out.length))from(by simp only [ep]<;>rfl))] 12417
abbrev DT:List Nat:=[1,1,0,1,0,0]
abbrev Ht:List Nat:=[1,1,0,1,0,0,1,0,0]
abbrev Nn:List Nat:=[1,1,0,1,0,0,1,0,0,1,0,1,0,0]
def mc (a b out:List Int) (i:Nat):bD:={n:=72,sl:=[(0,lv a),(1,lv b),(5,mW 64 out),(6,iv i)],bJ:=[(64,mX out)],next:=65}
def rA (a b out:List Int) (i:Nat) (c:Int) (j:Nat):bD:={n:=72,sl:=[(0,lv a),(1,lv b),(5,mW 64 out),(6,iv i),(7,iv c),(8,iv j)],bJ:=[(64,mX out)],next:=65}
def gf (n:Nat):List Int:=List.replicate n 0
def akn (a b:List Int) (h1: -9223372036854775808<=(a.length:Int)+(b.length:Int)/\(a.length:Int)+(b.length:Int)<=9223372036854775807) (h2:((a.length:Int)+(b.length:Int)).toNat<=1000000) (h3:(((a.length:Int)+(b.length:Int)).toNat)=(gf (a.length+b.length)).length) (h4:(aX.known ((a.length:Int)+(b.length:Int)).toNat)=(aX.known (a.length+b.length))) (h5:(bH (gf (a.length+b.length)).length)=(bH (a.length+b.length))) (h6:(List.flatten (List.replicate ((a.length:Int)+(b.length:Int)).toNat (List.map aa.raw (Array.toList #[Value.int .i64 (0:Int)]))))=(List.flatMap (fun x=>[iv x]) (gf (a.length+b.length)))) (h7:(a.length+b.length)=(gf (a.length+b.length)).length):
  aD.path (pF prog ik (fl l6 []) 3 72 [lv a,lv b]) (dl 1) (ef prog 72 .normal [(64,64,some (a.length+b.length))] (mc a b (gf (a.length+b.length)) 0)):=
 mp (adT (eN h1) rt (og rt (show(decide (((a.length:Int)+(b.length:Int)).toNat<=((a.length:Int)+(b.length:Int)).toNat))=true from az ω) (show(bounded ((a.length:Int)+(b.length:Int)).toNat (8:Nat))=true from pH h2 ω) (rr a) (rr b) (an h3 (an h4 h5)) (rr (0:Int)) (an h6 h7) trivial))
section
variable (a b out:List Int) (i:Nat)
def ako (h1:(i:Int)<(a.length:Int)):
  cY ik (fl l6 DT) 2 (mc a b out i) 3 .normal [(64,64,none)] (mc a b out i):=
 wy [ah h1] 1
def LE (h1:¬(i:Int)<(a.length:Int)):
  cY ik (fl l6 DT) 2 (mc a b out i) 2 (.exit 0) [(64,64,none)] (mc a b out i):=
 wy [aJ h1] 1
def akp:
  cY ik (fl l6 Ht) 2 (mc a b out i) 1 .normal [(64,64,none)] (rA a b out i 0 0):=
 wy [] 0
def akq (c:Int) (j:Nat) (h1:(j:Int)<(b.length:Int)) (h2:i6 ((i:Int)+(j:Int))) (h3:((i:Int)+(j:Int)).toNat<out.length) (h4:i<a.length) (h5:j<b.length) (h6:i6 (a.getD i 0*b.getD j 0)) (h7:i6 (out.getD ((i:Int)+(j:Int)).toNat 0+a.getD i 0*b.getD j 0)) (h8:i6 (out.getD ((i:Int)+(j:Int)).toNat 0+a.getD i 0*b.getD j 0+c)) (h9:i6 (Int.tdiv (out.getD ((i:Int)+(j:Int)).toNat 0+a.getD i 0*b.getD j 0+c) 1000000000)) (h10:i6 ((j:Int)+1)) (h11:out.length=(out.set ((i:Int)+(j:Int)).toNat (Int.tmod (out.getD ((i:Int)+(j:Int)).toNat 0+a.getD i 0*b.getD j 0+c) 1000000000)).length) (h12:(bH out.length)=(bH (out.set ((i:Int)+(j:Int)).toNat (Int.tmod (out.getD ((i:Int)+(j:Int)).toNat 0+a.getD i 0*b.getD j 0+c) 1000000000)).length)):
  bt ik (fl l6 Nn) (rA a b out i c j) 3 .normal [(64,64,none)] (rA a b (out.set ((i:Int)+(j:Int)).toNat (Int.tmod (out.getD ((i:Int)+(j:Int)).toNat 0+a.getD i 0*b.getD j 0+c) 1000000000)) i (Int.tdiv (out.getD ((i:Int)+(j:Int)).toNat 0+a.getD i 0*b.getD j 0+c) 1000000000) (j+1)):=
 wy [ah h1,yi h2,ah h3,jf 3 (.int .i64) h3,af (aF (v:=iv ((bN (.int .i64) (bU 3 (.int .i64) out)).getD ((0:Nat)+((i:Int)+(j:Int)).toNat) (0:Int)))),ah h4,af (aF (v:=iv (a.getD i (0:Int)))),ah h5,af (aF (v:=iv (b.getD j (0:Int)))),yi h6,af (show(fits IntKind.i64 ((bN (.int .i64) (bU 3 (.int .i64) out)).getD ((0:Nat)+((i:Int)+(j:Int)).toNat) (0:Int)+a.getD i (0:Int)*b.getD j (0:Int)))=true from(by simp only [ep,aw]<;>exact eN h7)),af (show(fits IntKind.i64 ((bN (.int .i64) (bU 3 (.int .i64) out)).getD ((0:Nat)+((i:Int)+(j:Int)).toNat) (0:Int)+a.getD i (0:Int)*b.getD j (0:Int)+c))=true from(by simp only [ep,aw]<;>exact eN h8)),af (show(fits IntKind.i64 (Int.tdiv ((bN (.int .i64) (bU 3 (.int .i64) out)).getD ((0:Nat)+((i:Int)+(j:Int)).toNat) (0:Int)+a.getD i (0:Int)*b.getD j (0:Int)+c) (1000000000:Int)))=true from(by simp only [ep,aw]<;>exact eN h9)),yi h10,ax h11,ax h12,ax (show(Int.tdiv ((bN (.int .i64) (bU 3 (.int .i64) out)).getD ((0:Nat)+((i:Int)+(j:Int)).toNat) (0:Int)+a.getD i (0:Int)*b.getD j (0:Int)+c) (1000000000:Int))=(Int.tdiv (out.getD ((i:Int)+(j:Int)).toNat (0:Int)+a.getD i (0:Int)*b.getD j (0:Int)+c) (1000000000:Int))from(by simp only [ep,aw]<;>rfl)),pG prog 3 (.int .i64) (show((bN (.int .i64) (bU 3 (.int .i64) out)).set ((0:Nat)+((i:Int)+(j:Int)).toNat) (Int.tmod ((bN (.int .i64) (bU 3 (.int .i64) out)).getD ((0:Nat)+((i:Int)+(j:Int)).toNat) (0:Int)+a.getD i (0:Int)*b.getD j (0:Int)+c) (1000000000:Int)))=(out.set ((i:Int)+(j:Int)).toNat (Int.tmod (out.getD ((i:Int)+(j:Int)).toNat (0:Int)+a.getD i (0:Int)*b.getD j (0:Int)+c) (1000000000:Int)))from(by simp only [ep,aw]<;>rfl))] 113013889735155783555940953289561697649430070733285792415873
def akr (c:Int) (j:Nat) (h1:¬(j:Int)<(b.length:Int)):
  bt ik (fl l6 Nn) (rA a b out i c j) 2 (.exit 2) [(64,64,none)] (rA a b out i c j):=
 wy [aJ h1] 1
def aks (c:Int) (j:Nat) (h1:i6 ((i:Int)+(b.length:Int))) (h2:((i:Int)+(b.length:Int)).toNat<out.length) (h3:i6 (out.getD ((i:Int)+(b.length:Int)).toNat 0+c)) (h4:out.length=(out.set ((i:Int)+(b.length:Int)).toNat (out.getD ((i:Int)+(b.length:Int)).toNat 0+c)).length) (h5:(bH out.length)=(bH (out.set ((i:Int)+(b.length:Int)).toNat (out.getD ((i:Int)+(b.length:Int)).toNat 0+c)).length)):
  bt ik ((fl l6 Ht).drop 3) (rA a b out i c j) 1 .normal [(64,64,none)] (mc a b (out.set ((i:Int)+(b.length:Int)).toNat (out.getD ((i:Int)+(b.length:Int)).toNat 0+c)) i):=
 wy [yi h1,ah h2,jf 3 (.int .i64) h2,af (show(fits IntKind.i64 ((bN (.int .i64) (bU 3 (.int .i64) out)).getD ((0:Nat)+((i:Int)+(b.length:Int)).toNat) (0:Int)+c))=true from(by simp only [ep,aw]<;>exact eN h3)),ax h4,ax h5,pG prog 3 (.int .i64) (show((bN (.int .i64) (bU 3 (.int .i64) out)).set ((0:Nat)+((i:Int)+(b.length:Int)).toNat) ((bN (.int .i64) (bU 3 (.int .i64) out)).getD ((0:Nat)+((i:Int)+(b.length:Int)).toNat) (0:Int)+c))=(out.set ((i:Int)+(b.length:Int)).toNat (out.getD ((i:Int)+(b.length:Int)).toNat (0:Int)+c))from(by simp only [ep,aw]<;>rfl))] 8667417275560351441650974785
def akt (h1:i6 ((i:Int)+1)):
  bt ik ((fl l6 DT).drop 3) (mc a b out i) 1 .normal [(64,64,none)] (mc a b out (i+1)):=
 wy [yi h1] 1
def aku (h1:(Nat.beq out.length 0||bz 3 (.int .i64) (bU 3 (.int .i64) out) (out.length-1))=true) (h2:((out.drop 0).take out.length).length<=1000000):
  bS ik ((fl l6 []).drop 4) (mc a b out i) 1 f136 false (lv (ew ((out.drop 0).take out.length))):=
 wy [af (show(Nat.beq out.length (0:Nat)||bz 3 (.int .i64) (bU 3 (.int .i64) out) ((0:Nat)+out.length-(1:Nat)))=true from(by simp only [aw]<;>exact h1)),af (show(decide ((((bN (.int .i64) (bU 3 (.int .i64) out)).drop (0:Nat)).take out.length).length<=(1000000:Nat)))=true from(by simp only [ep]<;>exact az h2)),ax (show(ew (((bN (.int .i64) (bU 3 (.int .i64) out)).drop (0:Nat)).take out.length))=(ew ((out.drop (0:Nat)).take out.length))from(by simp only [ep]<;>rfl))] 12417
end
def w8 (a b:List Int):Bool:=okA a&&okA b
def Vt:=IN 133 [.list false (.int .i64), .list false (.int .i64)] [.list false (.int .i64)] false (fun d=>w8 d.1 d.2.1) fun d=>(aK (ag d.1+ag d.2.1),())
def Vu:=IN 135 [.list false (.int .i64), .list false (.int .i64)] [.list false (.int .i64)] false (fun d=>w8 d.1 d.2.1&&decide (ag d.2.1<=ag d.1)) fun d=>(aK (ag d.1-ag d.2.1),())
def Np:=IN 136 [.list false (.int .i64), .list false (.int .i64)] [.list false (.int .i64)] false (fun d=>okB d.1&&okB d.2.1) fun d=>(aK (ag d.1*ag d.2.1),())
def te:bC prog (bF ik):=uM (fun c hc=>by
 simp only [en,ki,or_false]at hc;obtain rfl:=hc;exact Nk) (uz aj4)
def md {a b:List Int}:w8 a b=true↔okA a=true/\okA b=true:=by unfold w8;rw [ae]
def vi (a:List Int) (k:Nat):bW a (k:Int)=a.getD k 0:=by unfold bW;rw [Int.toNat_natCast]
def akv {b:Int} (hb:1<b) {l:List Int} (h:aS b l) (hg:∀k,l.length=k+1->b^k<=vl b l):e5 l:=fun k hk h0=>by
 have h1:=hg k hk;have h2:vl b l=vl b (l.take k):=by
  have:=lS (b:=b) (show k<l.length by omega);rw [eH ω,h0]at this;simpa using this
 have h3:=dt (show 0<b by omega) (h.take k);rw [ek,show min k l.length=k by omega]at h3;omega
structure w9 (a b out:List Int) (c:Int) (k:Nat):Prop where
 dg:aS 1000000000 out
 len:out.length=k
 qx:c=0\/c=1
 val:ag out+1000000000^k*c=ag (a.take k)+ag (b.take k)
 top:k<=max a.length b.length\/(k=max a.length b.length+1/\1000000000^max a.length b.length<=ag a+ag b)
def tf (l:List Int) (k:Nat):ag (l.take (k+1))=ag (l.take k)+1000000000^k*l.getD k 0:=kX l k
def Bv {l:List Int} {k:Nat} (h:l.length<=k):ag (l.take k)=ag l:=by rw [eH h]
def akw {a b:List Int} (ha:aS 1000000000 a) (hb:aS 1000000000 b):ag a+ag b<1000000000^(max a.length b.length+1):=by
 have h1:=dt (show(0:Int)<1000000000 by decide) ha;have h2:=dt (show(0:Int)<1000000000 by decide) hb;have h3:=iQ (b:=1000000000) δ (show a.length<=max a.length b.length by omega);have h4:=iQ (b:=1000000000) δ (show b.length<=max a.length b.length by omega);have h5:=dR (show(0:Int)<1000000000 by decide) (max a.length b.length);rw [Int.pow_succ];unfold ag;omega
def w9.next {a b out:List Int} {c:Int} {k:Nat} (h:w9 a b out c k) (ha:aS 1000000000 a) (hb:aS 1000000000 b) (hc:k<a.length\/k<b.length\/c>0):w9 a b (out++[(a.getD k 0+b.getD k 0+c)%1000000000]) ((a.getD k 0+b.getD k 0+c)/1000000000) (k+1)/\k<=max a.length b.length:=by
 have g1:=ha.get δ k;have g2:=hb.get δ k;have Nq:=h.qx;obtain⟨s,hs⟩:∃s,a.getD k 0+b.getD k 0+c=s:=⟨_,rfl⟩;rw [hs];have hk:k<=max a.length b.length:=by
  rcases h.top with h1|⟨h1,h2⟩
  .exact h1
  .have h3:c>0:=by omega
   have h4:c=1:=by omega
   have h5:=h.val;rw [h4,Bv (show a.length<=k by omega),Bv (show b.length<=k by omega),h1]at h5;have h6:=akw ha hb;have h7:=eh h.dg;omega
 refine⟨⟨h.dg.app (.cons ω .nil),by simp [h.len],by omega, ?_, ?_⟩,hk⟩
 .have e:ag (out++[s%1000000000])=ag out+1000000000^k*(s%1000000000):=by rw [<-h.len];exact yG _ _ _
  rw [e,tf,tf,Int.pow_succ];exact LB ω h.val
 .by_cases hm:k<max a.length b.length
  .exact .inl ω
  .refine .inr ⟨by omega, ?_⟩;have h4:c=1:=by omega
   have h5:=h.val;rw [h4,Bv (show a.length<=k by omega),Bv (show b.length<=k by omega)]at h5;have h7:=eh h.dg;have h8:k=max a.length b.length:=by omega
   rw [<-h8];omega
def w9.fin {a b out:List Int} {c:Int} {k:Nat} (h:w9 a b out c k) (ha:aS 1000000000 a) (hb:aS 1000000000 b) (ta:e5 a) (tb:e5 b) (h1:a.length<=k) (h2:b.length<=k) (h3:¬c>0):out=aK (ag a+ag b):=by
 have hc:c=0:=by have:=h.qx;omega
 have hv:ag out=ag a+ag b:=by
  have:=h.val;rw [hc,Bv h1,Bv h2]at this;simpa using this
 have na:=eh ha;have nb:=eh hb;refine qY lq h.dg (akv lq h.dg fun j hj=> ?_) hv;show _<=ag out;rw [hv];have hl:=h.len;rcases h.top with h4|⟨h4,h5⟩
 .by_cases hla:a.length=j+1
  .have h6:(1000000000:Int)^j<=ag a:=yH δ ha ta hla;omega
  .have h6:(1000000000:Int)^j<=ag b:=yH δ hb tb ω;omega
 .have e:j=max a.length b.length:=by omega
  rw [e];exact h5
def akx (a b:List Int) (h:okA a=true) (g:okA b=true):Holds prog false 133 [lv a,lv b] (lv (aK (ag a+ag b))):=by
 obtain⟨ha,ta,la⟩:=fO.1 h;obtain⟨hb,tb,lb⟩:=fO.1 g;have hS:=te;refine bL (c:=uW) func133 rfl rfl fun w0 F=> ?_
 refine cJ hS 4 (akc a b) ?_;refine aU.loop (ι:={s:List Int×Int×Nat//w9 a b s.1 s.2.1 s.2.2}) (id:=0) (b:=cat uW pT) (rest:=(fl uW []).drop 5) (by kernel_rfl) (fun s=>jO a b s.1.1 s.1.2.1 s.1.2.2) (fun s=>max a.length b.length+2-s.1.2.2) ⟨([],0,0), .nil,rfl, .inl rfl,by simp [ag,vl], .inl (Nat.zero_le _)⟩ (fun _=>rfl) ?_;rintro⟨⟨out,c,k⟩,hI⟩;have hI:w9 a b out c k:=hI;have g1:=ha.get δ k;have g2:=hb.get δ k;have Nq:=hI.qx;have hlo:=hI.len;have hk0:(0:Int)<=(k:Int):=by omega
 have ea:=vi a k;have eb:=vi b k;by_cases hgo:k<a.length\/k<b.length\/c>0
 .obtain⟨hn,hk⟩:=hI.next ha hb hgo;have em:Int.tmod (a.getD k 0+b.getD k 0+c) 1000000000=(a.getD k 0+b.getD k 0+c)%1000000000:=Int.tmod_eq_emod_of_nonneg ω;have ed:Int.tdiv (a.getD k 0+b.getD k 0+c) 1000000000=(a.getD k 0+b.getD k 0+c)/1000000000:=Int.tdiv_eq_ediv_of_nonneg ω;have uV:∃j:{s:List Int×Int×Nat//w9 a b s.1 s.2.1 s.2.2},max a.length b.length+2-j.1.2.2<max a.length b.length+2-k/\(jO a b (out++[Int.tmod (bW a k+bW b k+c) 1000000000]) (Int.tdiv (bW a k+bW b k+c) 1000000000) (k+1)).T=(jO a b j.1.1 j.1.2.1 j.1.2.2).T/\(jO a b (out++[Int.tmod (bW a k+bW b k+c) 1000000000]) (Int.tdiv (bW a k+bW b k+c) 1000000000) (k+1)).H=(jO a b j.1.1 j.1.2.1 j.1.2.2).H:=by
   rw [ea,eb,em,ed];exact⟨⟨(_,_,k+1),hn⟩,by show max a.length b.length+2-(k+1)<_;omega,rfl,rfl⟩
  have q1: -9223372036854775808<=bW a k+bW b k/\bW a k+bW b k<=9223372036854775807:=by rw [ea,eb];omega
  have aQ: -9223372036854775808<=bW a k+bW b k+c/\bW a k+bW b k+c<=9223372036854775807:=by rw [ea,eb];omega
  have b7: -9223372036854775808<=Int.tdiv (bW a k+bW b k+c) 1000000000/\Int.tdiv (bW a k+bW b k+c) 1000000000<=9223372036854775807:=by rw [ea,eb,ed];omega
  by_cases h1:k<a.length
  .exact bx (s:=jO a b out c k) hS (akd a b out c k ω hk0 q1 aQ ω b7 ω (rz _ _) (ph _ _)) uV
  .by_cases h2:k<b.length
   .exact bx (s:=jO a b out c k) hS (ake a b out c k ω ω hk0 q1 aQ ω b7 ω (rz _ _) (ph _ _)) uV
   .exact bx (s:=jO a b out c k) hS (akf a b out c k ω ω ω hk0 q1 aQ ω b7 ω (rz _ _) (ph _ _)) uV
 .refine bx (s:=jO a b out c k) hS (akg a b out c k ω ω ω) ?_;refine cy (cF ?_);rw [<-hI.fin ha hb ta tb ω ω ω];have ho:=Bu 3 out;refine aU.uw (s:=jO a b out c k) known mixed hS _ (akh a b out c k τ ?_ (fun h=>by cases h)) fun T H h=> ?_
  .by_cases hz:out.length=0
   .exact .inl hz
   .rw [Bool.or_eq_true]at ho;rw [aw];exact .inr (ho.resolve_left fun e=>hz (ac e))
  .exact h
def aky:Vt.Ok prog:=fun⟨a,b,_⟩ h=>by
 obtain⟨h1,h2⟩:=md.1 h;exact akx a b h1 h2
structure Nr (a b out:List Int) (c:Int) (k:Nat):Prop where
 dg:aS 1000000000 out
 len:out.length=k
 qx:c=0\/c=1
 val:ag out-1000000000^k*c=ag (a.take k)-ag (b.take k)
def akz (a b:List Int) (h:okA a=true) (g:okA b=true) (hle:ag b<=ag a):Holds prog false 135 [lv a,lv b] (lv (aK (ag a-ag b))):=by
 obtain⟨ha,ta,la⟩:=fO.1 h;obtain⟨hb,tb,lb⟩:=fO.1 g;have hS:=te;refine bL (c:=w6) func135 rfl rfl fun w0 F=> ?_
 refine cJ hS 4 (aki a b) ?_;refine aU.loop (ι:={s:List Int×Int×Nat//s.2.2<=a.length/\Nr a b s.1 s.2.1 s.2.2}) (id:=0) (b:=cat w6 pT) (rest:=(fl w6 []).drop 5) (by kernel_rfl) (fun s=>oB a b s.1.1 s.1.2.1 s.1.2.2) (fun s=>a.length-s.1.2.2) ⟨([],0,0),Nat.zero_le _, .nil,rfl, .inl rfl,by simp [ag,vl]⟩ (fun _=>rfl) ?_;rintro⟨⟨out,c,k⟩,hk,hI⟩;have hk:k<=a.length:=hk;have hI:Nr a b out c k:=hI;have g1:=ha.get δ k;have g2:=hb.get δ k;have Nq:=hI.qx;have hlo:=hI.len;have hk0:(0:Int)<=(k:Int):=by omega
 have eb:=vi b k;have hstep:∀d c':Int,0<=d/\d<1000000000->(c'=0\/c'=1)->d-1000000000*c'=a.getD k 0-b.getD k 0-c->Nr a b (out++[d]) c' (k+1):=fun d c' hd tV he=>by
  refine⟨hI.dg.app (.cons hd .nil),by simp [hlo],tV, ?_⟩;have e:ag (out++[d])=ag out+1000000000^k*d:=by rw [<-hlo];exact yG _ _ _
  rw [e,tf,tf,Int.pow_succ];exact Tm he hI.val
 by_cases hlt:k<a.length
 .by_cases hs:a.getD k 0-bW b k-c<0
  .refine bx (s:=oB a b out c k) hS (akk a b out c k ω hlt hk0 (by rw [eb];omega) (by rw [eb];omega) hs (by rw [eb];omega) ω ω (rz _ _) (ph _ _)) ?_;rw [eb]at hs ⊢;exact⟨⟨(_,1,k+1),hlt,hstep _ 1 ω (.inr rfl) ω⟩,by show a.length-(k+1)<a.length-k;omega,rfl,rfl⟩
  .refine bx (s:=oB a b out c k) hS (akj a b out c k ω hlt hk0 (by rw [eb];omega) (by rw [eb];omega) hs ω ω (rz _ _) (ph _ _)) ?_;rw [eb]at hs ⊢;exact⟨⟨(_,0,k+1),hlt,hstep _ 0 ω (.inl rfl) ω⟩,by show a.length-(k+1)<a.length-k;omega,rfl,rfl⟩
 .refine bx (s:=oB a b out c k) hS (akl a b out c k ω) ?_;refine cy (cF ?_);obtain rfl:k=a.length:=by omega
  have hxl:ag a<1000000000^a.length:=dt δ ha;have mB:ag (b.take a.length)=ag b:=Dm δ hb (show ag b<_ by omega);have hv:ag out=ag a-ag b:=by
   have h1:=hI.val;have h2:ag out<1000000000^a.length:=by rw [<-hlo];exact dt δ hI.dg
   rw [dK,mB]at h1;rcases Nq with rfl |rfl
   .omega
   .omega
  have key:=akm a b out c a.length (Bu _ out) (by rw [List.drop_zero,dK];omega);rw [List.drop_zero,dK,ze hI.dg,hv]at key;exact bX (s:=oB a b out c a.length) hS key
def akA:Vu.Ok prog:=fun⟨a,b,_⟩ h=>by
 have h:(w8 a b&&decide (ag b<=ag a))=true:=h;rw [ae]at h;obtain⟨h1,h2⟩:=md.1 h.1;exact akz a b h1 h2 (ap h.2)
def Ns (n:Nat):aS 1000000000 (gf n):=aS.rep δ n
def pU (n:Nat):(gf n).length=n:=List.length_replicate
def Nt (n:Nat):(List.replicate n (List.map aa.raw (Array.toList #[Value.int IntKind.i64 (0:Int)]))).flatten=(gf n).flatMap (fun x=>[aa.raw (Value.int IntKind.i64 x)]):=by
 unfold gf;induction n with
 |zero=>rfl
 |succ n ih=>rw [List.replicate_succ,List.replicate_succ,List.flatten_cons,List.flatMap_cons,ih];rfl
def akB {o x y c:Int} (ho:0<=o/\o<1000000000) (hx:0<=x/\x<1000000000) (hy:0<=y/\y<1000000000) (hc:0<=c/\c<1000000000):
  (0<=x*y/\x*y<=999999998000000001)/\Int.tmod (o+x*y+c) 1000000000+1000000000*Int.tdiv (o+x*y+c) 1000000000=x*y+o+c/\(0<=Int.tmod (o+x*y+c) 1000000000/\Int.tmod (o+x*y+c) 1000000000<1000000000)/\(0<=Int.tdiv (o+x*y+c) 1000000000/\Int.tdiv (o+x*y+c) 1000000000<1000000000):=by
 have h0:0<=x*y:=Int.mul_nonneg hx.1 hy.1;have h1:x*y<=999999999*999999999:=Int.mul_le_mul ω ω hy.1 δ;rw [Int.tmod_eq_emod_of_nonneg ω,Int.tdiv_eq_ediv_of_nonneg ω];generalize x*y=p at*;omega
def akC (x y:List Int) (h:okB x=true) (g:okB y=true):Holds prog false 136 [lv x,lv y] (lv (aK (ag x*ag y))):=by
 obtain⟨hx,lx⟩:=oA.1 h;obtain⟨hy,ly⟩:=oA.1 g;have hS:=te;have e1:((x.length:Int)+(y.length:Int)).toNat=x.length+y.length:=by omega
 refine bL (c:=l6) func136 rfl rfl fun w0 F=> ?_
 refine cJ hS 3 (akn x y ω ω (by rw [pU,e1]) (by rw [e1]) (by rw [pU]) (by rw [e1];exact Nt _) (by rw [pU])) ?_;refine aU.loop (ι:={s:List Int×Nat//s.2<=x.length/\s.1.length=x.length+y.length/\aS 1000000000 s.1/\ag s.1=ag (x.take s.2)*ag y/\∀k,s.2+y.length<=k->s.1.getD k 0=0}) (id:=0) (b:=cat l6 DT) (rest:=(fl l6 []).drop 4) (by kernel_rfl) (fun s=>mc x y s.1.1 s.1.2) (fun s=>x.length-s.1.2)
  ⟨(gf (x.length+y.length),0),Nat.zero_le _,pU _,Ns _,by
    show vl _ (List.replicate _ 0)=vl _ (x.take 0)*_;rw [Dk];simp [vl],fun k _=>by
    show(List.replicate _ (0:Int)).getD k 0=0;rw [ao,List.getElem?_replicate];split<;>rfl⟩ (fun _=>rfl) ?_
 rintro⟨⟨out,i⟩,hi,ho,iT,hval,hz⟩;have hi:i<=x.length:=hi;have ho:out.length=x.length+y.length:=ho;have iT:aS 1000000000 out:=iT;have hval:ag out=ag (x.take i)*ag y:=hval;have hz:∀k,i+y.length<=k->out.getD k 0=0:=hz;by_cases hlt:i<x.length
 .have wI:=hx.get δ i;refine c6 (s:=mc x y out i) hS 2 (ako x y out i ω) ?_;refine Dj (id:=1) (c:=cat l6 Ht) (rest:=(fl l6 DT).drop 3) (by kernel_rfl) ?_;refine c6 (s:=mc x y out i) hS 2 (akp x y out i) ?_;refine aU.loop (ι:={s:List Int×Int×Nat//s.2.2<=y.length/\s.1.length=x.length+y.length/\aS 1000000000 s.1/\(0<=s.2.1/\s.2.1<1000000000)/\ag s.1+1000000000^(i+s.2.2)*s.2.1=ag out+1000000000^i*(x.getD i 0*ag (y.take s.2.2))/\∀k,i+y.length<=k->s.1.getD k 0=0}) (id:=2) (b:=cat l6 Nn) (rest:=(fl l6 Ht).drop 3) (by kernel_rfl) (fun s=>rA x y s.1.1 i s.1.2.1 s.1.2.2) (fun s=>y.length-s.1.2.2)
   ⟨(out,0,0),Nat.zero_le _,ho,iT,⟨Int.le_refl 0,show(0:Int)<1000000000 by decide⟩,by simp [ag,vl],hz⟩ (fun _=>rfl) ?_
  rintro⟨⟨cW,c,j⟩,hj,nG,q4,hc,hinv,k6⟩;have hj:j<=y.length:=hj;have nG:cW.length=x.length+y.length:=nG;have q4:aS 1000000000 cW:=q4;have hc:0<=c/\c<1000000000:=hc;have hinv:ag cW+1000000000^(i+j)*c=ag out+1000000000^i*(x.getD i 0*ag (y.take j)):=hinv;have k6:∀k,i+y.length<=k->cW.getD k 0=0:=k6;have e2:((i:Int)+(j:Int)).toNat=i+j:=by omega
  have e3:((i:Int)+(y.length:Int)).toNat=i+y.length:=by omega
  by_cases hlj:j<y.length
  .have Gq:=hy.get δ j;have Av:=q4.get δ (i+j);obtain⟨g0,g1,g2,g3⟩:=akB Av wI Gq hc;have key:=akq x y cW i c j ω ω ω hlt hlj ω;rw [e2]at key;refine bx (s:=rA x y cW i c j) (s':=rA x y (cW.set (i+j) (Int.tmod (cW.getD (i+j) 0+x.getD i 0*y.getD j 0+c) 1000000000)) i (Int.tdiv (cW.getD (i+j) 0+x.getD i 0*y.getD j 0+c) 1000000000) (j+1)) hS (key ω ω ω ω (by rw [b6]) (by rw [b6])) ?_;refine⟨⟨(cW.set (i+j) (Int.tmod (cW.getD (i+j) 0+x.getD i 0*y.getD j 0+c) 1000000000),Int.tdiv (cW.getD (i+j) 0+x.getD i 0*y.getD j 0+c) 1000000000,j+1),hlj,by rw [b6];exact nG,q4.set g2,g3, ?_,fun k hk=> ?_⟩,by show y.length-(j+1)<y.length-j;omega,rfl,rfl⟩
   .show vl 1000000000 (cW.set (i+j) (Int.tmod (cW.getD (i+j) 0+x.getD i 0*y.getD j 0+c) 1000000000))+1000000000^(i+(j+1))*Int.tdiv (cW.getD (i+j) 0+x.getD i 0*y.getD j 0+c) 1000000000=vl 1000000000 out+1000000000^i*(x.getD i 0*vl 1000000000 (y.take (j+1)));rw [qU _ _ _ _ ω,<-Nat.add_assoc,Int.pow_succ,kX,Int.mul_add,Int.mul_add];have:=TA (W:=0) g1 hinv;unfold ag at this;rw [this,Int.add_assoc,Int.pow_add];congr 2;rw [Int.mul_assoc,Int.mul_left_comm (x.getD i 0)]
   .show(cW.set (i+j) _).getD k 0=0;rw [ao,List.getElem?_set_ne ω,<-ao];exact k6 k hk
  .refine bx (s:=rA x y cW i c j) hS (akr x y cW i c j ω) ?_;refine cy (cF ?_);obtain rfl:j=y.length:=by omega
   have hk0:=k6 (i+y.length) (aI _);have key:=aks x y cW i c y.length ω ω;rw [e3,hk0,Int.zero_add]at key;refine bx (s:=rA x y cW i c y.length) (s':=mc x y (cW.set (i+y.length) c) i) hS (key ω (by rw [b6]) (by rw [b6])) ?_;refine bx (s:=mc x y (cW.set (i+y.length) c) i) hS (akt x y (cW.set (i+y.length) c) i ω) ?_;refine⟨⟨(cW.set (i+y.length) c,i+1),hlt,by rw [b6];exact nG,q4.set hc, ?_,fun k hk=> ?_⟩,by show x.length-(i+1)<x.length-i;omega,rfl,rfl⟩
   .show vl _ (cW.set (i+y.length) c)=vl _ (x.take (i+1))*_;rw [qU _ _ _ _ ω,hk0,Int.sub_zero,kX,Int.add_mul,Int.mul_assoc];rw [dK,hval]at hinv;exact hinv
   .show(cW.set (i+y.length) c).getD k 0=0;rw [ao,List.getElem?_set_ne ω,<-ao];exact k6 k ω
 .refine c6 (s:=mc x y out i) hS 2 (LE x y out i ω) ?_;refine cy (cy (cF ?_));obtain rfl:i=x.length:=by omega
  rw [dK]at hval;have key:=aku x y out x.length (Bu _ out) (by rw [List.drop_zero,dK];omega);rw [List.drop_zero,dK,ze iT,hval]at key;exact bX (s:=mc x y out x.length) hS key
def Vv:Np.Ok prog:=fun⟨a,b,_⟩ h=>by
 have h:(okB a&&okB b)=true:=h;rw [ae]at h;exact akC a b h.1 h.2
def zh:=k_a f183
def pV:=k_a f185
section
variable (a:List Int) (d:Int)
def vj (out:List Int) (r:Int) (k:Nat):bD:={n:=39,sl:=[(0,lv a),(1,iv d),(6,mW 64 out),(7,iv r),(8,iv ((k:Int)-1))],bJ:=[(64,mX out)],next:=65}
def Nu (out:List Int) (r:Int) (k:Nat):bD:={n:=39,sl:=[(0,lv a),(1,iv d),(6,mW 64 out),(7,iv r),(8,iv ((k:Int)-1-1))],bJ:=[(64,mX out)],next:=65}
def akD (h1:a.length<=1000000) (h2: -9223372036854775808<=(a.length:Int)-1/\(a.length:Int)-1<=9223372036854775807) (h3:a.length=(gf a.length).length) (h4:(bH (gf a.length).length)=(bH a.length)) (h5:(List.flatten (List.replicate a.length (List.map aa.raw (Array.toList #[Value.int .i64 (0:Int)]))))=(List.flatMap (fun x=>[iv x]) (gf a.length))):
  aD.path (pF prog ik (fl zh []) 4 39 [lv a,iv d]) (dl 1) (ef prog 39 .normal [(64,64,some a.length)] (vj a d (gf a.length) 0 a.length)):=
 mp (F9 rt rt (show(decide (a.length<=a.length))=true from az ω) (og (show(bounded a.length (8:Nat))=true from pH h1 ω) (eN h2) (rr a) (rr d) (an h3 (an (rr (aX.known a.length)) h4)) (rr (0:Int)) (rr ((a.length:Int)-1)) (an h5 h3) trivial))
def akE (out:List Int) (r:Int) (k:Nat) (h1:(k:Int)-1>=0) (h2:i6 (r*1000000000)) (h3:0<=(k:Int)-1) (h4:((k:Int)-1).toNat<a.length) (h5:i6 (r*1000000000+a.getD ((k:Int)-1).toNat 0)) (h6:d≠0) (h7:i6 (Int.tdiv (r*1000000000+a.getD ((k:Int)-1).toNat 0) d)) (h8:((k:Int)-1).toNat<out.length) (h9:i6 ((k:Int)-1-1)) (h10:out.length=(out.set ((k:Int)-1).toNat (Int.tdiv (r*1000000000+a.getD ((k:Int)-1).toNat 0) d)).length) (h11:(bH out.length)=(bH (out.set ((k:Int)-1).toNat (Int.tdiv (r*1000000000+a.getD ((k:Int)-1).toNat 0) d)).length)):
  bt ik (fl zh pT) (vj a d out r k) 3 .normal [(64,64,none)] (Nu a d (out.set ((k:Int)-1).toNat (Int.tdiv (r*1000000000+a.getD ((k:Int)-1).toNat 0) d)) (Int.tmod (r*1000000000+a.getD ((k:Int)-1).toNat 0) d) k):=
 wy [ah h1,yi h2,ah h3,ah h4,yi h5,ah h6,yi h7,ah h8,jf 3 (.int .i64) h8,yi h9,ax h10,ax h11,mM 3 (.int .i64) (Eq.refl (out.set ((k:Int)-(1:Int)).toNat (Int.tdiv (r*(1000000000:Int)+a.getD ((k:Int)-(1:Int)).toNat (0:Int)) d)))] 270000400999102384946506999662653569
def akF (out:List Int) (r:Int) (k:Nat) (h1:¬(k:Int)-1>=0):
  bt ik (fl zh pT) (vj a d out r k) 2 (.exit 0) [(64,64,none)] (vj a d out r k):=
 wy [aJ h1] 1
def akG (out:List Int) (r:Int) (k:Nat) (h1:(Nat.beq out.length 0||bz 3 (.int .i64) (bU 3 (.int .i64) out) (out.length-1))=true) (h2:((out.drop 0).take out.length).length<=1000000):
  bS ik ((fl zh []).drop 5) (vj a d out r k) 1 f183 false (.tuple [lv (ew ((out.drop 0).take out.length)),iv r]):=
 wy [af (show(Nat.beq out.length (0:Nat)||bz 3 (.int .i64) (bU 3 (.int .i64) out) ((0:Nat)+out.length-(1:Nat)))=true from(by simp only [aw]<;>exact h1)),af (show(decide ((((bN (.int .i64) (bU 3 (.int .i64) out)).drop (0:Nat)).take out.length).length<=(1000000:Nat)))=true from(by simp only [ep]<;>exact az h2)),ax (show(ew (((bN (.int .i64) (bU 3 (.int .i64) out)).drop (0:Nat)).take out.length))=(ew ((out.drop (0:Nat)).take out.length))from(by simp only [ep]<;>rfl))] 12417
end
abbrev xb (n:Nat) (cap:aX):aa:= .bR 3 (.int .i64) 64 0 n cap
abbrev akH (xs:List Int):List (Nat×fJ):=[(64, .blk (.own 3 (.int .i64) xs))]
abbrev r64:Sv.Ren:=[(64,64,none)]
def jo (xs v:List Int) (j n:Nat) (cap:aX) (t r:Int):bD:={n:=77,sl:=[(0,xb n cap),(1,lv v),(2,iv j),(7,iv v.length),(9,iv t),(10,iv r)],bJ:=akH xs,next:=65}
def fx (xs v:List Int) (j:Nat):Int:=xs.getD ((j:Int)+(v.length:Int)).toNat 0*1000000000+xs.getD ((j:Int)+(v.length:Int)-1).toNat 0
abbrev cM (v:List Int):Int:=v.getD ((v.length:Int)-1).toNat 0
abbrev nN (v:List Int):Int:=v.getD ((v.length:Int)-2).toNat 0
abbrev pW (xs v:List Int) (j:Nat):Int:=xs.getD ((j:Int)+(v.length:Int)-2).toNat 0
def akI (xs v:List Int) (j n:Nat) (cap:aX) (h1:i6 ((j:Int)+(v.length:Int))) (h2:((j:Int)+(v.length:Int)).toNat<n) (h3:(bz 3 (.int .i64) (some (bl.own 3 (.int .i64) xs)) ((j:Int)+(v.length:Int)).toNat)=true) (h4:i6 (xs.getD ((j:Int)+(v.length:Int)).toNat 0*1000000000)) (h5:i6 ((j:Int)+(v.length:Int)-1)) (h6:0<=(j:Int)+(v.length:Int)-1) (h7:((j:Int)+(v.length:Int)-1).toNat<n) (h8:(bz 3 (.int .i64) (some (bl.own 3 (.int .i64) xs)) ((j:Int)+(v.length:Int)-1).toNat)=true) (h9:i6 (xs.getD ((j:Int)+(v.length:Int)).toNat 0*1000000000+xs.getD ((j:Int)+(v.length:Int)-1).toNat 0)) (h10:i6 ((v.length:Int)-1)) (h11:0<=(v.length:Int)-1) (h12:((v.length:Int)-1).toNat<v.length) (dF:v.getD ((v.length:Int)-1).toNat 0≠0) (gb:i6 (Int.tdiv (xs.getD ((j:Int)+(v.length:Int)).toNat 0*1000000000+xs.getD ((j:Int)+(v.length:Int)-1).toNat 0) (v.getD ((v.length:Int)-1).toNat 0))) (iA:(Int.tdiv (xs.getD ((j:Int)+(v.length:Int)).toNat 0*1000000000+xs.getD ((j:Int)+(v.length:Int)-1).toNat 0) (v.getD ((v.length:Int)-1).toNat 0))=(Int.tdiv (fx xs v j) (v.getD ((v.length:Int)-1).toNat 0))) (k8:(Int.tmod (xs.getD ((j:Int)+(v.length:Int)).toNat 0*1000000000+xs.getD ((j:Int)+(v.length:Int)-1).toNat 0) (v.getD ((v.length:Int)-1).toNat 0))=(Int.tmod (fx xs v j) (v.getD ((v.length:Int)-1).toNat 0))):
  aD.path (iw prog (bc []) 77 ((fl pV []).take 4) (dq [xb n cap,lv v,iv j] .nil 0) (qP 3 (.int .i64) xs)) (dl 1) (ef prog 77 .normal r64 (jo xs v j n cap (Int.tdiv (fx xs v j) (cM v)) (Int.tmod (fx xs v j) (cM v)))):=
 wy [yi h1,ah h2,af (show(bz 3 (.int .i64) (some (bl.own 3 (.int .i64) xs)) ((0:Nat)+((j:Int)+(v.length:Int)).toNat))=true from(by simp only [aw]<;>exact h3)),af (aF (v:=iv (xs.getD ((0:Nat)+((j:Int)+(v.length:Int)).toNat) (0:Int)))),af (show(fits IntKind.i64 (xs.getD ((0:Nat)+((j:Int)+(v.length:Int)).toNat) (0:Int)*(1000000000:Int)))=true from(by simp only [aw]<;>exact eN h4)),yi h5,ah h6,ah h7,af (show(bz 3 (.int .i64) (some (bl.own 3 (.int .i64) xs)) ((0:Nat)+((j:Int)+(v.length:Int)-(1:Int)).toNat))=true from(by simp only [aw]<;>exact h8)),af (aF (v:=iv (xs.getD ((0:Nat)+((j:Int)+(v.length:Int)-(1:Int)).toNat) (0:Int)))),af (show(fits IntKind.i64 (xs.getD ((0:Nat)+((j:Int)+(v.length:Int)).toNat) (0:Int)*(1000000000:Int)+xs.getD ((0:Nat)+((j:Int)+(v.length:Int)-(1:Int)).toNat) (0:Int)))=true from(by simp only [aw]<;>exact eN h9)),yi h10,ah h11,ah h12,af (aF (v:=iv (v.getD ((v.length:Int)-(1:Int)).toNat (0:Int)))),ah dF,af (show(fits IntKind.i64 (Int.tdiv (xs.getD ((0:Nat)+((j:Int)+(v.length:Int)).toNat) (0:Int)*(1000000000:Int)+xs.getD ((0:Nat)+((j:Int)+(v.length:Int)-(1:Int)).toNat) (0:Int)) (v.getD ((v.length:Int)-(1:Int)).toNat (0:Int))))=true from(by simp only [aw]<;>exact eN gb)),ax (show(Int.tdiv (xs.getD ((0:Nat)+((j:Int)+(v.length:Int)).toNat) (0:Int)*(1000000000:Int)+xs.getD ((0:Nat)+((j:Int)+(v.length:Int)-(1:Int)).toNat) (0:Int)) (v.getD ((v.length:Int)-(1:Int)).toNat (0:Int)))=(Int.tdiv (fx xs v j) (v.getD ((v.length:Int)-(1:Int)).toNat (0:Int)))from(by simp only [aw]<;>exact iA)),ax (show(Int.tmod (xs.getD ((0:Nat)+((j:Int)+(v.length:Int)).toNat) (0:Int)*(1000000000:Int)+xs.getD ((0:Nat)+((j:Int)+(v.length:Int)-(1:Int)).toNat) (0:Int)) (v.getD ((v.length:Int)-(1:Int)).toNat (0:Int)))=(Int.tmod (fx xs v j) (v.getD ((v.length:Int)-(1:Int)).toNat (0:Int)))from(by simp only [aw]<;>exact k8))] 7745943541467187237997735947277335306600882047791326166786049
abbrev Bw:List Nat:=[1,1,1,1,0,0,0]
section
variable (xs v:List Int) (j n:Nat) (cap:aX) (t r:Int)
def akJ (h1:t>=1000000000) (h2:i6 (t-1)) (h3:i6 ((v.length:Int)-1)) (h4:0<=(v.length:Int)-1) (h5:((v.length:Int)-1).toNat<v.length) (h6:i6 (r+v.getD ((v.length:Int)-1).toNat 0)) (h7:r+v.getD ((v.length:Int)-1).toNat 0>=1000000000):
  aD.path (oe prog (bc []) (fl pV Bw) (jo xs v j n cap t r)) (dl 3932160) (uI prog f185 3 (.int .i64) xs (iv (t-1))):=
 wy [af (bq (az h1)),ah h1,yi h2,yi h3,ah h4,ah h5,yi h6,ah h7,r9 (an (rr (t-(1:Int))) (rr (xs)))] 833670876018392705917515033473870691017842495553
def akK (h1:t>=1000000000) (h2:i6 (t-1)) (h3:i6 ((v.length:Int)-1)) (h4:0<=(v.length:Int)-1) (h5:((v.length:Int)-1).toNat<v.length) (h6:i6 (r+v.getD ((v.length:Int)-1).toNat 0)) (h7:¬r+v.getD ((v.length:Int)-1).toNat 0>=1000000000):
  bt (bc []) (fl pV Bw) (jo xs v j n cap t r) 2883584 .normal r64 (jo xs v j n cap (t-1) (r+cM v)):=
 wy [af (bq (az h1)),ah h1,yi h2,yi h3,ah h4,ah h5,yi h6,aJ h7] 11576205019759814427942315070961492461380440129
def akL (h1:¬t>=1000000000) (h2:i6 ((v.length:Int)-2)) (h3:0<=(v.length:Int)-2) (h4:((v.length:Int)-2).toNat<v.length) (h5:i6 (t*v.getD ((v.length:Int)-2).toNat 0)) (h6:i6 (r*1000000000)) (h7:i6 ((j:Int)+(v.length:Int))) (h8:i6 ((j:Int)+(v.length:Int)-2)) (h9:0<=(j:Int)+(v.length:Int)-2) (h10:((j:Int)+(v.length:Int)-2).toNat<n) (h11:(bz 3 (.int .i64) (some (bl.own 3 (.int .i64) xs)) ((j:Int)+(v.length:Int)-2).toNat)=true) (h12:i6 (r*1000000000+xs.getD ((j:Int)+(v.length:Int)-2).toNat 0)) (dF:t*v.getD ((v.length:Int)-2).toNat 0>r*1000000000+xs.getD ((j:Int)+(v.length:Int)-2).toNat 0) (gb:i6 (t-1)) (iA:i6 ((v.length:Int)-1)) (k8:0<=(v.length:Int)-1) (uX:((v.length:Int)-1).toNat<v.length) (zi:i6 (r+v.getD ((v.length:Int)-1).toNat 0)) (h19:r+v.getD ((v.length:Int)-1).toNat 0>=1000000000):
  aD.path (oe prog (bc []) (fl pV Bw) (jo xs v j n cap t r)) (dl 3932159) (uI prog f185 3 (.int .i64) xs (iv (t-1))):=
 wy [af (bq (ab h1)),yi h2,ah h3,ah h4,af (aF (v:=iv (v.getD ((v.length:Int)-(2:Int)).toNat (0:Int)))),yi h5,yi h6,yi h7,yi h8,ah h9,ah h10,af (show(bz 3 (.int .i64) (some (bl.own 3 (.int .i64) xs)) ((0:Nat)+((j:Int)+(v.length:Int)-(2:Int)).toNat))=true from(by simp only [aw]<;>exact h11)),af (aF (v:=iv (xs.getD ((0:Nat)+((j:Int)+(v.length:Int)-(2:Int)).toNat) (0:Int)))),af (show(fits IntKind.i64 (r*(1000000000:Int)+xs.getD ((0:Nat)+((j:Int)+(v.length:Int)-(2:Int)).toNat) (0:Int)))=true from(by simp only [aw]<;>exact eN h12)),aJ h1,af (show(decide (t*v.getD ((v.length:Int)-(2:Int)).toNat (0:Int)>r*(1000000000:Int)+xs.getD ((0:Nat)+((j:Int)+(v.length:Int)-(2:Int)).toNat) (0:Int)))=true from(by simp only [aw]<;>exact az dF)),yi gb,yi iA,ah k8,ah uX,yi zi,ah h19,r9 (an (rr (t-(1:Int))) (rr (xs)))] 41254031541230140472553383178300452332773505826332860127072467285497352257
def akM (h1:¬t>=1000000000) (h2:i6 ((v.length:Int)-2)) (h3:0<=(v.length:Int)-2) (h4:((v.length:Int)-2).toNat<v.length) (h5:i6 (t*v.getD ((v.length:Int)-2).toNat 0)) (h6:i6 (r*1000000000)) (h7:i6 ((j:Int)+(v.length:Int))) (h8:i6 ((j:Int)+(v.length:Int)-2)) (h9:0<=(j:Int)+(v.length:Int)-2) (h10:((j:Int)+(v.length:Int)-2).toNat<n) (h11:(bz 3 (.int .i64) (some (bl.own 3 (.int .i64) xs)) ((j:Int)+(v.length:Int)-2).toNat)=true) (h12:i6 (r*1000000000+xs.getD ((j:Int)+(v.length:Int)-2).toNat 0)) (dF:t*v.getD ((v.length:Int)-2).toNat 0>r*1000000000+xs.getD ((j:Int)+(v.length:Int)-2).toNat 0) (gb:i6 (t-1)) (iA:i6 ((v.length:Int)-1)) (k8:0<=(v.length:Int)-1) (uX:((v.length:Int)-1).toNat<v.length) (zi:i6 (r+v.getD ((v.length:Int)-1).toNat 0)) (h19:¬r+v.getD ((v.length:Int)-1).toNat 0>=1000000000):
  bt (bc []) (fl pV Bw) (jo xs v j n cap t r) 2883583 .normal r64 (jo xs v j n cap (t-1) (r+cM v)):=
 wy [af (bq (ab h1)),yi h2,ah h3,ah h4,af (aF (v:=iv (v.getD ((v.length:Int)-(2:Int)).toNat (0:Int)))),yi h5,yi h6,yi h7,yi h8,ah h9,ah h10,af (show(bz 3 (.int .i64) (some (bl.own 3 (.int .i64) xs)) ((0:Nat)+((j:Int)+(v.length:Int)-(2:Int)).toNat))=true from(by simp only [aw]<;>exact h11)),af (aF (v:=iv (xs.getD ((0:Nat)+((j:Int)+(v.length:Int)-(2:Int)).toNat) (0:Int)))),af (show(fits IntKind.i64 (r*(1000000000:Int)+xs.getD ((0:Nat)+((j:Int)+(v.length:Int)-(2:Int)).toNat) (0:Int)))=true from(by simp only [aw]<;>exact eN h12)),aJ h1,af (show(decide (t*v.getD ((v.length:Int)-(2:Int)).toNat (0:Int)>r*(1000000000:Int)+xs.getD ((0:Nat)+((j:Int)+(v.length:Int)-(2:Int)).toNat) (0:Int)))=true from(by simp only [aw]<;>exact az dF)),yi gb,yi iA,ah k8,ah uX,yi zi,aJ h19] 616549051327300892137540661213326468741376198193624090275524655767097409
def akN (h1:¬t>=1000000000) (h2:i6 ((v.length:Int)-2)) (h3:0<=(v.length:Int)-2) (h4:((v.length:Int)-2).toNat<v.length) (h5:i6 (t*v.getD ((v.length:Int)-2).toNat 0)) (h6:i6 (r*1000000000)) (h7:i6 ((j:Int)+(v.length:Int))) (h8:i6 ((j:Int)+(v.length:Int)-2)) (h9:0<=(j:Int)+(v.length:Int)-2) (h10:((j:Int)+(v.length:Int)-2).toNat<n) (h11:(bz 3 (.int .i64) (some (bl.own 3 (.int .i64) xs)) ((j:Int)+(v.length:Int)-2).toNat)=true) (h12:i6 (r*1000000000+xs.getD ((j:Int)+(v.length:Int)-2).toNat 0)) (dF:¬t*v.getD ((v.length:Int)-2).toNat 0>r*1000000000+xs.getD ((j:Int)+(v.length:Int)-2).toNat 0):
  bt (bc []) (fl pV Bw) (jo xs v j n cap t r) 1310719 (.exit 0) r64 (jo xs v j n cap t r):=
 wy [af (bq (ab h1)),yi h2,ah h3,ah h4,af (aF (v:=iv (v.getD ((v.length:Int)-(2:Int)).toNat (0:Int)))),yi h5,yi h6,yi h7,yi h8,ah h9,ah h10,af (show(bz 3 (.int .i64) (some (bl.own 3 (.int .i64) xs)) ((0:Nat)+((j:Int)+(v.length:Int)-(2:Int)).toNat))=true from(by simp only [aw]<;>exact h11)),af (aF (v:=iv (xs.getD ((0:Nat)+((j:Int)+(v.length:Int)-(2:Int)).toNat) (0:Int)))),af (show(fits IntKind.i64 (r*(1000000000:Int)+xs.getD ((0:Nat)+((j:Int)+(v.length:Int)-(2:Int)).toNat) (0:Int)))=true from(by simp only [aw]<;>exact eN h12)),aJ h1,af (show(decide (t*v.getD ((v.length:Int)-(2:Int)).toNat (0:Int)>r*(1000000000:Int)+xs.getD ((0:Nat)+((j:Int)+(v.length:Int)-(2:Int)).toNat) (0:Int)))=false from(by simp only [aw]<;>exact ab dF))] 6522028266599319008889569978648965812446332058695169592266817
def akO:
  aD.path (oe prog (bc []) ((fl pV []).drop 5) (jo xs v j n cap t r)) (dl 1) (uI prog f185 3 (.int .i64) xs (iv t)):=
 wy [r9 (an (rr (t)) (rr (xs)))] 1
end
def Vw:=IN 183 [.list false (.int .i64), .int .i64] [.list false (.int .i64), .int .i64] false (fun d=>okB d.1&&(decide (1<=d.2.1)&&decide (d.2.1<1000000000))) fun d=>(aK (ag d.1/d.2.1),ag d.1%d.2.1,())
def oC (v1 v2 u2:Int):Nat->Int->Int->Int
 |0,t,_=>t
 |f+1,t,r=>if 1000000000<=t\/r*1000000000+u2<t*v2 then(if 1000000000<=r+v1 then t-1 else oC v1 v2 u2 f (t-1) (r+v1))else t
def rB (xs v:List Int) (j:Int):Int:=oC (cM v) (nN v) (pW xs v j.toNat) 2 (fx xs v j.toNat/cM v) (fx xs v j.toNat%cM v)
def Bx (xs:List Int) (k len:Nat) (v:List Int) (j:Int):Bool:=(Nat.beq k 0&&Nat.beq len xs.length)&&((Bs xs&&Bs v)&&((decide (2<=v.length)&&decide (0<=j))&&((decide (j+(v.length:Int)<(xs.length:Int))&&decide (500000000<=cM v))&&decide (xs.length<=1000000))))
noncomputable def xd:gQ:={f:=185,e:=3,t:= .int .i64,ps:=[.list false (.int .i64), .int .i64],rs:=[.int .i64],pre:=fun xs k len d=>Bx xs k len d.1 d.2.1,out:=fun xs _ _ _=>xs,fn:=fun xs _ _ d=>(rB xs d.1 d.2.1,())}
def akP (a:List Int) (d:Int) (h:okB a=true) (auB:1<=d) (gP:d<1000000000):Holds prog false 183 [lv a,iv d] (.tuple [lv (aK (ag a/d)),iv (ag a%d)]):=by
 obtain⟨ha,la⟩:=oA.1 h;have hS:=te;refine bL (c:=zh) func183 rfl rfl fun w0 F=> ?_
 refine cJ hS 4 (akD a d ω ω (pU _).symm (by rw [pU]) (Nt _)) ?_;refine aU.loop (ι:={x:List Int×Int×Nat//x.2.2<=a.length/\x.1.length=a.length/\aS 1000000000 x.1/\(0<=x.2.1/\x.2.1<d)/\ag (a.drop x.2.2)=ag (x.1.drop x.2.2)*d+x.2.1}) (id:=0) (b:=cat zh pT) (rest:=(fl zh []).drop 5) (by kernel_rfl) (fun x=>vj a d x.1.1 x.1.2.1 x.1.2.2) (fun x=>x.1.2.2)
  ⟨(gf a.length,0,a.length),aI _,pU _,Ns _,⟨Int.le_refl 0,show(0:Int)<d by omega⟩,by
    show ag (a.drop a.length)=ag ((gf a.length).drop a.length)*d+0;rw [List.drop_length,List.drop_eq_nil_of_le (by rw [pU];exact aI _)];simp [ag,vl]⟩ (fun _=>rfl) ?_
 rintro⟨⟨q,r,k⟩,hk,hq,jl,hr,hv⟩;have hk:k<=a.length:=hk;have hq:q.length=a.length:=hq;have jl:aS 1000000000 q:=jl;have hr:0<=r/\r<d:=hr;have hv:ag (a.drop k)=ag (q.drop k)*d+r:=hv;cases k with
 |zero=>
  refine bx (s:=vj a d q r 0) hS (akF a d q r 0 ω) ?_;refine cy (cF ?_);rw [List.drop_zero,List.drop_zero]at hv;obtain⟨g1,g2⟩:=yQ (U:=ag a) (V:=d) (t:=ag q) ω ω ω;have e3:ag a%d=r:=by omega
  have key:=akG a d q r 0 (Bu _ q) (by rw [List.drop_zero,dK];omega);rw [List.drop_zero,dK,ze jl]at key;rw [g1,e3];exact bX (s:=vj a d q r 0) hS key
 |succ j=>
  have ej:(((j+1:Nat):Int)-1).toNat=j:=by omega
  have haj:=ha.get δ j;have hs0:0<=r*1000000000+a.getD j 0:=by omega
  have et:Int.tdiv (r*1000000000+a.getD j 0) d=(r*1000000000+a.getD j 0)/d:=Int.tdiv_eq_ediv_of_nonneg hs0;have em:Int.tmod (r*1000000000+a.getD j 0) d=(r*1000000000+a.getD j 0)%d:=Int.tmod_eq_emod_of_nonneg hs0;have ug:=Int.emod_add_mul_ediv (r*1000000000+a.getD j 0) d;have hm0:=dr (r*1000000000+a.getD j 0) (show d≠0 by omega);have pN:=c7 (r*1000000000+a.getD j 0) (show 0<d by omega);have mN:0<=(r*1000000000+a.getD j 0)/d:=Int.ediv_nonneg hs0 ω;have hq1:(r*1000000000+a.getD j 0)/d<1000000000:=(Int.ediv_lt_iff_lt_mul ω).2 (by
   have:(r+1)*1000000000<=d*1000000000:=ar ω δ;rw [Int.mul_comm _ d];omega)
  have key:=akE a d q r (j+1) ω ω ω ω;rw [ej,et,em]at key;refine bx (s:=vj a d q r (j+1)) hS (key ω ω ω ω ω (by rw [b6]) (by rw [b6])) ?_;have iR:(((j+1:Nat):Int)-1-1)=(j:Int)-1:=by omega
  refine⟨⟨(q.set j ((r*1000000000+a.getD j 0)/d),(r*1000000000+a.getD j 0)%d,j),by show j<=_;omega,by show(q.set j _).length=_;rw [b6];exact hq,jl.set ⟨mN,hq1⟩,⟨hm0,pN⟩, ?_⟩,by show j<j+1;omega, ?_, ?_⟩
  .show ag (a.drop j)=ag ((q.set j ((r*1000000000+a.getD j 0)/d)).drop j)*d+(r*1000000000+a.getD j 0)%d;unfold ag at hv ⊢;rw [uF (l:=a) ω,uF (l:=q.set j _) (by rw [b6];omega),wF ω,hv];have Be:(q.set j ((r*1000000000+a.getD j 0)/d)).drop (j+1)=q.drop (j+1):=by rw [List.drop_set];rw [if_pos ω]
   rw [Be];generalize vl 1000000000 (q.drop (j+1))=z at*;generalize (r*1000000000+a.getD j 0)/d=dd at*;generalize (r*1000000000+a.getD j 0)%d=e at*;grind
  .show(Nu a d _ _ (j+1)).T=(vj a d _ _ j).T;unfold Nu vj;rw [iR]
  .rfl
def akQ:Vw.Ok prog:=fun⟨a,d,_⟩ h=>by
 have h:(okB a&&(decide (1<=d)&&decide (d<1000000000)))=true:=h;rw [ae,ae]at h;exact akP a d h.1 (ap h.2.1) (ap h.2.2)
def pX {xs:List Int} {i:Nat} (h:i<xs.length):bz 3 (.int .i64) (some (.own 3 (.int .i64) xs)) i=true:=by
 unfold bz;simp only [Nat.beq_refl,decide_true,Bool.true_and];exact fF h
abbrev Hu (xs:List Int) (t:Int):Exit->au aa->ai->Prop:=Kp prog f185 3 (.int .i64) xs (iv t)
def aU.Nv {X:Ext} {P:Program} {w0:World} {F:Sv.Env} {Q:Exit->au aa->ai->Prop} (hK:fe P) (hm:P.follows .mixedOrders=true) {bu:bG} (hS:bC P (bF bu)) {l:List Code} {s:bD} {fn:Func} {e:TypeId} {t:av} {xs:List t.den} {res:aa} (D:List Bool) (h:(oe P bu l s).path D (uI P fn e t xs res))
  (hq:∀T H,Kp P fn e t xs res .ret T H->Q .ret T H):ba X P w0 F s.n l s.T s.H Q:=
 aU.Mc hK hm hS (fn:=fn) (e:=e) (t:=t) (xs:=xs) (res:=res) l.length D (by rw [dK];exact h) hq
def akR (xs v:List Int) (j:Nat) (cap:aX) (hx:aS 1000000000 xs) (hv:aS 1000000000 v) (h2:2<=v.length) (hj:j+v.length<xs.length) (h1:500000000<=cM v) (hl:xs.length<=1000000) (A:Nat->Option (Nat×Nat)) (Y:Nat->Option Obj) (w:World) (F:Sv.Env):
  ba (qO A Y) prog w F 77 (fl pV []) (dq [xb xs.length cap,lv v,iv j] .nil 0) (qP 3 (.int .i64) xs) (Hu xs (rB xs v j)):=by
 have hS:=cC;have i0:((j:Int)+(v.length:Int)).toNat=j+v.length:=by omega
 have i1:((j:Int)+(v.length:Int)-1).toNat=j+v.length-1:=by omega
 have i2:((j:Int)+(v.length:Int)-2).toNat=j+v.length-2:=by omega
 have i3:((v.length:Int)-1).toNat=v.length-1:=by omega
 have i4:((v.length:Int)-2).toNat=v.length-2:=by omega
 have b0:=hx.get δ (j+v.length);have b1:=hx.get δ (j+v.length-1);have b2:=hx.get δ (j+v.length-2);have b3:=hv.get δ (v.length-1);have b4:=hv.get δ (v.length-2);have o0:=pX (xs:=xs) (i:=j+v.length) ω;have o1:=pX (xs:=xs) (i:=j+v.length-1) ω;have o2:=pX (xs:=xs) (i:=j+v.length-2) ω;have akS:cM v=v.getD (v.length-1) 0:=by rw [<-i3]
 have auC:nN v=v.getD (v.length-2) 0:=by rw [<-i4]
 have auD:pW xs v j=xs.getD (j+v.length-2) 0:=by rw [<-i2]
 have Nw:fx xs v j=xs.getD (j+v.length) 0*1000000000+xs.getD (j+v.length-1) 0:=by unfold fx;rw [i0,i1]
 have hF:rB xs v j=oC (cM v) (nN v) (pW xs v j) 2 (fx xs v j/cM v) (fx xs v j%cM v):=by unfold rB;rw [Int.toNat_natCast]
 obtain⟨res,hres⟩:∃res,oC (cM v) (nN v) (pW xs v j) 2 (fx xs v j/cM v) (fx xs v j%cM v)=res:=⟨_,rfl⟩;rw [hF,hres];have DD:0<=fx xs v j:=by rw [Nw];omega
 have ht1:fx xs v j<1000000000000000000:=by rw [Nw];omega
 have ed:Int.tdiv (fx xs v j) (cM v)=fx xs v j/cM v:=Int.tdiv_eq_ediv_of_nonneg DD;have em:Int.tmod (fx xs v j) (cM v)=fx xs v j%cM v:=Int.tmod_eq_emod_of_nonneg DD;have mN:0<=fx xs v j/cM v:=Int.ediv_nonneg DD ω;have hq1:fx xs v j/cM v<=2000000000:=by
  have h3:fx xs v j/cM v*cM v<=fx xs v j:=Int.ediv_mul_le _ ω;rcases Int.lt_or_le 2000000000 (fx xs v j/cM v)with h|h
  .have:2000000001*500000000<=fx xs v j/cM v*cM v:=Int.mul_le_mul ω h1 δ ω;omega
  .exact h
 have ux:=dr (fx xs v j) (show cM v≠0 by omega);have kS:=c7 (fx xs v j) (show 0<cM v by omega);have key:=akI xs v j xs.length cap;rw [ed,em,i0,i1,i3]at key;have T1:xs.getD (j+v.length) 0*1000000000+xs.getD (j+v.length-1) 0=fx xs v j:=Nw.symm;have T2:v.getD (v.length-1) 0=cM v:=akS.symm;rw [T1,T2,ed]at key;have kV:=key ω ω o0 ω ω ω ω o1 ω ω ω ω ω ω rfl em;refine cJ hS 4 kV ?_;refine aU.loop (ι:={x:Nat×Int×Int//oC (cM v) (nN v) (pW xs v j) x.1 x.2.1 x.2.2=res/\(0<=x.2.1/\x.2.1<=2000000000)/\(0<=x.2.2/\x.2.2<1000000000)/\(x.1=2\/(x.1=1/\1000000000<=x.2.2+cM v))}) (id:=0) (b:=cat pV Bw) (rest:=(fl pV []).drop 5) (by kernel_rfl) (fun x=>jo xs v j xs.length cap x.1.2.1 x.1.2.2) (fun x=>x.1.1) ⟨(2,fx xs v j/cM v,fx xs v j%cM v),hres,⟨mN,hq1⟩,⟨ux,by show _%_<_;omega⟩, .inl rfl⟩ (fun _=>rfl) ?_;rintro⟨⟨f,t,r⟩,c1,c2,c3,c4⟩;have c1:oC (cM v) (nN v) (pW xs v j) f t r=res:=c1;have c2:0<=t/\t<=2000000000:=c2;have c3:0<=r/\r<1000000000:=c3;have c4:f=2\/(f=1/\1000000000<=r+cM v):=c4;obtain⟨g,rfl⟩:∃g,f=g+1:=⟨f-1,by omega⟩;unfold oC at c1;have d2:0<=t*nN v/\t*nN v<=2000000000*999999999:=⟨Int.mul_nonneg c2.1 ω,Int.mul_le_mul c2.2 ω ω δ⟩;have uV:1<=t->¬1000000000<=r+cM v->oC (cM v) (nN v) (pW xs v j) g (t-1) (r+cM v)=res->∃x:{x:Nat×Int×Int//oC (cM v) (nN v) (pW xs v j) x.1 x.2.1 x.2.2=res/\(0<=x.2.1/\x.2.1<=2000000000)/\(0<=x.2.2/\x.2.2<1000000000)/\(x.1=2\/(x.1=1/\1000000000<=x.2.2+cM v))},x.1.1<g+1/\(jo xs v j xs.length cap (t-1) (r+cM v)).T=(jo xs v j xs.length cap x.1.2.1 x.1.2.2).T/\(jo xs v j xs.length cap (t-1) (r+cM v)).H=(jo xs v j xs.length cap x.1.2.1 x.1.2.2).H:=fun h1 h2 h3=>
  ⟨⟨(g,t-1,r+cM v),h3,⟨by show 0<=t-1;omega,by show t-1<=_;omega⟩,⟨by show 0<=r+cM v;omega,by show r+cM v<_;omega⟩, .inr ⟨by show g=1;omega,by show _<=r+cM v+cM v;omega⟩⟩,fG _,rfl,rfl⟩
 have q1: -9223372036854775808<=r+cM v/\r+cM v<=9223372036854775807:=by omega
 have aQ: -9223372036854775808<=t*nN v/\t*nN v<=9223372036854775807:=by omega
 have b7: -9223372036854775808<=r*1000000000+pW xs v j/\r*1000000000+pW xs v j<=9223372036854775807:=by omega
 have fin:∀z:Int,z=res->∀T H,Hu xs z .ret T H->Hu xs res .ret T H:=fun z hz T H h=>by rw [<-hz];exact h
 by_cases h3:t>=1000000000
 .rw [if_pos (.inl h3)]at c1;by_cases h4:r+cM v>=1000000000
  .rw [if_pos h4]at c1;exact aU.Nv (s:=jo xs v j xs.length cap t r) known mixed hS _ (akJ xs v j xs.length cap t r h3 ω ω ω ω q1 h4) fun T H h=>fin _ c1 T H h
  .rw [if_neg h4]at c1;exact bx (s:=jo xs v j xs.length cap t r) hS (akK xs v j xs.length cap t r h3 ω ω ω ω q1 h4) (uV ω h4 c1)
 .have Nx:bz 3 (.int .i64) (some (.own 3 (.int .i64) xs)) ((j:Int)+(v.length:Int)-2).toNat=true:=by rw [i2];exact o2
  by_cases h5:t*nN v>r*1000000000+pW xs v j
  .have ht1:1<=t:=by
    rcases Int.lt_or_le 0 t with h|h
    .exact h
    .have e:t=0:=by omega
     rw [e,Int.zero_mul]at h5;omega
   rw [if_pos (.inr h5)]at c1;by_cases h4:r+cM v>=1000000000
   .rw [if_pos h4]at c1;exact aU.Nv (s:=jo xs v j xs.length cap t r) known mixed hS _ (akL xs v j xs.length cap t r h3 ω ω ω aQ ω ω ω ω ω Nx b7 h5 ω ω ω ω q1 h4) fun T H h=>fin _ c1 T H h
   .rw [if_neg h4]at c1;exact bx (s:=jo xs v j xs.length cap t r) hS (akM xs v j xs.length cap t r h3 ω ω ω aQ ω ω ω ω ω Nx b7 h5 ω ω ω ω q1 h4) (uV ht1 h4 c1)
  .rw [if_neg ω]at c1;refine bx (s:=jo xs v j xs.length cap t r) hS (akN xs v j xs.length cap t r h3 ω ω ω aQ ω ω ω ω ω Nx b7 h5) ?_;refine cy (cF ?_);exact aU.Nv (s:=jo xs v j xs.length cap t r) known mixed hS _ (akO xs v j xs.length cap t r) fun T H h=>fin _ c1 T H h
def akT (xs:List Int) (k len:Nat) (cap:aX) (v:List Int) (j:Int) (hp:Bx xs k len v j=true) (A:Nat->Option (Nat×Nat)) (Y:Nat->Option Obj) (w:World) (F:Sv.Env):
  ba (qO A Y) prog w F 77 (fl pV []) (dq [.bR 3 (.int .i64) 64 k len cap,lv v,iv j] .nil 0) (qP 3 (.int .i64) xs) (Hu xs (rB xs v j)):=by
 unfold Bx at hp;simp only [ae,bE,pf]at hp;obtain⟨⟨h1,h2⟩,⟨h3,h4⟩,⟨h5,h6⟩,⟨h7,h8⟩,h9⟩:=hp;obtain rfl:=ac h1;obtain rfl:=ac h2;obtain⟨n,rfl⟩:=Int.eq_ofNat_of_zero_le h6;exact akR xs v n cap h3 h4 h5 ω h8 h9 A Y w F
def akU:xd.Ok prog:=
 ⟨rfl,rfl,_,pV,func185,rfl,by decide,fun xs k len cap d hp _ hk A Y w F=>akT xs k len cap d.1 d.2.1 hp A Y w F⟩
end
end Go.Proofs.YtibikmmdbdlafaaGreatDoor
