import Derived.Test.YtibikmmdbdlafaaGreatDoorZmA3
set_option linter.defProp false
set_option linter.unusedVariables false
set_option linter.unusedSimpArgs false
set_option maxRecDepth 100000
namespace Go.Proofs.YtibikmmdbdlafaaGreatDoor
open Go.RowKit Sv Go.Proofs.Tryz
noncomputable section
noncomputable def dS:Code:=(f131.body).getD .skip
noncomputable def iC:bI:=v6 [wL] (ov [Gp] (aR [Md,T8,Mh]))
abbrev Mr:List Nat:=[1,1,1,1,1,1,1,0,0,0]
abbrev Db:List Nat:=[1,1,1,1,1,1,1,1,1,0,1,0,0]
abbrev uC:List Nat:=[1,1,1,1,1,1,1,1,1,0,1,0,0,1,0,0]
abbrev GA:List Nat:=[1,1,1,1,1,1,1,1,1,0,1,0,0,1,0,0,1,1,0,1,0,0]
abbrev GB:List Nat:=[1,1,1,1,1,1,1,1,1,0,1,0,0,1,0,0,1,1,1,1,0,1,0]
abbrev Ms:List Nat:=[1,1,1,1,1,1,1,1,1,0,1,0,0,1,0,0,1,1,1,1,0,1,0,1,1,0,1,0,0]
def Mt (a b:List Int) (f:Int):bC:={n:=206,sl:=[(0,lv a),(1,lv b),(8,mR 64 [f])],bF:=[(64,mS [f])],next:=65}
def AV (a b:List Int) (f:Int):bC:={n:=206,sl:=[(0,lv a),(1,lv b),(8,lv [f])],bF:=[],next:=64}
def sA (a v:List Int) (f:Int) (u:List Int):bC:={n:=206,sl:=[(0,lv a),(8,lv [f]),(9,lv v),(10,iv v.length),(11,mR 64 u)],bF:=[(64,mS u)],next:=65}
abbrev Dc (u:List Int):fG:= .blk (.own 3 (.int .i64) u)
def gQ (v:List Int) (f:Int) (c:aZ) (u q:List Int) (z:Int):bC:={n:=206,sl:=[(8,lv [f]),(9,lv v),(10,iv v.length),(11,wK u.length c),(12,mR 65 q),(13,iv z)],bF:=[(64,Dc u),(65,mS q)],next:=66}
def oA (v:List Int) (f:Int) (c:aZ) (u q:List Int) (z t bo:Int) (i:Nat):bC:={n:=206,sl:=[(8,lv [f]),(9,lv v),(10,iv v.length),(11,wK u.length c),(12,mR 65 q),(13,iv z),(14,iv t),(15,iv bo),(16,iv i)],bF:=[(64,Dc u),(65,mS q)],next:=66}
def yw (v:List Int) (f:Int) (c:aZ) (u q:List Int) (z t:Int) (x:Bool):bC:={n:=206,sl:=[(8,lv [f]),(9,lv v),(10,iv v.length),(11,wK u.length c),(12,mR 65 q),(13,iv z),(14,iv t),(145,bv x)],bF:=[(64,Dc u),(65,mS q)],next:=66}
def sB (v:List Int) (f:Int) (c:aZ) (u q:List Int) (z t cR:Int) (i:Nat):bC:={n:=206,sl:=[(8,lv [f]),(9,lv v),(10,iv v.length),(11,wK u.length c),(12,mR 65 q),(13,iv z),(14,iv t),(19,iv cR),(20,iv i)],bF:=[(64,Dc u),(65,mS q)],next:=66}
def Mu (v:List Int) (f:Int) (c:aZ) (u q:List Int) (z t:Int):bC:={n:=206,sl:=[(8,lv [f]),(9,lv v),(10,iv v.length),(11,wK u.length c),(12,mR 65 q),(13,iv z),(14,iv t)],bF:=[(64,Dc u),(65,mS q)],next:=66}
abbrev nJ:Sv.Ren:=[(64,64,none),(65,65,none)]
def aje (a b:List Int) (h1:(okA a&&okA b)=true) (h2:lE (ag a) (ag b)<0):
  bu iC (fl dS []) 3 206 [lv a,lv b] 3 f131 false (.tuple [lv [],lv a]):=
 wy [af h1,ah h2] 129
def Sp (a b:List Int) (h1:(okA a&&okA b)=true) (h2:¬lE (ag a) (ag b)<0) (h3:(b.length:Int)=1) (h4:Int.toNat 0<b.length) (h5:(okB a&&(decide ((1:av.den (.int .i64))<=b.getD (Int.toNat 0) 0)&&decide (b.getD (Int.toNat 0) 0<(1000000000:av.den (.int .i64)))))=true) (h6:1*1<=(iv (ag a%List.getD b (Int.toNat 0) 0)::List.append._f [] PUnit.unit (List.flatten._f [] PUnit.unit)).length) (h7:List.length [ag a%List.getD b (Int.toNat 0) 0]<=1000000) (h8:(aI (ag a/List.getD b (Int.toNat 0) 0))=(aI (ag a/List.getD b 0 0))) (h9:(ec [ag a%List.getD b (Int.toNat 0) 0])=(ec [ag a%List.getD b 0 0])):
  bu iC (fl dS []) 5 206 [lv a,lv b] 6 f131 false (.tuple [lv (aI (ag a/b.getD 0 0)),lv (ec [ag a%b.getD 0 0])]):=
 wy [af h1,aA h2,cW h3,ah h4,af h5,af (show(Nat.ble ((0:Nat)+(1:Nat)*(1:Nat)) (iv (ag a%List.getD b (0:Int).toNat (0:Int))::List.append._f [] PUnit.unit (List.flatten._f [] PUnit.unit)).length)=true from(by simp only [aw]<;>exact fo h6)),ah h7,az h8,az h9] 164412590477291649
def ajf (a b:List Int) (h1:(okA a&&okA b)=true) (h2:¬lE (ag a) (ag b)<0) (h3:¬(b.length:Int)=1) (h4: -9223372036854775808<=(b.length:Int)-1/\(b.length:Int)-1<=9223372036854775807) (h5:(0:Int)<=(b.length:Int)-1) (h6:((b.length:Int)-1).toNat<b.length) (h7: -9223372036854775808<=b.getD ((b.length:Int)-1).toNat (0:Int)+1/\b.getD ((b.length:Int)-1).toNat (0:Int)+1<=9223372036854775807) (h8:b.getD ((b.length:Int)-1).toNat (0:Int)+1≠0) (h9: -9223372036854775808<=Int.tdiv (1000000000:Int) (b.getD ((b.length:Int)-1).toNat (0:Int)+1)/\Int.tdiv (1000000000:Int) (b.getD ((b.length:Int)-1).toNat (0:Int)+1)<=9223372036854775807) (h10:(iv (Int.tdiv (1000000000:Int) (b.getD ((b.length:Int)-1).toNat (0:Int)+1))::List.append._f [] PUnit.unit (List.flatten._f [] PUnit.unit))=(List.flatMap (fun x=>[iv x]) [Int.tdiv (1000000000:Int) (b.getD ((b.length:Int)-1).toNat (0:Int)+1)])):
  aC.path (o4 prog iC (fl dS []) 6 206 [lv a,lv b]) (dl 4) (dP prog 206 .normal [(64,64,some 1)] (Mt a b (Int.tdiv 1000000000 (b.getD ((b.length:Int)-1).toNat 0+1)))):=
 mp (Kt h1 (ab h2) (fF.mpr h3) (br h4) (ax h5) (og (ax h6) (br h7) (ax h8) (br h9) (rr a) (rr b) (an (rr (1:Nat)) (an (rr (aZ.known (1:Nat))) (rr (bJ (List.length [Int.tdiv (1000000000:Int) (b.getD ((b.length:Int)-1).toNat (0:Int)+1)]))))) (an h10 (rr (1:Nat))) trivial))
def ajg (a b:List Int) (f:Int):
  aC.path (aC.ret (R.normal ((Mt a b f).T.set 8 (some (lv [f]))) ((Mt a b f).H.drop 64) []):aC R) (dl 1) (dP prog 206 .normal [] (AV a b f)):=
 wy [] 0
def ajh (a b:List Int) (f:Int) (h1:(okB b&&okB [f])=true) (h2:(okB a&&okB [f])=true) (h3:(Nat.beq (aI (ag a*ag [f])).length 0)=false) (h4:(aI (ag a*ag [f])).length<=1000000) (h5:(aZ.full)=(bJ (aI (ag a*ag [f])).length)) (h6:(bM (.int .i64) none++aI (ag a*ag [f]))=(aI (ag a*ag [f]))):
  dD iC ((fl dS []).drop 6) 3 (AV a b f) 2 .normal [(64,65,none)] (sA a (aI (ag b*ag [f])) f (aI (ag a*ag [f]))):=
 wy [af h1,af h2,af h3,af (show(bounded ((0:Nat)+(aI (ag a*ag [f])).length) (8:Nat))=true from(by simp only [aw]<;>exact o6 h4 (by omega))),az (show((0:Nat)+(aI (ag a*ag [f])).length)=((aI (ag a*ag [f])).length)from(by simp only [aw]<;>rfl)),az h5,o5 prog 3 (.int .i64) h6] 2144323318104297413804161
def aji (a v:List Int) (f:Int) (u:List Int) (h1:i6 ((a.length:Int)+1)) (h2:(u.length:Int)<(a.length:Int)+1) (h3:u.length+1<=1000000) (h4:(u.length+1)=(u++[0]).length) (h5:(aZ.full)=(bJ (u++[0]).length)):
  bg iC (fl dS Mr) (sA a v f u) 5 .normal [(64,66,none)] (sA a v f (u++[0])):=
 wy [yi h1,ah h2,yk 3 (.int .i64) u,lM 8 h3,az h4,az h5,oh 3 (.int .i64) (Eq.refl (u++[(0:Int)]))] 2144323318104297463349377
def ajj (a v:List Int) (f:Int) (u:List Int) (h1:i6 ((a.length:Int)+1)) (h2:¬(u.length:Int)<(a.length:Int)+1):
  bg iC (fl dS Mr) (sA a v f u) 2 (.exit 0) [(64,64,none)] (sA a v f u):=
 wy [yi h1,aA h2] 129
def ajk (a v:List Int) (f:Int) (x:Int) (l:List Int) (h1: -9223372036854775808<=(↑(x::l).length:Int)-(v.length:Int)/\(↑(x::l).length:Int)-(v.length:Int)<=9223372036854775807) (h2:(0:Int)<=(↑(x::l).length:Int)-(v.length:Int)) (h3:((↑(x::l).length:Int)-(v.length:Int)).toNat<=1000000) (h4: -9223372036854775808<=(↑(x::l).length:Int)-(v.length:Int)-1/\(↑(x::l).length:Int)-(v.length:Int)-1<=9223372036854775807) (h5:(((↑(x::l).length:Int)-(v.length:Int)).toNat)=(fY ((l.length:Int)+1-(v.length:Int)).toNat).length) (h6:(aZ.known ((↑(x::l).length:Int)-(v.length:Int)).toNat)=(aZ.known ((l.length:Int)+1-(v.length:Int)).toNat)) (h7:(bJ (fY ((l.length:Int)+1-(v.length:Int)).toNat).length)=(bJ ((l.length:Int)+1-(v.length:Int)).toNat)) (h8:((↑(x::l).length:Int)-(v.length:Int)-1)=((l.length:Int)+1-(v.length:Int)-1)) (h9:(List.flatten (List.replicate ((↑(x::l).length:Int)-(v.length:Int)).toNat (List.map aa.raw (Array.toList #[Value.int .i64 (0:Int)]))))=(List.flatMap (fun x=>[iv x]) (fY ((l.length:Int)+1-(v.length:Int)).toNat))) (h10:(((l.length:Int)+1-(v.length:Int)).toNat)=(fY ((l.length:Int)+1-(v.length:Int)).toNat).length):
  aC.path (tP prog iC ((fl dS []).drop 10) 2 (sA a v f (x::l))) (dl 1) (dP prog 206 .normal [(64,64,none),(65,65,some ((l.length:Int)+1-v.length).toNat)] (gQ v f (bJ (l.length+1)) (x::l) (fY ((l.length:Int)+1-v.length).toNat) ((l.length:Int)+1-v.length-1))):=
 mp (abX (br h1) (ax h2) (ax h2) (show(decide (((↑(x::l).length:Int)-(v.length:Int)).toNat<=((↑(x::l).length:Int)-(v.length:Int)).toNat))=true from ax (by omega)) (show(bounded ((↑(x::l).length:Int)-(v.length:Int)).toNat (8:Nat))=true from o6 h3 (by omega)) (br h1) (br h4) (og (rr ([f])) (rr v) (rr (v.length:Int)) (an (rr (0:Nat)) (an (rr (x::l).length) (rr (bJ (x::l).length)))) (an h5 (an h6 h7)) h8 (rr (x::l)) (an h9 h10) trivial))
def ajl (v:List Int) (f:Int) (c:aZ) (u q:List Int) (z:Int) (h1:z>=0):
  dD iC (fl dS Db) 2 (gQ v f c u q z) 3 .normal nJ (gQ v f c u q z):=
 wy [ah h1] 1
def NO (v:List Int) (f:Int) (c:aZ) (u q:List Int) (z:Int) (h1:¬z>=0):
  dD iC (fl dS Db) 2 (gQ v f c u q z) 2 (.exit 2) nJ (gQ v f c u q z):=
 wy [aA h1] 1
def ajm (v:List Int) (f:Int) (c:aZ) (u q:List Int) (z:Int) (h1:(bz (gK.e wL) (gK.t wL) (some (bq.own 3 (.int .i64) u)) (u.length-1)&&Nat.ble 1 u.length)=true) (h2:(AU u 0 u.length v z)=true):
  dD iC (fl dS uC) 3 (gQ v f c u q z) 1 .normal nJ (oA v f c u q z (qX u v z) 0 0):=
 wy [af (show(bz (gK.e wL) (gK.t wL) (some (bq.own 3 (.int .i64) u)) ((0:Nat)+u.length-(1:Nat))&&Nat.ble (1:Nat) u.length)=true from(by simp only [aw]<;>exact h1)),af h2] 129
def ajn (v:List Int) (f:Int) (c:aZ) (u q:List Int) (z t bo:Int) (i:Nat) (h1:(i:Int)<(v.length:Int)) (h2:i<v.length) (h3:i6 (t*v.getD i 0)) (h4:i6 (t*v.getD i 0+bo)) (h5:i6 ((i:Int)+z)) (h6:0<=(i:Int)+z) (h7:((i:Int)+z).toNat<u.length) (h8:(bz 3 (.int .i64) (some (bq.own 3 (.int .i64) u)) ((i:Int)+z).toNat)=true) (h9:i6 (u.getD ((i:Int)+z).toNat 0-Int.tmod (t*v.getD i 0+bo) 1000000000)) (h10:i6 (Int.tdiv (t*v.getD i 0+bo) 1000000000)) (h11:u.getD ((i:Int)+z).toNat 0-Int.tmod (t*v.getD i 0+bo) 1000000000<0) (h12:i6 (u.getD ((i:Int)+z).toNat 0-Int.tmod (t*v.getD i 0+bo) 1000000000+1000000000)) (dG:i6 (Int.tdiv (t*v.getD i 0+bo) 1000000000+1)) (gq:i6 ((i:Int)+1)) (iB:u.length=(u.set ((i:Int)+z).toNat (u.getD ((i:Int)+z).toNat 0-Int.tmod (t*v.getD i 0+bo) 1000000000+1000000000)).length):
  bg iC (fl dS GA) (oA v f c u q z t bo i) 7 .normal nJ (oA v f c (u.set ((i:Int)+z).toNat (u.getD ((i:Int)+z).toNat 0-Int.tmod (t*v.getD i 0+bo) 1000000000+1000000000)) q z t (Int.tdiv (t*v.getD i 0+bo) 1000000000+1) (i+1)):=
 wy [ah h1,ah h2,yi h3,yi h4,yi h5,ah h6,ah h7,af (show(bz 3 (.int .i64) (some (bq.own 3 (.int .i64) u)) ((0:Nat)+((i:Int)+z).toNat))=true from(by simp only [aw]<;>exact h8)),af (show(fits IntKind.i64 (u.getD ((0:Nat)+((i:Int)+z).toNat) (0:Int)-Int.tmod (t*v.getD i (0:Int)+bo) (1000000000:Int)))=true from(by simp only [aw]<;>exact br h9)),yi h10,af (show(decide (u.getD ((0:Nat)+((i:Int)+z).toNat) (0:Int)-Int.tmod (t*v.getD i (0:Int)+bo) (1000000000:Int)<(0:Int)))=true from(by simp only [aw]<;>exact ax h11)),af (show(fits IntKind.i64 (u.getD ((0:Nat)+((i:Int)+z).toNat) (0:Int)-Int.tmod (t*v.getD i (0:Int)+bo) (1000000000:Int)+(1000000000:Int)))=true from(by simp only [aw]<;>exact br h12)),yi dG,yi gq,az iB,az (show(u.set ((0:Nat)+((i:Int)+z).toNat) (u.getD ((0:Nat)+((i:Int)+z).toNat) (0:Int)-Int.tmod (t*v.getD i (0:Int)+bo) (1000000000:Int)+(1000000000:Int)))=(u.set ((i:Int)+z).toNat (u.getD ((i:Int)+z).toNat (0:Int)-Int.tmod (t*v.getD i (0:Int)+bo) (1000000000:Int)+(1000000000:Int)))from(by simp only [aw]<;>rfl))] 411376139330301531947457705006383748541443296955200566048071681
def ajo (v:List Int) (f:Int) (c:aZ) (u q:List Int) (z t bo:Int) (i:Nat) (h1:(i:Int)<(v.length:Int)) (h2:i<v.length) (h3:i6 (t*v.getD i 0)) (h4:i6 (t*v.getD i 0+bo)) (h5:i6 ((i:Int)+z)) (h6:0<=(i:Int)+z) (h7:((i:Int)+z).toNat<u.length) (h8:(bz 3 (.int .i64) (some (bq.own 3 (.int .i64) u)) ((i:Int)+z).toNat)=true) (h9:i6 (u.getD ((i:Int)+z).toNat 0-Int.tmod (t*v.getD i 0+bo) 1000000000)) (h10:i6 (Int.tdiv (t*v.getD i 0+bo) 1000000000)) (h11:¬u.getD ((i:Int)+z).toNat 0-Int.tmod (t*v.getD i 0+bo) 1000000000<0) (h12:i6 ((i:Int)+1)) (dG:u.length=(u.set ((i:Int)+z).toNat (u.getD ((i:Int)+z).toNat 0-Int.tmod (t*v.getD i 0+bo) 1000000000)).length):
  bg iC (fl dS GA) (oA v f c u q z t bo i) 5 .normal nJ (oA v f c (u.set ((i:Int)+z).toNat (u.getD ((i:Int)+z).toNat 0-Int.tmod (t*v.getD i 0+bo) 1000000000)) q z t (Int.tdiv (t*v.getD i 0+bo) 1000000000) (i+1)):=
 wy [ah h1,ah h2,yi h3,yi h4,yi h5,ah h6,ah h7,af (show(bz 3 (.int .i64) (some (bq.own 3 (.int .i64) u)) ((0:Nat)+((i:Int)+z).toNat))=true from(by simp only [aw]<;>exact h8)),af (show(fits IntKind.i64 (u.getD ((0:Nat)+((i:Int)+z).toNat) (0:Int)-Int.tmod (t*v.getD i (0:Int)+bo) (1000000000:Int)))=true from(by simp only [aw]<;>exact br h9)),yi h10,af (show(decide (u.getD ((0:Nat)+((i:Int)+z).toNat) (0:Int)-Int.tmod (t*v.getD i (0:Int)+bo) (1000000000:Int)<(0:Int)))=false from(by simp only [aw]<;>exact ab h11)),yi h12,az dG,az (show(u.set ((0:Nat)+((i:Int)+z).toNat) (u.getD ((0:Nat)+((i:Int)+z).toNat) (0:Int)-Int.tmod (t*v.getD i (0:Int)+bo) (1000000000:Int)))=(u.set ((i:Int)+z).toNat (u.getD ((i:Int)+z).toNat (0:Int)-Int.tmod (t*v.getD i (0:Int)+bo) (1000000000:Int)))from(by simp only [aw]<;>rfl))] 87879424295413535223539924311789743421980991760571879399425
def ajp (v:List Int) (f:Int) (c:aZ) (u q:List Int) (z t bo:Int) (i:Nat) (h1:¬(i:Int)<(v.length:Int)):
  bg iC (fl dS GA) (oA v f c u q z t bo i) 2 (.exit 4) nJ (oA v f c u q z t bo i):=
 wy [aA h1] 1
def ajq (v:List Int) (f:Int) (c:aZ) (u q:List Int) (z t bo:Int) (i:Nat) (h1:i6 (z+(v.length:Int))) (h2:0<=z+(v.length:Int)) (h3:(z+(v.length:Int)).toNat<u.length) (h4:(bz 3 (.int .i64) (some (bq.own 3 (.int .i64) u)) (z+(v.length:Int)).toNat)=true) (h5:i6 (u.getD (z+(v.length:Int)).toNat 0-bo)) (h6:(bz 3 (.int .i64) (some (bq.own 3 (.int .i64) (u.set (z+(v.length:Int)).toNat (u.getD (z+(v.length:Int)).toNat 0-bo)))) (z+(v.length:Int)).toNat)=true) (h7:u.length=(u.set (z+(v.length:Int)).toNat (u.getD (z+(v.length:Int)).toNat 0-bo)).length) (h8:(decide ((u.set (z+(v.length:Int)).toNat (u.getD (z+(v.length:Int)).toNat 0-bo)).getD (z+(v.length:Int)).toNat 0<0))=(decide ((u.set (z+(v.length:Int)).toNat (u.getD (z+(v.length:Int)).toNat 0-bo)).getD (z+(v.length:Int)).toNat 0<0))):
  dD iC ((fl dS uC).drop 4) 2 (oA v f c u q z t bo i) 1 .normal nJ (yw v f c (u.set (z+(v.length:Int)).toNat (u.getD (z+(v.length:Int)).toNat 0-bo)) q z t (decide ((u.set (z+(v.length:Int)).toNat (u.getD (z+(v.length:Int)).toNat 0-bo)).getD (z+(v.length:Int)).toNat 0<0))):=
 wy [yi h1,ah h2,ah h3,af (show(bz 3 (.int .i64) (some (bq.own 3 (.int .i64) u)) ((0:Nat)+(z+(v.length:Int)).toNat))=true from(by simp only [aw]<;>exact h4)),af (show(fits IntKind.i64 (u.getD ((0:Nat)+(z+(v.length:Int)).toNat) (0:Int)-bo))=true from(by simp only [aw]<;>exact br h5)),af (show(bz 3 (.int .i64) (some (bq.own 3 (.int .i64) (u.set ((0:Nat)+(z+(v.length:Int)).toNat) (u.getD ((0:Nat)+(z+(v.length:Int)).toNat) (0:Int)-bo)))) ((0:Nat)+(z+(v.length:Int)).toNat))=true from(by simp only [aw]<;>exact h6)),az h7,az (show(decide ((u.set ((0:Nat)+(z+(v.length:Int)).toNat) (u.getD ((0:Nat)+(z+(v.length:Int)).toNat) (0:Int)-bo)).getD ((0:Nat)+(z+(v.length:Int)).toNat) (0:Int)<(0:Int)))=(decide ((u.set (z+(v.length:Int)).toNat (u.getD (z+(v.length:Int)).toNat (0:Int)-bo)).getD (z+(v.length:Int)).toNat (0:Int)<(0:Int)))from(by simp only [aw]<;>exact h8)),az (show(u.set ((0:Nat)+(z+(v.length:Int)).toNat) (u.getD ((0:Nat)+(z+(v.length:Int)).toNat) (0:Int)-bo))=(u.set (z+(v.length:Int)).toNat (u.getD (z+(v.length:Int)).toNat (0:Int)-bo))from(by simp only [aw]<;>rfl))] 13023635195941919408873694419534707774213333057
def ajr (v:List Int) (f:Int) (c:aZ) (u q:List Int) (z t:Int) (h1:0<=z) (h2:z.toNat<q.length) (h3:q.length=(q.set z.toNat t).length) (h4:(bJ q.length)=(bJ (q.set z.toNat t).length)):
  bg iC ((fl dS uC).drop 6) (yw v f c u q z t false) 2 .normal nJ (gQ v f c u (q.set z.toNat t) z):=
 wy [ah h1,ah h2,jd 3 (.int .i64) h2,az h3,az h4,mJ 3 (.int .i64) (Eq.refl (q.set z.toNat t))] 7427664142692601176974434368
def Sx (v:List Int) (f:Int) (c:aZ) (u q:List Int) (z t:Int) (h1:i6 (t-1)):
  dD iC (fl dS GB) 3 (yw v f c u q z t true) 1 .normal nJ (sB v f c u q z (t-1) 0 0):=
 wy [yi h1] 1
def ajs (v:List Int) (f:Int) (c:aZ) (u q:List Int) (z t cR:Int) (i:Nat) (h1:(i:Int)<(v.length:Int)) (h2:i6 ((i:Int)+z)) (h3:0<=(i:Int)+z) (h4:((i:Int)+z).toNat<u.length) (h5:(bz 3 (.int .i64) (some (bq.own 3 (.int .i64) u)) ((i:Int)+z).toNat)=true) (h6:i<v.length) (h7:i6 (u.getD ((i:Int)+z).toNat 0+v.getD i 0)) (h8:i6 (u.getD ((i:Int)+z).toNat 0+v.getD i 0+cR)) (h9:i6 (Int.tdiv (u.getD ((i:Int)+z).toNat 0+v.getD i 0+cR) 1000000000)) (h10:i6 ((i:Int)+1)) (h11:u.length=(u.set ((i:Int)+z).toNat (Int.tmod (u.getD ((i:Int)+z).toNat 0+v.getD i 0+cR) 1000000000)).length):
  bg iC (fl dS Ms) (sB v f c u q z t cR i) 3 .normal nJ (sB v f c (u.set ((i:Int)+z).toNat (Int.tmod (u.getD ((i:Int)+z).toNat 0+v.getD i 0+cR) 1000000000)) q z t (Int.tdiv (u.getD ((i:Int)+z).toNat 0+v.getD i 0+cR) 1000000000) (i+1)):=
 wy [ah h1,yi h2,ah h3,ah h4,af (show(bz 3 (.int .i64) (some (bq.own 3 (.int .i64) u)) ((0:Nat)+((i:Int)+z).toNat))=true from(by simp only [aw]<;>exact h5)),af (aV (v:=iv (u.getD ((0:Nat)+((i:Int)+z).toNat) (0:Int)))),ah h6,af (aV (v:=iv (v.getD i (0:Int)))),af (show(fits IntKind.i64 (u.getD ((0:Nat)+((i:Int)+z).toNat) (0:Int)+v.getD i (0:Int)))=true from(by simp only [aw]<;>exact br h7)),af (show(fits IntKind.i64 (u.getD ((0:Nat)+((i:Int)+z).toNat) (0:Int)+v.getD i (0:Int)+cR))=true from(by simp only [aw]<;>exact br h8)),af (show(fits IntKind.i64 (Int.tdiv (u.getD ((0:Nat)+((i:Int)+z).toNat) (0:Int)+v.getD i (0:Int)+cR) (1000000000:Int)))=true from(by simp only [aw]<;>exact br h9)),yi h10,az h11,az (show(Int.tdiv (u.getD ((0:Nat)+((i:Int)+z).toNat) (0:Int)+v.getD i (0:Int)+cR) (1000000000:Int))=(Int.tdiv (u.getD ((i:Int)+z).toNat (0:Int)+v.getD i (0:Int)+cR) (1000000000:Int))from(by simp only [aw]<;>rfl)),az (show(u.set ((0:Nat)+((i:Int)+z).toNat) (Int.tmod (u.getD ((0:Nat)+((i:Int)+z).toNat) (0:Int)+v.getD i (0:Int)+cR) (1000000000:Int)))=(u.set ((i:Int)+z).toNat (Int.tmod (u.getD ((i:Int)+z).toNat (0:Int)+v.getD i (0:Int)+cR) (1000000000:Int)))from(by simp only [aw]<;>rfl))] 6027390781975829659609134758914141726976902255265616766185601
def ajt (v:List Int) (f:Int) (c:aZ) (u q:List Int) (z t cR:Int) (i:Nat) (h1:¬(i:Int)<(v.length:Int)):
  bg iC (fl dS Ms) (sB v f c u q z t cR i) 2 (.exit 6) nJ (sB v f c u q z t cR i):=
 wy [aA h1] 1
def aju (v:List Int) (f:Int) (c:aZ) (u q:List Int) (z t cR:Int) (i:Nat) (h1:i6 (z+(v.length:Int))) (h2:0<=z+(v.length:Int)) (h3:(z+(v.length:Int)).toNat<u.length) (h4:(bz 3 (.int .i64) (some (bq.own 3 (.int .i64) u)) (z+(v.length:Int)).toNat)=true) (h5:i6 (u.getD (z+(v.length:Int)).toNat 0+cR)) (h6:u.length=(u.set (z+(v.length:Int)).toNat (u.getD (z+(v.length:Int)).toNat 0+cR)).length):
  bg iC ((fl dS GB).drop 4) (sB v f c u q z t cR i) 1 .normal nJ (Mu v f c (u.set (z+(v.length:Int)).toNat (u.getD (z+(v.length:Int)).toNat 0+cR)) q z t):=
 wy [yi h1,ah h2,ah h3,af (show(bz 3 (.int .i64) (some (bq.own 3 (.int .i64) u)) ((0:Nat)+(z+(v.length:Int)).toNat))=true from(by simp only [aw]<;>exact h4)),af (show(fits IntKind.i64 (u.getD ((0:Nat)+(z+(v.length:Int)).toNat) (0:Int)+cR))=true from(by simp only [aw]<;>exact br h5)),az h6,az (show(u.set ((0:Nat)+(z+(v.length:Int)).toNat) (u.getD ((0:Nat)+(z+(v.length:Int)).toNat) (0:Int)+cR))=(u.set (z+(v.length:Int)).toNat (u.getD (z+(v.length:Int)).toNat (0:Int)+cR))from(by simp only [aw]<;>rfl))] 9304595970496224499057210602646413377
def ajv (v:List Int) (f:Int) (c:aZ) (u q:List Int) (z t:Int) (h1:0<=z) (h2:z.toNat<q.length) (h3:q.length=(q.set z.toNat t).length) (h4:(bJ q.length)=(bJ (q.set z.toNat t).length)):
  bg iC ((fl dS uC).drop 7) (Mu v f c u q z t) 1 .normal nJ (gQ v f c u (q.set z.toNat t) z):=
 wy [ah h1,ah h2,jd 3 (.int .i64) h2,az h3,az h4,mJ 3 (.int .i64) (Eq.refl (q.set z.toNat t))] 116057252229571893390225537
def ajw (v:List Int) (f:Int) (c:aZ) (u q:List Int) (z:Int) (h1:i6 (z-1)):
  bg iC ((fl dS Db).drop 3) (gQ v f c u q z) 1 .normal nJ (gQ v f c u q (z-1)):=
 wy [yi h1] 1
def ajx (v:List Int) (f:Int) (c:aZ) (u q:List Int) (z:Int) (h1:v.length<=u.length) (h2:(Nat.beq v.length 0||bz 3 (.int .i64) (some (bq.own 3 (.int .i64) u)) (v.length-1))=true) (h3:((u.drop 0).take v.length).length<=1000000) (h4:Int.toNat 0<List.length [f]) (h5:(okB (ec ((u.drop 0).take v.length))&&(decide ((1:av.den (.int .i64))<=List.getD [f] (Int.toNat 0) 0)&&decide (List.getD [f] (Int.toNat 0) 0<(1000000000:av.den (.int .i64)))))=true) (h6:(Nat.beq q.length 0||bz 3 (.int .i64) (ba 3 (.int .i64) q) (q.length-1))=true) (h7:((q.drop 0).take q.length).length<=1000000) (h8:(aI (ag (ec ((u.drop 0).take v.length))/List.getD [f] (Int.toNat 0) 0))=(aI (ag (ec ((u.drop 0).take v.length))/f))):
  bH iC ((fl dS []).drop 13) (gQ v f c u q z) 3 f131 false (.tuple [lv (ec ((q.drop 0).take q.length)),lv (aI (ag (ec ((u.drop 0).take v.length))/f))]):=
 wy [ah h1,af (show(Nat.beq v.length (0:Nat)||bz 3 (.int .i64) (some (bq.own 3 (.int .i64) u)) ((0:Nat)+v.length-(1:Nat)))=true from(by simp only [aw]<;>exact h2)),ah h3,ah h4,af (aV (v:=iv (List.getD [f] (0:Int).toNat (0:Int)))),af h5,af (show(Nat.beq q.length (0:Nat)||bz 3 (.int .i64) (ba 3 (.int .i64) q) ((0:Nat)+q.length-(1:Nat)))=true from(by simp only [aw]<;>exact h6)),af (show(decide ((((bM (.int .i64) (ba 3 (.int .i64) q)).drop (0:Nat)).take q.length).length<=(1000000:Nat)))=true from(by simp only [ew]<;>exact ax h7)),az (show(ec (((bM (.int .i64) (ba 3 (.int .i64) q)).drop (0:Nat)).take q.length))=(ec ((q.drop (0:Nat)).take q.length))from(by simp only [ew]<;>rfl)),az h8] 196186516682196595138105344
end
def ajy {v1 v2 v' aE u1 u2 u' s:Int} (p:z8 1000000000 v1 v2 v' aE u1 u2 u' s) (hn:500000000<=v1) (hlt:ny 1000000000 aE u1 u2 u' s<1000000000*gy 1000000000 v1 v2 v' s) {Q:Int} (wk:0<=Q) (hQ:Q*gy 1000000000 v1 v2 v' s<=ny 1000000000 aE u1 u2 u' s) (F3:Q<1000000000) (T9:∀T,(T-1)*gy 1000000000 v1 v2 v' s<=ny 1000000000 aE u1 u2 u' s->T<=Q+1):
  ∀(f:Nat) (t r:Int),aE*1000000000+u1=t*v1+r->0<=r->Q<=t->(f=2\/(f=1/\1000000000<=r+v1))->Q<=oz v1 v2 u2 f t r/\oz v1 v2 u2 f t r<=Q+1:=by
 have r7:aE*1000000000+u1<1000000000*(v1+1):=by
  have hs:=p.s1;have h2:=p.v2;have h3:=p.v';have g2:=p.u2;have g3:=p.u';unfold ny gy at hlt;have a1:((aE*1000000000+u1)*1000000000+u2)*s=(aE*1000000000+u1)*(1000000000*s)+u2*s:=by rw [Int.add_mul,Int.mul_assoc]
  have a3:(v1*1000000000+v2)*s=v1*(1000000000*s)+v2*s:=by rw [Int.add_mul,Int.mul_assoc]
  have a2:0<=u2*s:=Int.mul_nonneg g2.1 (by omega);have a4:v2*s<=999999999*s:=ar (by omega) (by omega);have a5:(1000000000*(v1+1))*(1000000000*s)=1000000000*(v1*(1000000000*s)+1000000000*s):=by rw [Int.mul_assoc,Int.add_mul,Int.one_mul]
  rw [a1,a3]at hlt;refine wc (x:=1000000000*s) ?_ (by omega);rw [a5];generalize v1*(1000000000*s)=cQ at*;generalize v2*s=z2 at*;generalize u2*s=z3 at*;generalize (aE*1000000000+u1)*(1000000000*s)=z4 at*;omega
 intro f;induction f with
 |zero=>intro t r _ _ _ hf;omega
 |succ g ih=>
  intro t r he hr ajz hf;have T':aE*1000000000+u1-t*v1=r:=by omega
  unfold oz;by_cases hc:1000000000<=t\/r*1000000000+u2<t*v2
  .rw [if_pos hc];have hlt2:Q<t:=by
    rcases hc with hc|hc
    .omega
    .exact At p (by omega) hQ (by rw [T'];exact hc)
   have et:(t-1)*v1=t*v1-v1:=by rw [Int.sub_mul,Int.one_mul]
   by_cases h4:1000000000<=r+v1
   .rw [if_pos h4];refine⟨by omega, ?_⟩;have Ua:t-1<1000000000:=by
     refine Int.not_le.1 fun hh=> ?_
     have:=ar hh (show 0<=v1 by omega);omega
    exact T9 _ (tm p ⟨by omega,Ua⟩ (wd p ⟨by omega,Ua⟩ (by omega)))
   .rw [if_neg h4];exact ih (t-1) (r+v1) (by omega) (by omega) (by omega) (by omega)
  .rw [if_neg hc];exact⟨ajz,T9 _ (tm p ⟨by omega,by omega⟩ (by rw [T'];omega))⟩
def Mv {u:List Int} {j m i:Nat} (h:i<m):((u.drop j).take m).getD i 0=u.getD (j+i) 0:=by
 simp only [ao,List.getElem?_take,List.getElem?_drop,if_pos h]
def ajA {u v:List Int} {j n:Nat} (hu:aT 1000000000 u) (hv:aT 1000000000 v) (lv:v.length=n+2) (bE:j+(n+3)<=u.length) (h1:500000000<=v.getD (n+1) 0) (hW:ag ((u.drop j).take (n+3))<1000000000*ag v):
  ag ((u.drop j).take (n+3))/ag v<=qX u v j/\qX u v j<=ag ((u.drop j).take (n+3))/ag v+1:=by
 have hD:aT 1000000000 ((u.drop j).take (n+3)):=(hu.drop _).take _;have Mw:((u.drop j).take (n+3)).length=n+3:=by rw [ei,mW];omega
 have p:=KY (b:=1000000000) (by decide) hD hv Mw lv (by omega);have r4:gy 1000000000 (v.getD (n+1) 0) (v.getD n 0) (vl 1000000000 (v.take n)) (1000000000^n)=ag v:=KZ lv;have Av:=K0 (b:=1000000000) Mw;have iA:0<ag v:=by
  rw [<-r4];unfold gy;have q1:=p.v1;have aO:=p.v2;have bV:=p.v';have en:=p.s1;have:1*1<=(v.getD (n+1) 0*1000000000+v.getD n 0)*1000000000^n:=Int.mul_le_mul (by omega) en (by omega) (by omega);omega
 have GC:0<=ag ((u.drop j).take (n+3)):=gO hD;have i0:((j:Int)+(v.length:Int)).toNat=j+(n+2):=by omega
 have i1:((j:Int)+(v.length:Int)-1).toNat=j+(n+1):=by omega
 have i2:((j:Int)+(v.length:Int)-2).toNat=j+n:=by omega
 have i3:((v.length:Int)-1).toNat=n+1:=by omega
 have i4:((v.length:Int)-2).toNat=n:=by omega
 have d0:=Mv (u:=u) (j:=j) (m:=n+3) (i:=n+2) (by omega);have d1:=Mv (u:=u) (j:=j) (m:=n+3) (i:=n+1) (by omega);have d2:=Mv (u:=u) (j:=j) (m:=n+3) (i:=n) (by omega);have hQ:=Int.ediv_mul_le (ag ((u.drop j).take (n+3))) (show ag v≠0 by omega);have F3:ag ((u.drop j).take (n+3))/ag v<1000000000:=(Int.ediv_lt_iff_lt_mul iA).2 hW;have GD:ny 1000000000 (((u.drop j).take (n+3)).getD (n+2) 0) (((u.drop j).take (n+3)).getD (n+1) 0) (((u.drop j).take (n+3)).getD n 0) (vl 1000000000 (((u.drop j).take (n+3)).take n)) (1000000000^n)=ag ((u.drop j).take (n+3)):=Av;have q1:=p.aE;have aO:=p.u1;have CQ:0<=((u.drop j).take (n+3)).getD (n+2) 0*1000000000+((u.drop j).take (n+3)).getD (n+1) 0:=by omega
 have key:=ajy p h1 (by rw [GD,r4];exact hW) (Q:=ag ((u.drop j).take (n+3))/ag v) (Int.ediv_nonneg GC (by omega)) (by rw [GD,r4];exact hQ) F3 (fun T hT=>by
  rw [GD,r4]at hT;have:=Int.le_ediv_of_mul_le iA hT;omega) 2 ((((u.drop j).take (n+3)).getD (n+2) 0*1000000000+((u.drop j).take (n+3)).getD (n+1) 0)/v.getD (n+1) 0) ((((u.drop j).take (n+3)).getD (n+2) 0*1000000000+((u.drop j).take (n+3)).getD (n+1) 0)%v.getD (n+1) 0) (by
   have:=Int.emod_add_mul_ediv (((u.drop j).take (n+3)).getD (n+2) 0*1000000000+((u.drop j).take (n+3)).getD (n+1) 0) (v.getD (n+1) 0);rw [Int.mul_comm (v.getD (n+1) 0)]at this;omega) (eG _ (by omega)) (by
   have hf:=RF p (q:=ag ((u.drop j).take (n+3))/ag v) (Int.ediv_nonneg GC (by omega)) (by rw [GD,r4];exact hQ);exact Int.le_ediv_of_mul_le (by omega) hf) (.inl rfl)
 have ajB:qX u v j=oz (v.getD (n+1) 0) (v.getD n 0) (((u.drop j).take (n+3)).getD n 0) 2 ((((u.drop j).take (n+3)).getD (n+2) 0*1000000000+((u.drop j).take (n+3)).getD (n+1) 0)/v.getD (n+1) 0) ((((u.drop j).take (n+3)).getD (n+2) 0*1000000000+((u.drop j).take (n+3)).getD (n+1) 0)%v.getD (n+1) 0):=by
  rw [d0,d1,d2];unfold qX fb cK nI pN;rw [Int.toNat_natCast,i0,i1,i2,i3,i4]
 rw [ajB];exact key
structure Dd (d0 v:List Int) (t:Int) (n:Nat) (d:List Int) (bo:Int) (i:Nat):Prop where
 len:d.length=n+1
 dg:aT 1000000000 (d.take n)
 top:d.getD n 0=d0.getD n 0
 ni:0<=bo/\bo<=1000000000
 val:ag d-1000000000^i*bo=ag d0-t*ag (v.take i)
def xC {d:List Int} {n i:Nat} (h:i<n):(d.take n).getD i 0=d.getD i 0:=by
 simp only [ao,List.getElem?_take,if_pos h]
def Ub {d:List Int} {n i:Nat} (h:aT 1000000000 (d.take n)) (hi:i<n):0<=d.getD i 0/\d.getD i 0<1000000000:=by
 rw [<-xC hi];exact h.get (by decide) i
def Dd.step {d0 v:List Int} {t:Int} {n:Nat} {d:List Int} {bo:Int} {i:Nat} (I:Dd d0 v t n d bo i) (hi:i<n) {x rU:Int} (hx:0<=x/\x<1000000000) (hb:0<=rU/\rU<=1000000000) (he:x-1000000000*rU=d.getD i 0-(t*v.getD i 0+bo)):Dd d0 v t n (d.set i x) rU (i+1):=by
 have hl:=I.len;refine⟨by rw [b6];exact hl,by rw [List.take_set];exact I.dg.set hx,by rw [eK,if_neg (by omega)];exact I.top,hb, ?_⟩;have hv:=I.val;unfold ag at hv ⊢;rw [qz _ _ _ _ (by omega),kU v,Int.pow_succ];generalize vl 1000000000 d=cQ at*;generalize vl 1000000000 d0=z2 at*;generalize vl 1000000000 (v.take i)=z3 at*;generalize (1000000000:Int)^i=P at*;generalize d.getD i 0=y at*;generalize v.getD i 0=w at*;have e:P*(x-1000000000*rU)=P*(y-(t*w+bo)):=by rw [he]
 grind
def ajC {t w bo:Int} (ht:0<=t/\t<=1000000000) (hw:0<=w/\w<1000000000) (hb:0<=bo/\bo<=1000000000):
  (0<=t*w/\t*w<=999999999000000000)/\Int.tmod (t*w+bo) 1000000000+1000000000*Int.tdiv (t*w+bo) 1000000000=t*w+bo/\(0<=Int.tmod (t*w+bo) 1000000000/\Int.tmod (t*w+bo) 1000000000<1000000000)/\(0<=Int.tdiv (t*w+bo) 1000000000/\Int.tdiv (t*w+bo) 1000000000<=1000000000):=by
 have h0:0<=t*w:=Int.mul_nonneg ht.1 hw.1;have h1:t*w<=1000000000*999999999:=Int.mul_le_mul ht.2 (by omega) hw.1 (by decide);rw [Int.tmod_eq_emod_of_nonneg (by omega),Int.tdiv_eq_ediv_of_nonneg (by omega)];generalize t*w=p at*;omega
structure De (d0 v:List Int) (n:Nat) (d:List Int) (cR:Int) (i:Nat):Prop where
 len:d.length=n+1
 dg:aT 1000000000 (d.take n)
 top:d.getD n 0=d0.getD n 0
 ni:0<=cR/\cR<=1
 val:ag d+1000000000^i*cR=ag d0+ag (v.take i)
def De.step {d0 v:List Int} {n:Nat} {d:List Int} {cR:Int} {i:Nat} (I:De d0 v n d cR i) (hi:i<n) {x AW:Int} (hx:0<=x/\x<1000000000) (hb:0<=AW/\AW<=1) (he:x+1000000000*AW=d.getD i 0+v.getD i 0+cR):De d0 v n (d.set i x) AW (i+1):=by
 have hl:=I.len;refine⟨by rw [b6];exact hl,by rw [List.take_set];exact I.dg.set hx,by rw [eK,if_neg (by omega)];exact I.top,hb, ?_⟩;have hv:=I.val;unfold ag at hv ⊢;rw [qz _ _ _ _ (by omega),kU v,Int.pow_succ];generalize vl 1000000000 d=cQ at*;generalize vl 1000000000 d0=z2 at*;generalize vl 1000000000 (v.take i)=z3 at*;generalize (1000000000:Int)^i=P at*;generalize d.getD i 0=y at*;generalize v.getD i 0=w at*;have e:P*(x+1000000000*AW)=P*(y+w+cR):=by rw [he]
 grind
def GF {d:List Int} {n:Nat} (hl:d.length=n+1) (hd:aT 1000000000 (d.take n)):ag d=ag (d.take n)+1000000000^n*d.getD n 0/\0<=ag (d.take n)/\ag (d.take n)<1000000000^n:=by
 have h1:=dq (b:=1000000000) (l:=d) (k:=n) (by omega);rw [eF (by omega)]at h1;have h2:=fP (b:=1000000000) (by decide) hd;rw [ei,Nat.min_eq_left (by omega)]at h2;exact⟨h1,gO hd,h2⟩
def ajD {d:List Int} {n:Nat} (hl:d.length=n+1) (hd:aT 1000000000 (d.take n)):d.getD n 0<0↔ag d<0:=by
 obtain⟨h1,h2,h3⟩:=GF hl hd;have hP:=dK (b:=1000000000) (by decide) n;generalize d.getD n 0=x at*;constructor
 .intro hx;have:=eU (show x<= -1 by omega) (cm hP);omega
 .intro hx;refine Int.not_le.1 fun h=> ?_
  have:=Int.mul_nonneg (cm hP) h;omega
def Uc {d:List Int} {n:Nat} {R:Int} (hl:d.length=n+1) (hd:aT 1000000000 (d.take n)) (hv:ag d=R) (h0:0<=R) (h1:R<1000000000^n):d=fI 1000000000 (n+1) R:=by
 obtain⟨g1,g2,g3⟩:=GF hl hd;have hP:=dK (b:=1000000000) (by decide) n;have hx:d.getD n 0=0:=by
  generalize d.getD n 0=x at*;rcases Int.lt_trichotomy x 0 with h|h|h
  .have:=eU (show x<= -1 by omega) (cm hP);omega
  .exact h
  .have:=eU (show 1<=x by omega) (cm hP);omega
 have hdd:aT 1000000000 d:=by
  have e:=RB (l:=d) (k:=n) (by omega);rw [eF (by omega),hx]at e;rw [e];exact hd.app (.cons ⟨Int.le_refl _,by decide⟩ .nil)
 have:=KX (by decide) hdd;rw [hl]at this;rw [<-hv];exact this
noncomputable section
def ub:bD prog (bG iC):=Rv (fun c hc=>by rw [List.mem_singleton.1 hc];exact So) (uk (fun c hc=>by rw [List.mem_singleton.1 hc];exact Me) (cY fun c hc=>by
 simp only [ep,j7,or_false]at hc;rcases hc with rfl |rfl |rfl
 .exact T3
 .exact aja
 .exact T7))
def yx {p d r:List Int} {n:Nat} (h:d.length=n+1):(p++(d++r)).length=p.length+(n+1)+r.length:=by
 simp only [dU,h];omega
abbrev Ud (v:List Int) (f:Int) (c:aZ) (u q:List Int) (z:Int):Exit->aq aa->ai->Prop:=fun e T H=>e= .normal/\T=(gQ v f c u q z).T/\H=(gQ v f c u q z).H
def ajE {v:List Int} {f:Int} {c:aZ} {p d0 r q:List Int} {t R:Int} {n:Nat} (hv:aT 1000000000 v) (lv:v.length=n) (nr:1<=n) (hn:n<=1000000) (hp:p.length<=1000000) (hq:p.length<q.length) (GG:d0.length=n+1) (hd:aT 1000000000 (d0.take n)) (ht: -1000000000<=d0.getD n 0/\d0.getD n 0<=1000000000) (ht1:0<=t/\t<=1000000000) (hR:ag d0+ag v=R) (h0:0<=R) (h1:R<1000000000^n) (w:World) (F:Sv.Env):
  aP prog w F 206 ((fl dS uC).drop 6) (yw v f c (p++(d0++r)) q (p.length:Int) t true).T (yw v f c (p++(d0++r)) q (p.length:Int) t true).H (Ud v f c (p++(fI 1000000000 (n+1) R++r)) (q.set p.length (t-1)) (p.length:Int)):=by
 have hS:=ub;refine SB (X:=oZ) (o:= .tmp 145) (x:=cat dS GB) (y:= .skip) (rest:=(fl dS uC).drop 7) (by kernel_rfl) (by kernel_rfl) ?_;refine dZ (s:=yw v f c (p++(d0++r)) q (p.length:Int) t true) hS 3 (Sx v f c (p++(d0++r)) q (p.length:Int) t (by omega)) ?_;refine aP.loop (ι:={x:List Int×Int×Nat//x.2.2<=n/\De d0 v n x.1 x.2.1 x.2.2}) (id:=6) (b:=cat dS Ms) (rest:=(fl dS GB).drop 4) (by kernel_rfl) (fun x=>sB v f c (p++(x.1.1++r)) q (p.length:Int) (t-1) x.1.2.1 x.1.2.2) (fun x=>n-x.1.2.2)
  ⟨(d0,0,0),Nat.zero_le _,⟨GG,hd,rfl,⟨Int.le_refl 0,show(0:Int)<=1 by decide⟩,by simp [ag,vl]⟩⟩ (fun _=>rfl) ?_
 rintro⟨⟨d,cR,i⟩,hi,I⟩;have hi:i<=n:=hi;have I:De d0 v n d cR i:=I;have hl:=I.len;have hc:=I.ni;have hL:=yx (p:=p) (r:=r) hl;have kS:((i:Int)+(p.length:Int)).toNat=p.length+i:=by omega
 have bF:((p.length:Int)+(v.length:Int)).toNat=p.length+n:=by omega
 by_cases hlt:i<n
 .have ajF:=Ub I.dg hlt;have wh:=hv.get (by decide) i;have hs0:0<=d.getD i 0+v.getD i 0+cR:=by omega
  have key:=ajs v f c (p++(d++r)) q (p.length:Int) (t-1) cR i (by omega) (by omega) (by omega);rw [kS,ot (by omega),uh (by omega),Int.tmod_eq_emod_of_nonneg hs0,Int.tdiv_eq_ediv_of_nonneg hs0]at key;refine bl (s:=sB v f c (p++(d++r)) q (p.length:Int) (t-1) cR i) hS (key (by omega) (fi (by omega)) (by omega) (by omega) (by omega) (by omega) (by omega) (by simp only [dU,b6])) ?_;have N:=I.step hlt (x:=(d.getD i 0+v.getD i 0+cR)%1000000000) (AW:=(d.getD i 0+v.getD i 0+cR)/1000000000) (by omega) (by omega) (by omega);exact⟨⟨(_,_,i+1),by show i+1<=n;omega,N⟩,by show n-(i+1)<n-i;omega,rfl,rfl⟩
 .obtain rfl:i=n:=by omega
  refine bl (s:=sB v f c (p++(d++r)) q (p.length:Int) (t-1) cR i) hS (ajt v f c _ q _ (t-1) cR i (by omega)) ?_;refine cw (cz ?_);have r7:=I.top;have key:=aju v f c (p++(d++r)) q (p.length:Int) (t-1) cR i (by omega) (by omega);rw [bF,ot (by omega),uh (by omega)]at key;have hval:=I.val;rw [eF (by omega)]at hval;have l2:(d.set i (d.getD i 0+cR)).length=i+1:=by rw [b6];exact hl
  have g2:aT 1000000000 ((d.set i (d.getD i 0+cR)).take i):=by rw [Aa];exact I.dg
  have v2:ag (d.set i (d.getD i 0+cR))=R:=by
   unfold ag at hval hR ⊢;rw [qz _ _ _ _ (by omega),show d.getD i 0+cR-d.getD i 0=cR by omega];omega
  have e2:=Uc l2 g2 v2 h0 h1;rw [e2]at key;refine bl (s:=sB v f c (p++(d++r)) q (p.length:Int) (t-1) cR i) hS (key (by omega) (fi (by omega)) (by omega) (by rw [hL,yx (yc _ _ _)])) ?_;have kT:=ajv v f c (p++(fI 1000000000 (i+1) R++r)) q (p.length:Int) (t-1);rw [Int.toNat_natCast]at kT;refine bl (s:=Mu v f c (p++(fI 1000000000 (i+1) R++r)) q (p.length:Int) (t-1)) hS (kT (by omega) hq (by rw [b6]) (by rw [b6])) ?_;exact⟨rfl,rfl,rfl⟩
def ajG {v:List Int} {f:Int} {c:aZ} {p d0 r q:List Int} {V:Int} {n:Nat} (hu:aT 1000000000 (p++(d0++r))) (hv:aT 1000000000 v) (lv:v.length=n) (nr:2<=n) (fD:(p++(d0++r)).length<=1000000) (hq:p.length<q.length) (GG:d0.length=n+1) (hV:ag v=V) (iA:0<V) (r8:V<1000000000^n) (r7:500000000<=v.getD (n-1) 0) (hW:ag d0<1000000000*V) (w:World) (F:Sv.Env):
  aP prog w F 206 (fl dS uC) (gQ v f c (p++(d0++r)) q (p.length:Int)).T (gQ v f c (p++(d0++r)) q (p.length:Int)).H (Ud v f c (p++(fI 1000000000 (n+1) (ag d0%V)++r)) (q.set p.length (ag d0/V)) (p.length:Int)):=by
 have hS:=ub;have hL:=yx (p:=p) (r:=r) GG;have Cs:aT 1000000000 d0:=hu.right.left;have wo:((p++(d0++r)).drop p.length).take (n+1)=d0:=by
  rw [List.drop_append,Nat.sub_self,List.drop_zero,List.drop_eq_nil_of_le (aG _),List.nil_append,List.take_append,eF (by omega),show n+1-d0.length=0 by omega,List.take_zero,List.append_nil]
 obtain⟨m,rfl⟩:∃m,n=m+2:=⟨n-2,by omega⟩;have hg:=ajA (u:=p++(d0++r)) (j:=p.length) (n:=m) hu hv lv (by omega) r7 (by rw [wo,hV];exact hW);rw [wo,hV]at hg;have GC:0<=ag d0:=gO Cs;have F3:ag d0/V<1000000000:=(Int.ediv_lt_iff_lt_mul iA).2 hW;have wk:0<=ag d0/V:=Int.ediv_nonneg GC (cm iA);have tH:=Int.emod_add_mul_ediv (ag d0) V;have hm0:=eG (ag d0) (show V≠0 by omega);have pE:=e6 (ag d0) iA;have hpre:AU (p++(d0++r)) 0 (p++(d0++r)).length v (p.length:Int)=true:=by
  unfold AU;have i3:((v.length:Int)-1).toNat=m+1:=by omega
  have h5:500000000<=cK v:=by unfold cK;rw [i3];exact r7
  rw [Nat.beq_refl,Nat.beq_refl,C8.2 hu,C8.2 hv,ax (show 2<=v.length by omega),ax (show(0:Int)<=(p.length:Int) by omega),ax (show(p.length:Int)+(v.length:Int)<((p++(d0++r)).length:Int) by omega),ax h5,ax fD];rfl
 have hown:(bz (gK.e wL) (gK.t wL) (some (bq.own 3 (.int .i64) (p++(d0++r)))) ((p++(d0++r)).length-1)&&Nat.ble 1 (p++(d0++r)).length)=true:=by
  rw [fo (by omega),Bool.and_true];exact fi (by omega)
 refine dZ (s:=gQ v f c (p++(d0++r)) q (p.length:Int)) hS 3 (ajm v f c (p++(d0++r)) q (p.length:Int) hown hpre) ?_;generalize ht:qX (p++(d0++r)) v (p.length:Int)=t at hg ⊢;refine aP.loop (ι:={x:List Int×Int×Nat//x.2.2<=m+2/\Dd d0 v t (m+2) x.1 x.2.1 x.2.2}) (id:=4) (b:=cat dS GA) (rest:=(fl dS uC).drop 4) (by kernel_rfl) (fun x=>oA v f c (p++(x.1.1++r)) q (p.length:Int) t x.1.2.1 x.1.2.2) (fun x=>m+2-x.1.2.2)
  ⟨(d0,0,0),Nat.zero_le _,⟨GG,Cs.take _,rfl,⟨Int.le_refl 0,show(0:Int)<=1000000000 by decide⟩,by simp [ag,vl]⟩⟩ (fun _=>rfl) ?_
 rintro⟨⟨d,bo,i⟩,hi,I⟩;have hi:i<=m+2:=hi;have I:Dd d0 v t (m+2) d bo i:=I;have hl:=I.len;have hc:=I.ni;have hL:=yx (p:=p) (r:=r) hl;have kS:((i:Int)+(p.length:Int)).toNat=p.length+i:=by omega
 have bF:((p.length:Int)+(v.length:Int)).toNat=p.length+(m+2):=by omega
 by_cases hlt:i<m+2
 .have ajF:=Ub I.dg hlt;have wh:=hv.get (by decide) i;obtain⟨s1,s2,s3,F1⟩:=ajC (t:=t) (w:=v.getD i 0) (bo:=bo) (by omega) wh hc;by_cases hneg:d.getD i 0-Int.tmod (t*v.getD i 0+bo) 1000000000<0
  .have key:=ajn v f c (p++(d++r)) q (p.length:Int) t bo i (by omega) (by omega) (by omega) (by omega) (by omega) (by omega);rw [kS,ot (by omega),uh (by omega)]at key;have N:=I.step hlt (x:=d.getD i 0-Int.tmod (t*v.getD i 0+bo) 1000000000+1000000000) (rU:=Int.tdiv (t*v.getD i 0+bo) 1000000000+1) (by omega) (by omega) (by omega);refine bl (s:=oA v f c (p++(d++r)) q (p.length:Int) t bo i) hS (key (by omega) (fi (by omega)) (by omega) (by omega) hneg (by omega) (by omega) (by omega) (by simp only [dU,b6])) ?_;exact⟨⟨(_,_,i+1),by show i+1<=m+2;omega,N⟩,by show m+2-(i+1)<m+2-i;omega,rfl,rfl⟩
  .have key:=ajo v f c (p++(d++r)) q (p.length:Int) t bo i (by omega) (by omega) (by omega) (by omega) (by omega) (by omega);rw [kS,ot (by omega),uh (by omega)]at key;have N:=I.step hlt (x:=d.getD i 0-Int.tmod (t*v.getD i 0+bo) 1000000000) (rU:=Int.tdiv (t*v.getD i 0+bo) 1000000000) (by omega) (by omega) (by omega);refine bl (s:=oA v f c (p++(d++r)) q (p.length:Int) t bo i) hS (key (by omega) (fi (by omega)) (by omega) (by omega) hneg (by omega) (by simp only [dU,b6])) ?_;exact⟨⟨(_,_,i+1),by show i+1<=m+2;omega,N⟩,by show m+2-(i+1)<m+2-i;omega,rfl,rfl⟩
 .obtain rfl:i=m+2:=by omega
  refine bl (s:=oA v f c (p++(d++r)) q (p.length:Int) t bo (m+2)) hS (ajp v f c _ q _ t bo (m+2) (by omega)) ?_;refine cw (cz ?_);have asQ:=I.top;have hx0:=Cs.get (by decide) (m+2);have key:=ajq v f c (p++(d++r)) q (p.length:Int) t bo (m+2) (by omega) (by omega);rw [bF,ot (by omega),uh (by omega),ot (by rw [b6];omega),vV (by omega)]at key;have hval:=I.val;rw [eF (by omega),hV]at hval;have l2:(d.set (m+2) (d.getD (m+2) 0-bo)).length=m+2+1:=by rw [b6];exact hl
  have g2:aT 1000000000 ((d.set (m+2) (d.getD (m+2) 0-bo)).take (m+2)):=by rw [Aa];exact I.dg
  have t2:(d.set (m+2) (d.getD (m+2) 0-bo)).getD (m+2) 0=d.getD (m+2) 0-bo:=vV (by omega);have v2:ag (d.set (m+2) (d.getD (m+2) 0-bo))=ag d0-t*V:=by
   rw [<-hval];unfold ag;rw [qz _ _ _ _ (by omega),show d.getD (m+2) 0-bo-d.getD (m+2) 0= -bo by omega,Int.mul_neg];omega
  have oq:=ajD l2 g2;rw [t2,v2]at oq;refine dZ (s:=oA v f c (p++(d++r)) q (p.length:Int) t bo (m+2)) hS 2 (key (by omega) (fi (by omega)) (by omega) (fi (by rw [yx l2];omega)) (by rw [hL,yx l2]) rfl) ?_;have asR:=yx (p:=p) (r:=r) l2;by_cases hneg:d.getD (m+2) 0-bo<0
  .rw [ax hneg];have hR:=oq.1 hneg;have ht:t=ag d0/V+1:=by
    rcases Int.lt_or_le (ag d0/V) t with h|h
    .omega
    .have e:t=ag d0/V:=by omega
     rw [e,Int.mul_comm]at hR;omega
   have e1:ag d0-t*V+V=ag d0%V:=by
    rw [ht,Int.add_mul,Int.one_mul,Int.mul_comm (ag d0/V)];omega
   have e2:t-1=ag d0/V:=by omega
   rw [<-e2];exact ajE hv lv (by omega) (by omega) (by omega) hq l2 g2 (by rw [t2];omega) (by omega) (by rw [v2,hV];exact e1) hm0 (by omega) w F
  .rw [ab hneg];have hR:¬ag d0-t*V<0:=fun h=>hneg (oq.2 h)
   have ht:t=ag d0/V:=by
    rcases Int.lt_or_le (ag d0/V) t with h|h
    .have e:t=ag d0/V+1:=by omega
     rw [e,Int.add_mul,Int.one_mul,Int.mul_comm (ag d0/V)]at hR;omega
    .omega
   have e1:ag d0-t*V=ag d0%V:=by
    rw [ht,Int.mul_comm (ag d0/V)];omega
   have e2:=Uc l2 g2 (v2.trans e1) hm0 (by omega);have kT:=ajr v f c (p++(fI 1000000000 (m+2+1) (ag d0%V)++r)) q (p.length:Int) t;rw [Int.toNat_natCast]at kT;rw [e2,<-ht];refine bl (s:=yw v f c (p++(fI 1000000000 (m+2+1) (ag d0%V)++r)) q (p.length:Int) t false) hS (kT (by omega) hq (by rw [b6]) (by rw [b6])) ?_;exact⟨rfl,rfl,rfl⟩
abbrev Ue (x y:List Int):Exit->aq aa->ai->Prop:=fy prog false f131 (.tuple [lv x,lv y])
def ajH {u:List Int} {j n:Nat} (h:j+(n+1)<=u.length):u=u.take j++((u.drop j).take (n+1)++u.drop (j+(n+1)))/\(u.take j).length=j/\((u.drop j).take (n+1)).length=n+1:=by
 refine⟨?_,by rw [ei];omega,by rw [ei,mW];omega⟩;rw [show u.drop (j+(n+1))=(u.drop j).drop (n+1) by rw [List.drop_drop],List.take_append_drop,List.take_append_drop]
def ajI {v:List Int} {f A B:Int} {c:aZ} {aE:List Int} {n m:Nat} (Az:aT 1000000000 aE) (hv:aT 1000000000 v) (lv:v.length=n) (hn:2<=n) (hm:m+n=aE.length) (pE:1<=m) (fD:aE.length<=200000) (hf:1<=f/\f<1000000000)
  (hV:ag v=B*f) (um:0<B) (lR:0<=A) (Au:ag aE=A*f) (kC:ag (aE.drop m)<ag v) (r7:500000000<=v.getD (n-1) 0) (w:World) (F:Sv.Env):
  aP prog w F 206 ((fl dS []).drop 12) (gQ v f c aE (fY m) ((m:Int)-1)).T (gQ v f c aE (fY m) ((m:Int)-1)).H (Ue (aI (A/B)) (aI (A%B))):=by
 have hS:=ub;have iA:0<ag v:=by rw [hV];exact Int.mul_pos um (by omega)
 have r8:ag v<1000000000^n:=by rw [<-lv];exact fP (by decide) hv
 have Lu:∀k,(fY m).getD k 0=0:=fun k=>by
  unfold fY;rw [ao,List.getElem?_replicate];split<;>rfl
 refine aP.loop (ι:={x:List Int×List Int×Nat//x.2.2<=m/\x.1.length=aE.length/\aT 1000000000 x.1/\x.2.1.length=m/\aT 1000000000 x.2.1/\ag (x.1.drop x.2.2)<ag v/\ag x.1+ag v*ag x.2.1=A*f/\∀j,j<x.2.2->x.2.1.getD j 0=0}) (id:=2) (b:=cat dS Db) (rest:=(fl dS []).drop 13) (by kernel_rfl) (fun x=>gQ v f c x.1.1 x.1.2.1 ((x.1.2.2:Int)-1)) (fun x=>x.1.2.2)
  ⟨(aE,fY m,m),aG _,rfl,Az,pL _,Ml _,kC, ?_,fun j _=>Lu j⟩ (fun _=>rfl) ?_
 .show ag aE+ag v*ag (fY m)=_;have:ag (fY m)=0:=tk _ m;rw [this,Au];omega
 rintro⟨⟨u,q,k⟩,hk,hl,iT,hq,jl,kC,hval,hz⟩;have hk:k<=m:=hk;have hl:u.length=aE.length:=hl;have iT:aT 1000000000 u:=iT;have hq:q.length=m:=hq;have jl:aT 1000000000 q:=jl;have kC:ag (u.drop k)<ag v:=kC;have hval:ag u+ag v*ag q=A*f:=hval;have hz:∀j,j<k->q.getD j 0=0:=hz;cases k with
 |zero=>
  refine dZ (s:=gQ v f c u q ((0:Nat)-1:Int)) hS 2 (NO v f c u q _ (by omega)) ?_;refine cw (cw (cz ?_));rw [List.drop_zero]at kC;have pH:0<=ag u:=gO iT;obtain⟨g1,g2⟩:=K4 (A:=A) (b:=B) (V:=ag v) (S:=f) (U:=ag u) (q:=ag q) (by omega) um hV hval pH kC;have uj:0<=f*(A%B):=by rw [<-g2];exact pH
  have ht:ag (u.take n)=f*(A%B):=by
   rw [<-g2];exact tp (by decide) iT (Int.lt_trans kC r8)
  have e1:ec ((u.drop 0).take v.length)=aI (f*(A%B)):=by
   rw [List.drop_zero,lv,nq (iT.take _),ht]
  have e2:ag (aI (f*(A%B)))/f=A%B:=by
   rw [(gN uj).2.2,Int.mul_ediv_cancel_left _ (by omega)]
  have hlen:(aI (f*(A%B))).length<=n:=iS k8 uj (by rw [<-g2];exact Int.lt_trans kC r8);have key:=ajx v f c u q ((0:Nat)-1:Int) (by omega) (by
   rw [Bool.or_eq_true];exact .inr (fi (by omega))) (by rw [ei,List.drop_zero];omega) (by simp) (by
   rw [e1,oy.2 ⟨(gN uj).1,by omega⟩];rw [ax (show(1:Int)<=List.getD [f] (Int.toNat 0) 0 from hf.1),ax (show List.getD [f] (Int.toNat 0) 0<(1000000000:Int)from hf.2)];rfl) (AP _ q) (by rw [List.drop_zero,dI];omega) rfl
  rw [e1,e2,List.drop_zero,dI,nq jl,<-g1]at key;exact bP (s:=gQ v f c u q ((0:Nat)-1:Int)) hS key
 |succ j=>
  have o7:(((j+1:Nat):Int)-1)=(j:Int):=by omega
  obtain⟨w1,w2,w3⟩:=K3 (b:=1000000000) (by decide) iT (j:=j) (n:=n) (V:=ag v) (by omega) (cm r8) kC;obtain⟨c1,c2,c3⟩:=ajH (u:=u) (j:=j) (n:=n) (by omega);obtain⟨n1,n2,n3,Aq⟩:=R7 (b:=1000000000) (by decide) iT (j:=j) (n:=n) (V:=ag v) (by omega) iA (cm r8) kC rfl;have Lv:0<=ag ((u.drop j).take (n+1)):=gO ((iT.drop j).take _);have wo:ag ((u.drop j).take (n+1))<1000000000*ag v:=by unfold ag;rw [<-w1];exact w2
  have wk:0<=ag ((u.drop j).take (n+1))/ag v:=Int.ediv_nonneg Lv (cm iA);have FU:ag ((u.drop j).take (n+1))/ag v<1000000000:=(Int.ediv_lt_iff_lt_mul iA).2 wo;show bd _ _ _ _ _ _ (gQ v f c u q (((j+1:Nat):Int)-1)).T (gQ v f c u q (((j+1:Nat):Int)-1)).H _;rw [o7];refine dZ (s:=gQ v f c u q (j:Int)) hS 2 (ajl v f c u q (j:Int) (by omega)) ?_;refine Ku (id:=3) (c:=cat dS uC) (rest:=(fl dS Db).drop 3) (by kernel_rfl) ?_;have hW:=ajG (f:=f) (c:=c) (p:=u.take j) (d0:=(u.drop j).take (n+1)) (r:=u.drop (j+(n+1))) (q:=q) (V:=ag v) (n:=n) (by rw [<-c1];exact iT) hv lv hn (by rw [<-c1];omega) (by rw [c2];omega) c3 rfl iA r8 r7 wo w F;rw [<-c1,c2]at hW;refine aP.mono (fun e T H hQ=> ?_) hW;obtain⟨rfl,rfl,rfl⟩:=hQ;have hnx:=ajw v f c (u.take j++(fI 1000000000 (n+1) (ag ((u.drop j).take (n+1))%ag v)++u.drop (j+(n+1)))) (q.set j (ag ((u.drop j).take (n+1))/ag v)) (j:Int) (by omega);refine bl (s:=gQ v f c _ _ (j:Int)) hS hnx ?_;refine⟨⟨(_,_,j),by show j<=m;omega,n1.trans hl,n2,by show(q.set j _).length=m;rw [b6];exact hq,jl.set ⟨wk,FU⟩,Aq, ?_,fun i hi=> ?_⟩,e8 _,rfl,rfl⟩
  .have qy:ag (q.set j (ag ((u.drop j).take (n+1))/ag v))=ag q+1000000000^j*(ag ((u.drop j).take (n+1))/ag v):=by
    have h0:=hz j (e8 _);show vl 1000000000 _=vl 1000000000 _+_;rw [qz _ _ _ _ (by omega),h0,Int.sub_zero]
   have Lw:ag (u.take j++(fI 1000000000 (n+1) (ag ((u.drop j).take (n+1))%ag v)++u.drop (j+(n+1))))+1000000000^j*(ag ((u.drop j).take (n+1))/ag v)*ag v=ag u:=n3;show ag (u.take j++(fI 1000000000 (n+1) (ag ((u.drop j).take (n+1))%ag v)++u.drop (j+(n+1))))+ag v*ag (q.set j (ag ((u.drop j).take (n+1))/ag v))=_;rw [qy,<-hval,<-Lw];generalize ag (u.take j++(fI 1000000000 (n+1) (ag ((u.drop j).take (n+1))%ag v)++u.drop (j+(n+1))))=x1;generalize ag ((u.drop j).take (n+1))/ag v=x2;generalize (1000000000:Int)^j=x3;generalize ag q=qx;generalize ag v=vR;grind
  .have hi:i<j:=hi;show(q.set j _).getD i 0=0;rw [eK,if_neg (by omega)];exact hz i (by omega)
def Do {x y:Int}:lE x y<0↔x<y:=by
 unfold lE;by_cases h:x<y
 .rw [if_pos h];simp [h]
 .rw [if_neg h];by_cases g:y<x
  .rw [if_pos g];simp [h]
  .rw [if_neg g];simp [h]
def ajJ:aI 0=[]:=(Gt (Int.le_refl 0)).2 rfl
def Uf {y:Int} (hy:1<=y/\y<1000000000):(1<=1000000000/(y+1)/\1000000000/(y+1)<=500000000)/\500000000<=y*(1000000000/(y+1))/\(y+1)*(1000000000/(y+1))<=1000000000:=by
 have h:=Int.emod_add_mul_ediv 1000000000 (y+1);have h0:=eG 1000000000 (show y+1≠0 by omega);have h1:=e6 1000000000 (show 0<y+1 by omega);have hq:1<=1000000000/(y+1):=Int.le_ediv_of_mul_le (by omega) (by omega);generalize 1000000000/(y+1)=q at*;generalize 1000000000%(y+1)=r at*;have e:(y+1)*q=y*q+q:=by rw [Int.add_mul,Int.one_mul]
 rw [e]at h ⊢;have h2:1*q<=y*q:=ar hy.1 (by omega);refine⟨⟨hq,by omega⟩, ?_,by omega⟩;by_cases hq1:q=1
 .rw [hq1]at h ⊢;omega
 .by_cases hy1:y=1
  .rw [hy1]at h h1 ⊢;omega
  .have h3:1*1<=(y-1)*(q-1):=Int.mul_le_mul (by omega) (by omega) (by decide) (by omega);have h4:(y-1)*(q-1)=y*q-y-q+1:=by
    rw [Int.sub_mul,Int.mul_sub,Int.mul_one,Int.one_mul];omega
   omega
noncomputable def Mx:bp:={f:=131,ps:=[.list false (.int .i64), .list false (.int .i64)],rs:=[.list false (.int .i64), .list false (.int .i64)],fresh:=false,pre:=fun d=>okA d.1&&(okA d.2.1&&decide (0<ag d.2.1)),fn:=fun d=>(aI (ag d.1/ag d.2.1),aI (ag d.1%ag d.2.1),())}
def ajK (a b:List Int) (h:okA a=true) (g:okA b=true) (hge:ag b<=ag a) (m:Nat) (hn:b.length=m+2) (w:World) (F:Sv.Env):
  aP prog w F 206 ((fl dS []).drop 6) (AV a b (1000000000/(b.getD (m+1) 0+1))).T (AV a b (1000000000/(b.getD (m+1) 0+1))).H (Ue (aI (ag a/ag b)) (aI (ag a%ag b))):=by
 obtain⟨ha,ta,la⟩:=fE.1 h;obtain⟨hb,tb,lb⟩:=fE.1 g;have hS:=ub;have CV:=hb.get (by decide) (m+1);have hbz:=tb (m+1) hn;obtain⟨⟨f1,f2⟩,f3,f4⟩:=Uf (y:=b.getD (m+1) 0) (by omega);generalize hf:1000000000/(b.getD (m+1) 0+1)=f at*;have lR:0<=ag a:=gO ha;have CT:ag a<1000000000^a.length:=fP (by decide) ha;have hP:=dK (b:=1000000000) (by decide) (m+1);have ajL:1000000000^(m+1)<=ag b:=tl (by decide) hb tb hn;obtain⟨b1,b2,b3⟩:=GF (d:=b) (n:=m+1) hn (hb.take _);have um:0<ag b:=by omega
 have ajM:ag [f]=f:=tX _ _;have iA:0<=ag b*f:=Int.mul_nonneg (by omega) (by omega);have Lx:ag b*f<1000000000^(m+2):=by
  have h1:ag b<1000000000^(m+1)*(b.getD (m+1) 0+1):=by rw [Int.mul_add,Int.mul_one];omega
  have h2:=Int.mul_lt_mul_of_pos_right h1 (show 0<f by omega);have h3:=eU f4 (cm hP);rw [Int.mul_assoc]at h2;rw [Int.pow_succ];omega
 have asS:ag b<=ag b*f:=by
  have:=eU f1 (cm um);omega
 obtain⟨v1,v2,v3⟩:=gN iA;have hvl:(aI (ag b*f)).length=m+2:=by
  have h1:(aI (ag b*f)).length<=m+2:=iS k8 iA Lx;by_cases hc:m+2<=(aI (ag b*f)).length
  .omega
  .have h2:=fP (b:=1000000000) (by decide) v1;have h3:=iQ (b:=1000000000) (by decide) (show(aI (ag b*f)).length<=m+1 by omega);unfold ag at*;omega
 have ajN:500000000<=(aI (ag b*f)).getD (m+2-1) 0:=by
  obtain⟨w1,w2,w3⟩:=GF (d:=aI (ag b*f)) (n:=m+1) hvl (v1.take _);show _<=(aI (ag b*f)).getD (m+1) 0;rw [v3]at w1;have h3:1000000000^(m+1)*(b.getD (m+1) 0*f)<=ag b*f:=by
   rw [<-Int.mul_assoc];exact ar (by omega) (by omega)
  have h4:=eU f3 (cm hP);have h5:1000000000^(m+1)*500000000<1000000000^(m+1)*((aI (ag b*f)).getD (m+1) 0+1):=by
   rw [Int.mul_add,Int.mul_one];omega
  have:=Int.lt_of_mul_lt_mul_left h5 (cm hP);omega
 have asT:m+2<=a.length:=by
  refine Nat.not_lt.1 fun hh=> ?_
  have:=vU (by decide) ha hb tb (by omega);unfold ag at hge;omega
 have pH:0<=ag a*f:=Int.mul_nonneg lR (by omega);have asU:0<ag a*f:=Int.mul_pos (by omega) (by omega);have ajO:ag a*f<1000000000^(a.length+1):=by
  rw [Int.pow_succ];have h1:=eU (show f<=1000000000 by omega) lR;have h2:=Int.mul_lt_mul_of_pos_right CT (show(0:Int)<1000000000 by decide);omega
 obtain⟨u1,u2,u3⟩:=gN pH;have CR:(aI (ag a*f)).length<=a.length+1:=iS k8 pH ajO;have ajP:aI (ag a*f)≠[]:=fun e=>by
  have:=(Gt pH).1 e;omega
 have Ug:okB [f]=true:=oy.2 ⟨.cons (by omega) .nil,by simp⟩;have key:=ajh a b f (by rw [oy.2 ⟨hb,by omega⟩,Ug];rfl) (by rw [oy.2 ⟨ha,by omega⟩,Ug];rfl);rw [ajM]at key;have hl0:(aI (ag a*f)).length≠0:=fun e=>ajP (List.eq_nil_of_length_eq_zero e)
 refine aP.st (s:=AV a b f) known mixed hS 3 _ (key (by
  cases hz:Nat.beq (aI (ag a*f)).length 0 with
  |false=>rfl
  |true=>exact absurd (ac hz) hl0) (by omega) (by
  obtain⟨k,hk⟩:∃k,(aI (ag a*f)).length=k+1:=⟨(aI (ag a*f)).length-1,by omega⟩;rw [hk];rfl) rfl) (by kernel_rfl) ?_
 clear key;refine aP.loop (ι:={x:List Int//x.length<=a.length+1/\aT 1000000000 x/\ag x=ag a*f}) (id:=0) (b:=cat dS Mr) (rest:=(fl dS []).drop 10) (by kernel_rfl) (fun x=>sA a (aI (ag b*f)) f x.1) (fun x=>a.length+1-x.1.length)
  ⟨aI (ag a*f),CR,u1,u3⟩ (fun _=>rfl) ?_
 rintro⟨u,hl,iT,My⟩;by_cases hlt:u.length<a.length+1
 .refine bl (s:=sA a (aI (ag b*f)) f u) hS (aji a _ f u (by omega) (by omega) (by omega) (qU _ _) (ux _ _)) ?_;refine⟨⟨u++[0],by rw [dU];simp;omega,iT.app (.cons ⟨Int.le_refl _,by decide⟩ .nil), ?_⟩,by show a.length+1-(u++[0]).length<_;rw [dU];simp;omega,rfl,rfl⟩;rw [<-My];show vl _ (u++[0])=vl _ u;rw [x6,Int.mul_zero,Int.add_zero]
 .refine bl (s:=sA a (aI (ag b*f)) f u) hS (ajj a _ f u (by omega) (by omega)) ?_;refine cw (cz ?_);have fD:u.length=a.length+1:=by omega
  cases u with
  |nil=>cases fD
  |cons x l=>
   have af4:l.length=a.length:=by simpa using fD
   have em:((l.length:Int)+1-(aI (ag b*f)).length).toNat=a.length+1-(m+2):=by omega
   have ajQ:(((x::l).length:Int)-(aI (ag b*f)).length).toNat=a.length+1-(m+2):=by rw [List.length_cons];omega
   have ajR:((l.length:Int)+1-(aI (ag b*f)).length-1)=((a.length+1-(m+2):Nat):Int)-1:=by omega
   have ajS:(((x::l).length:Int)-(aI (ag b*f)).length-1)=((a.length+1-(m+2):Nat):Int)-1:=by rw [List.length_cons];omega
   have key:=ajk a (aI (ag b*f)) f x l (by rw [List.length_cons];omega) (by rw [List.length_cons];omega);rw [em,ajQ,ajR,ajS]at key;refine dZ (s:=sA a (aI (ag b*f)) f (x::l)) hS 2 (key (by omega) (by omega) (pL _).symm rfl (by rw [pL]) rfl (Mm _) (pL _).symm) ?_;refine ajI iT v1 hvl (by omega) (by omega) (by omega) (by omega) (by omega) v3 um lR My ?_ ajN w F;have h1:=rP 1000000000 (x::l) (a.length+1-(m+2)) (by omega);have h2:=fO (b:=1000000000) (by decide) (iT.take (a.length+1-(m+2)));have Uh:=dK (b:=1000000000) (by decide) (a.length+1-(m+2));refine Int.lt_of_mul_lt_mul_left (a:=1000000000^(a.length+1-(m+2))) ?_ (cm Uh);have h3:1000000000^(a.length+1-(m+2))*ag ((x::l).drop (a.length+1-(m+2)))<=ag a*f:=by rw [<-My];unfold ag;omega
   have e1:(1000000000:Int)^a.length=1000000000^(a.length+1-(m+2))*1000000000^(m+1):=by rw [<-Int.pow_add,show a.length+1-(m+2)+(m+1)=a.length by omega]
   have c1:=Int.mul_lt_mul_of_pos_right CT (show 0<f by omega);have c2:=ar ajL (show 0<=f by omega);have c3:=eU c2 (cm Uh);rw [<-Int.mul_assoc,<-e1]at c3;rw [v3];omega
def ajT (a b:List Int) (h:okA a=true) (g:okA b=true) (hb0:0<ag b):Holds prog false 131 [lv a,lv b] (.tuple [lv (aI (ag a/ag b)),lv (aI (ag a%ag b))]):=by
 obtain⟨ha,ta,la⟩:=fE.1 h;obtain⟨hb,tb,lb⟩:=fE.1 g;have hS:=ub;have lR:0<=ag a:=gO ha;have hC:(okA a&&okA b)=true:=by rw [h,g];rfl
 refine bL (c:=dS) func131 rfl rfl fun w F=> ?_
 by_cases hlt:ag a<ag b
 .have e1:aI (ag a/ag b)=[]:=by rw [Int.ediv_eq_zero_of_lt lR hlt];exact ajJ
  have e2:aI (ag a%ag b)=a:=by rw [Int.emod_eq_of_lt lR hlt];exact Gs ha ta
  rw [e1,e2];exact bx hS 3 (aje a b hC (Do.2 hlt))
 .have Ui:¬lE (ag a) (ag b)<0:=fun h=>hlt (Do.1 h)
  obtain⟨n,hn⟩:∃n,b.length=n+1:=by
   cases b with
   |nil=>exact absurd hb0 (by decide)
   |cons y r=>exact⟨r.length,rfl⟩
  have CV:=hb.get (by decide) n;have hbz:=tb n hn;cases n with
  |zero=>
   obtain⟨y,rfl⟩:∃y,b=[y]:=List.length_eq_one_iff.1 hn;have hy:y≠0:=hbz;have hy2:0<=y/\y<1000000000:=CV;have zx:ag [y]=y:=tX _ _;rw [zx];have hm0:=eG (ag a) hy;have pE:=e6 (ag a) (show 0<y by omega);have et:ec [ag a%y]=aI (ag a%y):=by
    rw [nq (.cons (by omega) .nil)];congr 1;exact tX _ _
   have key:=Sp a [y] hC Ui (by simp) (by simp) (by
    rw [oy.2 ⟨ha,by omega⟩];rw [ax (show(1:Int)<=List.getD [y] (Int.toNat 0) 0 from show 1<=y by omega),ax (show List.getD [y] (Int.toNat 0) 0<(1000000000:Int)from hy2.2)];rfl) (aG 1) (by simp) rfl rfl
   rw [<-et];exact bx hS 5 key
  |succ m=>
   have bF:((b.length:Int)-1).toNat=m+1:=by omega
   have ajU:(0:Int)<=1000000000:=by decide
   have hd:Int.tdiv 1000000000 (b.getD (m+1) 0+1)=1000000000/(b.getD (m+1) 0+1):=Int.tdiv_eq_ediv_of_nonneg ajU;obtain⟨⟨f1,f2⟩,f3,f4⟩:=Uf (y:=b.getD (m+1) 0) (by omega);have key:=ajf a b hC Ui (by omega) (by omega) (by omega);rw [bF,hd]at key;refine cC hS 6 (key (by omega) (by omega) (by omega) (by omega) rfl) ?_;refine aP.vT (fun e=> ?_) (i:=64) (s:=8) (e2:=3) (t:= .int .i64) (xs:=[1000000000/(b.getD (m+1) 0+1)]) (cap:=bJ 1) (by kernel_rfl) (by kernel_rfl) ?_
   .have:((fl dS []).drop 6).isEmpty=false:=by kernel_rfl
    rw [e]at this;cases this
   refine aP.oa (fun e=> ?_) (σ:=[]) (s:=AV a b (1000000000/(b.getD (m+1) 0+1))) (ajg a b _) ?_
   .have:((fl dS []).drop 6).isEmpty=false:=by kernel_rfl
    rw [e]at this;cases this
   exact ajK a b h g (by omega) m hn w F
def Uj:Mx.Ok prog:=fun⟨a,b,_⟩ h=>by
 have h:(okA a&&(okA b&&decide (0<ag b)))=true:=h;rw [ae,ae]at h;exact ajT a b h.1 h.2.1 (ap h.2.2)
noncomputable def Uk:Code:=(f130.body).getD .skip
noncomputable def Ul:Code:=(f69.body).getD .skip
noncomputable def GH:Code:=(f68.body).getD .skip
noncomputable def yy:Code:=(f76.body).getD .skip
noncomputable def sC:bI:=ov [C7,T5] (aR [Md,T6,Mh,Mx])
def vZ (a:Bool×List Int):Int:=bn a.1 (ag a.2)
def okZ (a:Bool×List Int):Bool:=okA a.2&&(!a.1|| !(Nat.beq a.2.length 0))
def ajV (n:Bool) (x:List Int) (h1:(okB x)=true):
  bu sC (fl Uk []) 9 9 [rv (n,x)] 1 f130 false (rv (mkR (bn (!n) (ag x)))):=
 wy [af h1] 1
def ajW (n m:Bool) (x y:List Int) (h1:(okB x&&okB y)=true) (h2:(okB (aI (ag x*ag y)))=true):
  bu sC (fl Ul []) 9 16 [rv (n,x),rv (m,y)] 1 f69 false (rv (mkR (bn (!(n==m)) (ag (aI (ag x*ag y)))))):=
 wy [af (aV (v:=aa.raw (Value.bool n))),af (aV (v:=aa.raw (Value.bool m))),af (aV (v:=aa.bh false (.int .i64) x)),af (aV (v:=aa.bh false (.int .i64) y)),af h1,af h2] 18603807693877377
def ajX (n m:Bool) (x y:List Int) (h1:n=m) (h2:(wI x y)=true) (h3:(okB (aI (ag x+ag y)))=true):
  bu sC (fl GH []) 3 40 [rv (n,x),rv (m,y)] 3 f68 false (rv (mkR (bn n (ag (aI (ag x+ag y)))))):=
 wy [cW h1,af (aV (v:=aa.raw (Value.bool n))),af (aV (v:=aa.bh false (.int .i64) x)),af (aV (v:=aa.bh false (.int .i64) y)),af h2,af h3] 414549291137
def ajY (n m:Bool) (x y:List Int) (h1:¬n=m) (h2:(okA x&&okA y)=true) (h3:lE (ag x) (ag y)>=0) (h4:(wI x y&&decide (ag y<=ag x))=true) (h5:(okB (aI (ag x-ag y)))=true):
  bu sC (fl GH []) 5 40 [rv (n,x),rv (m,y)] 6 f68 false (rv (mkR (bn n (ag (aI (ag x-ag y)))))):=
 wy [yn h1,af h2,ah h3,af (aV (v:=aa.raw (Value.bool n))),af (aV (v:=aa.bh false (.int .i64) x)),af (aV (v:=aa.bh false (.int .i64) y)),af h4,af h5] 2269879563464833
def ajZ (n m:Bool) (x y:List Int) (h1:¬n=m) (h2:(okA x&&okA y)=true) (h3:¬lE (ag x) (ag y)>=0) (h4:(wI y x&&decide (ag x<=ag y))=true) (h5:(okB (aI (ag y-ag x)))=true):
  bu sC (fl GH []) 9 40 [rv (n,x),rv (m,y)] 4 f68 false (rv (mkR (bn m (ag (aI (ag y-ag x)))))):=
 wy [yn h1,af h2,aA h3,af (aV (v:=aa.raw (Value.bool m))),af (aV (v:=aa.bh false (.int .i64) y)),af (aV (v:=aa.bh false (.int .i64) x)),af h4,af h5] 2269879563464833
def sD (a b:List Int):bC:={n:=19,sl:=[(0,lv a),(1,lv b)],bF:=[],next:=64}
abbrev Mz:List Nat:=[1,0,0,0]
def aj0 (a b:List Int):
  cO sC (fl yy []) 1 19 [lv a,lv b] 1 .normal [] (sD a b):=
 wy [] 0
def co_go (a b:List Int) (h1:(b.length:Int)>0) (h2:(okA a&&(okA b&&decide (0<ag b)))=true):
  bg sC (fl yy Mz) (sD a b) 3 .normal [] (sD b (aI (ag a%ag b))):=
 wy [ah h1,af h2] 129
def aj1 (a b:List Int) (h1:¬(b.length:Int)>0):
  bg sC (fl yy Mz) (sD a b) 2 (.exit 0) [] (sD a b):=
 wy [aA h1] 1
def aj2 (a b:List Int):
  bH sC ((fl yy []).drop 2) (sD a b) 1 f76 false (lv a):=
 wy [] 0
noncomputable def Um:bp:={f:=130,ps:=[lW],rs:=[lW],fresh:=false,pre:=fun d=>okZ d.1,fn:=fun d=>(mkR (-vZ d.1),())}
noncomputable def Un:bp:={f:=69,ps:=[lW,lW],rs:=[lW],fresh:=false,pre:=fun d=>okZ d.1&&okZ d.2.1,fn:=fun d=>(mkR (vZ d.1*vZ d.2.1),())}
noncomputable def Uo:bp:={f:=68,ps:=[lW,lW],rs:=[lW],fresh:=false,pre:=fun d=>okZ d.1&&okZ d.2.1,fn:=fun d=>(mkR (vZ d.1+vZ d.2.1),())}
noncomputable def MA:bp:={f:=76,ps:=[.list false (.int .i64), .list false (.int .i64)],rs:=[.list false (.int .i64)],fresh:=false,pre:=fun d=>okA d.1&&okA d.2.1,fn:=fun d=>(aI (Int.gcd (ag d.1) (ag d.2.1)),())}
def AX:bD prog (bG sC):=uk (fun c hc=>by
 simp only [ep,j7,or_false]at hc;rcases hc with rfl |rfl
 .exact Gu
 .exact aiS) (cY fun c hc=>by
 simp only [ep,j7,or_false]at hc;rcases hc with rfl |rfl |rfl |rfl
 .exact T3
 .exact aiU
 .exact T7
 .exact Uj)
def fj {a:Bool×List Int}:okZ a=true↔okA a.2=true/\(a.1=true->0<ag a.2):=by
 unfold okZ;rw [ae];constructor
 .rintro⟨h1,h2⟩;refine⟨h1,fun h=> ?_⟩;rw [h,Bool.not_true,Bool.false_or,Bool.not_eq_true']at h2;obtain⟨hd,ht,_⟩:=fE.1 h1;have h0:=gO hd;have hz:=Fi k8 hd ht;rcases Int.lt_or_le 0 (ag a.2)with h3|h3
  .exact h3
  .have:a.2=[]:=hz.1 (by unfold ag at*;omega);rw [this]at h2;cases h2
 .rintro⟨h1,h2⟩;refine⟨h1, ?_⟩;cases hn:a.1 with
  |false=>rfl
  |true=>
   have:=h2 hn;rw [Bool.not_true,Bool.false_or,Bool.not_eq_true'];cases hb:Nat.beq a.2.length 0 with
   |false=>rfl
   |true=>
    rw [List.eq_nil_of_length_eq_zero (ac hb)]at this;exact absurd this (by decide)
def ce (z:Int):vZ (mkR z)=z:=by
 show bn (decide (z<0)) (ag (aI (z.natAbs:Int)))=z;rw [(gN (Int.natCast_nonneg _)).2.2];by_cases h:z<0
 .rw [ax h];show-(z.natAbs:Int)=z;omega
 .rw [ab h];show(z.natAbs:Int)=z;omega
def yr {z:Int} {k:Nat} (h:0<=z) (hk:z<1000000000^k):(aI z).length<=k:=iS k8 h hk
def AY {z:Int} {k:Nat} (h:0<=z) (hk:z<1000000000^k) (hb:k<=300000):okB (aI z)=true:=oy.2 ⟨(gN h).1,cX (yr h hk) hb⟩
def GI {z:Int} {k:Nat} (h:0<=z) (hk:z<1000000000^k) (hb:k<=100000):okA (aI z)=true:=fE.2 ⟨(gN h).1,(gN h).2.1,cX (yr h hk) hb⟩
def jq {z:Int} {k:Nat} (hk:(z.natAbs:Int)<1000000000^k) (hb:k<=100000):okZ (mkR z)=true:=by
 refine fj.2 ⟨GI (Int.natCast_nonneg _) hk hb,fun h=> ?_⟩;have h:decide (z<0)=true:=h;have h:=ap h;show 0<ag (aI (z.natAbs:Int));rw [(gN (Int.natCast_nonneg _)).2.2];omega
def MB {x:List Int} (h:okA x=true):okB x=true:=by
 obtain⟨h1,_,h2⟩:=fE.1 h;exact oy.2 ⟨h1,by omega⟩
def uD {x:List Int} (h:okA x=true):ag x<1000000000^x.length:=fP (by decide) (fE.1 h).1
def add_lt {x y:Int} {i j:Nat} (hx:x<1000000000^i) (hy:y<1000000000^j):x+y<1000000000^(max i j+1):=by
 have h1:=iQ (b:=1000000000) (by decide) (show i<=max i j by omega);have h2:=iQ (b:=1000000000) (by decide) (show j<=max i j by omega);have h3:=dK (b:=1000000000) (by decide) (max i j);rw [Int.pow_succ];omega
def Up {x y:Int} {i j:Nat} (hx0:0<=x) (hy0:0<=y) (hx:x<1000000000^i) (hy:y<1000000000^j):x*y<1000000000^(i+j):=by
 rw [Int.pow_add];have h1:x*y<=x*1000000000^j:=eU (cm hy) hx0;have h2:x*1000000000^j<1000000000^i*1000000000^j:=Int.mul_lt_mul_of_pos_right hx (dK (by decide) j);omega
def aj3:Um.Ok prog:=fun⟨⟨n,x⟩,_⟩ h=>by
 obtain⟨h1,h2⟩:=fj.1 h;show Holds prog false 130 [rv (n,x)] (rv (mkR (-(bn n (ag x)))));have e: -(bn n (ag x))=bn (!n) (ag x):=by cases n<;>simp [bn]
 rw [e];refine bL (c:=Uk) func130 rfl rfl fun w F=> ?_
 exact bx AX 9 (ajV n x (MB h1))
def aj4:Un.Ok prog:=fun⟨⟨n,x⟩,⟨m,y⟩,_⟩ h=>by
 have h:(okZ (n,x)&&okZ (m,y))=true:=h;rw [ae]at h;obtain⟨h1,h2⟩:=fj.1 h.1;obtain⟨g1,g2⟩:=fj.1 h.2;have l1:=(fE.1 h1).2.2;have l2:=(fE.1 g1).2.2;have hx0:=gO (fE.1 h1).1;have hy0:=gO (fE.1 g1).1;have hp:0<=ag x*ag y:=Int.mul_nonneg hx0 hy0;show Holds prog false 69 [rv (n,x),rv (m,y)] (rv (mkR (bn n (ag x)*bn m (ag y))));have e:bn n (ag x)*bn m (ag y)=bn (!(n==m)) (ag (aI (ag x*ag y))):=by
  rw [(gN hp).2.2];cases n<;>cases m
  .rfl
  .exact Int.mul_neg _ _
  .exact Int.neg_mul _ _
  .exact Int.neg_mul_neg _ _
 rw [e];refine bL (c:=Ul) func69 rfl rfl fun w F=> ?_
 have hb:okB (aI (ag x*ag y))=true:=AY hp (Up hx0 hy0 (uD h1) (uD g1)) (by have l1:x.length<=100000:=l1;have l2:y.length<=100000:=l2;omega);exact bx AX 9 (ajW n m x y (by rw [MB h1,MB g1];rfl) hb)
def Uq {x y:Int}:lE x y>=0↔y<=x:=by
 have:= @Do x y;omega
def aj5:Uo.Ok prog:=fun⟨⟨n,x⟩,⟨m,y⟩,_⟩ h=>by
 have h:(okZ (n,x)&&okZ (m,y))=true:=h;rw [ae]at h;obtain⟨h1,h2⟩:=fj.1 h.1;obtain⟨g1,g2⟩:=fj.1 h.2;have h1:okA x=true:=h1;have g1:okA y=true:=g1;have l1:=(fE.1 h1).2.2;have l2:=(fE.1 g1).2.2;have hx0:=gO (fE.1 h1).1;have hy0:=gO (fE.1 g1).1;have hx1:=uD h1;have hy1:=uD g1;show Holds prog false 68 [rv (n,x),rv (m,y)] (rv (mkR (bn n (ag x)+bn m (ag y))));refine bL (c:=GH) func68 rfl rfl fun w F=> ?_
 by_cases hnm:n=m
 .have e:bn n (ag x)+bn m (ag y)=bn n (ag (aI (ag x+ag y))):=by
   rw [(gN (by omega)).2.2,<-hnm];cases n<;>simp only [bn]<;>omega
  rw [e];exact bx AX 3 (ajX n m x y hnm (Da.2 ⟨h1,g1⟩) (AY (by omega) (add_lt hx1 hy1) (by omega)))
 .by_cases hle:ag y<=ag x
  .have e:bn n (ag x)+bn m (ag y)=bn n (ag (aI (ag x-ag y))):=by
    rw [(gN (by omega)).2.2];cases n<;>cases m<;>first |exact absurd rfl hnm|(simp only [bn];omega)
   rw [e];exact bx AX 5 (ajY n m x y hnm (by rw [h1,g1];rfl) (Uq.2 hle) (by rw [Da.2 ⟨h1,g1⟩,ax hle];rfl) (AY (k:=x.length) (by omega) (by omega) (by omega)))
  .have e:bn n (ag x)+bn m (ag y)=bn m (ag (aI (ag y-ag x))):=by
    rw [(gN (by omega)).2.2];cases n<;>cases m<;>first |exact absurd rfl hnm|(simp only [bn];omega)
   rw [e];exact bx AX 9 (ajZ n m x y hnm (by rw [h1,g1];rfl) (fun h=>hle (Uq.1 h)) (by rw [Da.2 ⟨g1,h1⟩,ax (show ag x<=ag y by omega)];rfl) (AY (k:=y.length) (by omega) (by omega) (by omega)))
def aj6 (a b:List Int) (h:okA a=true) (g:okA b=true):Holds prog false 76 [lv a,lv b] (lv (aI (Int.gcd (ag a) (ag b)))):=by
 have hS:=AX;refine bL (c:=yy) func76 rfl rfl fun w F=> ?_
 refine cC hS 1 (aj0 a b) ?_;refine aP.loop (ι:={x:List Int×List Int//okA x.1=true/\okA x.2=true/\Int.gcd (ag x.1) (ag x.2)=Int.gcd (ag a) (ag b)}) (id:=0) (b:=cat yy Mz) (rest:=(fl yy []).drop 2) (by kernel_rfl) (fun x=>sD x.1.1 x.1.2) (fun x=>(ag x.1.2).natAbs) ⟨(a,b),h,g,rfl⟩ (fun _=>rfl) ?_;rintro⟨⟨x,y⟩,hx,hy,hg⟩;have hx:okA x=true:=hx;have hy:okA y=true:=hy;have hg:Int.gcd (ag x) (ag y)=Int.gcd (ag a) (ag b):=hg;obtain⟨GJ,tx,lx⟩:=fE.1 hx;obtain⟨AZ,ty,ly⟩:=fE.1 hy;have hx0:=gO GJ;have hy0:=gO AZ;have hz:ag y=0↔y=[]:=Fi k8 AZ ty;by_cases hlt:0<y.length
 .have hyp:0<ag y:=by
   rcases Int.lt_or_le 0 (ag y)with h|h
   .exact h
   .rw [hz.1 (by omega)]at hlt;cases hlt
  have hm0:=eG (ag x) (show ag y≠0 by omega);have pE:=e6 (ag x) hyp;have hk:=uD hy;have ev:ag (aI (ag x%ag y))=ag x%ag y:=(gN hm0).2.2;refine bl (s:=sD x y) hS (co_go x y (by omega) (by rw [hx,hy,ax hyp];rfl)) ?_;refine⟨⟨(y,aI (ag x%ag y)),hy,GI (k:=y.length) hm0 (by omega) ly, ?_⟩, ?_,rfl,rfl⟩
  .show Int.gcd (ag y) (ag (aI (ag x%ag y)))=_;rw [ev,AS hx0 hyp,hg]
  .show(ag (aI (ag x%ag y))).natAbs<(ag y).natAbs;rw [ev];omega
 .refine bl (s:=sD x y) hS (aj1 x y (by omega)) ?_;refine cw (cz ?_);have hy2:y=[]:=List.eq_nil_of_length_eq_zero (by omega);have e:aI ((Int.gcd (ag a) (ag b):Nat):Int)=x:=by
   rw [<-hg,hz.2 hy2,Int.gcd_zero_right,Int.natAbs_of_nonneg hx0];exact Gs GJ tx
  rw [e];exact bP (s:=sD x y) hS (aj2 x y)
def Ur:MA.Ok prog:=fun⟨a,b,_⟩ h=>by
 have h:(okA a&&okA b)=true:=h;rw [ae]at h;exact aj6 a b h.1 h.2
noncomputable def yz:Code:=(f98.body).getD .skip
def va (a b:Int):bC:={n:=12,sl:=[(0,iv a),(1,iv b)],bF:=[],next:=64}
def Ha (a b:Int):
  cO (aR []) (fl yz []) 1 12 [iv a,iv b] 1 .normal [] (va a b):=
 wy [] 0
def aj7 (a b:Int) (h1:b>0) (h2:b≠0):
  bg (aR []) (fl yz [1,0,0,0]) (va a b) 3 .normal [] (va b (Int.tmod a b)):=
 wy [ah h1,ah h2] 129
def aj8 (a b:Int) (h1:¬b>0):
  bg (aR []) (fl yz [1,0,0,0]) (va a b) 2 (.exit 0) [] (va a b):=
 wy [aA h1] 1
def aj9 (a b:Int):
  bH (aR []) ((fl yz []).drop 2) (va a b) 1 f98 true (iv a):=
 wy [] 0
def Hb {x y:Int} (hx:0<=x) (hy:0<=y):Int.gcd y (x%y)=Int.gcd x y:=by
 obtain⟨m,rfl⟩:=Int.eq_ofNat_of_zero_le hx;obtain⟨n,rfl⟩:=Int.eq_ofNat_of_zero_le hy;rw [<-Int.natCast_emod];show Nat.gcd n (m%n)=Nat.gcd m n;rw [Nat.gcd_comm n,<-Nat.gcd_rec,Nat.gcd_comm]
def Hc (a b:Int) (ha:0<=a) (hb:0<=b):Holds prog true 98 [iv a,iv b] (iv (Int.gcd a b)):=by
 have hS:=bc;obtain⟨g,hg⟩:∃g:Int,(Int.gcd a b:Int)=g:=⟨_,rfl⟩;rw [hg];refine bL (c:=yz) func98 rfl rfl fun w F=> ?_
 refine cC hS 1 (Ha a b) ?_;refine aP.loop (ι:={p:Int×Int//0<=p.1/\0<=p.2/\(Int.gcd p.1 p.2:Int)=g}) (id:=0) (b:=cat yz [1,0,0,0]) (rest:=(fl yz []).drop 2) (by kernel_rfl) (fun p=>va p.1.1 p.1.2) (fun p=>p.1.2.toNat) ⟨(a,b),ha,hb,hg⟩ (fun _=>rfl) ?_;rintro⟨⟨x,y⟩,hx,hy,hxy⟩;have hx:0<=x:=hx;have hy:0<=y:=hy;have hxy:(Int.gcd x y:Int)=g:=hxy;by_cases h0:y>0
 .have hm:=e6 x h0;have hm2:=eG x (show y≠0 by omega);have e:Int.tmod x y=x%y:=Int.tmod_eq_emod_of_nonneg hx;refine bl (s:=va x y) hS (aj7 x y h0 (by omega)) ?_;refine⟨⟨(y,Int.tmod x y),hy,by show 0<=Int.tmod x y;omega, ?_⟩, ?_,rfl,rfl⟩
  .show(Int.gcd y (Int.tmod x y):Int)=g;rw [e,<-hxy,Hb hx hy]
  .show(Int.tmod x y).toNat<y.toNat;omega
 .obtain rfl:y=0:=by omega
  refine bl (s:=va x 0) hS (aj8 x 0 h0) ?_;refine cw (cz ?_);have e:x=g:=by rw [<-hxy,Int.gcd_zero_right];omega
  exact aP.jB (s:=va x 0) known mixed hS _ (aj9 x 0) fun T H h=>e ▸ h
noncomputable def MC:bp:={f:=98,ps:=[.int .i64, .int .i64],rs:=[.int .i64],fresh:=true,pre:=fun d=>decide (0<=d.1)&&decide (0<=d.2.1),fn:=fun d=>((Int.gcd d.1 d.2.1:Int),())}
def Us:MC.Ok prog:=fun⟨a,b,_⟩ h=>by
 have h:(decide (0<=a)&&decide (0<=b))=true:=h;rw [ae,bB,bB]at h;exact Hc a b h.1 h.2
noncomputable def wM:Code:=(f74.body).getD .skip
noncomputable def yA:Code:=(f129.body).getD .skip
def pO (s:ByteArray) (k:Nat):bC:={n:=17,sl:=[(0,sv s),(3,iv k)],bF:=[],next:=64}
def vd (s:ByteArray) (n:Int) (k:Nat):bC:={n:=20,sl:=[(0,sv s),(3,iv n),(4,iv k)],bF:=[],next:=64}
abbrev ak (s:ByteArray):List UInt8:=s.data.toList
abbrev b7 (s:ByteArray) (k:Nat):UInt8:=(ak s).getD k 0
def aka (s:ByteArray):
  cO (aR []) (fl wM []) 2 17 [sv s] 1 .normal [] (pO s 0):=
 wy [] 0
def akb (s:ByteArray) (k:Nat) (h1:(k:Int)<(s.size:Int)) (h2:k<s.size) (h3:(↑(UInt8.toNat (s.data.toList.getD k (0:UInt8))):Int)=47):
  bH (aR []) (fl wM [1,0,1,0,0]) (pO s k) 7 f74 true (iv k):=
 wy [ah h1,ah h2,cW h3] 794625
def akc (s:ByteArray) (k:Nat) (h1:(k:Int)<(s.size:Int)) (h2:k<s.size) (h3:¬(↑(UInt8.toNat (s.data.toList.getD k (0:UInt8))):Int)=47) (h4:i6 ((k:Int)+1)):
  bg (aR []) (fl wM [1,0,1,0,0]) (pO s k) 5 .normal [] (pO s (k+1)):=
 wy [ah h1,ah h2,yn h3,yi h4] 67903489
def akd (s:ByteArray) (k:Nat) (h1:¬(k:Int)<(s.size:Int)):
  bg (aR []) (fl wM [1,0,1,0,0]) (pO s k) 2 (.exit 0) [] (pO s k):=
 wy [aA h1] 1
def ake (s:ByteArray) (k:Nat):
  bH (aR []) ((fl wM []).drop 3) (pO s k) 1 f74 true (iv s.size):=
 wy [] 0
def akf (s:ByteArray):
  cO (aR []) (fl yA []) 3 20 [sv s] 1 .normal [] (vd s 0 0):=
 wy [] 0
def akg (s:ByteArray) (n:Int) (k:Nat) (h1:(k:Int)<(s.size:Int)) (h2:i6 (10*n)) (h3:k<s.size) (h4:i6 (10*n+IntKind.wrap IntKind.i64 (↑(UInt8.toNat (s.data.toList.getD k (0:UInt8))):Int))) (h5:i6 (10*n+IntKind.wrap IntKind.i64 (↑(UInt8.toNat (s.data.toList.getD k (0:UInt8))):Int)-48)) (h6:i6 ((k:Int)+1)):
  bg (aR []) (fl yA [1,1,0,1,0,0]) (vd s n k) 3 .normal [] (vd s (10*n+IntKind.i64.wrap (b7 s k).toNat-48) (k+1)):=
 wy [ah h1,yi h2,ah h3,yi h4,yi h5,yi h6] 417753464961
def SO (s:ByteArray) (n:Int) (k:Nat) (h1:¬(k:Int)<(s.size:Int)):
  bg (aR []) (fl yA [1,1,0,1,0,0]) (vd s n k) 2 (.exit 0) [] (vd s n k):=
 wy [aA h1] 1
def akh (s:ByteArray) (n:Int) (k:Nat):
  bH (aR []) ((fl yA []).drop 4) (vd s n k) 1 f129 true (iv n):=
 wy [] 0
def bk:List UInt8->Nat
 |[]=>0
 |b::r=>if b.toNat=47 then 0 else bk r+1
def c8 (s:ByteArray):s.size=(ak s).length:=by cases s;rfl
def Ut {l:List UInt8} {k:Nat} (h:k<l.length):l.getD k 0=l[k]:=by simp [ao,h]
def GK {l:List UInt8} {k:Nat} (h:k<l.length):l.take (k+1)=l.take k++[l.getD k 0]:=by rw [Ut h];simp
def kp {s:ByteArray} {k:Nat} (h:k<(ak s).length):b7 s k=(ak s)[k]:=Ut h
def aki (s:ByteArray) (hl:s.size<=1000000000):Holds prog true 74 [sv s] (iv (bk (ak s))):=by
 have hS:=bc;have hz:=c8 s;obtain⟨r,hr⟩:∃r,bk (ak s)=r:=⟨_,rfl⟩;rw [hr];refine bL (c:=wM) func74 rfl rfl fun w F=> ?_
 refine cC hS 2 (aka s) ?_;refine aP.loop (ι:={k:Nat//k<=s.size/\bk ((ak s).drop k)+k=r}) (id:=0) (b:=cat wM [1,0,1,0,0]) (rest:=(fl wM []).drop 3) (by kernel_rfl) (fun k=>pO s k.1) (fun k=>s.size-k.1) ⟨0,Nat.zero_le _,hr⟩ (fun _=>rfl) ?_;rintro⟨k,hk,hx⟩;have hx:bk ((ak s).drop k)+k=r:=hx;by_cases hlt:k<s.size
 .have hlt2:k<(ak s).length:=by omega
  rw [List.drop_eq_getElem_cons hlt2,bk,<-kp hlt2]at hx;by_cases c:(b7 s k).toNat=47
  .rw [if_pos c,aw]at hx;exact aP.jB (s:=pO s k) known mixed hS _ (akb s k (by omega) (by omega) (by show((b7 s k).toNat:Int)=47;omega)) fun T H h=>hx ▸ h
  .rw [if_neg c]at hx;refine bl (s:=pO s k) hS (akc s k (by omega) (by omega) (by show¬((b7 s k).toNat:Int)=47;omega) (by omega)) ?_;exact⟨⟨k+1,hlt,by omega⟩,by simp;omega,rfl,rfl⟩
 .refine bl (s:=pO s k) hS (akd s k (by omega)) ?_;refine cw (cz ?_);obtain rfl:k=s.size:=by omega
  rw [List.drop_eq_nil_of_le (by omega),bk,aw]at hx;exact aP.jB (s:=pO s s.size) known mixed hS _ (ake s _) fun T H h=>hx ▸ h
def bt:List UInt8->Int
 |l=>l.foldl (fun n b=>10*n+((b.toNat:Int)-48)) 0
def bY (l:List UInt8):Bool:=l.all fun b=>decide (48<=b.toNat)&&decide (b.toNat<=57)
def MD {s:ByteArray} {k:Nat} (h:k<(ak s).length):bt ((ak s).take (k+1))=10*bt ((ak s).take k)+(((b7 s k).toNat:Int)-48):=by
 rw [GK h];unfold bt;rw [List.foldl_append];rfl
def A0 {s:ByteArray} (hd:bY (ak s)=true):∀k,k<=(ak s).length->0<=bt ((ak s).take k)/\bt ((ak s).take k)<10^k
 |0,_=>by rw [List.take_zero];decide
 |k+1,h=>by
  have ih:=A0 hd k (by omega);have hb:=List.all_eq_true.1 hd (b7 s k) (by rw [kp (by omega)];exact List.getElem_mem _);rw [ae,bB,bB]at hb;rw [MD (by omega),Int.pow_succ];omega
def Uu {k:Nat} (h:k<=18):(10:Int)^k<=1000000000000000000:=by
 have:(10:Nat)^k<=10^18:=Nat.pow_le_pow_right (by decide) h;have h2:((10^k:Nat):Int)<=((10^18:Nat):Int):=Int.ofNat_le.2 this;simpa using h2
def akj (s:ByteArray) (hl:s.size<=17) (hd:bY (ak s)=true):Holds prog true 129 [sv s] (iv (bt (ak s))):=by
 have hS:=bc;have hz:=c8 s;refine bL (c:=yA) func129 rfl rfl fun w F=> ?_
 refine cC hS 3 (akf s) ?_;refine aP.loop (ι:={k:Nat//k<=s.size}) (id:=0) (b:=cat yA [1,1,0,1,0,0]) (rest:=(fl yA []).drop 4) (by kernel_rfl) (fun k=>vd s (bt ((ak s).take k.1)) k.1) (fun k=>s.size-k.1) ⟨0,Nat.zero_le _⟩ (fun _=>rfl) ?_;rintro⟨k,hk⟩;have hin:=A0 hd k (by omega);have hp:=Uu (k:=k) (by omega);by_cases hlt:k<s.size
 .have hlt2:k<(ak s).length:=by omega
  have hb:=List.all_eq_true.1 hd (b7 s k) (by rw [kp hlt2];exact List.getElem_mem _);rw [ae,bB,bB]at hb;have asV:=A0 hd (k+1) (by omega);have hp2:=Uu (k:=k+1) (by omega);have hn:=MD hlt2;have hw:IntKind.i64.wrap ((b7 s k).toNat:Int)=((b7 s k).toNat:Int):=IntWalk.i64_in _ (by omega);have e:10*bt ((ak s).take k)+IntKind.i64.wrap ((b7 s k).toNat:Int)-48=bt ((ak s).take (k+1)):=by rw [hw,hn];omega
  refine bl (s:=vd s (bt ((ak s).take k)) k) hS (akg s _ k (by omega) (by omega) (by omega) (by show-9223372036854775808<=10*bt ((ak s).take k)+IntKind.i64.wrap ((b7 s k).toNat:Int)/\10*bt ((ak s).take k)+IntKind.i64.wrap ((b7 s k).toNat:Int)<=9223372036854775807;rw [hw];omega) (by show-9223372036854775808<=10*bt ((ak s).take k)+IntKind.i64.wrap ((b7 s k).toNat:Int)-48/\10*bt ((ak s).take k)+IntKind.i64.wrap ((b7 s k).toNat:Int)-48<=9223372036854775807;rw [hw];omega) (by omega)) ?_;rw [e];exact⟨⟨k+1,hlt⟩,by simp;omega,rfl,rfl⟩
 .refine bl (s:=vd s (bt ((ak s).take k)) k) hS (SO s _ k (by omega)) ?_;refine cw (cz ?_);obtain rfl:k=s.size:=by omega
  rw [eF (by omega)];exact bP (s:=vd s _ s.size) hS (akh s _ _)
noncomputable def Df:bp:={f:=74,ps:=[.str],rs:=[.int .i64],fresh:=true,pre:=fun d=>decide (d.1.size<=1000000000),fn:=fun d=>(((bk (ak d.1):Nat):Int),())}
noncomputable def ME:bp:={f:=129,ps:=[.str],rs:=[.int .i64],fresh:=true,pre:=fun d=>decide (d.1.size<=17)&&bY (ak d.1),fn:=fun d=>(bt (ak d.1),())}
def GL:Df.Ok prog:=fun⟨s,_⟩ h=>aki s (ap h)
def Uv:ME.Ok prog:=fun⟨s,_⟩ h=>by
 have h:(decide (s.size<=17)&&bY (ak s))=true:=h;rw [ae,bB]at h;exact akj s h.1 h.2
end
end Go.Proofs.YtibikmmdbdlafaaGreatDoor
