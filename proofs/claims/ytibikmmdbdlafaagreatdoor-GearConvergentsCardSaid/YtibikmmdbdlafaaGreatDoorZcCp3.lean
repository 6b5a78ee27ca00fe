import Derived.Test.YtibikmmdbdlafaaGreatDoorZcGAw2
set_option linter.defProp false
set_option linter.unusedSimpArgs false
set_option linter.unusedVariables false
set_option maxRecDepth 100000
namespace Go.Proofs.YtibikmmdbdlafaaGreatDoor
open Go.RowKit Sv Go.Proofs.Tryz
section
set_option maxHeartbeats 4000000
noncomputable section
abbrev m64:Sv.Ren:=[(64,64,none)]
end
set_option maxHeartbeats 1000000
noncomputable section
structure YO (N D:Nat) (r:Rat):Prop where
 n:r.num.natAbs<=N
 d:r.den<=D
def arT {a b:Int} {N D:Nat} (hb:1<=b) (h1:a.natAbs<=N) (h2:b<=(D:Int)):YO N D (Rat.divInt a b):=by
 have hg:0<Int.gcd a b:=Int.gcd_pos_of_ne_zero_right _ ω;have m1:=Int.ediv_mul_cancel (show(Int.gcd a b:Int)∣a from Int.gcd_dvd_left ..);have m2:=Int.ediv_mul_cancel (show(Int.gcd a b:Int)∣b from Int.gcd_dvd_right ..);have e:Rat.divInt a b=Rat.divInt (a/(Int.gcd a b:Int)) (b/(Int.gcd a b:Int)):=by
  have e3:Rat.divInt a b=Rat.divInt (a/(Int.gcd a b:Int)*(Int.gcd a b:Int)) (b/(Int.gcd a b:Int)*(Int.gcd a b:Int)):=by rw [m1,m2]
  rw [e3];exact Rat.divInt_mul_right (show(Int.gcd a b:Int)≠0 by omega)
 have h0:0<=b/(Int.gcd a b:Int):=Int.ediv_nonneg ω ω;have jy:1<=b/(Int.gcd a b:Int):=by
  by_cases hz:b/(Int.gcd a b:Int)=0
  .rw [hz]at m2;omega
  .omega
 have hc:Int.gcd (a/(Int.gcd a b:Int)) (b/(Int.gcd a b:Int))=1:=by
  have:=Int.gcd_ediv_gcd_ediv_gcd hg;exact this
 obtain⟨c1,c2⟩:=pD jy hc;have l1:(a/(Int.gcd a b:Int)).natAbs<=a.natAbs:=Int.natAbs_ediv_le_natAbs ..;have l2:b/(Int.gcd a b:Int)<=b:=Int.ediv_le_self _ ω;rw [e];exact⟨by rw [c1];omega,by omega⟩
def arU {N D k:Nat} {r:Rat} (h:YO N D r) (h1:N<1000000000^k) (h2:D<1000000000^k):l7 k r:=by
 have e:((1000000000^k:Nat):Int)=1000000000^k:=by rw [Int.natCast_pow];rfl
 have:=h.n;have:=h.d;exact⟨by rw [<-e];omega,by rw [<-e];omega⟩
end
set_option maxHeartbeats 4000000
noncomputable section
def PO:=k_a Tryz.f151
def l8:=k_a Tryz.f90
def PR:=bc [A5]
noncomputable def qc (a b:aC):Int×List Int:=if fM b a<0 then b else a
section
variable (a b:aC) (h1:(aT 50000 b&&aT 50000 a)=true)
def arV (h2:fM b a<0):
  bh PR (fl PO []) 9 11 [aA a,aA b] 3 Tryz.f151 false (aA b):=
 wy [af h1,ah h2] 129
def arW (h2:¬fM b a<0):
  bh PR (fl PO []) 9 11 [aA a,aA b] 2 Tryz.f151 false (aA a):=
 wy [af h1,aJ h2] 129
end
def YP:=IN 151 [cS,cS] [cS] false (fun d=>aT 50000 d.1&&aT 50000 d.2.1) fun d=>(qc d.1 d.2.1,())
def qd:=bc [A5,G9,ru,uE,wM,Dt,Bk,G0,YP]
abbrev IB:List Nat:=[1,1,1,1,0,0,0]
abbrev zN:List Nat:=[1,1,1,1,0,0,0,1,0]
abbrev IC:Sv.Ren:=[(64,64,none),(65,65,none),(66,66,none),(67,67,none),(68,68,none),(69,69,none),(70,70,none),(71,71,none)]
abbrev PS:Sv.Ren:=[(64,64,none),(65,65,none),(66,66,none),(67,67,none),(68,68,none),(69,69,none),(70,70,none),(71,71,none),(72,72,none)]
abbrev arX:Sv.Ren:=[(64,64,none),(65,65,none),(66,66,none),(67,67,none),(68,68,none),(69,69,none),(70,70,none),(71,71,none),(72,73,none)]
abbrev arY:Sv.Ren:=[(64,64,none),(65,65,none),(66,66,none),(67,67,none),(68,68,none),(69,69,none),(70,70,none),(71,71,none),(72,72,none),(73,73,none)]
noncomputable def ni (x y:aC):Int×List Int:=cn (cT x y).1 (cT x y).2
noncomputable def oK (a:bB) (p q:aC):Int×List Int:=cz (a7 a.1 q) (a7 p a.2)
noncomputable def oL (a:bB) (r s:aC):Int×List Int:=cz (a7 r a.2) (a7 a.1 s)
noncomputable def rG (x m q s:aC):Int×List Int:=qc x (fD (cz m q) s)
noncomputable def dm (p k r:aC):Int×List Int:=b8 p (a7 k r)
section
variable (a:bB)
def oM (m p q r s:aC):bD:={n:=113,sl:=[(2, .ptr 64 0),(3, .ptr 65 0),(4, .ptr 66 0),(5, .ptr 67 0),(6, .ptr 68 0),(7, .ptr 69 0),(8, .ptr 70 0),(9, .ptr 71 0)],bJ:=[(64,BJ a),(65,eu m),(66,uQ),(67,uQ),(68,eu p),(69,eu q),(70,eu r),(71,eu s)],next:=72}
def PT (m p q r s u:aC):bD:={n:=113,sl:=[(2, .ptr 64 0),(3, .ptr 65 0),(4, .ptr 66 0),(5, .ptr 67 0),(6, .ptr 68 0),(7, .ptr 69 0),(8, .ptr 70 0),(9, .ptr 71 0),(10, .ptr 72 0)],bJ:=[(64,BJ a),(65,eu m),(66,uQ),(67,uQ),(68,eu p),(69,eu q),(70,eu r),(71,eu s),(72,eu u)],next:=73}
def oN (m p q r s k:aC):bD:={n:=113,sl:=[(2, .ptr 64 0),(3, .ptr 65 0),(4, .ptr 66 0),(5, .ptr 67 0),(6, .ptr 68 0),(7, .ptr 69 0),(8, .ptr 70 0),(9, .ptr 71 0),(11, .ptr 72 0)],bJ:=[(64,BJ a),(65,eu m),(66,uQ),(67,uQ),(68,eu p),(69,eu q),(70,eu r),(71,eu s),(72,eu k)],next:=73}
def PU (m p q r s k d:aC):bD:={n:=113,sl:=[(2, .ptr 64 0),(3, .ptr 65 0),(4, .ptr 66 0),(5, .ptr 67 0),(6, .ptr 68 0),(7, .ptr 69 0),(8, .ptr 70 0),(9, .ptr 71 0),(11, .ptr 72 0),(12, .ptr 73 0)],bJ:=[(64,BJ a),(65,eu m),(66,uQ),(67,uQ),(68,eu p),(69,eu q),(70,eu r),(71,eu s),(72,eu k),(73,eu d)],next:=74}
def arZ (m:aC) (h1:(aT 50000 a.2&&aT 50000 m)=true) (h2:fM a.2 m<=0):
  bh qd (fl l8 []) 3 113 [bM a,aA m] 3 Tryz.f90 false (.tuple [bM a,bM a]):=
 wy [af h1,ah h2,af (aF (v:=bM a))] 51130497
def ar0 (m:aC) (h1:(aT 50000 a.2&&aT 50000 m)=true) (h2:¬fM a.2 m<=0) (h3:(lf a.1 a.2)=true) (h4:(ay (cn a.1 a.2)&&ay (aV 1))=true):
  cZ qd (fl l8 []) 5 113 [bM a,aA m] 2 .normal IC (oM a m (cn a.1 a.2) (aV 1) (b8 (cn a.1 a.2) (aV 1)) (aV 1)):=
 wy [af h1,aJ h2,af h3,af (aF (v:=aA (cn a.1 a.2))),af h4] 22265177583745
def ar1 (m p q r s:aC) (h1:(ay q&&ay s)=true) (h2:(aT 50000 (b8 q s)&&aT 50000 m)=true) (h3:fM (b8 q s) m<=0):
  cY qd (fl l8 IB) 2 (oM a m p q r s) 3 .normal IC (oM a m p q r s):=
 wy [af (aF (v:=aA q)),af (aF (v:=aA s)),af h1,af (aF (v:=aA m)),af h2,ah h3] 417753739393
def ar2 (m p q r s:aC) (h1:(ay q&&ay s)=true) (h2:(aT 50000 (b8 q s)&&aT 50000 m)=true) (h3:¬fM (b8 q s) m<=0):
  cY qd (fl l8 IB) 2 (oM a m p q r s) 2 (.exit 0) IC (oM a m p q r s):=
 wy [af (aF (v:=aA q)),af (aF (v:=aA s)),af h1,af (aF (v:=aA m)),af h2,aJ h3] 417753739393
def ar3 (m p q r s:aC) (h1:(ay a.1&&ay q)=true) (h2:(ay p&&ay a.2)=true) (h3:(ay (a7 a.1 q)&&ay (a7 p a.2))=true) (h4:(ay r&&ay a.2)=true) (h5:(ay a.1&&ay s)=true) (h6:(ay (a7 r a.2)&&ay (a7 a.1 s))=true) (h7:(eO (cz (a7 a.1 q) (a7 p a.2)) (cz (a7 r a.2) (a7 a.1 s)))=true) (h8:(lf (cT (cz (a7 a.1 q) (a7 p a.2)) (cz (a7 r a.2) (a7 a.1 s))).1 (cT (cz (a7 a.1 q) (a7 p a.2)) (cz (a7 r a.2) (a7 a.1 s))).2)=true) (h9:(cn (cT (cz (a7 a.1 q) (a7 p a.2)) (cz (a7 r a.2) (a7 a.1 s))).1 (cT (cz (a7 a.1 q) (a7 p a.2)) (cz (a7 r a.2) (a7 a.1 s))).2).1=(ni (oK a p q) (oL a r s)).1) (h10:(cn (cT (cz (a7 a.1 q) (a7 p a.2)) (cz (a7 r a.2) (a7 a.1 s))).1 (cT (cz (a7 a.1 q) (a7 p a.2)) (cz (a7 r a.2) (a7 a.1 s))).2).2=(ni (oK a p q) (oL a r s)).2):
  cY qd (fl l8 zN) 1 (oM a m p q r s) 1 .normal PS (PT a m p q r s (ni (oK a p q) (oL a r s))):=
 wy [af (aF (v:=aA a.1)),af (aF (v:=aA q)),af h1,af (aF (v:=aA p)),af (aF (v:=aA a.2)),af h2,af h3,af (aF (v:=aA r)),af h4,af (aF (v:=aA s)),af h5,af h6,af h7,af h8,ax h9,ax h10] 639666944344591623461842541625768980366841392218962485749974469064516177003191229169035483875847644331129080032276609
def ar4 (m p q r s u:aC) (h1:(ay m&&ay q)=true) (h2:(eO (cz m q) s)=true) (h3:(aT 50000 u&&aT 50000 (fD (cz m q) s))=true) (h4:(qc u (fD (cz m q) s)).1=(rG u m q s).1) (h5:(qc u (fD (cz m q) s)).2=(rG u m q s).2):
  cY qd ((fl l8 zN).drop 1) 1 (PT a m p q r s u) 1 .normal arX (oN a m p q r s (rG u m q s)):=
 wy [af (aF (v:=aA u)),af (aF (v:=aA m)),af (aF (v:=aA q)),af h1,af (aF (v:=aA s)),af h2,af h3,ax h4,ax h5] 66037675893156892702505327387767322447568038129623134178753279788514762829953
def ar5 (m p q r s k:aC) (h1:(ay k&&ay r)=true) (h2:(ay p&&ay (a7 k r))=true) (h3:(ay k&&ay s)=true) (h4:(ay q&&ay (a7 k s))=true) (h5:(b8 p (a7 k r)).1=(dm p k r).1) (h6:(b8 p (a7 k r)).2=(dm p k r).2) (h7:(b8 q (a7 k s)).1=(dm q k s).1) (h8:(b8 q (a7 k s)).2=(dm q k s).2):
  cY qd ((fl l8 zN).drop 2) 1 (oN a m p q r s k) 1 .normal PS (oN a m (dm p k r) (dm q k s) r s k):=
 wy [af (aF (v:=aA p)),af (aF (v:=aA k)),af (aF (v:=aA r)),af h1,af h2,af (aF (v:=aA q)),af (aF (v:=aA s)),af h3,af h4,ax h5,ax h6,ax h7,ax h8] 390994831108651588800300283751924325317138720935400293312771263119294842880929921
def ar6 (m p q r s k:aC) (h1:(ay r&&ay a.2)=true) (h2:(ay a.1&&ay s)=true) (h3:(ay (a7 r a.2)&&ay (a7 a.1 s))=true) (h4:(ay a.1&&ay q)=true) (h5:(ay p&&ay a.2)=true) (h6:(ay (a7 a.1 q)&&ay (a7 p a.2))=true) (h7:(eO (cz (a7 r a.2) (a7 a.1 s)) (cz (a7 a.1 q) (a7 p a.2)))=true) (h8:(lf (cT (cz (a7 r a.2) (a7 a.1 s)) (cz (a7 a.1 q) (a7 p a.2))).1 (cT (cz (a7 r a.2) (a7 a.1 s)) (cz (a7 a.1 q) (a7 p a.2))).2)=true) (h9:(cn (cT (cz (a7 r a.2) (a7 a.1 s)) (cz (a7 a.1 q) (a7 p a.2))).1 (cT (cz (a7 r a.2) (a7 a.1 s)) (cz (a7 a.1 q) (a7 p a.2))).2).1=(ni (oL a r s) (oK a p q)).1) (h10:(cn (cT (cz (a7 r a.2) (a7 a.1 s)) (cz (a7 a.1 q) (a7 p a.2))).1 (cT (cz (a7 r a.2) (a7 a.1 s)) (cz (a7 a.1 q) (a7 p a.2))).2).2=(ni (oL a r s) (oK a p q)).2):
  cY qd ((fl l8 zN).drop 3) 1 (oN a m p q r s k) 1 .normal arY (PU a m p q r s k (ni (oL a r s) (oK a p q))):=
 wy [af (aF (v:=aA r)),af (aF (v:=aA a.2)),af h1,af (aF (v:=aA a.1)),af (aF (v:=aA s)),af h2,af h3,af (aF (v:=aA q)),af h4,af (aF (v:=aA p)),af h5,af h6,af h7,af h8,ax h9,ax h10] 167684851458268626540781251231945583589285269921847701864440941966751634871745841778890962961397508228080074304330795069569
def ar7 (m p q r s k d:aC) (h1:(ay m&&ay s)=true) (h2:(eO (cz m s) q)=true) (h3:(aT 50000 d&&aT 50000 (fD (cz m s) q))=true) (h4:(qc d (fD (cz m s) q)).1=(rG d m s q).1) (h5:(qc d (fD (cz m s) q)).2=(rG d m s q).2):
  cY qd ((fl l8 zN).drop 4) 1 (PU a m p q r s k d) 1 .normal PS (oN a m p q r s (rG d m s q)):=
 wy [af (aF (v:=aA d)),af (aF (v:=aA m)),af (aF (v:=aA s)),af h1,af (aF (v:=aA q)),af h2,af h3,ax h4,ax h5] 66037675893156892702505327387767322447568038129623134178753279788514762829953
def ar8 (m p q r s k:aC) (h1:(ay k&&ay p)=true) (h2:(ay r&&ay (a7 k p))=true) (h3:(ay k&&ay q)=true) (h4:(ay s&&ay (a7 k q))=true) (h5:(b8 r (a7 k p)).1=(dm r k p).1) (h6:(b8 r (a7 k p)).2=(dm r k p).2) (h7:(b8 s (a7 k q)).1=(dm s k q).1) (h8:(b8 s (a7 k q)).2=(dm s k q).2):
  bt qd ((fl l8 zN).drop 5) (oN a m p q r s k) 1 .normal IC (oM a m p q (dm r k p) (dm s k q)):=
 wy [af (aF (v:=aA r)),af (aF (v:=aA k)),af (aF (v:=aA p)),af h1,af h2,af (aF (v:=aA s)),af (aF (v:=aA q)),af h3,af h4,ax h5,ax h6,ax h7,ax h8] 102496949006146362094465917583864450335936012860877484237011324480897095043912517562497
def ar9 (m p q r s:aC) (h1:(eO p q)=true) (h2:(eO r s)=true):
  bS qd ((fl l8 []).drop 6) (oM a m p q r s) 1 Tryz.f90 false (.tuple [bM (cT p q),bM (cT r s)]):=
 wy [af (aF (v:=aA p)),af (aF (v:=aA q)),af h1,af (aF (v:=aA r)),af (aF (v:=aA s)),af h2] 26737313329281
noncomputable def gd (m p q r s:aC):Int×List Int:=rG (ni (oK a p q) (oL a r s)) m q s
noncomputable def ia (m p q r s:aC):Int×List Int:=rG (ni (oL a r s) (oK a p q)) m s q
end
noncomputable def tr (a:bB) (m:aC):Nat->(aC×aC)×(aC×aC)->bB×bB
 |0,x=>(cT x.1.1 x.1.2,cT x.2.1 x.2.2)
 |n+1,x=>if fM (b8 x.1.2 x.2.2) m<=0 then
   tr a m n ((dm x.1.1 (gd a m x.1.1 x.1.2 x.2.1 x.2.2) x.2.1,dm x.1.2 (gd a m x.1.1 x.1.2 x.2.1 x.2.2) x.2.2),
    (dm x.2.1 (ia a m (dm x.1.1 (gd a m x.1.1 x.1.2 x.2.1 x.2.2) x.2.1) (dm x.1.2 (gd a m x.1.1 x.1.2 x.2.1 x.2.2) x.2.2) x.2.1 x.2.2) (dm x.1.1 (gd a m x.1.1 x.1.2 x.2.1 x.2.2) x.2.1),
     dm x.2.2 (ia a m (dm x.1.1 (gd a m x.1.1 x.1.2 x.2.1 x.2.2) x.2.1) (dm x.1.2 (gd a m x.1.1 x.1.2 x.2.1 x.2.2) x.2.2) x.2.1 x.2.2) (dm x.1.2 (gd a m x.1.1 x.1.2 x.2.1 x.2.2) x.2.2)))
  else(cT x.1.1 x.1.2,cT x.2.1 x.2.2)
noncomputable def bK (a:bB) (m:aC):((Int×List Int)×(Int×List Int))×((Int×List Int)×(Int×List Int)):=if fM a.2 m<=0 then(a,a)else tr a m (aj m).toNat ((cn a.1 a.2,aV 1),(b8 (cn a.1 a.2) (aV 1),aV 1))
noncomputable def vw (a:bB) (m:aC):Bool:=lD 2 a&&(aT 1 m&&(decide (1<=aj m)&&decide (aj m<=1000000000)))
def PV:=IN 90 [fT,cS] [fT,fT] false (fun d=>vw d.1 d.2.1) fun d=>((bK d.1 d.2.1).1,(bK d.1 d.2.1).2,())
end
set_option maxHeartbeats 1000000
noncomputable section
def xC {x y:Int} {X Y:Nat} (h:x.natAbs<=X) (g:y.natAbs<=Y):(x*y).natAbs<=X*Y:=by
 rw [Int.natAbs_mul];exact Nat.mul_le_mul h g
def EG {n:Nat} {a b:aC} (h:((aj a*aj b).natAbs:Int)<18446744073709551616^n):aT n (a7 a b)=true/\aj (a7 a b)=aj a*aj b:=by
 unfold a7;exact jJ h
def PW {n:Nat} {a b:aC} (h:((aj a-aj b).natAbs:Int)<18446744073709551616^n):aT n (cz a b)=true:=by
 unfold cz;refine q6 ?_;rw [eK];rw [show aj a+ -aj b=aj a-aj b by omega];exact h
def asa (a b:aC):aj (qc a b)=if aj b<aj a then aj b else aj a:=by
 unfold qc fM jH;by_cases h:aj b<aj a
 .rw [if_pos h,if_pos (by split<;>(try split)<;>omega)]
 .rw [if_neg h,if_neg (by split<;>(try split)<;>omega)]
def asb {n:Nat} {a b:aC} (h:aT n a=true) (g:aT n b=true):aT n (qc a b)=true:=by
 unfold qc;split<;>assumption
def asc {n:Nat} {x y:aC} (h:aT n x=true) (g:aT n y=true) (hn:1<=n) (hy:0<aj y):aT n (ni x y)=true/\aj (ni x y)=aj x/aj y/\aT n (cT x y).1=true/\aT n (cT x y).2=true/\0<aj (cT x y).2:=by
 have q:=y7 h g hn ω;refine⟨DJ q.o1 q.o2 q.pos hn, ?_,q.o1,q.o2,q.pos⟩;show aj (cn _ _)=_;rw [yY q.o1 q.o2 q.pos];have e1:=Int.mul_ediv_mul_of_pos_left (aj (cT x y).1) (aj (cT x y).2) hy;have e2:=Int.mul_ediv_mul_of_pos_left (aj x) (aj y) q.pos;rw [<-e1,<-e2,q.val,Int.mul_comm (aj y)]
def ase {n:Nat} {a b:aC} (h:aT n a=true) (g:aT n b=true) (hn:1<=n) (hb:0<aj b):aT n (fD a b)=true/\aj (fD a b)=aj a/aj b:=by
 refine⟨MH h g hn ω, ?_⟩;unfold fD;rw [if_neg ω];exact yY h g hb
def ID {x y m q s:aC} (hx:aT 5 x=true) (hy:aT 5 y=true) (x0:0<aj x) (y0:0<aj y) (ff:aT 1 m=true) (lH:aT 3 q=true) (os:aT 3 s=true) (hs:1<=aj s) (hq:1<=aj q) (eB:aj q<=aj m) (hM2:aj m<=1000000000):
  aj (rG (ni x y) m q s)=kI (aj x) (aj y) (aj m-aj q) (aj s)/\aT 5 (rG (ni x y) m q s)=true/\(ay m&&ay q)=true/\eO (cz m q) s=true/\(aT 50000 (ni x y)&&aT 50000 (fD (cz m q) s))=true/\eO x y=true/\lf (cT x y).1 (cT x y).2=true:=by
 obtain⟨f1,f2,f3,f4,f5⟩:=asc hx hy δ y0;have YQ:aT 3 (cz m q)=true:=PW (by
  have e:(18446744073709551616:Int)^3=6277101735386680763835789423207666416102355444464034512896:=(by decide);omega)
 obtain⟨g1,g2⟩:=ase YQ os δ ω;rw [val_sub]at g2;refine⟨?_,asb f1 (a8 δ g1),cq (a8 δ ff) (a8 δ lH), ?_,cq (a8 δ f1) (a8 δ g1), ?_,yZ.2 ⟨a8 δ f3,a8 δ f4,f5⟩⟩
 .unfold rG;rw [asa,f2,g2];rfl
 .unfold eO;exact cq (cq (a8 δ YQ) (a8 δ os)) (by rw [e8.2 (show aj s≠0 by omega)];rfl)
 .unfold eO;exact cq (cq (a8 δ hx) (a8 δ hy)) (by rw [e8.2 (show aj y≠0 by omega)];rfl)
structure B1 (a:bB) (m:aC) (N D M:Int):Prop where
 o1:aT 2 a.1=true
 o2:aT 2 a.2=true
 ff:aT 1 m=true
 IE:aj a.1=N
 vd:aj a.2=D
 vm:aj m=M
 eB:1<=M
 hM2:M<=1000000000
 hD:M<D
 hg:Int.gcd N D=1
 rH:N.natAbs<340282366920938463463374607431768211456
 bd:D<340282366920938463463374607431768211456
structure vz (N D M:Int) (p q r s:aC):Prop where
 op:aT 3 p=true
 lH:aT 3 q=true
 or:aT 3 r=true
 os:aT 3 s=true
 nb:nh N D M (aj p) (aj q) (aj r) (aj s)
abbrev nj:Nat:=340282366920938463463374607431768211456
def EH {N D M p q r s:Int} (h:nh N D M p q r s) (hD:M<D) (eB:1<=M) (hM2:M<=1000000000) (rH:N.natAbs<nj):p.natAbs<=340282366920938463463374607431768211457000000000/\r.natAbs<=340282366920938463463374607431768211457000000000/\q.natAbs<=1000000000/\s.natAbs<=1000000000:=by
 obtain⟨f1,f2⟩:=PK h ω;have hq:=h.q1;have hs:=h.s1;have oI:=h.oI;have oJ:=h.oJ;have jT:=h.jT;have br:=h.br;have hf:=Int.natAbs_ediv_le_natAbs N D;have c1:=xC (x:=N/D) (y:=q) (X:=nj) (Y:=1000000000) ω ω;have c2:=xC (x:=N/D+1) (y:=q) (X:=nj+1) (Y:=1000000000) ω ω;have c3:=xC (x:=N/D) (y:=s) (X:=nj) (Y:=1000000000) ω ω;have c4:=xC (x:=N/D+1) (y:=s) (X:=nj+1) (Y:=1000000000) ω ω;have e1:nj*1000000000=340282366920938463463374607431768211456000000000:=by decide
 have e2:(nj+1)*1000000000=340282366920938463463374607431768211457000000000:=by decide
 rw [e1]at c1 c3;rw [e2]at c2 c4;omega
def PX:(18446744073709551616:Int)^3=6277101735386680763835789423207666416102355444464034512896:=by decide
def asf:(18446744073709551616:Int)^5=2135987035920910082395021706169552114602704522356652769947041607822219725780640550022962086936576:=by decide
end
set_option maxHeartbeats 1000000
noncomputable section
def IF {a:bB} {m p q r s:aC} {N D M:Int} (C:B1 a m N D M) (O:vz N D M p q r s):
  ((aT 5 (a7 a.1 q)=true/\aT 5 (a7 p a.2)=true)/\aT 5 (oK a p q)=true/\aj (oK a p q)=N*aj q-aj p*D)/\
  (aT 5 (a7 r a.2)=true/\aT 5 (a7 a.1 s)=true)/\aT 5 (oL a r s)=true/\aj (oL a r s)=aj r*D-N*aj s:=by
 obtain⟨b1,b2,b3,b4⟩:=EH O.nb C.hD C.eB C.hM2 C.rH;have rH:=C.rH;have bd:=C.bd;have hD:=C.hD;have eB:=C.eB;have iR:=asf;have YR:N.natAbs<=nj:=Nat.le_of_lt rH;have zd:D.natAbs<=nj:=by show D.natAbs<=340282366920938463463374607431768211456;omega
 have c1:=xC (x:=N) (y:=aj q) (X:=nj) (Y:=1000000000) YR b3;have c2:=xC (x:=aj p) (y:=D) (X:=340282366920938463463374607431768211457000000000) (Y:=nj) b1 zd;have c3:=xC (x:=aj r) (y:=D) (X:=340282366920938463463374607431768211457000000000) (Y:=nj) b2 zd;have c4:=xC (x:=N) (y:=aj s) (X:=nj) (Y:=1000000000) YR b4;have dD:nj*1000000000=340282366920938463463374607431768211456000000000:=by decide
 have z2:340282366920938463463374607431768211457000000000*nj=115792089237316195423570985008687907853610267032561502502920958615344897851392000000000:=by decide
 rw [dD]at c1 c4;rw [z2]at c2 c3;obtain⟨m1,v1⟩:=EG (n:=5) (a:=a.1) (b:=q) (by rw [C.IE,iR];omega);obtain⟨m2,v2⟩:=EG (n:=5) (a:=p) (b:=a.2) (by rw [C.vd,iR];omega);obtain⟨m3,v3⟩:=EG (n:=5) (a:=r) (b:=a.2) (by rw [C.vd,iR];omega);obtain⟨m4,v4⟩:=EG (n:=5) (a:=a.1) (b:=s) (by rw [C.IE,iR];omega);rw [C.IE]at v1 v4;rw [C.vd]at v2 v3;refine⟨⟨⟨m1,m2⟩,PW (by rw [v1,v2,iR];omega), ?_⟩,⟨m3,m4⟩,PW (by rw [v3,v4,iR];omega), ?_⟩
 .unfold oK;rw [val_sub,v1,v2]
 .unfold oL;rw [val_sub,v3,v4]
def IG {p k r:aC} {P:Int} (op:aT 3 p=true) (or:aT 3 r=true) (ok:aT 5 k=true) (e:aj p+aj k*aj r=P) (h1:(aj p).natAbs<=340282366920938463463374607431768211457000000000) (h2:P.natAbs<=340282366920938463463374607431768211457000000000):
  aT 3 (dm p k r)=true/\aj (dm p k r)=P/\(ay k&&ay r)=true/\(ay p&&ay (a7 k r))=true:=by
 have e3:=PX;obtain⟨m1,v1⟩:=EG (n:=3) (a:=k) (b:=r) (by rw [e3];omega);refine⟨q6 (by rw [v1,e,e3];omega), ?_,cq (a8 δ ok) (a8 δ or),cq (a8 δ op) (a8 δ m1)⟩;unfold dm;rw [nI,v1,e]
abbrev qf (p q r s:aC):rF:=⟨aj p,aj q,aj r,aj s⟩
section
variable {a:bB} {m p q r s:aC} {N D M:Int} (C:B1 a m N D M) (O:vz N D M p q r s)
def YS:
  vz N D M (dm p (gd a m p q r s) r) (dm q (gd a m p q r s) s) r s/\qf (dm p (gd a m p q r s) r) (dm q (gd a m p q r s) s) r s=gv N D M (qf p q r s)/\
  ((ay (gd a m p q r s)&&ay r)=true/\(ay p&&ay (a7 (gd a m p q r s) r))=true)/\((ay (gd a m p q r s)&&ay s)=true/\(ay q&&ay (a7 (gd a m p q r s) s))=true):=by
 obtain⟨⟨_,p1,p2⟩,_,r1,r2⟩:=IF C O;have hM2:=C.hM2;obtain⟨k1,k2,_⟩:=ID (m:=m) (q:=q) (s:=s) p1 r1 (by rw [p2];exact O.nb.lo) (by rw [r2];exact O.nb.hi) C.ff O.lH O.os O.nb.s1 O.nb.q1 (by rw [C.vm];exact O.nb.oI) (by rw [C.vm];exact hM2);rw [p2,r2,C.vm]at k1;have hA:=Yz (x:=qf p q r s) O.nb C.eB C.hD C.hg;obtain⟨b1,b2,b3,b4⟩:=EH O.nb C.hD C.eB hM2 C.rH;obtain⟨d1,d2,d3,d4⟩:=EH hA C.hD C.eB hM2 C.rH;obtain⟨m1,m2,m3,m4⟩:=IG (k:=gd a m p q r s) (P:=(gv N D M (qf p q r s)).p) O.op O.or k2 (by unfold gd;rw [k1];rfl) b1 d1;obtain⟨n1,n2,n3,sC⟩:=IG (k:=gd a m p q r s) (P:=(gv N D M (qf p q r s)).q) O.lH O.os k2 (by unfold gd;rw [k1];rfl) ω ω;refine⟨⟨m1,n1,O.or,O.os, ?_⟩, ?_,⟨m3,m4⟩,n3,sC⟩
 .rw [m2,n2];exact hA
 .show rF.mk _ _ _ _=_;rw [m2,n2];rfl
def YT:
  vz N D M p q (dm r (ia a m p q r s) p) (dm s (ia a m p q r s) q)/\qf p q (dm r (ia a m p q r s) p) (dm s (ia a m p q r s) q)=xB N D M (qf p q r s)/\
  ((ay (ia a m p q r s)&&ay p)=true/\(ay r&&ay (a7 (ia a m p q r s) p))=true)/\((ay (ia a m p q r s)&&ay q)=true/\(ay s&&ay (a7 (ia a m p q r s) q))=true):=by
 obtain⟨⟨_,p1,p2⟩,_,r1,r2⟩:=IF C O;have hM2:=C.hM2;obtain⟨k1,k2,_⟩:=ID (m:=m) (q:=s) (s:=q) r1 p1 (by rw [r2];exact O.nb.hi) (by rw [p2];exact O.nb.lo) C.ff O.os O.lH O.nb.q1 O.nb.s1 (by rw [C.vm];exact O.nb.oJ) (by rw [C.vm];exact hM2);rw [p2,r2,C.vm]at k1;have hB:=arB (x:=qf p q r s) O.nb C.eB C.hD C.hg;obtain⟨b1,b2,b3,b4⟩:=EH O.nb C.hD C.eB hM2 C.rH;obtain⟨d1,d2,d3,d4⟩:=EH hB C.hD C.eB hM2 C.rH;obtain⟨m1,m2,m3,m4⟩:=IG (k:=ia a m p q r s) (P:=(xB N D M (qf p q r s)).r) O.or O.op k2 (by unfold ia;rw [k1];rfl) b2 d2;obtain⟨n1,n2,n3,sC⟩:=IG (k:=ia a m p q r s) (P:=(xB N D M (qf p q r s)).s) O.os O.lH k2 (by unfold ia;rw [k1];rfl) ω ω;refine⟨⟨O.op,O.lH,m1,n1, ?_⟩, ?_,⟨m3,m4⟩,n3,sC⟩
 .rw [m2,n2];exact hB
 .show rF.mk _ _ _ _=_;rw [m2,n2];rfl
end
def B2 {a b:aC}:fM a b<=0↔aj a<=aj b:=by
 unfold fM jH;constructor
 .intro h;split at h
  .omega
  .split at h<;>omega
 .intro h;split
  .omega
  .split<;>omega
def YU {a:bB} {m:aC} {N D M:Int} (C:B1 a m N D M):vz N D M (cn a.1 a.2) (aV 1) (b8 (cn a.1 a.2) (aV 1)) (aV 1):=by
 have hD:=C.hD;have eB:=C.eB;have hd:0<aj a.2:=by rw [C.vd];omega
 have v:=yY C.o1 C.o2 hd;have o:=DJ C.o1 C.o2 hd δ;rw [C.IE,C.vd]at v;have e1:aj (aV 1)=1:=xj 1;have hf:=Int.natAbs_ediv_le_natAbs N D;have rH:=C.rH;have e3:=PX;refine⟨a8 δ o,zx δ,q6 (by rw [v,e1,e3];omega),zx δ, ?_⟩;rw [nI,v,e1];exact ary eB hD C.hg
end
set_option maxHeartbeats 1000000
noncomputable section
def CM:bC prog (bF PR):=cK fun c hc=>by
 rw [List.mem_singleton.1 hc];exact Dv
def asg:YP.Ok prog:=fun⟨a,b,_⟩ h=>by
 have h:(aT 50000 a&&aT 50000 b)=true:=h;rw [ae]at h;show Holds prog false 151 [aA a,aA b] (aA (qc a b));refine bL (c:=PO) func151 rfl rfl fun w F=> ?_
 unfold qc;by_cases hc:fM b a<0
 .rw [if_pos hc];exact bw CM 9 (arV a b (cq h.2 h.1) hc)
 .rw [if_neg hc];exact bw CM 9 (arW a b (cq h.2 h.1) hc)
def ash:bC prog (bF qd):=cK (aP Dv (aP MR (aP uS (aP hJ (aP yO (aP GD (aP DK (aP MG (aP asg dQ)))))))))
def YV {a:bB} {m:aC} {r:Rat} (h:QR 2 a r) (ff:aT 1 m=true) (h1:1<=aj m) (h2:aj m<=1000000000) (hD:aj m<r.den):B1 a m r.num r.den (aj m):=by
 obtain⟨l1,l2⟩:=Py h δ;have e:(18446744073709551616:Int)^2=340282366920938463463374607431768211456:=by decide
 exact⟨h.o1,h.o2,ff,h.num,h.den,rfl,h1,h2,hD,r.reduced,by omega,by omega⟩
def asi {a:bB} {m:aC} {er:Rat} (h:QR 2 a er) (ff:aT 1 m=true) (h1:1<=aj m) (h2:aj m<=1000000000):Holds prog false 90 [bM a,aA m] (.tuple [bM (bK a m).1,bM (bK a m).2]):=by
 have hS:=ash;have k1:(aT 50000 a.2&&aT 50000 m)=true:=cq (a8 δ h.o2) (a8 δ ff);refine bL (c:=l8) func90 rfl rfl fun w F=> ?_
 by_cases hc:fM a.2 m<=0
 .have e:bK a m=(a,a):=by unfold bK;rw [if_pos hc]
  rw [e];exact bw hS 3 (arZ a m k1 hc)
 .have hD:aj m<er.den:=by
   have:=mt B2.2 hc;rw [h.den]at this;omega
  have C:=YV h ff h1 h2 hD;have PY:=YU C;have e0:bK a m=tr a m (aj m).toNat ((cn a.1 a.2,aV 1),(b8 (cn a.1 a.2) (aV 1),aV 1)):=by unfold bK;rw [if_neg hc]
  obtain⟨R,hR⟩:∃R:aa,R= .tuple [bM (bK a m).1,bM (bK a m).2]:=⟨_,rfl⟩;rw [<-hR];refine cJ hS 5 (ar0 a m k1 hc (yZ.2 ⟨a8 δ h.o1,a8 δ h.o2,h.pos⟩) (cq (a8 δ PY.op) (a8 δ PY.lH))) ?_;refine aU.loop (ι:={x:((aC×aC)×(aC×aC))×Nat//vz er.num er.den (aj m) x.1.1.1 x.1.1.2 x.1.2.1 x.1.2.2/\bK a m=tr a m x.2 x.1/\(aj m+1-(aj x.1.1.2+aj x.1.2.2)).toNat<=x.2}) (id:=0) (b:=cat l8 IB) (rest:=(fl l8 []).drop 6) (by kernel_rfl) (fun x=>oM a m x.1.1.1.1 x.1.1.1.2 x.1.1.2.1 x.1.1.2.2) (fun x=>(aj m+1-(aj x.1.1.1.2+aj x.1.1.2.2)).toNat)
   ⟨(((cn a.1 a.2,aV 1),(b8 (cn a.1 a.2) (aV 1),aV 1)),(aj m).toNat),PY,e0,by
     have e1:aj (aV 1)=1:=xj 1;show(aj m+1-(aj (aV 1)+aj (aV 1))).toNat<=(aj m).toNat;rw [e1];omega⟩ (fun _=>rfl) ?_
  rintro⟨⟨⟨⟨p,q⟩,r,s⟩,n⟩,O,he,hn⟩;have O:vz er.num er.den (aj m) p q r s:=O;have he:bK a m=tr a m n ((p,q),(r,s)):=he;have hn:(aj m+1-(aj q+aj s)).toNat<=n:=hn;have a1:(ay q&&ay s)=true:=cq (a8 δ O.lH) (a8 δ O.os);have asj:aT 3 (b8 q s)=true:=q6 (by
   have e3:=PX;have:=O.nb.q1;have:=O.nb.s1;have:=O.nb.oI;have:=O.nb.oJ;rw [e3];omega)
  have a2:(aT 50000 (b8 q s)&&aT 50000 m)=true:=cq (a8 δ asj) (a8 δ ff);have PZ:=nI q s;by_cases hle:fM (b8 q s) m<=0
  .have hle2:aj q+aj s<=aj m:=by rw [<-PZ];exact B2.1 hle
   obtain⟨n,rfl⟩:∃j,n=j+1:=⟨n-1,by omega⟩;unfold tr at he;rw [if_pos hle]at he;obtain⟨tu,P0,⟨c1,c2⟩,c3,c4⟩:=YS C O;obtain⟨P3,P4,⟨d1,d2⟩,d3,d4⟩:=YT C tu;have hg:=YA (x:=qf p q r s) O.nb C.eB C.hD C.hg hle2;rw [<-P0,<-P4]at hg;obtain⟨⟨⟨f1,f2⟩,p1,p2⟩,⟨f3,f4⟩,r1,r2⟩:=IF C O;obtain⟨⟨⟨g1,g2⟩,p3,ec⟩,⟨g3,g4⟩,r3,mD⟩:=IF C tu;obtain⟨_,_,i1,i2,i3,i4,i5⟩:=ID (m:=m) (q:=q) (s:=s) p1 r1 (by rw [p2];exact O.nb.lo) (by rw [r2];exact O.nb.hi) ff O.lH O.os O.nb.s1 O.nb.q1 O.nb.oI h2;obtain⟨_,_,j1,j2,qy,asl,asm⟩:=ID (m:=m) (q:=s) (s:=dm q (gd a m p q r s) s) r3 p3 (by rw [mD];exact tu.nb.hi) (by rw [ec];exact tu.nb.lo) ff O.os tu.lH tu.nb.q1 O.nb.s1 O.nb.oJ h2;have m5:∀{k:Nat} {x:aC},aT k x=true->k<=100000->ay x=true:=fun h hk=>a8 hk h
   have II:=m5 h.o1 δ;have IJ:=m5 h.o2 δ;have op:=m5 O.op δ;have lH:=m5 O.lH δ;have or:=m5 O.or δ;have os:=m5 O.os δ;refine c6 (s:=oM a m p q r s) hS 2 (ar1 a m p q r s a1 a2 hle) ?_;refine Dj (id:=1) (c:=cat l8 zN) (rest:=(fl l8 IB).drop 3) (by kernel_rfl) ?_;refine c6 (s:=oM a m p q r s) hS 1 (ar3 a m p q r s (cq II lH) (cq op IJ) (cq (m5 f1 δ) (m5 f2 δ)) (cq or IJ) (cq II os) (cq (m5 f3 δ) (m5 f4 δ)) i4 i5 rfl rfl) ?_;refine c6 (s:=PT a m p q r s (ni (oK a p q) (oL a r s))) hS 1 (ar4 a m p q r s _ i1 i2 i3 rfl rfl) ?_;show ba _ _ _ _ _ _ (oN a m p q r s (gd a m p q r s)).T (oN a m p q r s (gd a m p q r s)).H _;refine c6 (s:=oN a m p q r s (gd a m p q r s)) hS 1 (ar5 a m p q r s _ c1 c2 c3 c4 rfl rfl rfl rfl) ?_;have asn:=m5 tu.op δ;have aso:=m5 tu.lH δ;generalize hk:gd a m p q r s=k at*;generalize hp1:dm p k r=p1' at*;generalize hq1:dm q k s=gw at*;refine c6 (s:=oN a m p1' gw r s k) hS 1 (ar6 a m p1' gw r s k (cq or IJ) (cq II os) (cq (m5 g3 δ) (m5 g4 δ)) (cq II aso) (cq asn IJ) (cq (m5 g1 δ) (m5 g2 δ)) asl asm rfl rfl) ?_;refine c6 (s:=PU a m p1' gw r s k (ni (oL a r s) (oK a p1' gw))) hS 1 (ar7 a m p1' gw r s k _ j1 j2 qy rfl rfl) ?_;show ba _ _ _ _ _ _ (oN a m p1' gw r s (ia a m p1' gw r s)).T (oN a m p1' gw r s (ia a m p1' gw r s)).H _;refine bx (s:=oN a m p1' gw r s (ia a m p1' gw r s)) hS (ar8 a m p1' gw r s _ d1 d2 d3 d4 rfl rfl rfl rfl) ?_;exact⟨⟨(((p1',gw),(dm r (ia a m p1' gw r s) p1',dm s (ia a m p1' gw r s) gw)),n),P3,he,by show(aj m+1-(aj gw+aj (dm s (ia a m p1' gw r s) gw))).toNat<=n;have hg:aj q+aj s<aj gw+aj (dm s (ia a m p1' gw r s) gw):=hg;omega⟩,by show(aj m+1-(aj gw+aj (dm s (ia a m p1' gw r s) gw))).toNat<(aj m+1-(aj q+aj s)).toNat;have hg:aj q+aj s<aj gw+aj (dm s (ia a m p1' gw r s) gw):=hg;omega,rfl,rfl⟩
  .have e:bK a m=(cT p q,cT r s):=by
    rw [he];cases n with
    |zero=>rfl
    |succ n=>unfold tr;rw [if_neg hle]
   refine c6 (s:=oM a m p q r s) hS 2 (ar2 a m p q r s a1 a2 hle) ?_;refine cy (cy (cF ?_));have key:=ar9 a m p q r s (by
    unfold eO;exact cq (cq (a8 δ O.op) (a8 δ O.lH)) (by rw [e8.2 (show aj q≠0 by have:=O.nb.q1;omega)];rfl)) (by
    unfold eO;exact cq (cq (a8 δ O.or) (a8 δ O.os)) (by rw [e8.2 (show aj s≠0 by have:=O.nb.s1;omega)];rfl))
   have ox:R= .tuple [bM (cT p q),bM (cT r s)]:=by rw [hR,e]
   rw [<-ox]at key;exact bX (s:=oM a m p q r s) hS key
def YW:PV.Ok prog:=fun⟨a,m,_⟩ h=>by
 have h:(lD 2 a&&(aT 1 m&&(decide (1<=aj m)&&decide (aj m<=1000000000))))=true:=h;rw [ae,ae,ae,bE,bE]at h;exact asi (@ap _ (Classical.propDecidable _) h.1) h.2.1 h.2.2.1 h.2.2.2
def YX {a:bB} {m:aC} {N D:Int} (C:B1 a m N D (aj m)):∀(n:Nat) (p q r s:aC),vz N D (aj m) p q r s->(aj m+1-(aj q+aj s)).toNat<=n->
  ∃x y u v:Int,nh N D (aj m) x y u v/\aj m<y+v/\QR 3 (tr a m n ((p,q),(r,s))).1 (Rat.divInt x y)/\QR 3 (tr a m n ((p,q),(r,s))).2 (Rat.divInt u v)
 |n,p,q,r,s,O,hn=>by
  have q1:=O.nb.q1;have s1:=O.nb.s1;have fin:∃x y u v:Int,nh N D (aj m) x y u v/\(aj q+aj s=y+v)/\QR 3 (cT p q) (Rat.divInt x y)/\QR 3 (cT r s) (Rat.divInt u v):=
   ⟨aj p,aj q,aj r,aj s,O.nb,rfl,(y7 O.op O.lH δ ω).qr ω,(y7 O.or O.os δ ω).qr ω⟩
  have PZ:=nI q s
  match n,hn with
  |0,hn=>
   obtain⟨x,y,u,v,f1,f2,f3,f4⟩:=fin;exact⟨x,y,u,v,f1,by omega,f3,f4⟩
  |n+1,hn=>
   unfold tr;by_cases hle:fM (b8 q s) m<=0
   .have hle2:aj q+aj s<=aj m:=by rw [<-PZ];exact B2.1 hle
    obtain⟨tu,P0,_⟩:=YS C O;obtain⟨P3,P4,_⟩:=YT C tu;have hg:=YA (x:=qf p q r s) O.nb C.eB C.hD C.hg hle2;rw [<-P0,<-P4]at hg;rw [if_pos hle];have hg:aj q+aj s<aj (dm q (gd a m p q r s) s)+aj (dm s (ia a m (dm p (gd a m p q r s) r) (dm q (gd a m p q r s) s) r s) (dm q (gd a m p q r s) s)):=hg;have key:=YX C n _ _ _ _ P3 ω;exact key
   .rw [if_neg hle];have:=mt B2.2 hle;obtain⟨x,y,u,v,f1,f2,f3,f4⟩:=fin;exact⟨x,y,u,v,f1,by omega,f3,f4⟩
def asp {a:bB} {m:aC} {er:Rat} (h:QR 2 a er) (ff:aT 1 m=true) (h1:1<=aj m) (h2:aj m<=1000000000):
  (er.den<=aj m/\bK a m=(a,a))\/(aj m<er.den/\∃x y u v:Int,nh er.num er.den (aj m) x y u v/\aj m<y+v/\QR 3 (bK a m).1 (Rat.divInt x y)/\QR 3 (bK a m).2 (Rat.divInt u v)):=by
 unfold bK;by_cases hc:fM a.2 m<=0
 .rw [if_pos hc];have:=B2.1 hc;rw [h.den]at this;exact Or.inl ⟨this,rfl⟩
 .rw [if_neg hc];have hD:aj m<er.den:=by
   have:=mt B2.2 hc;rw [h.den]at this;omega
  have C:=YV h ff h1 h2 hD;have e1:aj (aV 1)=1:=xj 1;exact Or.inr ⟨hD,YX C _ _ _ _ _ (YU C) (by rw [e1];omega)⟩
end
set_option maxHeartbeats 4000000
noncomputable section
def EI:=k_a Tryz.f89
def P5:=k_a Tryz.f37
def B3:=k_a Tryz.f36
def EJ:=bc [O9]
def gB (a:AT) (n:Int):Int:=if ckR a=0 then(if 1<=n/\n<=999999999 then 0 else 3)else ckR a
def P6:=IN 89 [.str, .int .i64] [.int .i64] true (fun d=>decide (d.1.size<=1000000000)) fun d=>(gB d.1 d.2.1,())
def Nm:=bc [P6,DO,ru,PV,Ev]
def B4:=bc [P6,DO,ru,PV,Ev,Hh,G8,A5]
section
variable (a:AT) (n:Int) (h1:a.size<=1000000000)
def asq (h2:¬ckR a=0):
  bh EJ (fl EI []) 9 17 [sv a,iv n] 3 Tryz.f89 true (iv (ckR a)):=
 wy [ah h1,af (gC.mpr h2)] 129
def asr (h2:ckR a=0) (h3:¬n<1) (h4:n>999999999):
  bh EJ (fl EI []) 9 17 [sv a,iv n] 54 Tryz.f89 true (iv (3)):=
 wy [ah h1,af (eR.mpr h2),af (bq (ab h3)),aJ h3,ah h4] 5436616833
def ass (h2:ckR a=0) (h3:¬n<1) (h4:¬n>999999999):
  bh EJ (fl EI []) 9 17 [sv a,iv n] 38 Tryz.f89 true (iv (0)):=
 wy [ah h1,af (eR.mpr h2),af (bq (ab h3)),aJ h3,aJ h4] 5436616833
def ast (h2:ckR a=0) (h3:n<1):
  bh EJ (fl EI []) 9 17 [sv a,iv n] 56 Tryz.f89 true (iv (3)):=
 wy [ah h1,af (eR.mpr h2),af (bq (az h3)),ah h3] 67907713
def asu (h2:¬gB a n=0):
  bh Nm (fl P5 []) 12 29 [sv a,iv n] 3 Tryz.f37 true (.tuple [.agg [sv (ByteArray.mk #[]),sv (ByteArray.mk #[])],iv (gB a n)]):=
 wy [ah h1,af (gC.mpr h2)] 129
def asv (h2:gB a n=0) (h3:(fh a)=true) (h4:(vw (aW a) (aV n))=true) (h5:(lD 10000 (bK (aW a) (aV n)).1)=true) (h6:(lD 10000 (bK (aW a) (aV n)).2)=true):
  bh Nm (fl P5 []) 12 29 [sv a,iv n] 2 Tryz.f37 true (.tuple [.agg [sv (gu (bK (aW a) (aV n)).1),sv (gu (bK (aW a) (aV n)).2)],iv 0]):=
 wy [ah h1,af (eR.mpr h2),af h3,af h4,af (aF (v:=bM (bK (aW a) (aV n)).1)),af h5,af (aF (v:=bM (bK (aW a) (aV n)).2)),af h6] 146116716991099009
def asw (h2:¬gB a n=0):
  bh B4 (fl B3 []) 16 51 [sv a,iv n] 3 Tryz.f36 true (.tuple [sv (ByteArray.mk #[]),iv (gB a n)]):=
 wy [ah h1,af (gC.mpr h2)] 129
def asx (h2:gB a n=0) (h3:(fh a)=true) (h4:(vw (aW a) (aV n))=true) (h5:(okQ 20000 (aW a)&&okQ 20000 (bK (aW a) (aV n)).1)=true) (h6:(okQ 20000 (bK (aW a) (aV n)).2&&okQ 20000 (aW a))=true) (h7:(okQ 20000 (c9 (aW a) (bK (aW a) (aV n)).1)&&okQ 20000 (c9 (bK (aW a) (aV n)).2 (aW a)))=true) (h8:mS (c9 (aW a) (bK (aW a) (aV n)).1) (c9 (bK (aW a) (aV n)).2 (aW a))>0) (h9:(lD 10000 (bK (aW a) (aV n)).2)=true):
  bh B4 (fl B3 []) 16 51 [sv a,iv n] 224 Tryz.f36 true (.tuple [sv (gu (bK (aW a) (aV n)).2),iv 0]):=
 wy [ah h1,af (eR.mpr h2),af h3,af (aF (v:=bM (aW a))),af h4,af (aF (v:=bM (bK (aW a) (aV n)).1)),af h5,af (aF (v:=bM (bK (aW a) (aV n)).2)),af h6,af h7,af (bq (az h8)),ah h8,af h9] 70794915142931176077791226211902759645313
def asy (h2:gB a n=0) (h3:(fh a)=true) (h4:(vw (aW a) (aV n))=true) (h5:(okQ 20000 (aW a)&&okQ 20000 (bK (aW a) (aV n)).1)=true) (h6:(okQ 20000 (bK (aW a) (aV n)).2&&okQ 20000 (aW a))=true) (h7:(okQ 20000 (c9 (aW a) (bK (aW a) (aV n)).1)&&okQ 20000 (c9 (bK (aW a) (aV n)).2 (aW a)))=true) (h8:¬mS (c9 (aW a) (bK (aW a) (aV n)).1) (c9 (bK (aW a) (aV n)).2 (aW a))>0) (h9:mS (c9 (aW a) (bK (aW a) (aV n)).1) (c9 (bK (aW a) (aV n)).2 (aW a))=0) (h10:(aT 50000 (bK (aW a) (aV n)).2.2&&aT 50000 (bK (aW a) (aV n)).1.2)=true) (h11:fM (bK (aW a) (aV n)).2.2 (bK (aW a) (aV n)).1.2<0) (h12:(lD 10000 (bK (aW a) (aV n)).2)=true):
  bh B4 (fl B3 []) 16 51 [sv a,iv n] 28670 Tryz.f36 true (.tuple [sv (gu (bK (aW a) (aV n)).2),iv 0]):=
 wy [ah h1,af (eR.mpr h2),af h3,af (aF (v:=bM (aW a))),af h4,af (aF (v:=bM (bK (aW a) (aV n)).1)),af h5,af (aF (v:=bM (bK (aW a) (aV n)).2)),af h6,af h7,af (bq (ab h8)),af (aM (fU.mpr h9)),af h10,cX h9,aJ h8,ah h11,af h12] 26441243112519129430488847351273044544497334563351048321
def asz (h2:gB a n=0) (h3:(fh a)=true) (h4:(vw (aW a) (aV n))=true) (h5:(okQ 20000 (aW a)&&okQ 20000 (bK (aW a) (aV n)).1)=true) (h6:(okQ 20000 (bK (aW a) (aV n)).2&&okQ 20000 (aW a))=true) (h7:(okQ 20000 (c9 (aW a) (bK (aW a) (aV n)).1)&&okQ 20000 (c9 (bK (aW a) (aV n)).2 (aW a)))=true) (h8:¬mS (c9 (aW a) (bK (aW a) (aV n)).1) (c9 (bK (aW a) (aV n)).2 (aW a))>0) (h9:mS (c9 (aW a) (bK (aW a) (aV n)).1) (c9 (bK (aW a) (aV n)).2 (aW a))=0) (h10:(aT 50000 (bK (aW a) (aV n)).2.2&&aT 50000 (bK (aW a) (aV n)).1.2)=true) (h11:¬fM (bK (aW a) (aV n)).2.2 (bK (aW a) (aV n)).1.2<0) (h12:(lD 10000 (bK (aW a) (aV n)).1)=true):
  bh B4 (fl B3 []) 16 51 [sv a,iv n] 20478 Tryz.f36 true (.tuple [sv (gu (bK (aW a) (aV n)).1),iv 0]):=
 wy [ah h1,af (eR.mpr h2),af h3,af (aF (v:=bM (aW a))),af h4,af (aF (v:=bM (bK (aW a) (aV n)).1)),af h5,af (aF (v:=bM (bK (aW a) (aV n)).2)),af h6,af h7,af (bq (ab h8)),af (aM (fU.mpr h9)),af h10,cX h9,aJ h8,aJ h11,af h12] 26441243112519129430488847351273044544497334563351048321
def asA (h2:gB a n=0) (h3:(fh a)=true) (h4:(vw (aW a) (aV n))=true) (h5:(okQ 20000 (aW a)&&okQ 20000 (bK (aW a) (aV n)).1)=true) (h6:(okQ 20000 (bK (aW a) (aV n)).2&&okQ 20000 (aW a))=true) (h7:(okQ 20000 (c9 (aW a) (bK (aW a) (aV n)).1)&&okQ 20000 (c9 (bK (aW a) (aV n)).2 (aW a)))=true) (h8:¬mS (c9 (aW a) (bK (aW a) (aV n)).1) (c9 (bK (aW a) (aV n)).2 (aW a))>0) (h9:¬mS (c9 (aW a) (bK (aW a) (aV n)).1) (c9 (bK (aW a) (aV n)).2 (aW a))=0) (h10:(lD 10000 (bK (aW a) (aV n)).1)=true):
  bh B4 (fl B3 []) 16 51 [sv a,iv n] 17422 Tryz.f36 true (.tuple [sv (gu (bK (aW a) (aV n)).1),iv 0]):=
 wy [ah h1,af (eR.mpr h2),af h3,af (aF (v:=bM (aW a))),af h4,af (aF (v:=bM (bK (aW a) (aV n)).1)),af h5,af (aF (v:=bM (bK (aW a) (aV n)).2)),af h6,af h7,af (bq (ab h8)),af (aM (e8.mpr h9)),yn h9,aJ h8,af h10] 359261689923794886237570838921716717002481865583505537
end
noncomputable def B5 (a:AT) (n:Int):AT×AT:=if gB a n=0 then(gu (bK (aW a) (aV n)).1,gu (bK (aW a) (aV n)).2)else(ByteArray.mk #[],ByteArray.mk #[])
noncomputable def EZ (a:AT) (n:Int):AT:=if gB a n=0 then(if 0<mS (c9 (aW a) (bK (aW a) (aV n)).1) (c9 (bK (aW a) (aV n)).2 (aW a))\/(mS (c9 (aW a) (bK (aW a) (aV n)).1) (c9 (bK (aW a) (aV n)).2 (aW a))=0/\fM (bK (aW a) (aV n)).2.2 (bK (aW a) (aV n)).1.2<0)then gu (bK (aW a) (aV n)).2 else gu (bK (aW a) (aV n)).1)else ByteArray.mk #[]
def YY:=IN 36 [.str, .int .i64] [.str, .int .i64] true (fun d=>decide (d.1.size<=24)) fun d=>(EZ d.1 d.2.1,gB d.1 d.2.1,())
end
set_option maxHeartbeats 1000000
noncomputable section
def IK:bC prog (bF EJ):=cK fun c hc=>by
 rw [List.mem_singleton.1 hc];exact XN
def asB (a:AT) (n:Int) (hz:a.size<=1000000000):Holds prog true 89 [sv a,iv n] (iv (gB a n)):=by
 refine bL (c:=EI) func89 rfl rfl fun w F=> ?_
 unfold gB;by_cases hc:ckR a=0
 .rw [if_pos hc];by_cases h1:n<1
  .rw [if_neg ω];exact bw IK 9 (ast a n hz hc h1)
  .by_cases h2:n>999999999
   .rw [if_neg ω];exact bw IK 9 (asr a n hz hc h1 h2)
   .rw [if_pos ω];exact bw IK 9 (ass a n hz hc h1 h2)
 .rw [if_neg hc];exact bw IK 9 (asq a n hz hc)
def GE:P6.Ok prog:=fun⟨a,n,_⟩ h=>asB a n (ap h)
structure asC (a:AT) (n:Int):Prop where
 fr:fh a=true
 qr:QR 2 (aW a) (toQ a)
 ok:vw (aW a) (aV n)=true
 lo:∃r,QR 3 (bK (aW a) (aV n)).1 r
 hi:∃r,QR 3 (bK (aW a) (aV n)).2 r
 law:((toQ a).den<=n/\bK (aW a) (aV n)=(aW a,aW a))\/(n<(toQ a).den/\∃x y u v:Int,nh (toQ a).num (toQ a).den n x y u v/\n<y+v/\QR 3 (bK (aW a) (aV n)).1 (Rat.divInt x y)/\QR 3 (bK (aW a) (aV n)).2 (Rat.divInt u v))
def P7 {a:AT} {n:Int} (hz:a.size<=24) (h:gB a n=0):asC a n:=by
 unfold gB at h;by_cases hc:ckR a=0
 .rw [if_pos hc]at h;by_cases hn:1<=n/\n<=999999999
  .obtain⟨r,k,rfl,hk,hi⟩:=Pm hc;obtain⟨h1,h2⟩:=X8 hz;have e3:(10:Nat)^24=1000000000000000000000000:=by decide
   rw [e3]at h1 h2;have e2:(18446744073709551616:Int)^2=340282366920938463463374607431768211456:=by decide
   obtain⟨f1,f2⟩:=WU (n:=2) (r:=r) δ δ (jJ ω).1 (jJ ω).1 ω;have i:l7 3 r:=⟨by have:(1000000000:Int)^3=1000000000000000000000000000:=δ;omega,by have:(1000000000:Int)^3=1000000000000000000000000000:=δ;omega⟩;have t:=p6 (k:=3) δ i;have vm:aj (aV n)=n:=xj n;have ff:aT 1 (aV n)=true:=zx ω;have law:=asp f2 ff ω ω;rw [vm]at law;have ok:vw (aW (textQ r)) (aV n)=true:=by
    unfold vw lD;rw [vm];refine cq (@az _ (Classical.propDecidable _) ?_) (cq ff (cq (az ω) (az ω)));rw [f2.val];exact f2
   refine⟨f1,by rw [t];exact f2,ok, ?_, ?_,by rw [t];exact law⟩
   .rcases law with⟨_,e⟩|⟨_,x,y,u,v,_,_,g,_⟩
    .rw [e];exact⟨r,f2.mono δ⟩
    .exact⟨_,g⟩
   .rcases law with⟨_,e⟩|⟨_,x,y,u,v,_,_,_,g⟩
    .rw [e];exact⟨r,f2.mono δ⟩
    .exact⟨_,g⟩
  .rw [if_neg hn]at h;cases h
 .rw [if_neg hc]at h;exact absurd h hc
def YZ:bC prog (bF Nm):=cK (aP GE (aP pc (aP uS (aP YW (aP tp dQ)))))
def asD:bC prog (bF B4):=cK (aP GE (aP pc (aP uS (aP YW (aP tp (aP Nb (aP MQ (aP Dv dQ))))))))
def avb (a:AT) (n:Int) (hz:a.size<=24):Holds prog true 37 [sv a,iv n] (.tuple [.agg [sv (B5 a n).1,sv (B5 a n).2],iv (gB a n)]):=by
 refine bL (c:=P5) func37 rfl rfl fun w F=> ?_
 unfold B5;by_cases h:gB a n=0
 .obtain⟨fr,qr,ok,⟨x,lo⟩,⟨y,hi⟩,_⟩:=P7 hz h;rw [if_pos h,h];exact bw YZ 12 (asv a n ω h fr ok (lo.rd δ) (hi.rd δ))
 .rw [if_neg h];exact bw YZ 12 (asu a n ω h)
def asE (a:AT) (n:Int) (hz:a.size<=24):Holds prog true 36 [sv a,iv n] (.tuple [sv (EZ a n),iv (gB a n)]):=by
 have hS:=asD;refine bL (c:=B3) func36 rfl rfl fun w F=> ?_
 unfold EZ;by_cases h:gB a n=0
 .obtain⟨fr,qr,ok,⟨x,lo⟩,⟨y,hi⟩,_⟩:=P7 hz h;rw [if_pos h,h];have q1:=pe (qr.mono (show 2<=3 by decide)) lo δ;have aQ:=pe hi (qr.mono (show 2<=3 by decide)) δ;have P8:∀{n m:Nat} {p q:bB} {r s:Rat},QR n p r->QR m q s->n<=20000->m<=20000->(okQ 20000 p&&okQ 20000 q)=true:=fun h g hn hm=>by rw [(h.mono hn).ok,(g.mono hm).ok];rfl
  have w1:=P8 qr lo δ δ;have w2:=P8 hi qr δ δ;have w3:=P8 q1 aQ δ δ;by_cases c1:mS (c9 (aW a) (bK (aW a) (aV n)).1) (c9 (bK (aW a) (aV n)).2 (aW a))>0
  .rw [if_pos (Or.inl c1)];exact bw hS 16 (asx a n ω h fr ok w1 w2 w3 c1 (hi.rd δ))
  .by_cases c2:mS (c9 (aW a) (bK (aW a) (aV n)).1) (c9 (bK (aW a) (aV n)).2 (aW a))=0
   .have Y0:(aT 50000 (bK (aW a) (aV n)).2.2&&aT 50000 (bK (aW a) (aV n)).1.2)=true:=cq (a8 δ hi.o2) (a8 δ lo.o2);by_cases c3:fM (bK (aW a) (aV n)).2.2 (bK (aW a) (aV n)).1.2<0
    .rw [if_pos (Or.inr ⟨c2,c3⟩)];exact bw hS 16 (asy a n ω h fr ok w1 w2 w3 c1 c2 Y0 c3 (hi.rd δ))
    .rw [if_neg (fun g=>g.elim c1 fun g=>c3 g.2)];exact bw hS 16 (asz a n ω h fr ok w1 w2 w3 c1 c2 Y0 c3 (lo.rd δ))
   .rw [if_neg (fun g=>g.elim c1 fun g=>c2 g.1)];exact bw hS 16 (asA a n ω h fr ok w1 w2 w3 c1 c2 (lo.rd δ))
 .rw [if_neg h];exact bw hS 16 (asw a n ω h)
def asF:YY.Ok prog:=fun⟨a,n,_⟩ h=>asE a n (ap h)
def vA {a b c d:Int} (hb:0<b) (hd:0<d) (h:a*d<=c*b):(a:Rat)/(b:Rat)<=(c:Rat)/(d:Rat):=by
 have pb:(0:Rat)<(b:Rat):=Rat.intCast_pos.2 hb;have pd:(0:Rat)<(d:Rat):=Rat.intCast_pos.2 hd;have nb:(b:Rat)≠0:=fun h0=>by rw [h0]at pb;exact Rat.lt_irrefl pb
 have nd:(d:Rat)≠0:=fun h0=>by rw [h0]at pd;exact Rat.lt_irrefl pd
 refine Rat.le_of_mul_le_mul_right (c:=(b:Rat)*(d:Rat)) ?_ (Rat.mul_pos pb pd);have e1:(a:Rat)/(b:Rat)*((b:Rat)*(d:Rat))=((a*d:Int):Rat):=by
  rw [<-Rat.mul_assoc,Rat.div_mul_cancel nb,Rat.intCast_mul]
 have e2:(c:Rat)/(d:Rat)*((b:Rat)*(d:Rat))=((c*b:Int):Rat):=by
  rw [Rat.mul_comm (b:Rat),<-Rat.mul_assoc,Rat.div_mul_cancel nd,Rat.intCast_mul]
 rw [e1,e2];exact Rat.intCast_le_intCast.2 h
def IL (a:Rat):a/((1:Int):Rat)=a:=by
 have h:=Rat.div_mul_cancel (a:=a) (b:=((1:Int):Rat)) δ;have e:a/((1:Int):Rat)*((1:Int):Rat)=a/((1:Int):Rat):=by rw [Rat.intCast_one,Rat.mul_one]
 rw [e]at h;exact h
def vB (r:Rat):(r.num:Rat)/((r.den:Int):Rat)=r:=by rw [<-Rat.divInt_eq_div,Rat.num_divInt_den]
end
def zO {x y:Int} (hy:0<y) (hg:Int.gcd x y=1):(Rat.divInt x y).num=x/\((Rat.divInt x y).den:Int)=y:=by
 have hg2:Int.gcd y x=1:=by rw [Int.gcd_comm];exact hg
 refine⟨?_, ?_⟩
 .rw [Rat.num_divInt,hg2,Int.sign_eq_one_of_pos hy];simp
 .rw [Rat.den_divInt,if_neg ω,hg2];simp;omega
def P9 {x y u v:Int} (h:u*y-x*v=1):Int.gcd x y=1/\Int.gcd u v=1:=by
 refine⟨?_, ?_⟩
 .have d1:((Int.gcd x y:Nat):Int)∣1:=by
   rw [<-h];exact Int.dvd_sub (Int.dvd_trans (Int.gcd_dvd_right ..) (Int.dvd_mul_left _ _)) (Int.dvd_trans (Int.gcd_dvd_left ..) (Int.dvd_mul_right _ _))
  have:=Int.le_of_dvd δ d1;have:Int.gcd x y≠0:=fun e=>by rw [e]at d1;exact absurd (Int.zero_dvd.1 d1) δ
  omega
 .have d1:((Int.gcd u v:Nat):Int)∣1:=by
   rw [<-h];exact Int.dvd_sub (Int.dvd_trans (Int.gcd_dvd_left ..) (Int.dvd_mul_right _ _)) (Int.dvd_trans (Int.gcd_dvd_right ..) (Int.dvd_mul_left _ _))
  have:=Int.le_of_dvd δ d1;have:Int.gcd u v≠0:=fun e=>by rw [e]at d1;exact absurd (Int.zero_dvd.1 d1) δ
  omega
structure Qa (r lo hi:Rat) (M:Int):Prop where
 le:lo<=r
 ge:r<=hi
 Y1:∀n d:Int,1<=d->d<=M->(n:Rat)/(d:Rat)<=lo\/hi<=(n:Rat)/(d:Rat)
 sl:p4 lo
 sh:p4 hi
 nl:lo.num.natAbs<100000000000000000
 avc:hi.num.natAbs<100000000000000000
 dl:(lo.den:Int)<=M
 Y2:(hi.den:Int)<=M
 alt:(lo=r/\hi=r/\(r.den:Int)<=M)\/(M<(r.den:Int)/\hi.num*(lo.den:Int)-lo.num*(hi.den:Int)=1/\M<(lo.den:Int)+(hi.den:Int))
def No (r:Rat):Prop:=r.num.natAbs<100000000/\r.den<100000000
def asG {N D M p q r s:Int} (h:nh N D M p q r s) (hN:N.natAbs<100000000) (hD:0<D) (avd:D<100000000) (eB:M<D):p.natAbs<100000000000000000/\r.natAbs<100000000000000000:=by
 have q1:=h.q1;have s1:=h.s1;have oI:=h.oI;have oJ:=h.oJ;have lo:=h.lo;have hi:=h.hi;have jT:=h.jT;have br:=h.br;have f1: -100000000<=N/D:=(Int.le_ediv_iff_mul_le hD).2 ω;have f2:N/D<100000000:=(Int.ediv_lt_iff_lt_mul hD).2 ω;have a1: -100000000*q<=N/D*q:=ar f1 ω;have a2:(N/D+1)*s<=100000000*s:=ar ω ω;have b1:N*q<=100000000*q:=ar ω ω;have b2: -100000000*s<=N*s:=ar ω ω;have c1:0<=p->p*1<=p*D:=fun h0=>dn ω h0
 have c2:r<0->r*D<=r*1:=fun h0=>Int.mul_le_mul_of_nonpos_left ω ω
 refine⟨?_, ?_⟩
 .by_cases h0:0<=p
  .have:=c1 h0;omega
  .omega
 .by_cases h0:r<0
  .have:=c2 h0;omega
  .omega
def asH {a:AT} {n:Int} (hz:a.size<=24) (h:gB a n=0) (hf:No (toQ a)):
  ∃lo hi:Rat,(B5 a n).1=textQ lo/\(B5 a n).2=textQ hi/\QR 3 (bK (aW a) (aV n)).1 lo/\QR 3 (bK (aW a) (aV n)).2 hi/\Qa (toQ a) lo hi n:=by
 have F:=P7 hz h;have hn:1<=n:=by
  unfold gB at h;by_cases c:ckR a=0
  .rw [if_pos c]at h;by_cases g:1<=n/\n<=999999999
   .exact g.1
   .rw [if_neg g]at h;cases h
  .rw [if_neg c]at h;exact absurd h c
 obtain⟨f1,f2⟩:=hf;have hD:0<((toQ a).den:Int):=by have:=(toQ a).den_pos;omega
 unfold B5;rw [if_pos h];have law:=F.law;have qr:=F.qr;generalize toQ a=r at*;rcases law with⟨hd,e⟩|⟨hd,x,y,u,v,nb,asI,l1,l2⟩
 .rw [e];refine⟨r,r, ?_, ?_,qr.mono δ,qr.mono δ,Rat.le_refl,Rat.le_refl,fun n d _ _=>Rat.le_total,⟨by omega,by omega⟩,⟨by omega,by omega⟩,by omega,by omega,hd,hd,Or.inl ⟨rfl,rfl,hd⟩⟩
  .show textQ (xx (aW a))=textQ r;rw [qr.val]
  .show textQ (xx (aW a))=textQ r;rw [qr.val]
 .have q1:=nb.q1;have s1:=nb.s1;have oI:=nb.oI;have oJ:=nb.oJ;have lo:=nb.lo;have hi:=nb.hi;obtain⟨g1,g2⟩:=P9 nb.iH;obtain⟨n1,d1⟩:=zO (show 0<y by omega) g1;obtain⟨n2,d2⟩:=zO (show 0<v by omega) g2;obtain⟨b1,b2⟩:=asG nb f1 hD ω hd;have DW:=vB r;refine⟨Rat.divInt x y,Rat.divInt u v, ?_, ?_,l1,l2, ?_, ?_,fun k d h1 h2=> ?_,⟨by rw [n1];omega,by omega⟩,⟨by rw [n2];omega,by omega⟩,by rw [n1];exact b1,by rw [n2];exact b2,by omega,by omega,Or.inr ⟨hd, ?_,by omega⟩⟩
  .show textQ (xx _)=_;rw [l1.val]
  .show textQ (xx _)=_;rw [l2.val]
  .rw [Rat.divInt_eq_div,<-DW];exact vA ω hD ω
  .rw [Rat.divInt_eq_div];have key:(r.num:Rat)/((r.den:Int):Rat)<=(u:Rat)/(v:Rat):=vA hD ω ω;rw [DW]at key;exact key
  .rw [Rat.divInt_eq_div,Rat.divInt_eq_div];rcases arD (n:=k) nb asI h1 h2 with g|g
   .exact Or.inl (vA ω ω g)
   .exact Or.inr (vA ω ω g)
  .rw [n1,n2,d1,d2];exact nb.iH
def asJ {a:AT} {n:Int} {lo hi:Rat} (h:gB a n=0) (qr:QR 2 (aW a) (toQ a)) (l1:QR 3 (bK (aW a) (aV n)).1 lo) (l2:QR 3 (bK (aW a) (aV n)).2 hi):
  ∃b,EZ a n=textQ b/\((b=lo/\toQ a-lo<=hi-toQ a)\/(b=hi/\hi-toQ a<=toQ a-lo)):=by
 have q1:=pe (qr.mono (show 2<=3 by decide)) l1 δ;have aQ:=pe l2 (qr.mono (show 2<=3 by decide)) δ;have c:=ajt q1 aQ;have t1:gu (bK (aW a) (aV n)).1=textQ lo:=by unfold gu;rw [l1.val]
 have t2:gu (bK (aW a) (aV n)).2=textQ hi:=by unfold gu;rw [l2.val]
 unfold EZ;rw [if_pos h,c,t1,t2];generalize toQ a=r at*;generalize fM (bK (aW a) (aV n)).2.2 (bK (aW a) (aV n)).1.2=z;by_cases c1:r-lo<hi-r
 .rw [if_pos c1,if_neg ω];exact⟨lo,rfl,Or.inl ⟨rfl,Rat.le_of_lt c1⟩⟩
 .rw [if_neg c1];have Y3:=Rat.not_lt.1 c1;by_cases c2:r-lo=hi-r
  .rw [if_pos c2];by_cases hz:z<0
   .rw [if_pos (Or.inr ⟨rfl,hz⟩)];exact⟨hi,rfl,Or.inr ⟨rfl,Y3⟩⟩
   .rw [if_neg ω];exact⟨lo,rfl,Or.inl ⟨rfl,by rw [c2];exact Rat.le_refl⟩⟩
  .rw [if_neg c2,if_pos (Or.inl δ)];exact⟨hi,rfl,Or.inr ⟨rfl,Y3⟩⟩
def rI (r:Rat):Rat:=if r<0 then-r else r
def B6 {a b c d:Int} (hb:0<b) (hd:0<d) (h:a*d<c*b):(a:Rat)/(b:Rat)<(c:Rat)/(d:Rat):=by
 refine Rat.not_le.1 fun g=> ?_
 have pb:(0:Rat)<(b:Rat):=Rat.intCast_pos.2 hb;have pd:(0:Rat)<(d:Rat):=Rat.intCast_pos.2 hd;have nb:(b:Rat)≠0:=fun h0=>by rw [h0]at pb;exact Rat.lt_irrefl pb
 have nd:(d:Rat)≠0:=fun h0=>by rw [h0]at pd;exact Rat.lt_irrefl pd
 have g2:=Rat.mul_le_mul_of_nonneg_right g (Rat.le_of_lt (Rat.mul_pos pb pd));have e1:(a:Rat)/(b:Rat)*((b:Rat)*(d:Rat))=((a*d:Int):Rat):=by
  rw [<-Rat.mul_assoc,Rat.div_mul_cancel nb,Rat.intCast_mul]
 have e2:(c:Rat)/(d:Rat)*((b:Rat)*(d:Rat))=((c*b:Int):Rat):=by
  rw [Rat.mul_comm (b:Rat),<-Rat.mul_assoc,Rat.div_mul_cancel nd,Rat.intCast_mul]
 rw [e1,e2]at g2;have:=Rat.intCast_le_intCast.1 g2;omega
def Qb {a b c d:Int} (hb:0<b) (hd:0<d):(a:Rat)/(b:Rat)-(c:Rat)/(d:Rat)=((a*d-c*b:Int):Rat)/((b*d:Int):Rat):=by
 have nb:(b:Int)≠0:=by omega
 have nd:(d:Int)≠0:=by omega
 rw [<-Rat.divInt_eq_div,<-Rat.divInt_eq_div,<-Rat.divInt_eq_div,Rat.divInt_sub_divInt _ _ nb nd]
def IM {a b:Int} (hb:0<b):rI ((a:Rat)/(b:Rat))=((a.natAbs:Int):Rat)/(b:Rat):=by
 unfold rI;by_cases h:a<0
 .have h1:=B6 (a:=a) (b:=b) (c:=0) (d:=1) hb δ ω;rw [IL,Rat.intCast_zero]at h1;rw [if_pos h1,<-Rat.divInt_eq_div,<-Rat.divInt_eq_div,Rat.neg_divInt];congr 1;omega
 .have h1:=vA (a:=0) (b:=1) (c:=a) (d:=b) δ hb ω;rw [IL,Rat.intCast_zero]at h1;rw [if_neg (Rat.not_lt.2 h1)];congr 2;omega
structure qg (N D:Int) (i:Nat) (p P q Q u v:Int):Prop where
 hN:N=p*u+P*v
 hD:D=q*u+Q*v
 iH:p*Q-P*q=if i%2=0 then-1 else 1
 u1:1<=u
 v0:0<=v
 Y4:v<u
 q1:1<=q
 Y5:0<=Q
 B7:Q<=q
 fQ:1<=i->1<=Q
def asK {N D:Int} (hD:0<D):qg N D 0 (N/D) 1 1 0 D (N%D):=by
 have e:=Int.mul_ediv_add_emod N D;have a:=dr N (show D≠0 by omega);have b:=c7 N hD;refine⟨?_,by omega,by simp,by omega,a,b,by decide,by decide,by decide,fun h=>by omega⟩;have:N/D*D=D*(N/D):=Int.mul_comm _ _;omega
def asL {N D:Int} {i:Nat} {p P q Q u v:Int} (h:qg N D i p P q Q u v) (hv:v≠0):qg N D (i+1) (u/v*p+P) p (u/v*q+Q) q v (u%v):=by
 have v1:0<v:=by have:=h.v0;omega
 have e:=Int.mul_ediv_add_emod u v;have a:=dr u hv;have b:=c7 u v1;have k1:1<=u/v:=(Int.le_ediv_iff_mul_le v1).2 (by have:=h.Y4;omega);have q1:=h.q1;have Y5:=h.Y5;have m1:1*q<=u/v*q:=ar k1 ω;have hN:=h.hN;have hD:=h.hD;generalize u/v=k at*;generalize u%v=w at*;refine⟨?_, ?_, ?_,by omega,a,b,by omega,by omega,by omega,fun _=>by omega⟩
 .rw [hN,<-e];grind
 .rw [hD,<-e];grind
 .have e2:(k*p+P)*q-p*(k*q+Q)= -(p*Q-P*q):=by grind
  rw [e2,h.iH];by_cases c:i%2=0
  .rw [if_pos c,if_neg ω];rfl
  .rw [if_neg c,if_pos ω]
def Y6 {N D:Int} (hD:0<D):∀(i:Nat),i<(cfI N D).length->∃P Q u v:Int,qg N D i (kk ((cfI N D).take (i+1))).1 P (kk ((cfI N D).take (i+1))).2 Q u v/\(cfI N D).drop (i+1)=(if v=0 then []else cfI u v)/\
  (1<=i->P=(kk ((cfI N D).take i)).1/\Q=(kk ((cfI N D).take i)).2)/\gg (1,0) ((cfI N D).take (i+1))=((kk ((cfI N D).take (i+1))).1,P)/\gg (0,1) ((cfI N D).take (i+1))=((kk ((cfI N D).take (i+1))).2,Q)
 |0,h=>by
  have hs:=oH (u:=N) hD;have ht:(cfI N D).take 1=[N/D]:=by rw [hs];rfl
  have k1:kk [N/D]=(N/D,1):=by rw [Ey];show(N/D*1+0,N/D*0+1)=_;simp
  refine⟨1,0,D,N%D, ?_, ?_,fun h=>by omega, ?_, ?_⟩
  .rw [ht,k1];exact asK hD
  .rw [hs];rfl
  .rw [ht,k1];show(N/D*1+0,1)=_;simp
  .rw [ht,k1];show(N/D*0+1,0)=_;simp
 |i+1,h=>by
  obtain⟨P,Q,u,v,E,hd,hP,r1,r2⟩:=Y6 (N:=N) hD i ω;have hv:v≠0:=fun e=>by
   rw [if_pos e]at hd;have:=congrArg List.length hd;rw [mb,List.length_nil]at this;omega
  rw [if_neg hv]at hd;have v1:0<v:=by have:=E.v0;omega
  have hs:=oH (u:=u) v1;have hg:(cfI N D).getD (i+1) 0=u/v:=by
   have e:(cfI N D).getD (i+1) 0=((cfI N D).drop (i+1)).getD 0 0:=by simp [ao,List.getElem?_drop]
   rw [e,hd,hs];rfl
  have ht:(cfI N D).take (i+1+1)=(cfI N D).take (i+1)++[u/v]:=by rw [<-hg];exact ol 0 h
  have n1:gg (1,0) ((cfI N D).take (i+1+1))=(u/v*(kk ((cfI N D).take (i+1))).1+P,(kk ((cfI N D).take (i+1))).1):=by rw [ht,BU,r1]
  have n2:gg (0,1) ((cfI N D).take (i+1+1))=(u/v*(kk ((cfI N D).take (i+1))).2+Q,(kk ((cfI N D).take (i+1))).2):=by rw [ht,BU,r2]
  have k2:kk ((cfI N D).take (i+1+1))=(u/v*(kk ((cfI N D).take (i+1))).1+P,u/v*(kk ((cfI N D).take (i+1))).2+Q):=by rw [Ey,n1,n2]
  refine⟨(kk ((cfI N D).take (i+1))).1,(kk ((cfI N D).take (i+1))).2,v,u%v, ?_, ?_,fun _=>⟨rfl,rfl⟩, ?_, ?_⟩
  .rw [k2];exact asL E hv
  .have e:(cfI N D).drop (i+1+1)=((cfI N D).drop (i+1)).drop 1:=by rw [List.drop_drop]
   rw [e,hd,hs];rfl
  .rw [n1,k2]
  .rw [n2,k2]
def asM {N D:Int} (hD:0<D) {i:Nat} (h:i<(cfI N D).length) {u v:Int} (hv:0<=v) (hd:(cfI N D).drop (i+1)=(if v=0 then []else cfI u v)):v=0↔i+1=(cfI N D).length:=by
 constructor
 .intro e;rw [if_pos e]at hd;have:=congrArg List.length hd;rw [mb,List.length_nil]at this;omega
 .intro e;by_cases c:v=0
  .exact c
  .rw [if_neg c,e,List.drop_length]at hd;exact absurd hd.symm (XV ω)
def IP {N D:Int} {i:Nat} {p P q Q u v:Int} (h:qg N D i p P q Q u v):N*q-p*D= -((if i%2=0 then-1 else 1)*v)/\N*Q-P*D=(if i%2=0 then-1 else 1)*u:=by
 rw [<-h.iH,h.hN,h.hD];exact⟨by grind,by grind⟩
def Y7 {i:Nat} {v:Int} (h:0<=v):(((if i%2=0 then-1 else 1)*v).natAbs:Int)=v:=by
 split<;>omega
section
variable {r:Rat} {i:Nat} {p P q Q u v:Int}
def Y8 (E:qg r.num r.den i p P q Q u v) (hi:1<=i):rI ((p:Rat)/(q:Rat)-r)<rI ((P:Rat)/(Q:Rat)-r):=by
 have hD:0<(r.den:Int):=by have:=r.den_pos;omega
 have q1:=E.q1;have fQ:=E.fQ hi;have v0:=E.v0;have u1:=E.u1;obtain⟨d1,d2⟩:=IP E;have e1:=Qb (a:=p) (b:=q) (c:=r.num) (d:=r.den) ω hD;have e2:=Qb (a:=P) (b:=Q) (c:=r.num) (d:=r.den) ω hD;rw [vB]at e1 e2;have k1:p*(r.den:Int)-r.num*q=(if i%2=0 then-1 else 1)*v:=by omega
 have k2:P*(r.den:Int)-r.num*Q= -((if i%2=0 then-1 else 1)*u):=by omega
 have a1:0<q*(r.den:Int):=Int.mul_pos ω hD;have a2:0<Q*(r.den:Int):=Int.mul_pos ω hD;rw [e1,e2,IM a1,IM a2,k1,k2,Int.natAbs_neg,Y7 v0,Y7 ω];refine B6 a1 a2 ?_;have m1:v*Q<=v*q:=dn E.B7 v0;have m2:v*q<u*q:=Int.mul_lt_mul_of_pos_right E.Y4 ω;have m3:v*Q*(r.den:Int)<u*q*(r.den:Int):=Int.mul_lt_mul_of_pos_right ω hD;rw [Int.mul_assoc,Int.mul_assoc]at m3;exact m3
def Y9 (E:qg r.num r.den i p P q Q u v) (hv:v≠0):if i%2=0 then(p:Rat)/(q:Rat)<r else r<(p:Rat)/(q:Rat):=by
 have hD:0<(r.den:Int):=by have:=r.den_pos;omega
 have q1:=E.q1;have v0:=E.v0;obtain⟨d1,_⟩:=IP E;by_cases c:i%2=0
 .rw [if_pos c]at d1 ⊢;have h:=B6 (a:=p) (b:=q) (c:=r.num) (d:=r.den) ω hD ω;rw [vB]at h;exact h
 .rw [if_neg c]at d1 ⊢;have h:=B6 (a:=r.num) (b:=r.den) (c:=p) (d:=q) hD ω ω;rw [vB]at h;exact h
def asN (E:qg r.num r.den i p P q Q u v) (hi:1<=i):if i%2=0 then r<(P:Rat)/(Q:Rat)else(P:Rat)/(Q:Rat)<r:=by
 have hD:0<(r.den:Int):=by have:=r.den_pos;omega
 have fQ:=E.fQ hi;have u1:=E.u1;obtain⟨_,d2⟩:=IP E;by_cases c:i%2=0
 .rw [if_pos c]at d2 ⊢;have h:=B6 (a:=r.num) (b:=r.den) (c:=P) (d:=Q) hD ω ω;rw [vB]at h;exact h
 .rw [if_neg c]at d2 ⊢;have h:=B6 (a:=P) (b:=Q) (c:=r.num) (d:=r.den) ω hD ω;rw [vB]at h;exact h
def Za (E:qg r.num r.den i p P q Q u v) (hv:v=0):(p:Rat)/(q:Rat)=r:=by
 have hD:0<(r.den:Int):=by have:=r.den_pos;omega
 have q1:=E.q1;obtain⟨d1,_⟩:=IP E;rw [hv,Int.mul_zero]at d1;have h1:=vA (a:=r.num) (b:=r.den) (c:=p) (d:=q) hD ω ω;have h2:=vA (a:=p) (b:=q) (c:=r.num) (d:=r.den) ω hD ω;rw [vB]at h1 h2;exact Rat.le_antisymm h2 h1
end
def tight {p q P Q x y:Int} (iH:P*q-p*Q=1) (q1:1<=q) (fQ:1<=Q) (h1:p*y<x*q) (h2:x*Q<P*y):q+Q<=y:=by
 have e:q*(P*y-x*Q)+Q*(x*q-p*y)=y*(P*q-p*Q):=by grind
 rw [iH,Int.mul_one]at e;have a1:q*1<=q*(P*y-x*Q):=dn ω ω;have a2:Q*1<=Q*(x*q-p*y):=dn ω ω;omega
def tw {p q P Q:Int} {z:Rat} (iH:P*q-p*Q=1) (q1:1<=q) (fQ:1<=Q) (h1:(p:Rat)/(q:Rat)<z) (h2:z<(P:Rat)/(Q:Rat)):q+Q<=(z.den:Int):=by
 have hD:0<(z.den:Int):=by have:=z.den_pos;omega
 rw [<-vB z]at h1 h2;refine tight (x:=z.num) iH q1 fQ ?_ ?_
 .exact Int.not_le.1 fun g=>Rat.not_le.2 h1 (vA hD ω g)
 .exact Int.not_le.1 fun g=>Rat.not_le.2 h2 (vA ω hD g)
def asO {r lo hi:Rat} {i:Nat} {p P q Q u v:Int} (E:qg r.num r.den i p P q Q u v) (h1:1<=i) (hv:v≠0) (oO:Qa r lo hi q):if i%2=0 then lo=(p:Rat)/(q:Rat)/\hi=(P:Rat)/(Q:Rat)else hi=(p:Rat)/(q:Rat)/\lo=(P:Rat)/(Q:Rat):=by
 have q1:=E.q1;have fQ:=E.fQ h1;have B7:=E.B7;have s1:=Y9 E hv;have s2:=asN E h1;have iH:=E.iH;have g1:=oO.Y1 p q q1 (Int.le_refl q);have g2:=oO.Y1 P Q fQ B7;have dl:=oO.dl;have Y2:=oO.Y2;have le:=oO.le;have ge:=oO.ge;by_cases c:i%2=0
 .rw [if_pos c]at s1 s2 iH ⊢;have b1:(p:Rat)/(q:Rat)<=lo:=g1.elim id fun g=>by grind
  have b2:hi<=(P:Rat)/(Q:Rat):=g2.elim (fun g=>by grind) id;refine⟨?_, ?_⟩
  .refine Rat.le_antisymm (Rat.not_lt.1 fun g=> ?_) b1;have:=tw (p:=p) (P:=P) (z:=lo) ω q1 fQ g (by grind);omega
  .refine Rat.le_antisymm b2 (Rat.not_lt.1 fun g=> ?_);have:=tw (p:=p) (P:=P) (z:=hi) ω q1 fQ (by grind) g;omega
 .rw [if_neg c]at s1 s2 iH ⊢;have b1:hi<=(p:Rat)/(q:Rat):=g1.elim (fun g=>by grind) id;have b2:(P:Rat)/(Q:Rat)<=lo:=g2.elim id fun g=>by grind
  refine⟨?_, ?_⟩
  .refine Rat.le_antisymm b1 (Rat.not_lt.1 fun g=> ?_);have:=tw (p:=P) (P:=p) (z:=hi) ω fQ q1 (by grind) g;omega
  .refine Rat.le_antisymm (Rat.not_lt.1 fun g=> ?_) b2;have:=tw (p:=P) (P:=p) (z:=lo) ω fQ q1 g (by grind);omega
def asP {r lo hi b:Rat} {i:Nat} {p P q Q u v:Int} (E:qg r.num r.den i p P q Q u v) (h1:1<=i) (hq:Int.gcd p q=1) (oO:Qa r lo hi q) (hb:(b=lo/\r-lo<=hi-r)\/(b=hi/\hi-r<=r-lo)):b=(p:Rat)/(q:Rat):=by
 have q1:=E.q1;by_cases hv:v=0
 .have hz:=Za E hv;have hd:=(zO (show 0<q by omega) hq).2;rw [Rat.divInt_eq_div,hz]at hd;rcases oO.alt with⟨e1,e2,_⟩|⟨g,_⟩
  .rw [hz];rcases hb with⟨e,_⟩|⟨e,_⟩
   .rw [e,e1]
   .rw [e,e2]
  .omega
 .have hn:=asO E h1 hv oO;have near:=Y8 E h1;have le:=oO.le;have ge:=oO.ge;unfold rI at near;by_cases c:i%2=0
  .rw [if_pos c]at hn;rw [<-hn.1,<-hn.2]at near;rw [<-hn.1];rcases hb with⟨e,_⟩|⟨e,g⟩
   .exact e
   .exfalso;split at near<;>split at near<;>grind
  .rw [if_neg c]at hn;rw [<-hn.1,<-hn.2]at near;rw [<-hn.1];rcases hb with⟨e,g⟩|⟨e,g⟩
   .exfalso;split at near<;>split at near<;>grind
   .exact e
set_option maxHeartbeats 1000000
noncomputable section
def vC (r:Rat):aq (textQ r)=Lib.itoa r.num++dC r:=by
 rw [B0,rE];by_cases hn:r.num<0
 .rw [az hn];rfl
 .rw [ab hn];rfl
def Zb (r:Rat):bf (aq (textQ r))=(Lib.itoa r.num).length:=by
 have p0:bf (Lib.decDigits r.num.natAbs++dC r)=(Lib.decDigits r.num.natAbs).length:=by
  unfold dC;split
  .rw [List.append_nil];exact D1 _ (lC _)
  .exact D2 _ _ (lC _)
 rw [B0,rx,p0,rE];by_cases hn:r.num<0
 .rw [az hn];rfl
 .rw [ab hn];rfl
def zP {r:Rat} (h:r.den=1):dC r=[]:=by unfold dC;rw [if_pos h]
def Qc (r:Rat):ot (textQ r)=textQ (r.num:Rat):=by
 refine gA ?_;show aq (ot (textQ r))=aq (textQ (r.num:Rat));unfold ot;rw [jQ,Zb,vC,vC,zP (r:=(r.num:Rat)) (Rat.den_intCast _),List.append_nil,List.drop_zero,List.take_left,Rat.num_intCast]
def Qd (r:Rat):kR (textQ r)=textQ ((r.den:Int):Rat):=by
 unfold kR;rw [cP,Zb,vC];by_cases h:r.den=1
 .rw [zP h,List.append_nil,if_pos rfl,h];refine gA ?_;show [49]=aq (textQ (((1:Nat):Int):Rat));rw [vC,zP (Rat.den_intCast _),List.append_nil,Rat.num_intCast];show [49]=Lib.itoa ((1:Nat):Int);rw [Dec.oz,mZ δ];rfl
 .have e:dC r=47::Lib.decDigits r.den:=by unfold dC;rw [if_neg h]
  rw [if_neg (by rw [e,cQ,List.length_cons];omega)];refine gA ?_;show aq ((textQ r).extract ((Lib.itoa r.num).length+1) (Lib.itoa r.num++dC r).length)=aq (textQ ((r.den:Int):Rat));rw [jQ,vC,dK,vC,zP (r:=((r.den:Int):Rat)) (Rat.den_intCast _),List.append_nil,Rat.num_intCast,e,Dec.oz,show Lib.itoa r.num++47::Lib.decDigits r.den=(Lib.itoa r.num++[47])++Lib.decDigits r.den by simp];exact List.drop_left' τ
attribute [local irreducible] ckR
def zQ {a:AT} (h:ckR a=0):isQ a=true:=vg.2 (Pm h)
attribute [local irreducible] textQ isQ toQ
end
end
section
set_option maxHeartbeats 4000000
noncomputable section
def EK:=k_a Tryz.f28
def Zc:=k_a Tryz.f34
def EL:=bc [OY,PE,Ir,PF]
section
variable (a:AT) (h1:(a.size:Int)<=2*8+2) (h2:a.size<=1000000000)
def asQ (h3:ckR a=0) (h4:(↑(qb (ot a)).size:Int)<=8) (h5:(decide ((↑(kR a).size:Int)<=8))=(decide ((↑(kR a).size:Int)<=8))):
  bh EL (fl EK []) 9 31 [sv a,iv 8] 262143 Tryz.f28 true (bv (decide (((kR a).size:Int)<=8))):=
 wy [af (aM (az h1)),ah h2,ah h1,af (aM (fU.mpr h3)),cX h3,af (aM (az h4)),ah h4,ax h5] 2826223299124896081622843671468882882990080
def asR (h3:ckR a=0) (h4:¬(↑(qb (ot a)).size:Int)<=8):
  bh EL (fl EK []) 9 31 [sv a,iv 8] 133119 Tryz.f28 true (bv false):=
 wy [af (aM (az h1)),ah h2,ah h1,af (aM (fU.mpr h3)),cX h3,af (aM (ab h4)),aJ h4] 603596103227530272553682139961679417344
def asS (h3:¬ckR a=0):
  bh EL (fl EK []) 9 31 [sv a,iv 8] 131087 Tryz.f28 true (bv false):=
 wy [af (aM (az h1)),ah h2,ah h1,af (aM (e8.mpr h3)),yn h3] 1530346573242256226258944
end
def asT (a:AT) (h1:¬(a.size:Int)<=2*8+2):
  bh EL (fl EK []) 9 31 [sv a,iv 8] 131072 Tryz.f28 true (bv false):=
 wy [af (aM (ab h1)),aJ h1] 2164527104
def xD (a:AT):Bool:=decide (a.size<=18)&&(decide (ckR a=0)&&(decide ((qb (ot a)).size<=8)&&decide ((kR a).size<=8)))
def Zd:=IN 28 [.str, .int .i64] [.bool] true (fun d=>decide ((d.2.1:Int)=8)) fun d=>(xD d.1,())
def Ze:=bc [Iu,Ir]
def asU (a b:AT) (h1:(isQ a&&isQ b)=true):
  bh Ze (fl Zc []) 9 9 [sv a,sv b] 1 Tryz.f34 true (sv (qb (nU a b))):=
 wy [af h1] 1
noncomputable def tv (a b:AT):AT:=qb (nU a b)
def Zf:=IN 34 [.str, .str] [.str] true (fun d=>isQ d.1&&isQ d.2.1) fun d=>(tv d.1 d.2.1,())
end
set_option maxHeartbeats 1000000
noncomputable section
def asV:bC prog (bF EL):=cK (aP Xx (aP Yj (aP PG (aP Yk dQ))))
def asW (a:AT):Holds prog true 28 [sv a,iv 8] (bv (xD a)):=by
 have hS:=asV;refine bL (c:=EK) func28 rfl rfl fun w F=> ?_
 unfold xD;by_cases h1:a.size<=18
 .rw [az h1,Bool.true_and];have z9:a.size<=1000000000:=by omega
  by_cases h2:ckR a=0
  .rw [az h2,Bool.true_and];by_cases h3:(qb (ot a)).size<=8
   .rw [az h3,Bool.true_and];have key:=asQ a ω z9 h2 ω rfl;rw [show decide (((kR a).size:Int)<=8)=decide ((kR a).size<=8)from decide_eq_decide.2 ω]at key;exact bw hS 9 key
   .rw [ab h3];exact bw hS 9 (asR a ω z9 h2 ω)
  .rw [ab h2];exact bw hS 9 (asS a ω z9 h2)
 .rw [ab h1];exact bw hS 9 (asT a ω)
def asX:Zd.Ok prog:=fun⟨a,n,_⟩ h=>by
 obtain rfl:n=8:=ap h;exact asW a
def asY:bC prog (bF Ze):=cK (aP PJ (aP PG dQ))
def asZ:Zf.Ok prog:=fun⟨a,b,_⟩ h=>by
 have h:(isQ a&&isQ b)=true:=h;show Holds prog true 34 [sv a,sv b] (sv (tv a b));refine bL (c:=Zc) func34 rfl rfl fun w F=> ?_
 exact bw asY 9 (asU a b h)
def IQ (r:Rat):qb (textQ r)=textQ (rI r):=by
 unfold qb rI;rw [Iy];by_cases h:r<0
 .rw [if_pos h,if_pos h,if_pos δ,Yr (y9.2 h)]
 .rw [if_neg h,if_neg h,if_neg (by split<;>decide)]
def Qe (n:Int) (h:0<=n):(textQ (n:Rat)).size=(Lib.decDigits n.natAbs).length:=by
 rw [cP,vC,zP (Rat.den_intCast _),List.append_nil,Rat.num_intCast,rE,ab ω];rfl
def Zg (n:Int):rI (n:Rat)=((n.natAbs:Int):Rat):=by
 have h:=IM (a:=n) (b:=1) δ;rw [IL,IL]at h;exact h
def Zh:∀(n:Nat) (u:Nat),1<=n->u<10^n->(Lib.decDigits u).length<=n
 |0,u,h,_=>by omega
 |n+1,u,_,h=>by
  by_cases hu:u<10
  .rw [mZ hu];simp
  .rw [s5 hu,cQ,List.length_singleton];have hn:1<=n:=by
    cases n with
    |zero=>simp at h;omega
    |succ n=>omega
   have:=Zh n (u/10) hn (by rw [Nat.pow_succ]at h;omega);omega
def as0 {a:AT} (h:xD a=true):a.size<=18/\ckR a=0/\No (toQ a):=by
 unfold xD at h;rw [ae,ae,ae,bE,bE,bE,bE]at h;obtain⟨h1,h2,h3,h4⟩:=h;have f:=EB (a:=a) ω h2;refine⟨h1,h2, ?_, ?_⟩
 .rw [f.tx,Qc,IQ,Zg,Qe _ ω]at h3;have:=mn 8 _ h3;have e:(10:Nat)^8=100000000:=(by decide);omega
 .rw [f.tx,Qd,Qe _ ω]at h4;have:=mn 8 _ h4;have e:(10:Nat)^8=100000000:=(by decide);omega
def as1:=IN 8 [] [.bool] true (fun d=>true) fun d=>(true,())
end
set_option maxHeartbeats 4000000
noncomputable section
def jt:=k_a Tryz.f5
def zR:=k_a Tryz.f35
def EM:=bc [Yo,OD]
def tA (neg:Bool) (w:List Int) (out i:Int):bD:={n:=62,sl:=[(4, .ptr 64 0),(5,iv out),(6,iv i)],bJ:=[(64, .blk (.cells 97 [bv neg,lv w] true false false))],next:=65}
abbrev Qf:List Nat:=[1,1,1,1,0,1,0,0]
def as2 (s:AT) (h1:s.size<=1000000000) (h2:(zL s)=true) (h3:¬(s.size:Int)>20) (h4:(decide (s.size<=800000)&&bZ (bO s).data.toList)=true) (h5:i6 ((↑(mkR (jq s)).2.length:Int)-1)):
  cZ EM (fl zR []) 6 62 [sv s] 39 .normal m64 (tA (mkR (jq s)).1 (mkR (jq s)).2 0 ((((mkR (jq s)).2.length:Nat):Int)-1)):=
 wy [ah h1,af (bq (cj (h2))),af (cj (h2)),aJ h3,af h4,yi h5] 26736222281857
def as3 (n:Int) (h1:Int.toNat 0<List.length [n]) (h2:i6 (0*1000000000+List.getD [n] (Int.toNat 0) 0)) (h3:(0*1000000000+List.getD [n] (Int.toNat 0) 0)=(0*1000000000+n)):
  bt EM (fl zR Qf) (tA false [n] 0 0) 4515053 .normal m64 (tA false [n] (0*1000000000+n) (-1)):=
 wy [ah h1,yi h2,ax h3] 1122436111965518853100192068098044258086028958502912
def as4 (n:Int) (w:List Int):
  bt EM (fl zR Qf) (tA false w n (-1)) 2 (.exit 0) m64 (tA false w n (-1)):=
 wy [] 0
def as5 (n:Int) (w:List Int):
  bS EM ((fl zR []).drop 7) (tA false w n (-1)) 1 Tryz.f35 true (.tuple [iv n,bv true]):=
 wy [] 0
noncomputable def xE (s:AT):Int:=(toQ s).num
noncomputable def Qg (s:AT):Bool:= @decide (∃n:Int,(1<=n/\n<1000000000)/\s=textQ (n:Rat)) (Classical.propDecidable _)
def Zi:=IN 35 [.str] [.int .i64, .bool] true (fun d=>Qg d.1) fun d=>(xE d.1,true,())
def l9:=bc [as1,Zd,Yc,Yb,XC,EE,PE,PF,arw,Iu,Ir,Zf,Yw,Zi,YY]
abbrev B8:List Nat:=[1,1,1,1,1,0,1,0,0]
abbrev tB:List Nat:=[1,1,1,1,1,0,1,0,0,1,0,0]
section
variable (a:AT)
def fP (c:List AT) (i:Nat):bD:={n:=189,sl:=[(0,sv a),(3,mU c),(7,iv i)],bJ:=[],next:=64}
def B9 (c:List AT) (i:Nat) (d:AT):bD:={n:=189,sl:=[(0,sv a),(3,mU c),(7,iv i),(8,sv d)],bJ:=[],next:=64}
def Qh (c:List AT) (i:Nat) (s:AT):bD:={n:=189,sl:=[(0,sv a),(3,mU c),(7,iv i),(12,sv s)],bJ:=[],next:=64}
def as6 (h1:8=(8:av.den (.int .i64))) (h2:(xD a)=false):
  bh l9 (fl jt []) 8 189 [sv a] 55 Tryz.f5 true (bv true):=
 wy [ah h1,af (cj (h2))] 137439215616
def as7 (h1:8=(8:av.den (.int .i64))) (h2:(xD a)=true) (h3:a.size<=24) (h4:i6 (ckR a+ckR a)) (h5:ckR a+ckR a=0) (h6:¬(↑(lG a).length:Int)=0) (h7:(↑(lG a).length:Int)=(↑(vt a).length:Int)) (h8:(decide ((lG a).length<=1000000)&&List.all (lG a) fun s=>decide (s.size<=1000000000))=true) (h9:p8 (lG a)=0) (h10:(decide ((vt a).length<=1000000)&&List.all (vt a) fun s=>decide (s.size<=1000000000))=true) (h11:p8 (vt a)=0) (h12:i6 ((↑(lG a).length:Int)-1)) (dF:0<=(↑(lG a).length:Int)-1) (gb:((↑(lG a).length:Int)-1).toNat<(lG a).length) (iA:(((lG a).getD ((↑(lG a).length:Int)-1).toNat ByteArray.empty).data).toList=(a.data).toList):
  cZ l9 (fl jt []) 8 189 [sv a] 10732945127 .normal [] (fP a (lG a) 0):=
 wy [ah h1,af (cj (h2)),ah h3,yi h4,af (bq (eR.mpr h5)),af (eR.mpr h5),af (bq (e8.mpr h6)),yn h6,af (bq (eR.mpr h7)),af h8,af (eR.mpr h7),af (bq (eR.mpr h9)),af h10,af (eR.mpr h9),af (bq (eR.mpr h11)),yi h12,ah dF,ah gb,af (eR.mpr h11),af (cj (az iA))] 146915520981690611965872781886320980169549987193737045206644359163033675890688
def as8 (c:List AT) (i:Nat) (h1:(i:Int)<(c.length:Int)):
  cY l9 (fl jt B8) 2 (fP a c i) 3 .normal [] (fP a c i):=
 wy [ah h1] 1
def as9 (c:List AT) (i:Nat) (h1:¬(i:Int)<(c.length:Int)):
  bt l9 (fl jt B8) (fP a c i) 2 (.exit 0) [] (fP a c i):=
 wy [aJ h1] 1
def ata (c:List AT) (i:Nat) (h1:i<c.length) (h2:(isQ a&&isQ (c.getD i ByteArray.empty))=true):
  cY l9 (fl jt tB) 1 (fP a c i) 1 .normal [] (B9 a c i (nU a (c.getD i ByteArray.empty))):=
 wy [ah h1,af h2] 8256
def atb (c:List AT) (i:Nat) (d:AT) (h1:i6 ((c.length:Int)-1)) (h2:(i:Int)<(c.length:Int)-1) (h3:Int.tmod (i:Int) 2=0) (h4:¬iY d<=0) (h5:¬Int.tmod (i:Int) 2=1):
  cY l9 ((fl jt tB).drop 1) 2 (B9 a c i d) 11157503 .normal [] (fP a c i):=
 wy [yi h1,af (aM (az h2)),af (aM (fU.mpr h3)),cX h3,af (bq (ab h4)),af (aM (e8.mpr h5)),yn h5,aJ h4,ah h2] 13024370639309347752798353451459405286339518593
def atc (c:List AT) (i:Nat) (d:AT) (h1:i6 ((c.length:Int)-1)) (h2:(i:Int)<(c.length:Int)-1) (h3:¬Int.tmod (i:Int) 2=0) (h4:Int.tmod (i:Int) 2=1) (h5:¬iY d>=0):
  cY l9 ((fl jt tB).drop 1) 2 (B9 a c i d) 11533967 .normal [] (fP a c i):=
 wy [yi h1,af (aM (az h2)),af (aM (e8.mpr h3)),yn h3,af (aM (fU.mpr h4)),cX h4,ah h2,aJ h5] 740742282086435644686020959834409815741791477889
def atd (c:List AT) (i:Nat) (d:AT) (h1:i6 ((c.length:Int)-1)) (h2:¬(i:Int)<(c.length:Int)-1):
  cY l9 ((fl jt tB).drop 1) 2 (B9 a c i d) 512 .normal [] (fP a c i):=
 wy [yi h1,af (aM (ab h2)),aJ h2] 853360643678337
def ate (c:List AT) (i:Nat) (h1:(i:Int)=0):
  cY l9 ((fl jt tB).drop 3) 2 (fP a c i) 3 (.exit 1) [] (fP a c i):=
 wy [cX h1] 1
def atf (c:List AT) (i:Nat) (h1:¬(i:Int)=0):
  cY l9 ((fl jt tB).drop 3) 2 (fP a c i) 2 .normal [] (fP a c i):=
 wy [yn h1] 1
def atg (c:List AT) (i:Nat) (h1:i6 ((i:Int)-1)) (h2:0<=(i:Int)-1) (h3:((i:Int)-1).toNat<c.length) (h4:(c.getD ((i:Int)-1).toNat ByteArray.empty).size<=1000000000) (h5:i<c.length) (h6:(c.getD i ByteArray.empty).size<=1000000000) (h7:(isQ (ot (c.getD ((i:Int)-1).toNat ByteArray.empty))&&isQ (kR (c.getD i ByteArray.empty)))=true) (h8:(isQ (kR (c.getD ((i:Int)-1).toNat ByteArray.empty))&&isQ (ot (c.getD i ByteArray.empty)))=true) (h9:(isQ (vu (ot (c.getD ((i:Int)-1).toNat ByteArray.empty)) (kR (c.getD i ByteArray.empty)))&&isQ (vu (kR (c.getD ((i:Int)-1).toNat ByteArray.empty)) (ot (c.getD i ByteArray.empty))))=true) (h10:((qb (nU (vu (ot (c.getD ((i:Int)-1).toNat ByteArray.empty)) (kR (c.getD i ByteArray.empty))) (vu (kR (c.getD ((i:Int)-1).toNat ByteArray.empty)) (ot (c.getD i ByteArray.empty))))).data).toList=((ByteArray.mk #[49]).data).toList) (h11:(isQ (c.getD i ByteArray.empty)&&isQ a)=true) (h12:(isQ (c.getD ((i:Int)-1).toNat ByteArray.empty)&&isQ a)=true) (dF:(isQ (tv (c.getD i ByteArray.empty) a)&&isQ (tv (c.getD ((i:Int)-1).toNat ByteArray.empty) a))=true) (gb:¬zM (tv (c.getD i ByteArray.empty) a) (tv (c.getD ((i:Int)-1).toNat ByteArray.empty) a)>=0):
  cY l9 ((fl jt tB).drop 5) 3 (fP a c i) 163839 .normal [] (Qh a c i (kR (c.getD i ByteArray.empty))):=
 wy [yi h1,ah h2,ah h3,af (aF (v:=aa.raw (Value.string (c.getD ((i:Int)-(1:Int)).toNat ByteArray.empty)))),ah h4,ah h5,af (aF (v:=aa.raw (Value.string (c.getD i ByteArray.empty)))),ah h6,af h7,af h8,af h9,af (bq (cj (az h10))),af h11,af h12,af dF,af (cj (az h10)),aJ gb] 37736609712455181625690833247805975877525434401065650736699572251083086486094877119984570059776340097
def ath (c:List AT) (i:Nat) (s:AT) (h1:(Qg s)=true) (h2:¬xE s<1) (h3:¬xE s>999999999) (h4:a.size<=24) (h5:gB a (xE s)=0) (h6:i<c.length) (h7:((EZ a (xE s)).data).toList=((c.getD i ByteArray.empty).data).toList):
  bt l9 ((fl jt tB).drop 8) (Qh a c i s) 40859 .normal [] (fP a c i):=
 wy [af h1,af (bq (ab h2)),aJ h2,aJ h3,ah h4,af (bq (eR.mpr h5)),ah h6,af (eR.mpr h5),af (cj (az h7))] 2961714734176940924837557920858113
def Zj (c:List AT) (i:Nat) (h1:i6 ((i:Int)+1)):
  bt l9 ((fl jt B8).drop 3) (fP a c i) 1 .normal [] (fP a c (i+1)):=
 wy [yi h1] 1
def ati (c:List AT) (i:Nat):
  bS l9 ((fl jt []).drop 9) (fP a c i) 1 Tryz.f5 true (bv true):=
 wy [] 0
end
end
end
end Go.Proofs.YtibikmmdbdlafaaGreatDoor
