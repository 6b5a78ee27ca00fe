import Derived.Test.YtibikmmdbdlafaaGreatDoorZfN0
import Derived.Test.YtibikmmdbdlafaaGreatDoorZfGAw2
set_option linter.defProp false
set_option linter.unusedSimpArgs false
set_option linter.unusedVariables false
set_option maxRecDepth 100000
namespace Go.Proofs.YtibikmmdbdlafaaGreatDoor
open Go.RowKit Sv Go.Proofs.Tryz
section
set_option maxHeartbeats 4000000
noncomputable section
abbrev m64:Sv.Ren:=[(64,64,none)]
end
set_option maxHeartbeats 1000000
noncomputable section
structure By (N D:Nat) (r:Rat):Prop where
 n:r.num.natAbs<=N
 d:r.den<=D
def Yw {a b:Int} {N D:Nat} (hb:1<=b) (h1:a.natAbs<=N) (h2:b<=(D:Int)):By N D (Rat.divInt a b):=by
 have hg:0<Int.gcd a b:=Int.gcd_pos_of_ne_zero_right _ ω;have m1:=Int.ediv_mul_cancel (show(Int.gcd a b:Int)∣a from Int.gcd_dvd_left ..);have m2:=Int.ediv_mul_cancel (show(Int.gcd a b:Int)∣b from Int.gcd_dvd_right ..);have e:Rat.divInt a b=Rat.divInt (a/(Int.gcd a b:Int)) (b/(Int.gcd a b:Int)):=by
  have e3:Rat.divInt a b=Rat.divInt (a/(Int.gcd a b:Int)*(Int.gcd a b:Int)) (b/(Int.gcd a b:Int)*(Int.gcd a b:Int)):=by rw [m1,m2]
  rw [e3];exact Rat.divInt_mul_right (show(Int.gcd a b:Int)≠0 by omega)
 have h0:0<=b/(Int.gcd a b:Int):=Int.ediv_nonneg ω ω;have ju:1<=b/(Int.gcd a b:Int):=by
  by_cases hz:b/(Int.gcd a b:Int)=0
  .rw [hz]at m2;omega
  .omega
 have hc:Int.gcd (a/(Int.gcd a b:Int)) (b/(Int.gcd a b:Int))=1:=by
  have:=Int.gcd_ediv_gcd_ediv_gcd hg;exact this
 obtain⟨c1,c2⟩:=ti ju hc;have l1:(a/(Int.gcd a b:Int)).natAbs<=a.natAbs:=Int.natAbs_ediv_le_natAbs ..;have l2:b/(Int.gcd a b:Int)<=b:=Int.ediv_le_self _ ω;rw [e];exact⟨by rw [c1];omega,by omega⟩
def ars {N D M E:Nat} {r s:Rat} (h:By N D r) (g:By M E s):By (N*M) (D*E) (r*s):=by
 have e:r*s=Rat.divInt (r.num*s.num) (r.den*s.den):=by rw [<-Rat.divInt_mul_divInt,Rat.num_divInt_den,Rat.num_divInt_den]
 rw [e];have p:=Nat.mul_le_mul h.n g.n;have q:=Nat.mul_le_mul h.d g.d;have p1:=Nat.mul_pos r.den_pos s.den_pos;refine Yw (by rw [<-Int.natCast_mul];omega) (by rw [Int.natAbs_mul];exact p) (by rw [<-Int.natCast_mul];omega)
def art {n:Int} {N:Nat} (h:n.natAbs<=N):By N 1 (n:Rat):=⟨by rw [Rat.num_intCast];exact h,by rw [Rat.den_intCast];exact aJ 1⟩
def aru {N D k:Nat} {r:Rat} (h:By N D r) (h1:N<1000000000^k) (h2:D<1000000000^k):fX k r:=by
 have e:((1000000000^k:Nat):Int)=1000000000^k:=by rw [Int.natCast_pow];rfl
 have:=h.n;have:=h.d;exact⟨by rw [<-e];omega,by rw [<-e];omega⟩
end
set_option maxHeartbeats 4000000
noncomputable section
def PD:=k_a Tryz.f151
def m6:=k_a Tryz.f90
def PE:=a8 [AL]
noncomputable def p4 (a b:aC):Int×List Int:=if fH b a<0 then b else a
section
variable (a b:aC) (h1:(aV 50000 b&&aV 50000 a)=true)
def arv (h2:fH b a<0):
  bf PE (fl PD []) 9 11 [aB a,aB b] 3 Tryz.f151 false (aB b):=
 wy [aa h1,ah h2] 129
def arw (h2:¬fH b a<0):
  bf PE (fl PD []) 9 11 [aB a,aB b] 2 Tryz.f151 false (aB a):=
 wy [aa h1,aK h2] 129
end
def Yx:=IN 151 [dF,dF] [dF] false (fun d=>aV 50000 d.1&&aV 50000 d.2.1) fun d=>(p4 d.1 d.2.1,())
def p5:=a8 [AL,NJ,ri,wu,yq,Dd,DG,GZ,Yx]
abbrev Im:List Nat:=[1,1,1,1,0,0,0]
abbrev zi:List Nat:=[1,1,1,1,0,0,0,1,0]
abbrev Io:Sv.Ren:=[(64,64,none),(65,65,none),(66,66,none),(67,67,none),(68,68,none),(69,69,none),(70,70,none),(71,71,none)]
abbrev PF:Sv.Ren:=[(64,64,none),(65,65,none),(66,66,none),(67,67,none),(68,68,none),(69,69,none),(70,70,none),(71,71,none),(72,72,none)]
abbrev arx:Sv.Ren:=[(64,64,none),(65,65,none),(66,66,none),(67,67,none),(68,68,none),(69,69,none),(70,70,none),(71,71,none),(72,73,none)]
abbrev ary:Sv.Ren:=[(64,64,none),(65,65,none),(66,66,none),(67,67,none),(68,68,none),(69,69,none),(70,70,none),(71,71,none),(72,72,none),(73,73,none)]
noncomputable def mR (x y:aC):Int×List Int:=dW (ce x y).1 (ce x y).2
noncomputable def oL (a:bO) (p q:aC):Int×List Int:=cx (ba a.1 q) (ba p a.2)
noncomputable def oM (a:bO) (r s:aC):Int×List Int:=cx (ba r a.2) (ba a.1 s)
noncomputable def ry (x m q s:aC):Int×List Int:=p4 x (fx (cx m q) s)
noncomputable def c8 (p k r:aC):Int×List Int:=cu p (ba k r)
section
variable (a:bO)
def oN (m p q r s:aC):bH:={n:=113,sl:=[(2, .ptr 64 0),(3, .ptr 65 0),(4, .ptr 66 0),(5, .ptr 67 0),(6, .ptr 68 0),(7, .ptr 69 0),(8, .ptr 70 0),(9, .ptr 71 0)],bJ:=[(64,Hz a),(65,eR m),(66,uG),(67,uG),(68,eR p),(69,eR q),(70,eR r),(71,eR s)],next:=72}
def PG (m p q r s u:aC):bH:={n:=113,sl:=[(2, .ptr 64 0),(3, .ptr 65 0),(4, .ptr 66 0),(5, .ptr 67 0),(6, .ptr 68 0),(7, .ptr 69 0),(8, .ptr 70 0),(9, .ptr 71 0),(10, .ptr 72 0)],bJ:=[(64,Hz a),(65,eR m),(66,uG),(67,uG),(68,eR p),(69,eR q),(70,eR r),(71,eR s),(72,eR u)],next:=73}
def oO (m p q r s k:aC):bH:={n:=113,sl:=[(2, .ptr 64 0),(3, .ptr 65 0),(4, .ptr 66 0),(5, .ptr 67 0),(6, .ptr 68 0),(7, .ptr 69 0),(8, .ptr 70 0),(9, .ptr 71 0),(11, .ptr 72 0)],bJ:=[(64,Hz a),(65,eR m),(66,uG),(67,uG),(68,eR p),(69,eR q),(70,eR r),(71,eR s),(72,eR k)],next:=73}
def PI (m p q r s k d:aC):bH:={n:=113,sl:=[(2, .ptr 64 0),(3, .ptr 65 0),(4, .ptr 66 0),(5, .ptr 67 0),(6, .ptr 68 0),(7, .ptr 69 0),(8, .ptr 70 0),(9, .ptr 71 0),(11, .ptr 72 0),(12, .ptr 73 0)],bJ:=[(64,Hz a),(65,eR m),(66,uG),(67,uG),(68,eR p),(69,eR q),(70,eR r),(71,eR s),(72,eR k),(73,eR d)],next:=74}
def arz (m:aC) (h1:(aV 50000 a.2&&aV 50000 m)=true) (h2:fH a.2 m<=0):
  bf p5 (fl m6 []) 3 113 [bM a,aB m] 3 Tryz.f90 false (.tuple [bM a,bM a]):=
 wy [aa h1,ah h2,aa (aF (v:=bM a))] 51130497
def arA (m:aC) (h1:(aV 50000 a.2&&aV 50000 m)=true) (h2:¬fH a.2 m<=0) (h3:(nA a.1 a.2)=true) (h4:(az (dW a.1 a.2)&&az (aT 1))=true):
  dy p5 (fl m6 []) 5 113 [bM a,aB m] 2 .normal Io (oN a m (dW a.1 a.2) (aT 1) (cu (dW a.1 a.2) (aT 1)) (aT 1)):=
 wy [aa h1,aK h2,aa h3,aa (aF (v:=aB (dW a.1 a.2))),aa h4] 22265177583745
def arB (m p q r s:aC) (h1:(az q&&az s)=true) (h2:(aV 50000 (cu q s)&&aV 50000 m)=true) (h3:fH (cu q s) m<=0):
  cV p5 (fl m6 Im) 2 (oN a m p q r s) 3 .normal Io (oN a m p q r s):=
 wy [aa (aF (v:=aB q)),aa (aF (v:=aB s)),aa h1,aa (aF (v:=aB m)),aa h2,ah h3] 417753739393
def arC (m p q r s:aC) (h1:(az q&&az s)=true) (h2:(aV 50000 (cu q s)&&aV 50000 m)=true) (h3:¬fH (cu q s) m<=0):
  cV p5 (fl m6 Im) 2 (oN a m p q r s) 2 (.exit 0) Io (oN a m p q r s):=
 wy [aa (aF (v:=aB q)),aa (aF (v:=aB s)),aa h1,aa (aF (v:=aB m)),aa h2,aK h3] 417753739393
def arD (m p q r s:aC) (h1:(az a.1&&az q)=true) (h2:(az p&&az a.2)=true) (h3:(az (ba a.1 q)&&az (ba p a.2))=true) (h4:(az r&&az a.2)=true) (h5:(az a.1&&az s)=true) (h6:(az (ba r a.2)&&az (ba a.1 s))=true) (h7:(fu (cx (ba a.1 q) (ba p a.2)) (cx (ba r a.2) (ba a.1 s)))=true) (h8:(nA (ce (cx (ba a.1 q) (ba p a.2)) (cx (ba r a.2) (ba a.1 s))).1 (ce (cx (ba a.1 q) (ba p a.2)) (cx (ba r a.2) (ba a.1 s))).2)=true) (h9:(dW (ce (cx (ba a.1 q) (ba p a.2)) (cx (ba r a.2) (ba a.1 s))).1 (ce (cx (ba a.1 q) (ba p a.2)) (cx (ba r a.2) (ba a.1 s))).2).1=(mR (oL a p q) (oM a r s)).1) (h10:(dW (ce (cx (ba a.1 q) (ba p a.2)) (cx (ba r a.2) (ba a.1 s))).1 (ce (cx (ba a.1 q) (ba p a.2)) (cx (ba r a.2) (ba a.1 s))).2).2=(mR (oL a p q) (oM a r s)).2):
  cV p5 (fl m6 zi) 1 (oN a m p q r s) 1 .normal PF (PG a m p q r s (mR (oL a p q) (oM a r s))):=
 wy [aa (aF (v:=aB a.1)),aa (aF (v:=aB q)),aa h1,aa (aF (v:=aB p)),aa (aF (v:=aB a.2)),aa h2,aa h3,aa (aF (v:=aB r)),aa h4,aa (aF (v:=aB s)),aa h5,aa h6,aa h7,aa h8,ax h9,ax h10] 639666944344591623461842541625768980366841392218962485749974469064516177003191229169035483875847644331129080032276609
def arE (m p q r s u:aC) (h1:(az m&&az q)=true) (h2:(fu (cx m q) s)=true) (h3:(aV 50000 u&&aV 50000 (fx (cx m q) s))=true) (h4:(p4 u (fx (cx m q) s)).1=(ry u m q s).1) (h5:(p4 u (fx (cx m q) s)).2=(ry u m q s).2):
  cV p5 ((fl m6 zi).drop 1) 1 (PG a m p q r s u) 1 .normal arx (oO a m p q r s (ry u m q s)):=
 wy [aa (aF (v:=aB u)),aa (aF (v:=aB m)),aa (aF (v:=aB q)),aa h1,aa (aF (v:=aB s)),aa h2,aa h3,ax h4,ax h5] 66037675893156892702505327387767322447568038129623134178753279788514762829953
def arF (m p q r s k:aC) (h1:(az k&&az r)=true) (h2:(az p&&az (ba k r))=true) (h3:(az k&&az s)=true) (h4:(az q&&az (ba k s))=true) (h5:(cu p (ba k r)).1=(c8 p k r).1) (h6:(cu p (ba k r)).2=(c8 p k r).2) (h7:(cu q (ba k s)).1=(c8 q k s).1) (h8:(cu q (ba k s)).2=(c8 q k s).2):
  cV p5 ((fl m6 zi).drop 2) 1 (oO a m p q r s k) 1 .normal PF (oO a m (c8 p k r) (c8 q k s) r s k):=
 wy [aa (aF (v:=aB p)),aa (aF (v:=aB k)),aa (aF (v:=aB r)),aa h1,aa h2,aa (aF (v:=aB q)),aa (aF (v:=aB s)),aa h3,aa h4,ax h5,ax h6,ax h7,ax h8] 390994831108651588800300283751924325317138720935400293312771263119294842880929921
def arG (m p q r s k:aC) (h1:(az r&&az a.2)=true) (h2:(az a.1&&az s)=true) (h3:(az (ba r a.2)&&az (ba a.1 s))=true) (h4:(az a.1&&az q)=true) (h5:(az p&&az a.2)=true) (h6:(az (ba a.1 q)&&az (ba p a.2))=true) (h7:(fu (cx (ba r a.2) (ba a.1 s)) (cx (ba a.1 q) (ba p a.2)))=true) (h8:(nA (ce (cx (ba r a.2) (ba a.1 s)) (cx (ba a.1 q) (ba p a.2))).1 (ce (cx (ba r a.2) (ba a.1 s)) (cx (ba a.1 q) (ba p a.2))).2)=true) (h9:(dW (ce (cx (ba r a.2) (ba a.1 s)) (cx (ba a.1 q) (ba p a.2))).1 (ce (cx (ba r a.2) (ba a.1 s)) (cx (ba a.1 q) (ba p a.2))).2).1=(mR (oM a r s) (oL a p q)).1) (h10:(dW (ce (cx (ba r a.2) (ba a.1 s)) (cx (ba a.1 q) (ba p a.2))).1 (ce (cx (ba r a.2) (ba a.1 s)) (cx (ba a.1 q) (ba p a.2))).2).2=(mR (oM a r s) (oL a p q)).2):
  cV p5 ((fl m6 zi).drop 3) 1 (oO a m p q r s k) 1 .normal ary (PI a m p q r s k (mR (oM a r s) (oL a p q))):=
 wy [aa (aF (v:=aB r)),aa (aF (v:=aB a.2)),aa h1,aa (aF (v:=aB a.1)),aa (aF (v:=aB s)),aa h2,aa h3,aa (aF (v:=aB q)),aa h4,aa (aF (v:=aB p)),aa h5,aa h6,aa h7,aa h8,ax h9,ax h10] 167684851458268626540781251231945583589285269921847701864440941966751634871745841778890962961397508228080074304330795069569
def arH (m p q r s k d:aC) (h1:(az m&&az s)=true) (h2:(fu (cx m s) q)=true) (h3:(aV 50000 d&&aV 50000 (fx (cx m s) q))=true) (h4:(p4 d (fx (cx m s) q)).1=(ry d m s q).1) (h5:(p4 d (fx (cx m s) q)).2=(ry d m s q).2):
  cV p5 ((fl m6 zi).drop 4) 1 (PI a m p q r s k d) 1 .normal PF (oO a m p q r s (ry d m s q)):=
 wy [aa (aF (v:=aB d)),aa (aF (v:=aB m)),aa (aF (v:=aB s)),aa h1,aa (aF (v:=aB q)),aa h2,aa h3,ax h4,ax h5] 66037675893156892702505327387767322447568038129623134178753279788514762829953
def arI (m p q r s k:aC) (h1:(az k&&az p)=true) (h2:(az r&&az (ba k p))=true) (h3:(az k&&az q)=true) (h4:(az s&&az (ba k q))=true) (h5:(cu r (ba k p)).1=(c8 r k p).1) (h6:(cu r (ba k p)).2=(c8 r k p).2) (h7:(cu s (ba k q)).1=(c8 s k q).1) (h8:(cu s (ba k q)).2=(c8 s k q).2):
  bB p5 ((fl m6 zi).drop 5) (oO a m p q r s k) 1 .normal Io (oN a m p q (c8 r k p) (c8 s k q)):=
 wy [aa (aF (v:=aB r)),aa (aF (v:=aB k)),aa (aF (v:=aB p)),aa h1,aa h2,aa (aF (v:=aB s)),aa (aF (v:=aB q)),aa h3,aa h4,ax h5,ax h6,ax h7,ax h8] 102496949006146362094465917583864450335936012860877484237011324480897095043912517562497
def arJ (m p q r s:aC) (h1:(fu p q)=true) (h2:(fu r s)=true):
  bW p5 ((fl m6 []).drop 6) (oN a m p q r s) 1 Tryz.f90 false (.tuple [bM (ce p q),bM (ce r s)]):=
 wy [aa (aF (v:=aB p)),aa (aF (v:=aB q)),aa h1,aa (aF (v:=aB r)),aa (aF (v:=aB s)),aa h2] 26737313329281
noncomputable def ga (m p q r s:aC):Int×List Int:=ry (mR (oL a p q) (oM a r s)) m q s
noncomputable def ic (m p q r s:aC):Int×List Int:=ry (mR (oM a r s) (oL a p q)) m s q
end
noncomputable def s4 (a:bO) (m:aC):Nat->(aC×aC)×(aC×aC)->bO×bO
 |0,x=>(ce x.1.1 x.1.2,ce x.2.1 x.2.2)
 |n+1,x=>if fH (cu x.1.2 x.2.2) m<=0 then
   s4 a m n ((c8 x.1.1 (ga a m x.1.1 x.1.2 x.2.1 x.2.2) x.2.1,c8 x.1.2 (ga a m x.1.1 x.1.2 x.2.1 x.2.2) x.2.2),
    (c8 x.2.1 (ic a m (c8 x.1.1 (ga a m x.1.1 x.1.2 x.2.1 x.2.2) x.2.1) (c8 x.1.2 (ga a m x.1.1 x.1.2 x.2.1 x.2.2) x.2.2) x.2.1 x.2.2) (c8 x.1.1 (ga a m x.1.1 x.1.2 x.2.1 x.2.2) x.2.1),
     c8 x.2.2 (ic a m (c8 x.1.1 (ga a m x.1.1 x.1.2 x.2.1 x.2.2) x.2.1) (c8 x.1.2 (ga a m x.1.1 x.1.2 x.2.1 x.2.2) x.2.2) x.2.1 x.2.2) (c8 x.1.2 (ga a m x.1.1 x.1.2 x.2.1 x.2.2) x.2.2)))
  else(ce x.1.1 x.1.2,ce x.2.1 x.2.2)
noncomputable def bx (a:bO) (m:aC):((Int×List Int)×(Int×List Int))×((Int×List Int)×(Int×List Int)):=if fH a.2 m<=0 then(a,a)else s4 a m (aj m).toNat ((dW a.1 a.2,aT 1),(cu (dW a.1 a.2) (aT 1),aT 1))
noncomputable def p6 (a:bO) (m:aC):Bool:=lq 2 a&&(aV 1 m&&(decide (1<=aj m)&&decide (aj m<=1000000000)))
def Ip:=IN 90 [fV,dF] [fV,fV] false (fun d=>p6 d.1 d.2.1) fun d=>((bx d.1 d.2.1).1,(bx d.1 d.2.1).2,())
end
set_option maxHeartbeats 1000000
noncomputable section
def mu {x y:Int} {X Y:Nat} (h:x.natAbs<=X) (g:y.natAbs<=Y):(x*y).natAbs<=X*Y:=by
 rw [Int.natAbs_mul];exact Nat.mul_le_mul h g
def Eh {n:Nat} {a b:aC} (h:((aj a*aj b).natAbs:Int)<18446744073709551616^n):aV n (ba a b)=true/\aj (ba a b)=aj a*aj b:=by
 unfold ba;exact jC h
def PJ {n:Nat} {a b:aC} (h:((aj a-aj b).natAbs:Int)<18446744073709551616^n):aV n (cx a b)=true:=by
 unfold cx;refine uk ?_;rw [nu];rw [show aj a+ -aj b=aj a-aj b by omega];exact h
def arK (a b:aC):aj (p4 a b)=if aj b<aj a then aj b else aj a:=by
 unfold p4 fH j6;by_cases h:aj b<aj a
 .rw [if_pos h,if_pos (by split<;>(try split)<;>omega)]
 .rw [if_neg h,if_neg (by split<;>(try split)<;>omega)]
def arL {n:Nat} {a b:aC} (h:aV n a=true) (g:aV n b=true):aV n (p4 a b)=true:=by
 unfold p4;split<;>assumption
def arM {n:Nat} {x y:aC} (h:aV n x=true) (g:aV n y=true) (hn:1<=n) (hy:0<aj y):aV n (mR x y)=true/\aj (mR x y)=aj x/aj y/\aV n (ce x y).1=true/\aV n (ce x y).2=true/\0<aj (ce x y).2:=by
 have q:=DH h g hn ω;refine⟨pc q.o1 q.o2 q.pos hn, ?_,q.o1,q.o2,q.pos⟩;show aj (dW _ _)=_;rw [A4 q.o1 q.o2 q.pos];have e1:=Int.mul_ediv_mul_of_pos_left (aj (ce x y).1) (aj (ce x y).2) hy;have e2:=Int.mul_ediv_mul_of_pos_left (aj x) (aj y) q.pos;rw [<-e1,<-e2,q.val,Int.mul_comm (aj y)]
def arN {n:Nat} {a b:aC} (h:aV n a=true) (g:aV n b=true) (hn:1<=n) (hb:0<aj b):aV n (fx a b)=true/\aj (fx a b)=aj a/aj b:=by
 refine⟨M7 h g hn ω, ?_⟩;unfold fx;rw [if_neg ω];exact A4 h g hb
def tn {x y m q s:aC} (hx:aV 5 x=true) (hy:aV 5 y=true) (x0:0<aj x) (y0:0<aj y) (e8:aV 1 m=true) (lu:aV 3 q=true) (os:aV 3 s=true) (hs:1<=aj s) (hq:1<=aj q) (dY:aj q<=aj m) (hM2:aj m<=1000000000):
  aj (ry (mR x y) m q s)=kE (aj x) (aj y) (aj m-aj q) (aj s)/\aV 5 (ry (mR x y) m q s)=true/\(az m&&az q)=true/\fu (cx m q) s=true/\(aV 50000 (mR x y)&&aV 50000 (fx (cx m q) s))=true/\fu x y=true/\nA (ce x y).1 (ce x y).2=true:=by
 obtain⟨f1,f2,f3,f4,f5⟩:=arM hx hy δ y0;have Yy:aV 3 (cx m q)=true:=PJ (by
  have e:(18446744073709551616:Int)^3=6277101735386680763835789423207666416102355444464034512896:=by decide
  omega)
 obtain⟨g1,g2⟩:=arN Yy os δ ω;rw [val_sub]at g2;refine⟨?_,arL f1 (bc δ g1),bN (bc δ e8) (bc δ lu), ?_,bN (bc δ f1) (bc δ g1), ?_,A5.2 ⟨bc δ f3,bc δ f4,f5⟩⟩
 .unfold ry;rw [arK,f2,g2];rfl
 .unfold fu;exact bN (bN (bc δ Yy) (bc δ os)) (by rw [eN.2 (show aj s≠0 by omega)];rfl)
 .unfold fu;exact bN (bN (bc δ hx) (bc δ hy)) (by rw [eN.2 (show aj y≠0 by omega)];rfl)
structure Bz (a:bO) (m:aC) (N D M:Int):Prop where
 o1:aV 2 a.1=true
 o2:aV 2 a.2=true
 e8:aV 1 m=true
 Iq:aj a.1=N
 vd:aj a.2=D
 vm:aj m=M
 dY:1<=M
 hM2:M<=1000000000
 hD:M<D
 hg:Int.gcd N D=1
 rz:N.natAbs<340282366920938463463374607431768211456
 bd:D<340282366920938463463374607431768211456
structure uW (N D M:Int) (p q r s:aC):Prop where
 op:aV 3 p=true
 lu:aV 3 q=true
 or:aV 3 r=true
 os:aV 3 s=true
 nb:mQ N D M (aj p) (aj q) (aj r) (aj s)
abbrev mS:Nat:=340282366920938463463374607431768211456
def Ei {N D M p q r s:Int} (h:mQ N D M p q r s) (hD:M<D) (dY:1<=M) (hM2:M<=1000000000) (rz:N.natAbs<mS):p.natAbs<=340282366920938463463374607431768211457000000000/\r.natAbs<=340282366920938463463374607431768211457000000000/\q.natAbs<=1000000000/\s.natAbs<=1000000000:=by
 obtain⟨f1,f2⟩:=Pz h ω;have hq:=h.q1;have hs:=h.s1;have oJ:=h.oJ;have oK:=h.oK;have nB:=h.nB;have br:=h.br;have hf:=Int.natAbs_ediv_le_natAbs N D;have c1:=mu (x:=N/D) (y:=q) (X:=mS) (Y:=1000000000) ω ω;have c2:=mu (x:=N/D+1) (y:=q) (X:=mS+1) (Y:=1000000000) ω ω;have c3:=mu (x:=N/D) (y:=s) (X:=mS) (Y:=1000000000) ω ω;have c4:=mu (x:=N/D+1) (y:=s) (X:=mS+1) (Y:=1000000000) ω ω;have e1:mS*1000000000=340282366920938463463374607431768211456000000000:=by decide
 have e2:(mS+1)*1000000000=340282366920938463463374607431768211457000000000:=by decide
 rw [e1]at c1 c3;rw [e2]at c2 c4;omega
def PK:(18446744073709551616:Int)^3=6277101735386680763835789423207666416102355444464034512896:=by decide
def arO:(18446744073709551616:Int)^5=2135987035920910082395021706169552114602704522356652769947041607822219725780640550022962086936576:=by decide
end
set_option maxHeartbeats 1000000
noncomputable section
def Ir {a:bO} {m p q r s:aC} {N D M:Int} (C:Bz a m N D M) (O:uW N D M p q r s):
  ((aV 5 (ba a.1 q)=true/\aV 5 (ba p a.2)=true)/\aV 5 (oL a p q)=true/\aj (oL a p q)=N*aj q-aj p*D)/\
  (aV 5 (ba r a.2)=true/\aV 5 (ba a.1 s)=true)/\aV 5 (oM a r s)=true/\aj (oM a r s)=aj r*D-N*aj s:=by
 obtain⟨b1,b2,b3,b4⟩:=Ei O.nb C.hD C.dY C.hM2 C.rz;have rz:=C.rz;have bd:=C.bd;have hD:=C.hD;have dY:=C.dY;have j3:=arO;have Yz:N.natAbs<=mS:=Nat.le_of_lt rz;have zd:D.natAbs<=mS:=by show D.natAbs<=340282366920938463463374607431768211456;omega
 have c1:=mu (x:=N) (y:=aj q) (X:=mS) (Y:=1000000000) Yz b3;have c2:=mu (x:=aj p) (y:=D) (X:=340282366920938463463374607431768211457000000000) (Y:=mS) b1 zd;have c3:=mu (x:=aj r) (y:=D) (X:=340282366920938463463374607431768211457000000000) (Y:=mS) b2 zd;have c4:=mu (x:=N) (y:=aj s) (X:=mS) (Y:=1000000000) Yz b4;have dx:mS*1000000000=340282366920938463463374607431768211456000000000:=by decide
 have z2:340282366920938463463374607431768211457000000000*mS=115792089237316195423570985008687907853610267032561502502920958615344897851392000000000:=by decide
 rw [dx]at c1 c4;rw [z2]at c2 c3;obtain⟨m1,v1⟩:=Eh (n:=5) (a:=a.1) (b:=q) (by rw [C.Iq,j3];omega);obtain⟨m2,v2⟩:=Eh (n:=5) (a:=p) (b:=a.2) (by rw [C.vd,j3];omega);obtain⟨m3,v3⟩:=Eh (n:=5) (a:=r) (b:=a.2) (by rw [C.vd,j3];omega);obtain⟨m4,v4⟩:=Eh (n:=5) (a:=a.1) (b:=s) (by rw [C.Iq,j3];omega);rw [C.Iq]at v1 v4;rw [C.vd]at v2 v3;refine⟨⟨⟨m1,m2⟩,PJ (by rw [v1,v2,j3];omega), ?_⟩,⟨m3,m4⟩,PJ (by rw [v3,v4,j3];omega), ?_⟩
 .unfold oL;rw [val_sub,v1,v2]
 .unfold oM;rw [val_sub,v3,v4]
def Is {p k r:aC} {P:Int} (op:aV 3 p=true) (or:aV 3 r=true) (ok:aV 5 k=true) (e:aj p+aj k*aj r=P) (h1:(aj p).natAbs<=340282366920938463463374607431768211457000000000) (h2:P.natAbs<=340282366920938463463374607431768211457000000000):
  aV 3 (c8 p k r)=true/\aj (c8 p k r)=P/\(az k&&az r)=true/\(az p&&az (ba k r))=true:=by
 have e3:=PK;obtain⟨m1,v1⟩:=Eh (n:=3) (a:=k) (b:=r) (by rw [e3];omega);refine⟨uk (by rw [v1,e,e3];omega), ?_,bN (bc δ ok) (bc δ or),bN (bc δ op) (bc δ m1)⟩;unfold c8;rw [si,v1,e]
abbrev p7 (p q r s:aC):ru:=⟨aj p,aj q,aj r,aj s⟩
section
variable {a:bO} {m p q r s:aC} {N D M:Int} (C:Bz a m N D M) (O:uW N D M p q r s)
def YA:
  uW N D M (c8 p (ga a m p q r s) r) (c8 q (ga a m p q r s) s) r s/\p7 (c8 p (ga a m p q r s) r) (c8 q (ga a m p q r s) s) r s=gm N D M (p7 p q r s)/\
  ((az (ga a m p q r s)&&az r)=true/\(az p&&az (ba (ga a m p q r s) r))=true)/\((az (ga a m p q r s)&&az s)=true/\(az q&&az (ba (ga a m p q r s) s))=true):=by
 obtain⟨⟨_,p1,p2⟩,_,r1,r2⟩:=Ir C O;have hM2:=C.hM2;obtain⟨k1,k2,_⟩:=tn (m:=m) (q:=q) (s:=s) p1 r1 (by rw [p2];exact O.nb.lo) (by rw [r2];exact O.nb.hi) C.e8 O.lu O.os O.nb.s1 O.nb.q1 (by rw [C.vm];exact O.nb.oJ) (by rw [C.vm];exact hM2);rw [p2,r2,C.vm]at k1;have hA:=Yg (x:=p7 p q r s) O.nb C.dY C.hD C.hg;obtain⟨b1,b2,b3,b4⟩:=Ei O.nb C.hD C.dY hM2 C.rz;obtain⟨d1,d2,d3,d4⟩:=Ei hA C.hD C.dY hM2 C.rz;obtain⟨m1,m2,m3,m4⟩:=Is (k:=ga a m p q r s) (P:=(gm N D M (p7 p q r s)).p) O.op O.or k2 (by unfold ga;rw [k1];rfl) b1 d1;obtain⟨n1,n2,n3,sw⟩:=Is (k:=ga a m p q r s) (P:=(gm N D M (p7 p q r s)).q) O.lu O.os k2 (by unfold ga;rw [k1];rfl) ω ω;refine⟨⟨m1,n1,O.or,O.os, ?_⟩, ?_,⟨m3,m4⟩,n3,sw⟩
 .rw [m2,n2];exact hA
 .show ru.mk _ _ _ _=_;rw [m2,n2];rfl
def YB:
  uW N D M p q (c8 r (ic a m p q r s) p) (c8 s (ic a m p q r s) q)/\p7 p q (c8 r (ic a m p q r s) p) (c8 s (ic a m p q r s) q)=wZ N D M (p7 p q r s)/\
  ((az (ic a m p q r s)&&az p)=true/\(az r&&az (ba (ic a m p q r s) p))=true)/\((az (ic a m p q r s)&&az q)=true/\(az s&&az (ba (ic a m p q r s) q))=true):=by
 obtain⟨⟨_,p1,p2⟩,_,r1,r2⟩:=Ir C O;have hM2:=C.hM2;obtain⟨k1,k2,_⟩:=tn (m:=m) (q:=s) (s:=q) r1 p1 (by rw [r2];exact O.nb.hi) (by rw [p2];exact O.nb.lo) C.e8 O.os O.lu O.nb.q1 O.nb.s1 (by rw [C.vm];exact O.nb.oK) (by rw [C.vm];exact hM2);rw [p2,r2,C.vm]at k1;have hB:=aq4 (x:=p7 p q r s) O.nb C.dY C.hD C.hg;obtain⟨b1,b2,b3,b4⟩:=Ei O.nb C.hD C.dY hM2 C.rz;obtain⟨d1,d2,d3,d4⟩:=Ei hB C.hD C.dY hM2 C.rz;obtain⟨m1,m2,m3,m4⟩:=Is (k:=ic a m p q r s) (P:=(wZ N D M (p7 p q r s)).r) O.or O.op k2 (by unfold ic;rw [k1];rfl) b2 d2;obtain⟨n1,n2,n3,sw⟩:=Is (k:=ic a m p q r s) (P:=(wZ N D M (p7 p q r s)).s) O.os O.lu k2 (by unfold ic;rw [k1];rfl) ω ω;refine⟨⟨O.op,O.lu,m1,n1, ?_⟩, ?_,⟨m3,m4⟩,n3,sw⟩
 .rw [m2,n2];exact hB
 .show ru.mk _ _ _ _=_;rw [m2,n2];rfl
end
def BA {a b:aC}:fH a b<=0↔aj a<=aj b:=by
 unfold fH j6;constructor
 .intro h;split at h
  .omega
  .split at h<;>omega
 .intro h;split
  .omega
  .split<;>omega
def YC {a:bO} {m:aC} {N D M:Int} (C:Bz a m N D M):uW N D M (dW a.1 a.2) (aT 1) (cu (dW a.1 a.2) (aT 1)) (aT 1):=by
 have hD:=C.hD;have dY:=C.dY;have hd:0<aj a.2:=by rw [C.vd];omega
 have v:=A4 C.o1 C.o2 hd;have o:=pc C.o1 C.o2 hd δ;rw [C.Iq,C.vd]at v;have e1:aj (aT 1)=1:=tg 1;have hf:=Int.natAbs_ediv_le_natAbs N D;have rz:=C.rz;have e3:=PK;refine⟨bc δ o,N7 δ,uk (by rw [v,e1,e3];omega),N7 δ, ?_⟩;rw [si,v,e1];exact aq1 dY hD C.hg
end
set_option maxHeartbeats 1000000
noncomputable section
def YD:bD prog (bF PE):=cM fun c hc=>by
 rw [List.mem_singleton.1 hc];exact mc
def arP:Yx.Ok prog:=fun⟨a,b,_⟩ h=>by
 have h:(aV 50000 a&&aV 50000 b)=true:=h;rw [ae]at h;show Holds prog false 151 [aB a,aB b] (aB (p4 a b));refine bL (c:=PD) func151 rfl rfl fun w F=> ?_
 unfold p4;by_cases hc:fH b a<0
 .rw [if_pos hc];exact bg YD 9 (arv a b (bN h.2 h.1) hc)
 .rw [if_neg hc];exact bg YD 9 (arw a b (bN h.2 h.1) hc)
def arQ:bD prog (bF p5):=cM (aP mc (aP FSz (aP uH (aP i8 (aP AK (aP Gw (aP pC (aP M6 (aP arP dV)))))))))
def YE {a:bO} {m:aC} {r:Rat} (h:QR 2 a r) (e8:aV 1 m=true) (h1:1<=aj m) (h2:aj m<=1000000000) (hD:aj m<r.den):Bz a m r.num r.den (aj m):=by
 obtain⟨l1,l2⟩:=aqy h δ;have e:(18446744073709551616:Int)^2=340282366920938463463374607431768211456:=by decide
 exact⟨h.o1,h.o2,e8,h.num,h.den,rfl,h1,h2,hD,r.reduced,by omega,by omega⟩
def arR {a:bO} {m:aC} {ef:Rat} (h:QR 2 a ef) (e8:aV 1 m=true) (h1:1<=aj m) (h2:aj m<=1000000000):Holds prog false 90 [bM a,aB m] (.tuple [bM (bx a m).1,bM (bx a m).2]):=by
 have hS:=arQ;have k1:(aV 50000 a.2&&aV 50000 m)=true:=bN (bc δ h.o2) (bc δ e8);refine bL (c:=m6) func90 rfl rfl fun w F=> ?_
 by_cases hc:fH a.2 m<=0
 .have e:bx a m=(a,a):=by unfold bx;rw [if_pos hc]
  rw [e];exact bg hS 3 (arz a m k1 hc)
 .have hD:aj m<ef.den:=by
   have:=mt BA.2 hc;rw [h.den]at this;omega
  have C:=YE h e8 h1 h2 hD;have PL:=YC C;have e0:bx a m=s4 a m (aj m).toNat ((dW a.1 a.2,aT 1),(cu (dW a.1 a.2) (aT 1),aT 1)):=by unfold bx;rw [if_neg hc]
  obtain⟨R,hR⟩:∃R:af,R= .tuple [bM (bx a m).1,bM (bx a m).2]:=⟨_,rfl⟩;rw [<-hR];refine cP hS 5 (arA a m k1 hc (A5.2 ⟨bc δ h.o1,bc δ h.o2,h.pos⟩) (bN (bc δ PL.op) (bc δ PL.lu))) ?_;refine aW.loop (ι:={x:((aC×aC)×(aC×aC))×Nat//uW ef.num ef.den (aj m) x.1.1.1 x.1.1.2 x.1.2.1 x.1.2.2/\bx a m=s4 a m x.2 x.1/\(aj m+1-(aj x.1.1.2+aj x.1.2.2)).toNat<=x.2}) (id:=0) (b:=cat m6 Im) (rest:=(fl m6 []).drop 6) (by kernel_rfl) (fun x=>oN a m x.1.1.1.1 x.1.1.1.2 x.1.1.2.1 x.1.1.2.2) (fun x=>(aj m+1-(aj x.1.1.1.2+aj x.1.1.2.2)).toNat)
   ⟨(((dW a.1 a.2,aT 1),(cu (dW a.1 a.2) (aT 1),aT 1)),(aj m).toNat),PL,e0,by
     have e1:aj (aT 1)=1:=tg 1;show(aj m+1-(aj (aT 1)+aj (aT 1))).toNat<=(aj m).toNat;rw [e1];omega⟩ (fun _=>rfl) ?_
  rintro⟨⟨⟨⟨p,q⟩,r,s⟩,n⟩,O,he,hn⟩;have O:uW ef.num ef.den (aj m) p q r s:=O;have he:bx a m=s4 a m n ((p,q),(r,s)):=he;have hn:(aj m+1-(aj q+aj s)).toNat<=n:=hn;have a1:(az q&&az s)=true:=bN (bc δ O.lu) (bc δ O.os);have arS:aV 3 (cu q s)=true:=uk (by
   have e3:=PK;have:=O.nb.q1;have:=O.nb.s1;have:=O.nb.oJ;have:=O.nb.oK;rw [e3];omega)
  have a2:(aV 50000 (cu q s)&&aV 50000 m)=true:=bN (bc δ arS) (bc δ e8);have PM:=si q s;by_cases hle:fH (cu q s) m<=0
  .have hle2:aj q+aj s<=aj m:=by rw [<-PM];exact BA.1 hle
   obtain⟨n,rfl⟩:∃j,n=j+1:=⟨n-1,by omega⟩;unfold s4 at he;rw [if_pos hle]at he;obtain⟨s5,PN,⟨c1,c2⟩,c3,c4⟩:=YA C O;obtain⟨PO,PR,⟨d1,d2⟩,d3,d4⟩:=YB C s5;have hg:=Yh (x:=p7 p q r s) O.nb C.dY C.hD C.hg hle2;rw [<-PN,<-PR]at hg;obtain⟨⟨⟨f1,f2⟩,p1,p2⟩,⟨f3,f4⟩,r1,r2⟩:=Ir C O;obtain⟨⟨⟨g1,g2⟩,p3,dS⟩,⟨g3,g4⟩,r3,mh⟩:=Ir C s5;obtain⟨_,_,i1,i2,i3,i4,i5⟩:=tn (m:=m) (q:=q) (s:=s) p1 r1 (by rw [p2];exact O.nb.lo) (by rw [r2];exact O.nb.hi) e8 O.lu O.os O.nb.s1 O.nb.q1 O.nb.oJ h2;obtain⟨_,_,j1,j2,tL,arT,arU⟩:=tn (m:=m) (q:=s) (s:=c8 q (ga a m p q r s) s) r3 p3 (by rw [mh];exact s5.nb.hi) (by rw [dS];exact s5.nb.lo) e8 O.os s5.lu s5.nb.q1 O.nb.s1 O.nb.oK h2;have m5:∀{k:Nat} {x:aC},aV k x=true->k<=100000->az x=true:=fun h hk=>bc hk h
   have It:=m5 h.o1 δ;have Iu:=m5 h.o2 δ;have op:=m5 O.op δ;have lu:=m5 O.lu δ;have or:=m5 O.or δ;have os:=m5 O.os δ;refine cX (s:=oN a m p q r s) hS 2 (arB a m p q r s a1 a2 hle) ?_;refine FP (id:=1) (c:=cat m6 zi) (rest:=(fl m6 Im).drop 3) (by kernel_rfl) ?_;refine cX (s:=oN a m p q r s) hS 1 (arD a m p q r s (bN It lu) (bN op Iu) (bN (m5 f1 δ) (m5 f2 δ)) (bN or Iu) (bN It os) (bN (m5 f3 δ) (m5 f4 δ)) i4 i5 rfl rfl) ?_;refine cX (s:=PG a m p q r s (mR (oL a p q) (oM a r s))) hS 1 (arE a m p q r s _ i1 i2 i3 rfl rfl) ?_;show cg _ _ _ _ _ _ (oO a m p q r s (ga a m p q r s)).T (oO a m p q r s (ga a m p q r s)).H _;refine cX (s:=oO a m p q r s (ga a m p q r s)) hS 1 (arF a m p q r s _ c1 c2 c3 c4 rfl rfl rfl rfl) ?_;have arV:=m5 s5.op δ;have arW:=m5 s5.lu δ;generalize hk:ga a m p q r s=k at*;generalize hp1:c8 p k r=p1' at*;generalize hq1:c8 q k s=gp at*;refine cX (s:=oO a m p1' gp r s k) hS 1 (arG a m p1' gp r s k (bN or Iu) (bN It os) (bN (m5 g3 δ) (m5 g4 δ)) (bN It arW) (bN arV Iu) (bN (m5 g1 δ) (m5 g2 δ)) arT arU rfl rfl) ?_;refine cX (s:=PI a m p1' gp r s k (mR (oM a r s) (oL a p1' gp))) hS 1 (arH a m p1' gp r s k _ j1 j2 tL rfl rfl) ?_;show cg _ _ _ _ _ _ (oO a m p1' gp r s (ic a m p1' gp r s)).T (oO a m p1' gp r s (ic a m p1' gp r s)).H _;refine bE (s:=oO a m p1' gp r s (ic a m p1' gp r s)) hS (arI a m p1' gp r s _ d1 d2 d3 d4 rfl rfl rfl rfl) ?_;exact⟨⟨(((p1',gp),(c8 r (ic a m p1' gp r s) p1',c8 s (ic a m p1' gp r s) gp)),n),PO,he,by show(aj m+1-(aj gp+aj (c8 s (ic a m p1' gp r s) gp))).toNat<=n;have hg:aj q+aj s<aj gp+aj (c8 s (ic a m p1' gp r s) gp):=hg;omega⟩,by show(aj m+1-(aj gp+aj (c8 s (ic a m p1' gp r s) gp))).toNat<(aj m+1-(aj q+aj s)).toNat;have hg:aj q+aj s<aj gp+aj (c8 s (ic a m p1' gp r s) gp):=hg;omega,rfl,rfl⟩
  .have e:bx a m=(ce p q,ce r s):=by
    rw [he];cases n with
    |zero=>rfl
    |succ n=>unfold s4;rw [if_neg hle]
   refine cX (s:=oN a m p q r s) hS 2 (arC a m p q r s a1 a2 hle) ?_;refine cG (cG (cO ?_));have key:=arJ a m p q r s (by
    unfold fu;exact bN (bN (bc δ O.op) (bc δ O.lu)) (by rw [eN.2 (show aj q≠0 by have:=O.nb.q1;omega)];rfl)) (by
    unfold fu;exact bN (bN (bc δ O.or) (bc δ O.os)) (by rw [eN.2 (show aj s≠0 by have:=O.nb.s1;omega)];rfl))
   have oA:R= .tuple [bM (ce p q),bM (ce r s)]:=by rw [hR,e]
   rw [<-oA]at key;exact b5 (s:=oN a m p q r s) hS key
def PS:Ip.Ok prog:=fun⟨a,m,_⟩ h=>by
 have h:(lq 2 a&&(aV 1 m&&(decide (1<=aj m)&&decide (aj m<=1000000000))))=true:=h;rw [ae,ae,ae,bA,bA]at h;exact arR (@ap _ (Classical.propDecidable _) h.1) h.2.1 h.2.2.1 h.2.2.2
def YF {a:bO} {m:aC} {N D:Int} (C:Bz a m N D (aj m)):∀(n:Nat) (p q r s:aC),uW N D (aj m) p q r s->(aj m+1-(aj q+aj s)).toNat<=n->
  ∃x y u v:Int,mQ N D (aj m) x y u v/\aj m<y+v/\QR 3 (s4 a m n ((p,q),(r,s))).1 (Rat.divInt x y)/\QR 3 (s4 a m n ((p,q),(r,s))).2 (Rat.divInt u v)
 |n,p,q,r,s,O,hn=>by
  have q1:=O.nb.q1;have s1:=O.nb.s1;have fin:∃x y u v:Int,mQ N D (aj m) x y u v/\(aj q+aj s=y+v)/\QR 3 (ce p q) (Rat.divInt x y)/\QR 3 (ce r s) (Rat.divInt u v):=
   ⟨aj p,aj q,aj r,aj s,O.nb,rfl,(DH O.op O.lu δ ω).qr ω,(DH O.or O.os δ ω).qr ω⟩
  have PM:=si q s
  match n,hn with
  |0,hn=>
   obtain⟨x,y,u,v,f1,f2,f3,f4⟩:=fin;exact⟨x,y,u,v,f1,by omega,f3,f4⟩
  |n+1,hn=>
   unfold s4;by_cases hle:fH (cu q s) m<=0
   .have hle2:aj q+aj s<=aj m:=by rw [<-PM];exact BA.1 hle
    obtain⟨s5,PN,_⟩:=YA C O;obtain⟨PO,PR,_⟩:=YB C s5;have hg:=Yh (x:=p7 p q r s) O.nb C.dY C.hD C.hg hle2;rw [<-PN,<-PR]at hg;rw [if_pos hle];have hg:aj q+aj s<aj (c8 q (ga a m p q r s) s)+aj (c8 s (ic a m (c8 p (ga a m p q r s) r) (c8 q (ga a m p q r s) s) r s) (c8 q (ga a m p q r s) s)):=hg;have key:=YF C n _ _ _ _ PO ω;exact key
   .rw [if_neg hle];have:=mt BA.2 hle;obtain⟨x,y,u,v,f1,f2,f3,f4⟩:=fin;exact⟨x,y,u,v,f1,by omega,f3,f4⟩
def arX {a:bO} {m:aC} {ef:Rat} (h:QR 2 a ef) (e8:aV 1 m=true) (h1:1<=aj m) (h2:aj m<=1000000000):
  (ef.den<=aj m/\bx a m=(a,a))\/(aj m<ef.den/\∃x y u v:Int,mQ ef.num ef.den (aj m) x y u v/\aj m<y+v/\QR 3 (bx a m).1 (Rat.divInt x y)/\QR 3 (bx a m).2 (Rat.divInt u v)):=by
 unfold bx;by_cases hc:fH a.2 m<=0
 .rw [if_pos hc];have:=BA.1 hc;rw [h.den]at this;exact Or.inl ⟨this,rfl⟩
 .rw [if_neg hc];have hD:aj m<ef.den:=by
   have:=mt BA.2 hc;rw [h.den]at this;omega
  have C:=YE h e8 h1 h2 hD;have e1:aj (aT 1)=1:=tg 1;exact Or.inr ⟨hD,YF C _ _ _ _ _ (YC C) (by rw [e1];omega)⟩
end
set_option maxHeartbeats 4000000
noncomputable section
def Ej:=k_a Tryz.f89
def PT:=k_a Tryz.f37
def BB:=k_a Tryz.f36
def Ek:=a8 [Pf]
def eD (a:AT) (n:Int):Int:=if ckR a=0 then(if 1<=n/\n<=999999999 then 0 else 3)else ckR a
def Iv:=IN 89 [.str, .int .i64] [.int .i64] true (fun d=>decide (d.1.size<=1000000000)) fun d=>(eD d.1 d.2.1,())
def PU:=a8 [Iv,Bm,ri,Ip,Ia]
def BC:=a8 [Iv,Bm,ri,Ip,Ia,NZ,DJ,AL]
section
variable (a:AT) (n:Int) (h1:a.size<=1000000000)
def arY (h2:¬ckR a=0):
  bf Ek (fl Ej []) 9 17 [sv a,iv n] 3 Tryz.f89 true (iv (ckR a)):=
 wy [ah h1,aa (gz.mpr h2)] 129
def arZ (h2:ckR a=0) (h3:¬n<1) (h4:n>999999999):
  bf Ek (fl Ej []) 9 17 [sv a,iv n] 54 Tryz.f89 true (iv (3)):=
 wy [ah h1,aa (eF.mpr h2),aa (bw (ab h3)),aK h3,ah h4] 5436616833
def ar0 (h2:ckR a=0) (h3:¬n<1) (h4:¬n>999999999):
  bf Ek (fl Ej []) 9 17 [sv a,iv n] 38 Tryz.f89 true (iv (0)):=
 wy [ah h1,aa (eF.mpr h2),aa (bw (ab h3)),aK h3,aK h4] 5436616833
def ar1 (h2:ckR a=0) (h3:n<1):
  bf Ek (fl Ej []) 9 17 [sv a,iv n] 56 Tryz.f89 true (iv (3)):=
 wy [ah h1,aa (eF.mpr h2),aa (bw (ay h3)),ah h3] 67907713
def ar2 (h2:¬eD a n=0):
  bf PU (fl PT []) 12 29 [sv a,iv n] 3 Tryz.f37 true (.tuple [.agg [sv (ByteArray.mk #[]),sv (ByteArray.mk #[])],iv (eD a n)]):=
 wy [ah h1,aa (gz.mpr h2)] 129
def ar3 (h2:eD a n=0) (h3:(dr a)=true) (h4:(p6 (aX a) (aT n))=true) (h5:(lq 10000 (bx (aX a) (aT n)).1)=true) (h6:(lq 10000 (bx (aX a) (aT n)).2)=true):
  bf PU (fl PT []) 12 29 [sv a,iv n] 2 Tryz.f37 true (.tuple [.agg [sv (ia (bx (aX a) (aT n)).1),sv (ia (bx (aX a) (aT n)).2)],iv 0]):=
 wy [ah h1,aa (eF.mpr h2),aa h3,aa h4,aa (aF (v:=bM (bx (aX a) (aT n)).1)),aa h5,aa (aF (v:=bM (bx (aX a) (aT n)).2)),aa h6] 146116716991099009
def ar4 (h2:¬eD a n=0):
  bf BC (fl BB []) 16 51 [sv a,iv n] 3 Tryz.f36 true (.tuple [sv (ByteArray.mk #[]),iv (eD a n)]):=
 wy [ah h1,aa (gz.mpr h2)] 129
def ar5 (h2:eD a n=0) (h3:(dr a)=true) (h4:(p6 (aX a) (aT n))=true) (h5:(okQ 20000 (aX a)&&okQ 20000 (bx (aX a) (aT n)).1)=true) (h6:(okQ 20000 (bx (aX a) (aT n)).2&&okQ 20000 (aX a))=true) (h7:(okQ 20000 (fi (aX a) (bx (aX a) (aT n)).1)&&okQ 20000 (fi (bx (aX a) (aT n)).2 (aX a)))=true) (h8:lj (fi (aX a) (bx (aX a) (aT n)).1) (fi (bx (aX a) (aT n)).2 (aX a))>0) (h9:(lq 10000 (bx (aX a) (aT n)).2)=true):
  bf BC (fl BB []) 16 51 [sv a,iv n] 224 Tryz.f36 true (.tuple [sv (ia (bx (aX a) (aT n)).2),iv 0]):=
 wy [ah h1,aa (eF.mpr h2),aa h3,aa (aF (v:=bM (aX a))),aa h4,aa (aF (v:=bM (bx (aX a) (aT n)).1)),aa h5,aa (aF (v:=bM (bx (aX a) (aT n)).2)),aa h6,aa h7,aa (bw (ay h8)),ah h8,aa h9] 70794915142931176077791226211902759645313
def ar6 (h2:eD a n=0) (h3:(dr a)=true) (h4:(p6 (aX a) (aT n))=true) (h5:(okQ 20000 (aX a)&&okQ 20000 (bx (aX a) (aT n)).1)=true) (h6:(okQ 20000 (bx (aX a) (aT n)).2&&okQ 20000 (aX a))=true) (h7:(okQ 20000 (fi (aX a) (bx (aX a) (aT n)).1)&&okQ 20000 (fi (bx (aX a) (aT n)).2 (aX a)))=true) (h8:¬lj (fi (aX a) (bx (aX a) (aT n)).1) (fi (bx (aX a) (aT n)).2 (aX a))>0) (h9:lj (fi (aX a) (bx (aX a) (aT n)).1) (fi (bx (aX a) (aT n)).2 (aX a))=0) (h10:(aV 50000 (bx (aX a) (aT n)).2.2&&aV 50000 (bx (aX a) (aT n)).1.2)=true) (h11:fH (bx (aX a) (aT n)).2.2 (bx (aX a) (aT n)).1.2<0) (h12:(lq 10000 (bx (aX a) (aT n)).2)=true):
  bf BC (fl BB []) 16 51 [sv a,iv n] 28670 Tryz.f36 true (.tuple [sv (ia (bx (aX a) (aT n)).2),iv 0]):=
 wy [ah h1,aa (eF.mpr h2),aa h3,aa (aF (v:=bM (aX a))),aa h4,aa (aF (v:=bM (bx (aX a) (aT n)).1)),aa h5,aa (aF (v:=bM (bx (aX a) (aT n)).2)),aa h6,aa h7,aa (bw (ab h8)),aa (aL (fP.mpr h9)),aa h10,cT h9,aK h8,ah h11,aa h12] 26441243112519129430488847351273044544497334563351048321
def ar7 (h2:eD a n=0) (h3:(dr a)=true) (h4:(p6 (aX a) (aT n))=true) (h5:(okQ 20000 (aX a)&&okQ 20000 (bx (aX a) (aT n)).1)=true) (h6:(okQ 20000 (bx (aX a) (aT n)).2&&okQ 20000 (aX a))=true) (h7:(okQ 20000 (fi (aX a) (bx (aX a) (aT n)).1)&&okQ 20000 (fi (bx (aX a) (aT n)).2 (aX a)))=true) (h8:¬lj (fi (aX a) (bx (aX a) (aT n)).1) (fi (bx (aX a) (aT n)).2 (aX a))>0) (h9:lj (fi (aX a) (bx (aX a) (aT n)).1) (fi (bx (aX a) (aT n)).2 (aX a))=0) (h10:(aV 50000 (bx (aX a) (aT n)).2.2&&aV 50000 (bx (aX a) (aT n)).1.2)=true) (h11:¬fH (bx (aX a) (aT n)).2.2 (bx (aX a) (aT n)).1.2<0) (h12:(lq 10000 (bx (aX a) (aT n)).1)=true):
  bf BC (fl BB []) 16 51 [sv a,iv n] 20478 Tryz.f36 true (.tuple [sv (ia (bx (aX a) (aT n)).1),iv 0]):=
 wy [ah h1,aa (eF.mpr h2),aa h3,aa (aF (v:=bM (aX a))),aa h4,aa (aF (v:=bM (bx (aX a) (aT n)).1)),aa h5,aa (aF (v:=bM (bx (aX a) (aT n)).2)),aa h6,aa h7,aa (bw (ab h8)),aa (aL (fP.mpr h9)),aa h10,cT h9,aK h8,aK h11,aa h12] 26441243112519129430488847351273044544497334563351048321
def ar8 (h2:eD a n=0) (h3:(dr a)=true) (h4:(p6 (aX a) (aT n))=true) (h5:(okQ 20000 (aX a)&&okQ 20000 (bx (aX a) (aT n)).1)=true) (h6:(okQ 20000 (bx (aX a) (aT n)).2&&okQ 20000 (aX a))=true) (h7:(okQ 20000 (fi (aX a) (bx (aX a) (aT n)).1)&&okQ 20000 (fi (bx (aX a) (aT n)).2 (aX a)))=true) (h8:¬lj (fi (aX a) (bx (aX a) (aT n)).1) (fi (bx (aX a) (aT n)).2 (aX a))>0) (h9:¬lj (fi (aX a) (bx (aX a) (aT n)).1) (fi (bx (aX a) (aT n)).2 (aX a))=0) (h10:(lq 10000 (bx (aX a) (aT n)).1)=true):
  bf BC (fl BB []) 16 51 [sv a,iv n] 17422 Tryz.f36 true (.tuple [sv (ia (bx (aX a) (aT n)).1),iv 0]):=
 wy [ah h1,aa (eF.mpr h2),aa h3,aa (aF (v:=bM (aX a))),aa h4,aa (aF (v:=bM (bx (aX a) (aT n)).1)),aa h5,aa (aF (v:=bM (bx (aX a) (aT n)).2)),aa h6,aa h7,aa (bw (ab h8)),aa (aL (eN.mpr h9)),yn h9,aK h8,aa h10] 359261689923794886237570838921716717002481865583505537
end
noncomputable def m7 (a:AT) (n:Int):AT×AT:=if eD a n=0 then(ia (bx (aX a) (aT n)).1,ia (bx (aX a) (aT n)).2)else(ByteArray.mk #[],ByteArray.mk #[])
noncomputable def EN (a:AT) (n:Int):AT:=if eD a n=0 then(if 0<lj (fi (aX a) (bx (aX a) (aT n)).1) (fi (bx (aX a) (aT n)).2 (aX a))\/(lj (fi (aX a) (bx (aX a) (aT n)).1) (fi (bx (aX a) (aT n)).2 (aX a))=0/\fH (bx (aX a) (aT n)).2.2 (bx (aX a) (aT n)).1.2<0)then ia (bx (aX a) (aT n)).2 else ia (bx (aX a) (aT n)).1)else ByteArray.mk #[]
def YG:=IN 37 [.str, .int .i64] [.pair .str .str, .int .i64] true (fun d=>decide (d.1.size<=24)) fun d=>(m7 d.1 d.2.1,eD d.1 d.2.1,())
def YH:=IN 36 [.str, .int .i64] [.str, .int .i64] true (fun d=>decide (d.1.size<=24)) fun d=>(EN d.1 d.2.1,eD d.1 d.2.1,())
end
set_option maxHeartbeats 1000000
noncomputable section
def Iw:bD prog (bF Ek):=cM fun c hc=>by
 rw [List.mem_singleton.1 hc];exact XP
def ar9 (a:AT) (n:Int) (hz:a.size<=1000000000):Holds prog true 89 [sv a,iv n] (iv (eD a n)):=by
 refine bL (c:=Ej) func89 rfl rfl fun w F=> ?_
 unfold eD;by_cases hc:ckR a=0
 .rw [if_pos hc];by_cases h1:n<1
  .rw [if_neg ω];exact bg Iw 9 (ar1 a n hz hc h1)
  .by_cases h2:n>999999999
   .rw [if_neg ω];exact bg Iw 9 (arZ a n hz hc h1 h2)
   .rw [if_pos ω];exact bg Iw 9 (ar0 a n hz hc h1 h2)
 .rw [if_neg hc];exact bg Iw 9 (arY a n hz hc)
def PV:Iv.Ok prog:=fun⟨a,n,_⟩ h=>ar9 a n (ap h)
structure asa (a:AT) (n:Int):Prop where
 fr:dr a=true
 qr:QR 2 (aX a) (toQ a)
 ok:p6 (aX a) (aT n)=true
 lo:∃r,QR 3 (bx (aX a) (aT n)).1 r
 hi:∃r,QR 3 (bx (aX a) (aT n)).2 r
 law:((toQ a).den<=n/\bx (aX a) (aT n)=(aX a,aX a))\/(n<(toQ a).den/\∃x y u v:Int,mQ (toQ a).num (toQ a).den n x y u v/\n<y+v/\QR 3 (bx (aX a) (aT n)).1 (Rat.divInt x y)/\QR 3 (bx (aX a) (aT n)).2 (Rat.divInt u v))
def Iy {a:AT} {n:Int} (hz:a.size<=24) (h:eD a n=0):asa a n:=by
 unfold eD at h;by_cases hc:ckR a=0
 .rw [if_pos hc]at h;by_cases hn:1<=n/\n<=999999999
  .obtain⟨r,k,rfl,hk,hi⟩:=Pn hc;obtain⟨h1,h2⟩:=XY hz;have e3:(10:Nat)^24=1000000000000000000000000:=by decide
   rw [e3]at h1 h2;have e2:(18446744073709551616:Int)^2=340282366920938463463374607431768211456:=by decide
   obtain⟨f1,f2⟩:=Wp (n:=2) (r:=r) δ δ (jC ω).1 (jC ω).1 ω;have i:fX 3 r:=⟨by have:(1000000000:Int)^3=1000000000000000000000000000:=δ;omega,by have:(1000000000:Int)^3=1000000000000000000000000000:=δ;omega⟩;have t:=lf (k:=3) δ i;have vm:aj (aT n)=n:=tg n;have e8:aV 1 (aT n)=true:=N7 ω;have law:=arX f2 e8 ω ω;rw [vm]at law;have ok:p6 (aX (aU r)) (aT n)=true:=by
    unfold p6 lq;rw [vm];refine bN (@ay _ (Classical.propDecidable _) ?_) (bN e8 (bN (ay ω) (ay ω)));rw [f2.val];exact f2
   refine⟨f1,by rw [t];exact f2,ok, ?_, ?_,by rw [t];exact law⟩
   .rcases law with⟨_,e⟩|⟨_,x,y,u,v,_,_,g,_⟩
    .rw [e];exact⟨r,f2.mono δ⟩
    .exact⟨_,g⟩
   .rcases law with⟨_,e⟩|⟨_,x,y,u,v,_,_,_,g⟩
    .rw [e];exact⟨r,f2.mono δ⟩
    .exact⟨_,g⟩
  .rw [if_neg hn]at h;cases h
 .rw [if_neg hc]at h;exact absurd h hc
def YI:bD prog (bF PU):=cM (aP PV (aP DM (aP uH (aP PS (aP Pj dV)))))
def asb:bD prog (bF BC):=cM (aP PV (aP DM (aP uH (aP PS (aP Pj (aP V7 (aP Hv (aP mc dV))))))))
def asc (a:AT) (n:Int) (hz:a.size<=24):Holds prog true 37 [sv a,iv n] (.tuple [.agg [sv (m7 a n).1,sv (m7 a n).2],iv (eD a n)]):=by
 refine bL (c:=PT) func37 rfl rfl fun w F=> ?_
 unfold m7;by_cases h:eD a n=0
 .obtain⟨fr,qr,ok,⟨x,lo⟩,⟨y,hi⟩,_⟩:=Iy hz h;rw [if_pos h,h];exact bg YI 12 (ar3 a n ω h fr ok (lo.rd δ) (hi.rd δ))
 .rw [if_neg h];exact bg YI 12 (ar2 a n ω h)
def ase:YG.Ok prog:=fun⟨a,n,_⟩ h=>asc a n (ap h)
def asf (a:AT) (n:Int) (hz:a.size<=24):Holds prog true 36 [sv a,iv n] (.tuple [sv (EN a n),iv (eD a n)]):=by
 have hS:=asb;refine bL (c:=BB) func36 rfl rfl fun w F=> ?_
 unfold EN;by_cases h:eD a n=0
 .obtain⟨fr,qr,ok,⟨x,lo⟩,⟨y,hi⟩,_⟩:=Iy hz h;rw [if_pos h,h];have q1:=tf (qr.mono (show 2<=3 by decide)) lo δ;have aQ:=tf hi (qr.mono (show 2<=3 by decide)) δ;have PW:∀{n m:Nat} {p q:bO} {r s:Rat},QR n p r->QR m q s->n<=20000->m<=20000->(okQ 20000 p&&okQ 20000 q)=true:=fun h g hn hm=>by rw [(h.mono hn).ok,(g.mono hm).ok];rfl
  have w1:=PW qr lo δ δ;have w2:=PW hi qr δ δ;have w3:=PW q1 aQ δ δ;by_cases c1:lj (fi (aX a) (bx (aX a) (aT n)).1) (fi (bx (aX a) (aT n)).2 (aX a))>0
  .rw [if_pos (Or.inl c1)];exact bg hS 16 (ar5 a n ω h fr ok w1 w2 w3 c1 (hi.rd δ))
  .by_cases c2:lj (fi (aX a) (bx (aX a) (aT n)).1) (fi (bx (aX a) (aT n)).2 (aX a))=0
   .have YJ:(aV 50000 (bx (aX a) (aT n)).2.2&&aV 50000 (bx (aX a) (aT n)).1.2)=true:=bN (bc δ hi.o2) (bc δ lo.o2);by_cases c3:fH (bx (aX a) (aT n)).2.2 (bx (aX a) (aT n)).1.2<0
    .rw [if_pos (Or.inr ⟨c2,c3⟩)];exact bg hS 16 (ar6 a n ω h fr ok w1 w2 w3 c1 c2 YJ c3 (hi.rd δ))
    .rw [if_neg (fun g=>g.elim c1 fun g=>c3 g.2)];exact bg hS 16 (ar7 a n ω h fr ok w1 w2 w3 c1 c2 YJ c3 (lo.rd δ))
   .rw [if_neg (fun g=>g.elim c1 fun g=>c2 g.1)];exact bg hS 16 (ar8 a n ω h fr ok w1 w2 w3 c1 c2 (lo.rd δ))
 .rw [if_neg h];exact bg hS 16 (ar4 a n ω h)
def asg:YH.Ok prog:=fun⟨a,n,_⟩ h=>asf a n (ap h)
def YK (r:Rat):(0:Rat)<((r.den:Int):Rat):=Rat.intCast_pos.2 (by have:=r.den_pos;omega)
def ash (r:Rat):r*((r.den:Int):Rat)=(r.num:Rat):=by
 have e:(r.num:Rat)/((r.den:Int):Rat)=r:=by rw [<-Rat.divInt_eq_div,Rat.num_divInt_den]
 have h:=YK r;have e2:=Rat.div_mul_cancel (a:=(r.num:Rat)) (b:=((r.den:Int):Rat)) (by intro h0;rw [h0]at h;exact Rat.lt_irrefl h);rw [e]at e2;exact e2
def asi (r:Rat) (e:Int):(r*(e:Rat)).floor=r.num*e/(r.den:Int):=by
 have hD:0<(r.den:Int):=by have:=r.den_pos;omega
 have h:∀k:Int,k<=(r*(e:Rat)).floor↔k<=r.num*e/(r.den:Int):=fun k=>by
  rw [Rat.le_floor_iff,Int.le_ediv_iff_mul_le hD,<-Rat.intCast_le_intCast,Rat.intCast_mul,Rat.intCast_mul,<-ash r];have c:=YK r;have e1:r*((r.den:Int):Rat)*(e:Rat)=r*(e:Rat)*((r.den:Int):Rat):=by grind
  rw [e1];exact⟨fun g=>Rat.mul_le_mul_of_nonneg_right g (Rat.le_of_lt c),fun g=>Rat.le_of_mul_le_mul_right g c⟩
 have a:=(h _).1 (Int.le_refl _);have b:=(h _).2 (Int.le_refl _);omega
def El {a b c d:Int} (hb:0<b) (hd:0<d) (h:a*d<=c*b):(a:Rat)/(b:Rat)<=(c:Rat)/(d:Rat):=by
 have pb:(0:Rat)<(b:Rat):=Rat.intCast_pos.2 hb;have pd:(0:Rat)<(d:Rat):=Rat.intCast_pos.2 hd;have nb:(b:Rat)≠0:=fun h0=>by rw [h0]at pb;exact Rat.lt_irrefl pb
 have nd:(d:Rat)≠0:=fun h0=>by rw [h0]at pd;exact Rat.lt_irrefl pd
 refine Rat.le_of_mul_le_mul_right (c:=(b:Rat)*(d:Rat)) ?_ (Rat.mul_pos pb pd);have e1:(a:Rat)/(b:Rat)*((b:Rat)*(d:Rat))=((a*d:Int):Rat):=by
  rw [<-Rat.mul_assoc,Rat.div_mul_cancel nb,Rat.intCast_mul]
 have e2:(c:Rat)/(d:Rat)*((b:Rat)*(d:Rat))=((c*b:Int):Rat):=by
  rw [Rat.mul_comm (b:Rat),<-Rat.mul_assoc,Rat.div_mul_cancel nd,Rat.intCast_mul]
 rw [e1,e2];exact Rat.intCast_le_intCast.2 h
def Iz (a:Rat):a/((1:Int):Rat)=a:=by
 have h:=Rat.div_mul_cancel (a:=a) (b:=((1:Int):Rat)) δ;have e:a/((1:Int):Rat)*((1:Int):Rat)=a/((1:Int):Rat):=by rw [Rat.intCast_one,Rat.mul_one]
 rw [e]at h;exact h
def PX (r:Rat):(r.num:Rat)/((r.den:Int):Rat)=r:=by rw [<-Rat.divInt_eq_div,Rat.num_divInt_den]
end
set_option maxHeartbeats 4000000
noncomputable section
def Em:=k_a Tryz.f41
def IA:=k_a Tryz.f94
def BD:=k_a Tryz.f38
abbrev kF (lo hi:AT):af:= .agg [sv lo,sv hi]
def asj (l:List AT) (k:Nat) (h1:(k:Int)<(l.length:Int)) (h2:k<l.length) (h3:(l.getD k ByteArray.empty).size<=1000000000) (h4:¬ckR (l.getD k ByteArray.empty)=0):
  bW Bs (fl wV [1,0,1,0,0]) (pZ l k) 7 Tryz.f190 true (iv (ckR (l.getD k ByteArray.empty))):=
 wy [ah h1,ah h2,ah h3,aa (gz.mpr h4)] 67903489
def nL (l:List AT):Bool:=decide (l.length<=1000)&&l.all fun s=>decide (s.size<=1000000000)
noncomputable def PY (args:List af):aD (Option af):=match args with
 |[.bt false .str l, .raw (.func (.func g) ⟨[]⟩ ⟨[]⟩)]=> .must (Nat.beq g 54&&nL l) (.ret (some (iv (lp l))))
 |_=> .ret none
noncomputable def YL:rZ:={f:=190,res:=PY}
noncomputable def YM:bG:=Ar [YL] (a8 [])
def Nm (l:List AT) (h1:(Nat.beq 54 54&&nL l)=true):
  bf YM (fl XQ []) 3 5 [sl l] 1 Tryz.f153 true (iv (lp l)):=
 wy [aa h1] 1
def YN:=IN 153 [.list false .str] [.int .i64] true (fun d=>nL d.1) fun d=>(lp d.1,())
def IB:=a8 [YN,Bm,DJ]
section
variable (lo hi:AT) (h1:(nL [lo,hi])=true)
def RK (h2:¬lp [lo,hi]=0):
  bf IB (fl IA []) 9 22 [kF lo hi] 3 Tryz.f94 true (iv (lp [lo,hi])):=
 wy [aa h1,aa (gz.mpr h2)] 129
def asl (h2:lp [lo,hi]=0) (h3:(dr lo)=true) (h4:(dr hi)=true) (h5:(okQ 20000 (aX lo)&&okQ 20000 (aX hi))=true) (h6:lj (aX lo) (aX hi)>0):
  bf IB (fl IA []) 9 22 [kF lo hi] 6 Tryz.f94 true (iv 11):=
 wy [aa h1,aa (eF.mpr h2),aa (aF (v:=af.raw (Value.string lo))),aa h3,aa (aF (v:=af.raw (Value.string hi))),aa h4,aa h5,ah h6] 2283003909779585
def asm (h2:lp [lo,hi]=0) (h3:(dr lo)=true) (h4:(dr hi)=true) (h5:(okQ 20000 (aX lo)&&okQ 20000 (aX hi))=true) (h6:¬lj (aX lo) (aX hi)>0):
  bf IB (fl IA []) 9 22 [kF lo hi] 4 Tryz.f94 true (iv 0):=
 wy [aa h1,aa (eF.mpr h2),aa (aF (v:=af.raw (Value.string lo))),aa h3,aa (aF (v:=af.raw (Value.string hi))),aa h4,aa h5,aK h6] 2283003909779585
end
def En:=a8 [HV,Ii]
noncomputable def mw (lo hi:AT):Int:=if ckR lo=0 then(if ckR hi=0 then(if 0<fj lo hi then 11 else 0)else ckR hi)else ckR lo
def YO:=IN 94 [.pair .str .str] [.int .i64] true (fun d=>decide (d.1.1.size<=24)&&decide (d.1.2.size<=24)) fun d=>(mw d.1.1 d.1.2,())
def YP:=IN 41 [.pair .str .str] [.int .i64] true (fun d=>decide (d.1.1.size<=24)&&decide (d.1.2.size<=24)) fun d=>(mw d.1.1 d.1.2,())
section
variable (lo hi:AT) (h1:lo.size<=1000000000) (h2:ckR lo=0) (h3:hi.size<=1000000000)
def asn (h4:ckR hi=0) (h5:(isQ lo&&isQ hi)=true) (h6:fj lo hi>0):
  bf En (fl Em []) 9 23 [kF lo hi] 1023 Tryz.f41 true (iv 11):=
 wy [ah h1,cT h2,ah h3,aa (aL (fP.mpr h4)),aa h5,cT h4,ah h6] 523499845931857096833
def aso (h4:ckR hi=0) (h5:(isQ lo&&isQ hi)=true) (h6:¬fj lo hi>0):
  bf En (fl Em []) 9 23 [kF lo hi] 767 Tryz.f41 true (iv (ckR hi)):=
 wy [ah h1,cT h2,ah h3,aa (aL (fP.mpr h4)),aa h5,cT h4,aK h6] 523499845931857096833
def asp (h4:¬ckR hi=0):
  bf En (fl Em []) 9 23 [kF lo hi] 513 Tryz.f41 true (iv (ckR hi)):=
 wy [ah h1,cT h2,ah h3,aa (aL (eN.mpr h4)),yn h4] 91215763881341057
end
def asq (lo hi:AT) (h1:lo.size<=1000000000) (h2:¬ckR lo=0):
  bf En (fl Em []) 9 23 [kF lo hi] 512 Tryz.f41 true (iv (ckR lo)):=
 wy [ah h1,yn h2,aa (aL (eN.mpr h2))] 576353523740801
def BE:=a8 [Iv,YO,Bm,ri,Ip,Ia]
section
variable (a:AT) (n:Int) (lo hi:AT) (h1:a.size<=1000000000)
def asr (h2:¬eD a n=0):
  bf BE (fl BD []) 16 42 [sv a,iv n,kF lo hi] 3 Tryz.f38 true (iv (eD a n)):=
 wy [ah h1,aa (gz.mpr h2)] 129
def ass (h2:eD a n=0) (h3:(decide (lo.size<=24)&&decide (hi.size<=24))=true) (h4:¬mw lo hi=0):
  bf BE (fl BD []) 16 42 [sv a,iv n,kF lo hi] 6 Tryz.f38 true (iv (mw lo hi)):=
 wy [ah h1,aa (eF.mpr h2),aa h3,aa (gz.mpr h4)] 1060993
def ast (h2:eD a n=0) (h3:(decide (lo.size<=24)&&decide (hi.size<=24))=true) (h4:mw lo hi=0) (h5:(dr a)=true) (h6:(p6 (aX a) (aT n))=true) (h7:(lq 10000 (bx (aX a) (aT n)).1)=true) (h8:(lo.data).toList=((ia (bx (aX a) (aT n)).1).data).toList) (h9:(lq 10000 (bx (aX a) (aT n)).2)=true) (h10:(hi.data).toList=((ia (bx (aX a) (aT n)).2).data).toList):
  bf BE (fl BD []) 16 42 [sv a,iv n,kF lo hi] 636 Tryz.f38 true (iv 0):=
 wy [ah h1,aa (eF.mpr h2),aa h3,aa (eF.mpr h4),aa h5,aa h6,aa (aF (v:=af.raw (Value.string lo))),aa (aF (v:=bM (bx (aX a) (aT n)).1)),aa h7,aa (bw (bY (ay h8))),aa (aF (v:=af.raw (Value.string hi))),aa (aF (v:=bM (bx (aX a) (aT n)).2)),aa h9,aa (bY (ay h8)),aa (bY (ay h10))] 82872197645947659148057257001574995079297
def asu (h2:eD a n=0) (h3:(decide (lo.size<=24)&&decide (hi.size<=24))=true) (h4:mw lo hi=0) (h5:(dr a)=true) (h6:(p6 (aX a) (aT n))=true) (h7:(lq 10000 (bx (aX a) (aT n)).1)=true) (h8:(lo.data).toList=((ia (bx (aX a) (aT n)).1).data).toList) (h9:(lq 10000 (bx (aX a) (aT n)).2)=true) (h10:¬(hi.data).toList=((ia (bx (aX a) (aT n)).2).data).toList):
  bf BE (fl BD []) 16 42 [sv a,iv n,kF lo hi] 892 Tryz.f38 true (iv 20):=
 wy [ah h1,aa (eF.mpr h2),aa h3,aa (eF.mpr h4),aa h5,aa h6,aa (aF (v:=af.raw (Value.string lo))),aa (aF (v:=bM (bx (aX a) (aT n)).1)),aa h7,aa (bw (bY (ay h8))),aa (aF (v:=af.raw (Value.string hi))),aa (aF (v:=bM (bx (aX a) (aT n)).2)),aa h9,aa (bY (ay h8)),aa (bY (ab h10))] 82872197645947659148057257001574995079297
def asv (h2:eD a n=0) (h3:(decide (lo.size<=24)&&decide (hi.size<=24))=true) (h4:mw lo hi=0) (h5:(dr a)=true) (h6:(p6 (aX a) (aT n))=true) (h7:(lq 10000 (bx (aX a) (aT n)).1)=true) (h8:¬(lo.data).toList=((ia (bx (aX a) (aT n)).1).data).toList):
  bf BE (fl BD []) 16 42 [sv a,iv n,kF lo hi] 896 Tryz.f38 true (iv 20):=
 wy [ah h1,aa (eF.mpr h2),aa h3,aa (eF.mpr h4),aa h5,aa h6,aa (aF (v:=af.raw (Value.string lo))),aa (aF (v:=bM (bx (aX a) (aT n)).1)),aa h7,aa (bw (bY (ab h8))),aa (bY (ab h8))] 884085686465218348281072988289
end
noncomputable def BF (a:AT) (n:Int) (lo hi:AT):Int:=if eD a n=0 then(if mw lo hi=0 then(if lo=(m7 a n).1/\hi=(m7 a n).2 then 0 else 20)else mw lo hi)else eD a n
def YQ:=IN 38 [.str, .int .i64, .pair .str .str] [.int .i64] true (fun d=>decide (d.1.size<=24)&&(decide (d.2.2.1.1.size<=24)&&decide (d.2.2.1.2.size<=24))) fun d=>(BF d.1 d.2.1 d.2.2.1.1 d.2.2.1.2,())
end
set_option maxHeartbeats 1000000
noncomputable section
def uX (r:Rat):aq (aU r)=Lib.itoa r.num++fO r:=by
 rw [Bv,pY];by_cases hn:r.num<0
 .rw [ay hn];rfl
 .rw [ab hn];rfl
def YR (r:Rat):bk (aq (aU r))=(Lib.itoa r.num).length:=by
 have pW:bk (Lib.decDigits r.num.natAbs++fO r)=(Lib.decDigits r.num.natAbs).length:=by
  unfold fO;split
  .rw [List.append_nil];exact Dz _ (ld _)
  .exact DA _ _ (ld _)
 rw [Bv,rx,pW,pY];by_cases hn:r.num<0
 .rw [ay hn];rfl
 .rw [ab hn];rfl
def BG {r:Rat} (h:r.den=1):fO r=[]:=by unfold fO;rw [if_pos h]
def PZ (r:Rat):vz (aU r)=aU (r.num:Rat):=by
 refine fN ?_;show aq (vz (aU r))=aq (aU (r.num:Rat));unfold vz;rw [jF,YR,uX,uX,BG (r:=(r.num:Rat)) (Rat.den_intCast _),List.append_nil,List.drop_zero,List.take_left,Rat.num_intCast]
def IC (r:Rat):jI (aU r)=aU ((r.den:Int):Rat):=by
 unfold jI;rw [cK,YR,uX];by_cases h:r.den=1
 .rw [BG h,List.append_nil,if_pos rfl,h];refine fN ?_;show [49]=aq (aU (((1:Nat):Int):Rat));rw [uX,BG (Rat.den_intCast _),List.append_nil,Rat.num_intCast];show [49]=Lib.itoa ((1:Nat):Int);rw [Dec.oH,mN δ];rfl
 .have e:fO r=47::Lib.decDigits r.den:=by unfold fO;rw [if_neg h]
  rw [if_neg (by rw [e,cW,List.length_cons];omega)];refine fN ?_;show aq ((aU r).extract ((Lib.itoa r.num).length+1) (Lib.itoa r.num++fO r).length)=aq (aU ((r.den:Int):Rat));rw [jF,uX,dI,uX,BG (r:=((r.den:Int):Rat)) (Rat.den_intCast _),List.append_nil,Rat.num_intCast,e,Dec.oH,show Lib.itoa r.num++47::Lib.decDigits r.den=(Lib.itoa r.num++[47])++Lib.decDigits r.den by simp];exact List.drop_left' τ
def asw {a b:AT} (ID:a.size<=24) (asx:b.size<=24) (ca:ckR a=0) (cb:ckR b=0):lj (aX a) (aX b)=fj a b:=by
 have f:=Bu ID ca;have g:=Bu asx cb;have h:=Py (k:=3) (m:=3) δ δ f.i g.i;rw [<-f.tx,<-g.tx]at h;rw [V8 f.qr g.qr,h];by_cases c:toQ a<toQ b
 .rw [if_pos c,if_pos (show toQ a-toQ b<0 by grind)]
 .rw [if_neg c,if_neg (show¬toQ a-toQ b<0 by grind)];by_cases c2:toQ a=toQ b
  .rw [if_pos c2,if_pos (show toQ a-toQ b=0 by grind)]
  .rw [if_neg c2,if_neg (show¬toQ a-toQ b=0 by grind)]
attribute [local irreducible] ckR
def No {l:List AT} (h:nL l=true):l.length<=1000/\∀s∈l,s.size<=1000000000:=by
 unfold nL at h;rw [ae,bA,List.all_eq_true]at h;exact⟨h.1,fun s hs=>ap (h.2 s hs)⟩
def asy (l:List AT) (h:nL l=true):Holds prog true 190 [sl l,H9 54] (iv (lp l)):=by
 have hS:bD prog (bF Bs):=qK XP;obtain⟨hn,hl⟩:=No h;obtain⟨E,hE⟩:∃E,lp l=E:=⟨_,rfl⟩;rw [hE];refine bL (c:=wV) func190 rfl rfl fun w F=> ?_
 refine cP hS 2 (aql l) ?_;refine aW.loop (ι:={k:Nat//k<=l.length/\lp (l.drop k)=E}) (id:=0) (b:=cat wV [1,0,1,0,0]) (rest:=(fl wV []).drop 3) (by kernel_rfl) (fun k=>pZ l k.1) (fun k=>l.length-k.1) ⟨0,Nat.zero_le _,hE⟩ (fun _=>rfl) ?_;rintro⟨k,hk,hd⟩;have hd:lp (l.drop k)=E:=hd;by_cases hlt:k<l.length
 .have eg:l.getD k ByteArray.empty=l[k]:=by simp [ao,hlt]
  have hsz:(l.getD k ByteArray.empty).size<=1000000000:=by rw [eg];exact hl _ (List.getElem_mem _)
  rw [List.drop_eq_getElem_cons hlt,<-eg]at hd;have asz:∀(s:AT) (r:List AT),lp (s::r)=if ckR s=0 then lp r else ckR s:=fun _ _=>rfl
  rw [asz]at hd;by_cases h0:ckR (l.getD k ByteArray.empty)=0
  .rw [if_pos h0]at hd;refine bE (s:=pZ l k) hS (aqm l k ω hlt hsz h0 ω) ?_;exact⟨⟨k+1,hlt,hd⟩,by show l.length-(k+1)<l.length-k;omega,rfl,rfl⟩
  .rw [if_neg h0]at hd;subst hd;exact b5 (s:=pZ l k) hS (asj l k ω hlt hsz h0)
 .refine bE (s:=pZ l k) hS (aqn l k ω) ?_;refine cG (cO ?_);rw [List.drop_eq_nil_of_le ω]at hd;subst hd;exact b5 (s:=pZ l k) hS (aqo l k)
def asA:YL.Ok prog:=by
 intro args v hv w F xs hF ct hd;change (PY args).gr=_ at hv;unfold PY at hv;split at hv
 .rename_i l g;have hv:(match(Nat.beq g 54&&nL l)with |true=>some (some (iv (lp l)))|false=>none)=some (some v):=hv;cases hm:(Nat.beq g 54&&nL l)with
  |false=>rw [hm]at hv;cases hv
  |true=>
  rw [hm]at hv;cases hv;rw [ae]at hm;obtain rfl:=ac hm.1;have gw:aH (⟨fun i=>if i<64 then some (i,0)else none,F.fz⟩:Env) [sl l,H9 54] xs:=by
   cases hd with
   |cons d1 d2=>
    cases d2 with
    |cons d2 d3=>
     cases d3;have h1:=pq (ρ:=F) (ρ':=(⟨fun i=>if i<64 then some (i,0)else none,F.fz⟩:Env)) (fun b A h=>h) (.list false .str) l [_] (.cons d1 .nil);cases h1 with
     |cons h1 _=>exact .cons h1 (.cons (by rw [d2.cc];exact .raw _) .nil)
  refine(asy l hm.2 w ⟨fun i=>if i<64 then some (i,0)else none,F.fz⟩ xs ⟨fun i x h=> ?_,fun g hg=>⟨0,if_pos hg⟩,hF⟩ ct gw).mono fun e w' ⟨x,F',h1,h2,_,_,h5⟩=> ?_
  .have h:(if i<64 then some (i,0)else none)=some x:=h;split at h
   .assumption
   .cases h
  .refine⟨x,h1, ?_,h5⟩;rw [h2.cc];exact .raw _
 .cases hv
def asB:bD prog (bF YM):=SV (fun c hc=>by
 simp only [ek,jO,or_false]at hc;rcases hc with rfl
 exact asA) cz
def asC:YN.Ok prog:=fun⟨l,_⟩ h=>by
 have h:nL l=true:=h;show Holds prog true 153 [sl l] (iv (lp l));refine bL (c:=XQ) func153 rfl rfl fun w F=> ?_
 exact bg asB 3 (Nm l (by rw [h];rfl))
def asD:bD prog (bF IB):=cM (aP asC (aP DM (aP Hv dV)))
def QP (lo hi:AT):lp [lo,hi]=if ckR lo=0 then ckR hi else ckR lo:=by
 show(if ckR lo=0 then(if ckR hi=0 then 0 else ckR hi)else ckR lo)=_;by_cases h:ckR lo=0
 .rw [if_pos h,if_pos h];by_cases g:ckR hi=0
  .rw [if_pos g,g]
  .rw [if_neg g]
 .rw [if_neg h,if_neg h]
def asE (lo hi:AT) (p8:lo.size<=24) (rA:hi.size<=24):Holds prog true 94 [kF lo hi] (iv (mw lo hi)):=by
 have hS:=asD;have IE:nL [lo,hi]=true:=by
  unfold nL;rw [List.all_cons,List.all_cons,ay (show lo.size<=1000000000 by omega),ay (show hi.size<=1000000000 by omega)];rfl
 refine bL (c:=IA) func94 rfl rfl fun w F=> ?_
 have hr:=QP lo hi;unfold mw;by_cases cJ:ckR lo=0
 .rw [if_pos cJ]at hr ⊢;by_cases ch:ckR hi=0
  .rw [if_pos ch];have f:=Bu p8 cJ;have g:=Bu rA ch;have o:(okQ 20000 (aX lo)&&okQ 20000 (aX hi))=true:=bN (f.qr.mono δ).ok (g.qr.mono δ).ok;have hc:=asw p8 rA cJ ch;by_cases c:0<fj lo hi
   .rw [if_pos c];exact bg hS 9 (asl lo hi IE (by rw [hr,ch]) f.fr g.fr o ω)
   .rw [if_neg c];exact bg hS 9 (asm lo hi IE (by rw [hr,ch]) f.fr g.fr o ω)
  .rw [if_neg ch];have key:=RK lo hi IE (by rw [hr];exact ch);rw [hr]at key;exact bg hS 9 key
 .rw [if_neg cJ]at hr ⊢;have key:=RK lo hi IE (by rw [hr];exact cJ);rw [hr]at key;exact bg hS 9 key
def w4 {lo hi:AT}:(decide (lo.size<=24)&&decide (hi.size<=24))=true↔lo.size<=24/\hi.size<=24:=by rw [ae,bA,bA]
def QQ:YO.Ok prog:=fun⟨⟨lo,hi⟩,_⟩ h=>asE lo hi (w4.1 h).1 (w4.1 h).2
def asF:bD prog (bF En):=cM (aP O7 (aP Px dV))
def EQ {a:AT} (h:ckR a=0):isQ a=true:=oI.2 (Pn h)
def asG (lo hi:AT) (p8:lo.size<=24) (rA:hi.size<=24):Holds prog true 41 [kF lo hi] (iv (mw lo hi)):=by
 have hS:=asF;refine bL (c:=Em) func41 rfl rfl fun w F=> ?_
 unfold mw;have p8:lo.size<=1000000000:=by omega
 have rA:hi.size<=1000000000:=by omega
 by_cases cJ:ckR lo=0
 .rw [if_pos cJ];by_cases ch:ckR hi=0
  .rw [if_pos ch];have q:=bN (EQ cJ) (EQ ch);by_cases c:0<fj lo hi
   .rw [if_pos c];exact bg hS 9 (asn lo hi p8 cJ rA ch q c)
   .rw [if_neg c];have key:=aso lo hi p8 cJ rA ch q c;rw [ch]at key;exact bg hS 9 key
  .rw [if_neg ch];exact bg hS 9 (asp lo hi p8 cJ rA ch)
 .rw [if_neg cJ];exact bg hS 9 (asq lo hi p8 cJ)
def asH:YP.Ok prog:=fun⟨⟨lo,hi⟩,_⟩ h=>asG lo hi (w4.1 h).1 (w4.1 h).2
def asI:bD prog (bF BE):=cM (aP PV (aP QQ (aP DM (aP uH (aP PS (aP Pj dV))))))
def asJ (a:AT) (n:Int) (lo hi:AT) (ID:a.size<=24) (p8:lo.size<=24) (rA:hi.size<=24):Holds prog true 38 [sv a,iv n,kF lo hi] (iv (BF a n lo hi)):=by
 have hS:=asI;refine bL (c:=BD) func38 rfl rfl fun w F=> ?_
 unfold BF;have z9:a.size<=1000000000:=by omega
 by_cases h:eD a n=0
 .obtain⟨fr,qr,ok,⟨x,l1⟩,⟨y,l2⟩,_⟩:=Iy ID h;have z:=w4.2 ⟨p8,rA⟩;have e1:(m7 a n).1=ia (bx (aX a) (aT n)).1:=by unfold m7;rw [if_pos h]
  have e2:(m7 a n).2=ia (bx (aX a) (aT n)).2:=by unfold m7;rw [if_pos h]
  rw [if_pos h,e1,e2];by_cases s:mw lo hi=0
  .rw [if_pos s];by_cases c1:lo=ia (bx (aX a) (aT n)).1
   .by_cases c2:hi=ia (bx (aX a) (aT n)).2
    .rw [if_pos ⟨c1,c2⟩];exact bg hS 16 (ast a n lo hi z9 h z s fr ok (l1.rd δ) (congrArg aq c1) (l2.rd δ) (congrArg aq c2))
    .rw [if_neg fun g=>c2 g.2];exact bg hS 16 (asu a n lo hi z9 h z s fr ok (l1.rd δ) (congrArg aq c1) (l2.rd δ) (fun g=>c2 (fN g)))
   .rw [if_neg fun g=>c1 g.1];exact bg hS 16 (asv a n lo hi z9 h z s fr ok (l1.rd δ) (fun g=>c1 (fN g)))
  .rw [if_neg s];exact bg hS 16 (ass a n lo hi z9 h z s)
 .rw [if_neg h];exact bg hS 16 (asr a n lo hi z9 h)
def asK:YQ.Ok prog:=fun⟨a,n,⟨lo,hi⟩,_⟩ h=>by
 have h:(decide (a.size<=24)&&(decide (lo.size<=24)&&decide (hi.size<=24)))=true:=h;rw [ae,bA]at h;exact asJ a n lo hi h.1 (w4.1 h.2).1 (w4.1 h.2).2
attribute [local irreducible] aU isQ toQ
end
end
section
def YS {x y:Int} (hy:0<y) (hg:Int.gcd x y=1):(Rat.divInt x y).num=x/\((Rat.divInt x y).den:Int)=y:=by
 have hg2:Int.gcd y x=1:=by rw [Int.gcd_comm];exact hg
 refine⟨?_, ?_⟩
 .rw [Rat.num_divInt,hg2,Int.sign_eq_one_of_pos hy];simp
 .rw [Rat.den_divInt,if_neg ω,hg2];simp;omega
def asL {x y u v:Int} (h:u*y-x*v=1):Int.gcd x y=1/\Int.gcd u v=1:=by
 refine⟨?_, ?_⟩
 .have d1:((Int.gcd x y:Nat):Int)∣1:=by
   rw [<-h];exact Int.dvd_sub (Int.dvd_trans (Int.gcd_dvd_right ..) (Int.dvd_mul_left _ _)) (Int.dvd_trans (Int.gcd_dvd_left ..) (Int.dvd_mul_right _ _))
  have:=Int.le_of_dvd δ d1;have:Int.gcd x y≠0:=fun e=>by rw [e]at d1;exact absurd (Int.zero_dvd.1 d1) δ
  omega
 .have d1:((Int.gcd u v:Nat):Int)∣1:=by
   rw [<-h];exact Int.dvd_sub (Int.dvd_trans (Int.gcd_dvd_left ..) (Int.dvd_mul_right _ _)) (Int.dvd_trans (Int.gcd_dvd_right ..) (Int.dvd_mul_left _ _))
  have:=Int.le_of_dvd δ d1;have:Int.gcd u v≠0:=fun e=>by rw [e]at d1;exact absurd (Int.zero_dvd.1 d1) δ
  omega
structure YT (r lo hi:Rat) (M:Int):Prop where
 le:lo<=r
 ge:r<=hi
 Eo:∀n d:Int,1<=d->d<=M->(n:Rat)/(d:Rat)<=lo\/hi<=(n:Rat)/(d:Rat)
 sl:gy lo
 sh:gy hi
 nl:lo.num.natAbs<100000000000000000
 asM:hi.num.natAbs<100000000000000000
 dl:(lo.den:Int)<=M
 Ep:(hi.den:Int)<=M
 alt:(lo=r/\hi=r/\(r.den:Int)<=M)\/(M<(r.den:Int)/\hi.num*(lo.den:Int)-lo.num*(hi.den:Int)=1/\M<(lo.den:Int)+(hi.den:Int))
def Er (r:Rat):Prop:=r.num.natAbs<100000000/\r.den<100000000
def asN {N D M p q r s:Int} (h:mQ N D M p q r s) (hN:N.natAbs<100000000) (hD:0<D) (au8:D<100000000) (dY:M<D):p.natAbs<100000000000000000/\r.natAbs<100000000000000000:=by
 have q1:=h.q1;have s1:=h.s1;have oJ:=h.oJ;have oK:=h.oK;have lo:=h.lo;have hi:=h.hi;have nB:=h.nB;have br:=h.br;have f1: -100000000<=N/D:=(Int.le_ediv_iff_mul_le hD).2 ω;have f2:N/D<100000000:=(Int.ediv_lt_iff_lt_mul hD).2 ω;have a1: -100000000*q<=N/D*q:=ar f1 ω;have a2:(N/D+1)*s<=100000000*s:=ar ω ω;have b1:N*q<=100000000*q:=ar ω ω;have b2: -100000000*s<=N*s:=ar ω ω;have c1:0<=p->p*1<=p*D:=fun h0=>dZ ω h0
 have c2:r<0->r*D<=r*1:=fun h0=>Int.mul_le_mul_of_nonpos_left ω ω
 refine⟨?_, ?_⟩
 .by_cases h0:0<=p
  .have:=c1 h0;omega
  .omega
 .by_cases h0:r<0
  .have:=c2 h0;omega
  .omega
def asO {a:AT} {n:Int} (hz:a.size<=24) (h:eD a n=0) (hf:Er (toQ a)):
  ∃lo hi:Rat,(m7 a n).1=aU lo/\(m7 a n).2=aU hi/\QR 3 (bx (aX a) (aT n)).1 lo/\QR 3 (bx (aX a) (aT n)).2 hi/\YT (toQ a) lo hi n:=by
 have F:=Iy hz h;have hn:1<=n:=by
  unfold eD at h;by_cases c:ckR a=0
  .rw [if_pos c]at h;by_cases g:1<=n/\n<=999999999
   .exact g.1
   .rw [if_neg g]at h;cases h
  .rw [if_neg c]at h;exact absurd h c
 obtain⟨f1,f2⟩:=hf;have hD:0<((toQ a).den:Int):=by have:=(toQ a).den_pos;omega
 unfold m7;rw [if_pos h];have law:=F.law;have qr:=F.qr;generalize toQ a=r at*;rcases law with⟨hd,e⟩|⟨hd,x,y,u,v,nb,asP,l1,l2⟩
 .rw [e];refine⟨r,r, ?_, ?_,qr.mono δ,qr.mono δ,Rat.le_refl,Rat.le_refl,fun n d _ _=>Rat.le_total,⟨by omega,by omega⟩,⟨by omega,by omega⟩,by omega,by omega,hd,hd,Or.inl ⟨rfl,rfl,hd⟩⟩
  .show aU (wW (aX a))=aU r;rw [qr.val]
  .show aU (wW (aX a))=aU r;rw [qr.val]
 .have q1:=nb.q1;have s1:=nb.s1;have oJ:=nb.oJ;have oK:=nb.oK;have lo:=nb.lo;have hi:=nb.hi;obtain⟨g1,g2⟩:=asL nb.wY;obtain⟨n1,d1⟩:=YS (show 0<y by omega) g1;obtain⟨n2,d2⟩:=YS (show 0<v by omega) g2;obtain⟨b1,b2⟩:=asN nb f1 hD ω hd;have Dq:=PX r;refine⟨Rat.divInt x y,Rat.divInt u v, ?_, ?_,l1,l2, ?_, ?_,fun k d h1 h2=> ?_,⟨by rw [n1];omega,by omega⟩,⟨by rw [n2];omega,by omega⟩,by rw [n1];exact b1,by rw [n2];exact b2,by omega,by omega,Or.inr ⟨hd, ?_,by omega⟩⟩
  .show aU (wW _)=_;rw [l1.val]
  .show aU (wW _)=_;rw [l2.val]
  .rw [Rat.divInt_eq_div,<-Dq];exact El ω hD ω
  .rw [Rat.divInt_eq_div];have key:(r.num:Rat)/((r.den:Int):Rat)<=(u:Rat)/(v:Rat):=El hD ω ω;rw [Dq]at key;exact key
  .rw [Rat.divInt_eq_div,Rat.divInt_eq_div];rcases aq6 (n:=k) nb asP h1 h2 with g|g
   .exact Or.inl (El ω ω g)
   .exact Or.inr (El ω ω g)
  .rw [n1,n2,d1,d2];exact nb.wY
def asQ {a:AT} {n:Int} {lo hi:Rat} (h:eD a n=0) (qr:QR 2 (aX a) (toQ a)) (l1:QR 3 (bx (aX a) (aT n)).1 lo) (l2:QR 3 (bx (aX a) (aT n)).2 hi):
  ∃b,EN a n=aU b/\((b=lo/\toQ a-lo<=hi-toQ a)\/(b=hi/\hi-toQ a<=toQ a-lo)):=by
 have q1:=tf (qr.mono (show 2<=3 by decide)) l1 δ;have aQ:=tf l2 (qr.mono (show 2<=3 by decide)) δ;have c:=V8 q1 aQ;have t1:ia (bx (aX a) (aT n)).1=aU lo:=by unfold ia;rw [l1.val]
 have t2:ia (bx (aX a) (aT n)).2=aU hi:=by unfold ia;rw [l2.val]
 unfold EN;rw [if_pos h,c,t1,t2];generalize toQ a=r at*;generalize fH (bx (aX a) (aT n)).2.2 (bx (aX a) (aT n)).1.2=z;by_cases c1:r-lo<hi-r
 .rw [if_pos c1,if_neg ω];exact⟨lo,rfl,Or.inl ⟨rfl,Rat.le_of_lt c1⟩⟩
 .rw [if_neg c1];have CY:=Rat.not_lt.1 c1;by_cases c2:r-lo=hi-r
  .rw [if_pos c2];by_cases hz:z<0
   .rw [if_pos (Or.inr ⟨rfl,hz⟩)];exact⟨hi,rfl,Or.inr ⟨rfl,CY⟩⟩
   .rw [if_neg ω];exact⟨lo,rfl,Or.inl ⟨rfl,by rw [c2];exact Rat.le_refl⟩⟩
  .rw [if_neg c2,if_pos (Or.inl δ)];exact⟨hi,rfl,Or.inr ⟨rfl,CY⟩⟩
def nM (r:Rat):Rat:=if r<0 then-r else r
def asR {r lo hi b x:Rat} {M:Int} (N:YT r lo hi M) (hb:(b=lo/\r-lo<=hi-r)\/(b=hi/\hi-r<=r-lo)) (hx:x<=lo\/hi<=x):nM (b-r)<=nM (x-r):=by
 have:=N.le;have:=N.ge;unfold nM;rcases hb with⟨rfl,g⟩|⟨rfl,g⟩<;>rcases hx with k|k<;>(split<;>split<;>grind)
def asS {a b c d:Int} (hb:0<b) (hd:0<d) (h:a*d<c*b):(a:Rat)/(b:Rat)<(c:Rat)/(d:Rat):=by
 refine Rat.not_le.1 fun g=> ?_
 have pb:(0:Rat)<(b:Rat):=Rat.intCast_pos.2 hb;have pd:(0:Rat)<(d:Rat):=Rat.intCast_pos.2 hd;have nb:(b:Rat)≠0:=fun h0=>by rw [h0]at pb;exact Rat.lt_irrefl pb
 have nd:(d:Rat)≠0:=fun h0=>by rw [h0]at pd;exact Rat.lt_irrefl pd
 have g2:=Rat.mul_le_mul_of_nonneg_right g (Rat.le_of_lt (Rat.mul_pos pb pd));have e1:(a:Rat)/(b:Rat)*((b:Rat)*(d:Rat))=((a*d:Int):Rat):=by
  rw [<-Rat.mul_assoc,Rat.div_mul_cancel nb,Rat.intCast_mul]
 have e2:(c:Rat)/(d:Rat)*((b:Rat)*(d:Rat))=((c*b:Int):Rat):=by
  rw [Rat.mul_comm (b:Rat),<-Rat.mul_assoc,Rat.div_mul_cancel nd,Rat.intCast_mul]
 rw [e1,e2]at g2;have:=Rat.intCast_le_intCast.1 g2;omega
def asT {a b c d:Int} (hb:0<b) (hd:0<d):(a:Rat)/(b:Rat)-(c:Rat)/(d:Rat)=((a*d-c*b:Int):Rat)/((b*d:Int):Rat):=by
 have nb:(b:Int)≠0:=by omega
 have nd:(d:Int)≠0:=by omega
 rw [<-Rat.divInt_eq_div,<-Rat.divInt_eq_div,<-Rat.divInt_eq_div,Rat.divInt_sub_divInt _ _ nb nd]
def YU {a b:Int} (hb:0<b):nM ((a:Rat)/(b:Rat))=((a.natAbs:Int):Rat)/(b:Rat):=by
 unfold nM;by_cases h:a<0
 .have h1:=asS (a:=a) (b:=b) (c:=0) (d:=1) hb δ ω;rw [Iz,Rat.intCast_zero]at h1;rw [if_pos h1,<-Rat.divInt_eq_div,<-Rat.divInt_eq_div,Rat.neg_divInt];congr 1;omega
 .have h1:=El (a:=0) (b:=1) (c:=a) (d:=b) δ hb ω;rw [Iz,Rat.intCast_zero]at h1;rw [if_neg (Rat.not_lt.2 h1)];congr 2;omega
set_option maxHeartbeats 4000000
noncomputable section
def Es:=k_a Tryz.f28
def P0:=k_a Tryz.f42
def YV:=k_a Tryz.f34
def Et:=a8 [HV,OL,OO,OM]
section
variable (a:AT) (h1:(a.size:Int)<=2*8+2) (h2:a.size<=1000000000)
def asU (h3:ckR a=0) (h4:(↑(sK (vz a)).size:Int)<=8) (h5:(decide ((↑(jI a).size:Int)<=8))=(decide ((↑(jI a).size:Int)<=8))):
  bf Et (fl Es []) 9 31 [sv a,iv 8] 262143 Tryz.f28 true (bv (decide (((jI a).size:Int)<=8))):=
 wy [aa (aL (ay h1)),ah h2,ah h1,aa (aL (fP.mpr h3)),cT h3,aa (aL (ay h4)),ah h4,ax h5] 2826223299124896081622843671468882882990080
def asV (h3:ckR a=0) (h4:¬(↑(sK (vz a)).size:Int)<=8):
  bf Et (fl Es []) 9 31 [sv a,iv 8] 133119 Tryz.f28 true (bv false):=
 wy [aa (aL (ay h1)),ah h2,ah h1,aa (aL (fP.mpr h3)),cT h3,aa (aL (ab h4)),aK h4] 603596103227530272553682139961679417344
def asW (h3:¬ckR a=0):
  bf Et (fl Es []) 9 31 [sv a,iv 8] 131087 Tryz.f28 true (bv false):=
 wy [aa (aL (ay h1)),ah h2,ah h1,aa (aL (eN.mpr h3)),yn h3] 1530346573242256226258944
end
def asX (a:AT) (h1:¬(a.size:Int)<=2*8+2):
  bf Et (fl Es []) 9 31 [sv a,iv 8] 131072 Tryz.f28 true (bv false):=
 wy [aa (aL (ab h1)),aK h1] 2164527104
def w5 (a:AT):Bool:=decide (a.size<=18)&&(decide (ckR a=0)&&(decide ((sK (vz a)).size<=8)&&decide ((jI a).size<=8)))
def YW:=IN 28 [.str, .int .i64] [.bool] true (fun d=>decide ((d.2.1:Int)=8)) fun d=>(w5 d.1,())
def P3:=a8 [Ii]
section
variable (a lo hi:AT) (h1:(isQ lo&&isQ a)=true)
def in_1 (h2:fj lo a<=0) (h3:(isQ a&&isQ hi)=true) (h4:(decide (fj a hi<=0))=(decide (fj a hi<=0))):
  bf P3 (fl P0 []) 9 17 [sv a,kF lo hi] 127 Tryz.f42 true (bv (decide (fj a hi<=0))):=
 wy [aa h1,aa (aL (ay h2)),aa h3,ah h2,ax h4] 1425107763863681
def asY (h2:¬fj lo a<=0):
  bf P3 (fl P0 []) 9 17 [sv a,kF lo hi] 64 Tryz.f42 true (bv false):=
 wy [aa h1,aa (aL (ab h2)),aK h2] 208340000897
end
noncomputable def BH (a lo hi:AT):Bool:=decide (fj lo a<=0)&&decide (fj a hi<=0)
def YX:=IN 42 [.str, .pair .str .str] [.bool] true (fun d=>isQ d.1&&(isQ d.2.1.1&&isQ d.2.1.2)) fun d=>(BH d.1 d.2.1.1 d.2.1.2,())
def YY:=a8 [Ie,OO]
def asZ (a b:AT) (h1:(isQ a&&isQ b)=true):
  bf YY (fl YV []) 9 9 [sv a,sv b] 1 Tryz.f34 true (sv (sK (p0 a b))):=
 wy [aa h1] 1
noncomputable def nN (a b:AT):AT:=sK (p0 a b)
def YZ:=IN 34 [.str, .str] [.str] true (fun d=>isQ d.1&&isQ d.2.1) fun d=>(nN d.1 d.2.1,())
end
end
end Go.Proofs.YtibikmmdbdlafaaGreatDoor
