import Derived.Test.YtibikmmdbdlafaaGreatDoorZnGAw2
set_option linter.defProp false
set_option linter.unusedSimpArgs false
set_option linter.unusedVariables false
set_option maxRecDepth 100000
namespace Go.Proofs.YtibikmmdbdlafaaGreatDoor
open Go.RowKit Sv Go.Proofs.Tryz
noncomputable section
def ze:=k_a f18
def zf:=a7 [W1]
def zg (bad:Int) (want:AT):Int:=if bad=0 then p5 want else bad
def rq (h:AT) (e bad:Int) (want:AT):Bool:=if zg bad want=0 then(e==0)&&decide (h=want)else decide (h.size=0)&&(e==zg bad want)
section
variable (mb want:AT) (e bad:Int)
def arK (h1:¬bad=0) (h2:(mb.data).toList=((ByteArray.mk #[]).data).toList):
  aV zf (fl ze []) 9 29 [sv mb,iv e,iv bad,sv want] 126 f18 true (bv (e==bad)):=
 wy [yn h1,aa (fA.mpr h1),aa (aL (az h2)),ah h2] 4346097793
def arL (h1:¬bad=0) (h2:¬(mb.data).toList=((ByteArray.mk #[]).data).toList):
  aV zf (fl ze []) 9 29 [sv mb,iv e,iv bad,sv want] 66 f18 true (bv false):=
 wy [yn h1,aa (fA.mpr h1),aa (aL (ab h2)),aF h2] 4346097793
def arM (h1:bad=0) (h2:want.size<=1000000000) (h3:¬p5 want=0) (h4:(mb.data).toList=((ByteArray.mk #[]).data).toList):
  aV zf (fl ze []) 9 29 [sv mb,iv e,iv bad,sv want] 127 f18 true (bv (e==p5 want)):=
 wy [cM h1,ah h2,aa (fA.mpr h3),aa (aL (az h4)),ah h4] 347960520833
def arN (h1:bad=0) (h2:want.size<=1000000000) (h3:¬p5 want=0) (h4:¬(mb.data).toList=((ByteArray.mk #[]).data).toList):
  aV zf (fl ze []) 9 29 [sv mb,iv e,iv bad,sv want] 67 f18 true (bv false):=
 wy [cM h1,ah h2,aa (fA.mpr h3),aa (aL (ab h4)),aF h4] 347960520833
def arO (h1:bad=0) (h2:want.size<=1000000000) (h3:p5 want=0) (h4:e=0):
  aV zf (fl ze []) 9 29 [sv mb,iv e,iv bad,sv want] 125 f18 true (bv (decide (mb.data.toList=want.data.toList))):=
 wy [cM h1,ah h2,aa (ef.mpr h3),aa (aL (fW.mpr h4)),cM h4] 347960520833
def arP (h1:bad=0) (h2:want.size<=1000000000) (h3:p5 want=0) (h4:¬e=0):
  aV zf (fl ze []) 9 29 [sv mb,iv e,iv bad,sv want] 65 f18 true (bv false):=
 wy [cM h1,ah h2,aa (ef.mpr h3),aa (aL (eB.mpr h4)),yn h4] 347960520833
end
def Yx:=IN 18 [.str, .int .i64, .int .i64, .str] [.bool] true (fun d=>decide (d.2.2.2.1.size<=1000000000)) fun d=>(rq d.1 d.2.1 d.2.2.1 d.2.2.2.1,())
def arQ {a b:AT}:a.data.toList=b.data.toList↔a=b:=⟨HG,fun h=>by rw [h]⟩
def Ig {s:AT}:s.data.toList=(ByteArray.mk #[]).data.toList↔s.size=0:=by
 rw [c6 s];show aq s=[]↔_;rw [List.length_eq_zero_iff]
def arR:Yx.Ok prog:=fun⟨h,e,bad,want,_⟩ hp=>by
 have hz:want.size<=1000000000:=ap hp;have hS:bD prog (bF zf):=qJ aoy;show Holds prog true 18 [sv h,iv e,iv bad,sv want] (bv (rq h e bad want));refine bL (c:=ze) func18 rfl rfl fun w F=> ?_
 unfold rq zg;by_cases hb:bad=0
 .rw [if_pos hb];by_cases hl:p5 want=0
  .rw [if_pos hl];by_cases he:e=0
   .have e1:((e==0)&&decide (h=want))=decide (h.data.toList=want.data.toList):=by rw [he];show(true&&_)=_;rw [Bool.true_and];exact decide_eq_decide.2 arQ.symm
    rw [e1];exact aY hS 9 (arO h want e bad hb hz hl he)
   .have e1:((e==0)&&decide (h=want))=false:=by rw [eB.2 he];rfl
    rw [e1];exact aY hS 9 (arP h want e bad hb hz hl he)
  .rw [if_neg hl];by_cases h0:h.size=0
   .rw [az h0,Bool.true_and];exact aY hS 9 (arM h want e bad hb hz hl (Ig.2 h0))
   .rw [ab h0,Bool.false_and];exact aY hS 9 (arN h want e bad hb hz hl fun g=>h0 (Ig.1 g))
 .rw [if_neg hb,if_neg hb];by_cases h0:h.size=0
  .rw [az h0,Bool.true_and];exact aY hS 9 (arK h want e bad hb (Ig.2 h0))
  .rw [ab h0,Bool.false_and];exact aY hS 9 (arL h want e bad hb fun g=>h0 (Ig.1 g))
end
set_option maxHeartbeats 1000000
noncomputable section
structure mZ (N D:Nat) (r:Rat):Prop where
 n:r.num.natAbs<=N
 d:r.den<=D
def Yy {a b:Int} {N D:Nat} (hb:1<=b) (h1:a.natAbs<=N) (h2:b<=(D:Int)):mZ N D (Rat.divInt a b):=by
 have hg:0<Int.gcd a b:=Int.gcd_pos_of_ne_zero_right _ (by omega);have m1:=Int.ediv_mul_cancel (show(Int.gcd a b:Int)∣a from Int.gcd_dvd_left ..);have m2:=Int.ediv_mul_cancel (show(Int.gcd a b:Int)∣b from Int.gcd_dvd_right ..);have e:Rat.divInt a b=Rat.divInt (a/(Int.gcd a b:Int)) (b/(Int.gcd a b:Int)):=by
  have e3:Rat.divInt a b=Rat.divInt (a/(Int.gcd a b:Int)*(Int.gcd a b:Int)) (b/(Int.gcd a b:Int)*(Int.gcd a b:Int)):=by rw [m1,m2]
  rw [e3];exact Rat.divInt_mul_right (show(Int.gcd a b:Int)≠0 by omega)
 have h0:0<=b/(Int.gcd a b:Int):=Int.ediv_nonneg (by omega) (by omega);have kq:1<=b/(Int.gcd a b:Int):=by
  by_cases hz:b/(Int.gcd a b:Int)=0
  .rw [hz]at m2;omega
  .omega
 have hc:Int.gcd (a/(Int.gcd a b:Int)) (b/(Int.gcd a b:Int))=1:=by
  have:=Int.gcd_ediv_gcd_ediv_gcd hg;exact this
 obtain⟨c1,c2⟩:=N2 kq hc;have l1:(a/(Int.gcd a b:Int)).natAbs<=a.natAbs:=Int.natAbs_ediv_le_natAbs ..;have l2:b/(Int.gcd a b:Int)<=b:=Int.ediv_le_self _ (by omega);rw [e];exact⟨by rw [c1];omega,by omega⟩
def Pu {N D M E:Nat} {r s:Rat} (h:mZ N D r) (g:mZ M E s):mZ (N*M) (D*E) (r*s):=by
 have e:r*s=Rat.divInt (r.num*s.num) (r.den*s.den):=by rw [<-Rat.divInt_mul_divInt,Rat.num_divInt_den,Rat.num_divInt_den]
 rw [e];have p:=Nat.mul_le_mul h.n g.n;have q:=Nat.mul_le_mul h.d g.d;have p1:=Nat.mul_pos r.den_pos s.den_pos;refine Yy (by rw [<-Int.natCast_mul];omega) (by rw [Int.natAbs_mul];exact p) (by rw [<-Int.natCast_mul];omega)
def Yz {n:Int} {N:Nat} (h:n.natAbs<=N):mZ N 1 (n:Rat):=⟨by rw [Rat.num_intCast];exact h,by rw [Rat.den_intCast];exact aK 1⟩
def arS {n:Int} {N:Nat} (h1:1<=n) (h:n<=(N:Int)):mZ 1 N (n:Rat)⁻¹ :=by
 have e:(n:Rat)⁻¹ =Rat.divInt 1 n:=by rw [aqB,Rat.inv_divInt]
 rw [e];exact Yy h1 (aK 1) h
def kZ {N D k:Nat} {r:Rat} (h:mZ N D r) (h1:N<1000000000^k) (h2:D<1000000000^k):fR k r:=by
 have e:((1000000000^k:Nat):Int)=1000000000^k:=by rw [Int.natCast_pow];rfl
 have:=h.n;have:=h.d;exact⟨by rw [<-e];omega,by rw [<-e];omega⟩
def arT:bD prog (bF Ee):=cN (aQ aqY (aQ X5 (aQ WN (aQ an8 (aQ anN (aQ aq5 (aQ aq6 dW)))))))
def Ih {N D:Nat} {r:Rat} (h:mZ N D r):mZ N D (-r):=⟨by show(-r.num).natAbs<=N;rw [Int.natAbs_neg];exact h.n,h.d⟩
def Ei {N D:Nat} {r:Rat} (h:mZ N D r):mZ (N+1) 1 ((r.floor:Int):Rat):=by
 have:=X8 r;have:=h.n;exact Yz (by rw [Rat.floor_def];omega)
structure arU (a:AT) (r:Rat) (d:Int):Prop where
 f:isQ (fy d)=true/\ptN (fy d)≠0
 m:isQ (lh a (fy d))=true
 n:isQ (gJ (lh a (fy d)))=true
 nf:isQ (iu (gJ (lh a (fy d))))=true
 fl:isQ (iu (lh a (fy d)))=true
 c:isQ (gJ (iu (gJ (lh a (fy d)))))=true
 lo:Ef a d=aU ((((r*(d:Rat)).floor:Int):Rat)/(d:Rat))/\fR 5 ((((r*(d:Rat)).floor:Int):Rat)/(d:Rat))
 hi:Eg a d=aU (-(((-(r*(d:Rat))).floor:Int):Rat)/(d:Rat))/\fR 5 (-(((-(r*(d:Rat))).floor:Int):Rat)/(d:Rat))
def arV {r:Rat} {d:Int} (hb:mZ (10^24) (10^24) r) (h1:1<=d) (h2:d<=1000000000):arU (aU r) r d:=by
 have YA:mZ 1000000000 1 (d:Rat):=Yz (by omega);have id:=kZ (k:=2) YA (by decide) (by decide);have t1:toQ (fy d)=(d:Rat):=iL (k:=2) (by decide) id;have t0:=iL (k:=3) (by decide) (kZ (k:=3) hb (by decide) (by decide));have bm:=Pu hb YA;have im:=kZ (k:=4) bm (by decide) (by decide);have em:lh (aU r) (fy d)=aU (r*(d:Rat)):=by unfold lh;rw [t0,t1]
 have tm:=iL (k:=4) (by decide) im;have kO:=Ih bm;have Ej:=kZ (k:=4) kO (by decide) (by decide);have bH:gJ (aU (r*(d:Rat)))=aU (-(r*(d:Rat))):=by unfold gJ s4;rw [tm]
 have tn:=iL (k:=4) (by decide) Ej;have YB:=Ei bm;have YC:=Ei kO;have Ii:=kZ (k:=4) YB (by decide) (by decide);have Ek:=kZ (k:=4) YC (by decide) (by decide);have AZ:iu (aU (r*(d:Rat)))=aU (((r*(d:Rat)).floor:Int):Rat):=by unfold iu By;rw [tm]
 have eg:iu (aU (-(r*(d:Rat))))=aU (((-(r*(d:Rat))).floor:Int):Rat):=by unfold iu By;rw [tn]
 have tf:=iL (k:=4) (by decide) Ii;have tg:=iL (k:=4) (by decide) Ek;have YD:=Ih YC;have ih:=kZ (k:=4) YD (by decide) (by decide);have eh:gJ (aU (((-(r*(d:Rat))).floor:Int):Rat))=aU (-(((-(r*(d:Rat))).floor:Int):Rat)):=by unfold gJ s4;rw [tg]
 have n4:=iL (k:=4) (by decide) ih;have bi:=arS (n:=d) (N:=1000000000) h1 h2;have d1:=Pu YB bi;have d2:=Pu YD bi;rw [<-Rat.div_def]at d1 d2;refine⟨⟨cf (k:=2) (by decide) id, ?_⟩, ?_, ?_, ?_, ?_, ?_,⟨?_,kZ (k:=5) d1 (by decide) (by decide)⟩, ?_,kZ (k:=5) d2 (by decide) (by decide)⟩
 .show ptN (aU (d:Rat))≠0;rw [(uR (k:=2) (by decide) id).n,Rat.num_intCast];omega
 .rw [em];exact cf (k:=4) (by decide) im
 .rw [em,bH];exact cf (k:=4) (by decide) Ej
 .rw [em,bH,eg];exact cf (k:=4) (by decide) Ek
 .rw [em,AZ];exact cf (k:=4) (by decide) Ii
 .rw [em,bH,eg,eh];exact cf (k:=4) (by decide) ih
 .unfold Ef uY;rw [em,AZ,tf,t1]
 .unfold Eg uY;rw [em,bH,eg,eh,n4,t1]
def arW {L X:Rat} (h:fR 5 L) (g:fR 5 X):wR (aU L) (aU X)=aU (if L<X then X else L):=by
 unfold wR;rw [Ed (k:=5) (m:=5) (by decide) (by decide) h g];by_cases c:L<X
 .have e:L-X<0:=by grind
  rw [if_pos c,if_pos e,if_neg (by decide)]
 .have e:¬L-X<0:=by grind
  rw [if_neg c,if_neg e,if_pos (by split<;>decide)]
def arX {L X:Rat} (h:fR 5 L) (g:fR 5 X):wS (aU L) (aU X)=aU (if X<L then X else L):=by
 unfold wS;rw [Ed (k:=5) (m:=5) (by decide) (by decide) h g];by_cases c:X<L
 .have e:¬L-X<0:=by grind
  have e2:¬L-X=0:=by grind
  rw [if_pos c,if_neg e,if_neg e2,if_neg (by decide)]
 .rw [if_neg c];by_cases e:L-X<0
  .rw [if_pos e,if_pos (by decide)]
  .have e2:L-X=0:=by grind
   rw [if_neg e,if_pos e2,if_pos (by decide)]
def YE {r:Rat} {n q s:Int} {ru ry:Rat} (hb:mZ (10^24) (10^24) r) (n2:n<=1000000000) (q1:1<=q) (qn:q<=n) (s1:1<=s) (sn:s<=n)
  (hl0:((r.floor:Int):Rat)<=ru) (hh0:ry<= -(((-r).floor:Int):Rat))
  (hl:∀e:Int,1<=e->e<=n->((((r*(e:Rat)).floor:Int):Rat)/(e:Rat))<=ru) (hlq:((((r*(q:Rat)).floor:Int):Rat)/(q:Rat))=ru)
  (hh:∀e:Int,1<=e->e<=n->ry<=(-(((-(r*(e:Rat))).floor:Int):Rat)/(e:Rat))) (Rs:(-(((-(r*(s:Rat))).floor:Int):Rat)/(s:Rat))=ry):
  Holds prog true 39 [sv (aU r),iv n] (.agg [sv (aU ru),sv (aU ry)]):=by
 have hS:=arT;have i0:=kZ (k:=3) hb (by decide) (by decide);have t0:=iL (k:=3) (by decide) i0;have kO:=Ih hb;have Ej:=kZ (k:=3) kO (by decide) (by decide);have tn:=iL (k:=3) (by decide) Ej;have bH:gJ (aU r)=aU (-r):=by unfold gJ s4;rw [t0]
 have AZ:iu (aU r)=aU ((r.floor:Int):Rat):=by unfold iu By;rw [t0]
 have eg:iu (aU (-r))=aU (((-r).floor:Int):Rat):=by unfold iu By;rw [tn]
 have Ii:=kZ (k:=5) (Ei hb) (by decide) (by decide);have Ek:=kZ (k:=5) (Ei kO) (by decide) (by decide);have tg:=iL (k:=5) (by decide) Ek;have eh:gJ (aU (((-r).floor:Int):Rat))=aU (-(((-r).floor:Int):Rat)):=by unfold gJ s4;rw [tg]
 have ih:=kZ (k:=5) (Ih (Ei kO)) (by decide) (by decide);refine bL (c:=zb) func39 rfl rfl fun w F=> ?_
 have key:=arc (aU r) n (cf (k:=3) (by decide) i0) (by rw [bH];exact cf (k:=3) (by decide) Ej) (by rw [bH,eg];exact cf (k:=5) (by decide) Ek);rw [bH,eg,eh,AZ]at key;refine cR hS 4 key ?_;refine aW.loop (ι:={x:(Rat×Rat)×Int//1<=x.2/\x.2<=n+1/\fR 5 x.1.1/\fR 5 x.1.2/\x.1.1<=ru/\ry<=x.1.2/\(q<x.2->x.1.1=ru)/\(s<x.2->x.1.2=ry)}) (id:=0) (b:=cat zb Po) (rest:=(fl zb []).drop 5) (by kernel_rfl) (fun x=>s5 (aU r) n (aU x.1.1.1) (aU x.1.1.2) x.1.2) (fun x=>(n+1-x.1.2).toNat)
  ⟨((((r.floor:Int):Rat),-(((-r).floor:Int):Rat)),1),Int.le_refl 1,by show(1:Int)<=n+1;omega,Ii,ih,hl0,hh0,fun h=>by have h:q<1:=h;omega,fun h=>by have h:s<1:=h;omega⟩ (fun _=>rfl) ?_
 rintro⟨⟨⟨L,H⟩,d⟩,d1,YF,El,Em,lL,Pv,Ij,Ik⟩;have d1:1<=d:=d1;have YF:d<=n+1:=YF;have El:fR 5 L:=El;have Em:fR 5 H:=Em;have lL:L<=ru:=lL;have Pv:ry<=H:=Pv;have Ij:q<d->L=ru:=Ij;have Ik:s<d->H=ry:=Ik;by_cases hd:d<=n
 .have A:=arV hb d1 (by omega);obtain⟨x1,x2⟩:=A.lo;obtain⟨y1,y2⟩:=A.hi;have arY:=cf (k:=5) (by decide) El;have arZ:=cf (k:=5) (by decide) Em;have YG:(!ptN (fy d)==0)=true:=by rw [eB.2 A.f.2];rfl
  have key:=ard (aU r) n (aU L) (aU H) d hd (bZ (az (by show(-9223372036854775808:Int)<=d;omega)) (az (by show d<=(9223372036854775807:Int);omega))) (bZ (cf (k:=3) (by decide) i0) A.f.1) A.m A.n A.nf (bZ A.fl (bZ A.f.1 YG)) (bZ arY (by show isQ (Ef (aU r) d)=true;rw [x1];exact cf (k:=5) (by decide) x2)) (bZ A.c (bZ A.f.1 YG)) (bZ arZ (by show isQ (Eg (aU r) d)=true;rw [y1];exact cf (k:=5) (by decide) y2)) (by omega) rfl rfl;rw [x1,y1,arW El x2,arX Em y2]at key;have hX:=hl d d1 hd;have hY:=hh d d1 hd;have ar0:q=d->((((r*(d:Rat)).floor:Int):Rat)/(d:Rat))=ru:=fun e=>by rw [<-e];exact hlq
  have ar1:s=d->(-(((-(r*(d:Rat))).floor:Int):Rat)/(d:Rat))=ry:=fun e=>by rw [<-e];exact Rs
  generalize ((((r*(d:Rat)).floor:Int):Rat)/(d:Rat))=X at*;generalize (-(((-(r*(d:Rat))).floor:Int):Rat)/(d:Rat))=Y at*;refine bC (s:=s5 (aU r) n (aU L) (aU H) d) hS key ?_;refine⟨⟨((if L<X then X else L,if Y<H then Y else H),d+1),by show 1<=d+1;omega,by show d+1<=n+1;omega, ?_, ?_, ?_, ?_, ?_, ?_⟩,by show(n+1-(d+1)).toNat<(n+1-d).toNat;omega,rfl,rfl⟩
  .show fR 5 (if L<X then X else L);by_cases c:L<X
   .rw [if_pos c];exact x2
   .rw [if_neg c];exact El
  .show fR 5 (if Y<H then Y else H);by_cases c:Y<H
   .rw [if_pos c];exact y2
   .rw [if_neg c];exact Em
  .show(if L<X then X else L)<=ru;by_cases c:L<X
   .rw [if_pos c];exact hX
   .rw [if_neg c];exact lL
  .show ry<=(if Y<H then Y else H);by_cases c:Y<H
   .rw [if_pos c];exact hY
   .rw [if_neg c];exact Pv
  .intro h;have h:q<d+1:=h;show(if L<X then X else L)=ru;by_cases e:q=d
   .have:=ar0 e;split
    .exact this
    .grind
   .have:=Ij (by omega);rw [if_neg (by grind)];exact this
  .intro h;have h:s<d+1:=h;show(if Y<H then Y else H)=ry;by_cases e:s=d
   .have:=ar1 e;split
    .exact this
    .grind
   .have:=Ik (by omega);rw [if_neg (by grind)];exact this
 .refine bC (s:=s5 (aU r) n (aU L) (aU H) d) hS (arf _ n _ _ d hd) ?_;refine cI (cQ ?_);have key:=arh (aU r) n (aU L) (aU H) d;have e1:=Ij (by omega);have e2:=Ik (by omega);subst e1;subst e2;exact bY (s:=s5 (aU r) n (aU L) (aU H) d) hS key
end
set_option maxHeartbeats 4000000
noncomputable section
def Pw:=k_a Tryz.f151
def mg:=k_a Tryz.f90
def Px:=a7 [AI]
noncomputable def p8 (a b:aC):Int×List Int:=if fp b a<0 then b else a
section
variable (a b:aC) (h1:(aZ 50000 b&&aZ 50000 a)=true)
def ar2 (h2:fp b a<0):
  aV Px (fl Pw []) 9 11 [aB a,aB b] 3 Tryz.f151 false (aB b):=
 wy [aa h1,ah h2] 129
def ar3 (h2:¬fp b a<0):
  aV Px (fl Pw []) 9 11 [aB a,aB b] 2 Tryz.f151 false (aB a):=
 wy [aa h1,aF h2] 129
end
def YH:=IN 151 [dL,dL] [dL] false (fun d=>aZ 50000 d.1&&aZ 50000 d.2.1) fun d=>(p8 d.1 d.2.1,())
def lr:=a7 [AI,Nx,q6,wg,ym,Dc,DC,GV,YH]
abbrev Il:List Nat:=[1,1,1,1,0,0,0]
abbrev zh:List Nat:=[1,1,1,1,0,0,0,1,0]
abbrev Im:Sv.Ren:=[(64,64,none),(65,65,none),(66,66,none),(67,67,none),(68,68,none),(69,69,none),(70,70,none),(71,71,none)]
abbrev Py:Sv.Ren:=[(64,64,none),(65,65,none),(66,66,none),(67,67,none),(68,68,none),(69,69,none),(70,70,none),(71,71,none),(72,72,none)]
abbrev ar4:Sv.Ren:=[(64,64,none),(65,65,none),(66,66,none),(67,67,none),(68,68,none),(69,69,none),(70,70,none),(71,71,none),(72,73,none)]
abbrev ar5:Sv.Ren:=[(64,64,none),(65,65,none),(66,66,none),(67,67,none),(68,68,none),(69,69,none),(70,70,none),(71,71,none),(72,72,none),(73,73,none)]
noncomputable def nc (x y:aC):Int×List Int:=ei (dF x y).1 (dF x y).2
noncomputable def oO (a:bO) (p q:aC):Int×List Int:=cA (ba a.1 q) (ba p a.2)
noncomputable def oP (a:bO) (r s:aC):Int×List Int:=cA (ba r a.2) (ba a.1 s)
noncomputable def rz (x m q s:aC):Int×List Int:=p8 x (fH (cA m q) s)
noncomputable def di (p k r:aC):Int×List Int:=cw p (ba k r)
section
variable (a:bO)
def oQ (m p q r s:aC):bI:={n:=113,sl:=[(2, .ptr 64 0),(3, .ptr 65 0),(4, .ptr 66 0),(5, .ptr 67 0),(6, .ptr 68 0),(7, .ptr 69 0),(8, .ptr 70 0),(9, .ptr 71 0)],bH:=[(64,Ht a),(65,eW m),(66,uI),(67,uI),(68,eW p),(69,eW q),(70,eW r),(71,eW s)],next:=72}
def Pz (m p q r s u:aC):bI:={n:=113,sl:=[(2, .ptr 64 0),(3, .ptr 65 0),(4, .ptr 66 0),(5, .ptr 67 0),(6, .ptr 68 0),(7, .ptr 69 0),(8, .ptr 70 0),(9, .ptr 71 0),(10, .ptr 72 0)],bH:=[(64,Ht a),(65,eW m),(66,uI),(67,uI),(68,eW p),(69,eW q),(70,eW r),(71,eW s),(72,eW u)],next:=73}
def oR (m p q r s k:aC):bI:={n:=113,sl:=[(2, .ptr 64 0),(3, .ptr 65 0),(4, .ptr 66 0),(5, .ptr 67 0),(6, .ptr 68 0),(7, .ptr 69 0),(8, .ptr 70 0),(9, .ptr 71 0),(11, .ptr 72 0)],bH:=[(64,Ht a),(65,eW m),(66,uI),(67,uI),(68,eW p),(69,eW q),(70,eW r),(71,eW s),(72,eW k)],next:=73}
def PA (m p q r s k d:aC):bI:={n:=113,sl:=[(2, .ptr 64 0),(3, .ptr 65 0),(4, .ptr 66 0),(5, .ptr 67 0),(6, .ptr 68 0),(7, .ptr 69 0),(8, .ptr 70 0),(9, .ptr 71 0),(11, .ptr 72 0),(12, .ptr 73 0)],bH:=[(64,Ht a),(65,eW m),(66,uI),(67,uI),(68,eW p),(69,eW q),(70,eW r),(71,eW s),(72,eW k),(73,eW d)],next:=74}
def ar6 (m:aC) (h1:(aZ 50000 a.2&&aZ 50000 m)=true) (h2:fp a.2 m<=0):
  aV lr (fl mg []) 3 113 [bN a,aB m] 3 Tryz.f90 false (.tuple [bN a,bN a]):=
 wy [aa h1,ah h2,aa (aD (v:=bN a))] 51130497
def Nm (m:aC) (h1:(aZ 50000 a.2&&aZ 50000 m)=true) (h2:¬fp a.2 m<=0) (h3:(pj a.1 a.2)=true) (h4:(ay (ei a.1 a.2)&&ay (aT 1))=true):
  c7 lr (fl mg []) 5 113 [bN a,aB m] 2 .normal Im (oQ a m (ei a.1 a.2) (aT 1) (cw (ei a.1 a.2) (aT 1)) (aT 1)):=
 wy [aa h1,aF h2,aa h3,aa (aD (v:=aB (ei a.1 a.2))),aa h4] 22265177583745
def ar7 (m p q r s:aC) (h1:(ay q&&ay s)=true) (h2:(aZ 50000 (cw q s)&&aZ 50000 m)=true) (h3:fp (cw q s) m<=0):
  dV lr (fl mg Il) 2 (oQ a m p q r s) 3 .normal Im (oQ a m p q r s):=
 wy [aa (aD (v:=aB q)),aa (aD (v:=aB s)),aa h1,aa (aD (v:=aB m)),aa h2,ah h3] 417753739393
def ar8 (m p q r s:aC) (h1:(ay q&&ay s)=true) (h2:(aZ 50000 (cw q s)&&aZ 50000 m)=true) (h3:¬fp (cw q s) m<=0):
  dV lr (fl mg Il) 2 (oQ a m p q r s) 2 (.exit 0) Im (oQ a m p q r s):=
 wy [aa (aD (v:=aB q)),aa (aD (v:=aB s)),aa h1,aa (aD (v:=aB m)),aa h2,aF h3] 417753739393
def ar9 (m p q r s:aC) (h1:(ay a.1&&ay q)=true) (h2:(ay p&&ay a.2)=true) (h3:(ay (ba a.1 q)&&ay (ba p a.2))=true) (h4:(ay r&&ay a.2)=true) (h5:(ay a.1&&ay s)=true) (h6:(ay (ba r a.2)&&ay (ba a.1 s))=true) (h7:(fI (cA (ba a.1 q) (ba p a.2)) (cA (ba r a.2) (ba a.1 s)))=true) (h8:(pj (dF (cA (ba a.1 q) (ba p a.2)) (cA (ba r a.2) (ba a.1 s))).1 (dF (cA (ba a.1 q) (ba p a.2)) (cA (ba r a.2) (ba a.1 s))).2)=true) (h9:(ei (dF (cA (ba a.1 q) (ba p a.2)) (cA (ba r a.2) (ba a.1 s))).1 (dF (cA (ba a.1 q) (ba p a.2)) (cA (ba r a.2) (ba a.1 s))).2).1=(nc (oO a p q) (oP a r s)).1) (h10:(ei (dF (cA (ba a.1 q) (ba p a.2)) (cA (ba r a.2) (ba a.1 s))).1 (dF (cA (ba a.1 q) (ba p a.2)) (cA (ba r a.2) (ba a.1 s))).2).2=(nc (oO a p q) (oP a r s)).2):
  dV lr (fl mg zh) 1 (oQ a m p q r s) 1 .normal Py (Pz a m p q r s (nc (oO a p q) (oP a r s))):=
 wy [aa (aD (v:=aB a.1)),aa (aD (v:=aB q)),aa h1,aa (aD (v:=aB p)),aa (aD (v:=aB a.2)),aa h2,aa h3,aa (aD (v:=aB r)),aa h4,aa (aD (v:=aB s)),aa h5,aa h6,aa h7,aa h8,ax h9,ax h10] 639666944344591623461842541625768980366841392218962485749974469064516177003191229169035483875847644331129080032276609
def asa (m p q r s u:aC) (h1:(ay m&&ay q)=true) (h2:(fI (cA m q) s)=true) (h3:(aZ 50000 u&&aZ 50000 (fH (cA m q) s))=true) (h4:(p8 u (fH (cA m q) s)).1=(rz u m q s).1) (h5:(p8 u (fH (cA m q) s)).2=(rz u m q s).2):
  dV lr ((fl mg zh).drop 1) 1 (Pz a m p q r s u) 1 .normal ar4 (oR a m p q r s (rz u m q s)):=
 wy [aa (aD (v:=aB u)),aa (aD (v:=aB m)),aa (aD (v:=aB q)),aa h1,aa (aD (v:=aB s)),aa h2,aa h3,ax h4,ax h5] 66037675893156892702505327387767322447568038129623134178753279788514762829953
def asb (m p q r s k:aC) (h1:(ay k&&ay r)=true) (h2:(ay p&&ay (ba k r))=true) (h3:(ay k&&ay s)=true) (h4:(ay q&&ay (ba k s))=true) (h5:(cw p (ba k r)).1=(di p k r).1) (h6:(cw p (ba k r)).2=(di p k r).2) (h7:(cw q (ba k s)).1=(di q k s).1) (h8:(cw q (ba k s)).2=(di q k s).2):
  dV lr ((fl mg zh).drop 2) 1 (oR a m p q r s k) 1 .normal Py (oR a m (di p k r) (di q k s) r s k):=
 wy [aa (aD (v:=aB p)),aa (aD (v:=aB k)),aa (aD (v:=aB r)),aa h1,aa h2,aa (aD (v:=aB q)),aa (aD (v:=aB s)),aa h3,aa h4,ax h5,ax h6,ax h7,ax h8] 390994831108651588800300283751924325317138720935400293312771263119294842880929921
def asc (m p q r s k:aC) (h1:(ay r&&ay a.2)=true) (h2:(ay a.1&&ay s)=true) (h3:(ay (ba r a.2)&&ay (ba a.1 s))=true) (h4:(ay a.1&&ay q)=true) (h5:(ay p&&ay a.2)=true) (h6:(ay (ba a.1 q)&&ay (ba p a.2))=true) (h7:(fI (cA (ba r a.2) (ba a.1 s)) (cA (ba a.1 q) (ba p a.2)))=true) (h8:(pj (dF (cA (ba r a.2) (ba a.1 s)) (cA (ba a.1 q) (ba p a.2))).1 (dF (cA (ba r a.2) (ba a.1 s)) (cA (ba a.1 q) (ba p a.2))).2)=true) (h9:(ei (dF (cA (ba r a.2) (ba a.1 s)) (cA (ba a.1 q) (ba p a.2))).1 (dF (cA (ba r a.2) (ba a.1 s)) (cA (ba a.1 q) (ba p a.2))).2).1=(nc (oP a r s) (oO a p q)).1) (h10:(ei (dF (cA (ba r a.2) (ba a.1 s)) (cA (ba a.1 q) (ba p a.2))).1 (dF (cA (ba r a.2) (ba a.1 s)) (cA (ba a.1 q) (ba p a.2))).2).2=(nc (oP a r s) (oO a p q)).2):
  dV lr ((fl mg zh).drop 3) 1 (oR a m p q r s k) 1 .normal ar5 (PA a m p q r s k (nc (oP a r s) (oO a p q))):=
 wy [aa (aD (v:=aB r)),aa (aD (v:=aB a.2)),aa h1,aa (aD (v:=aB a.1)),aa (aD (v:=aB s)),aa h2,aa h3,aa (aD (v:=aB q)),aa h4,aa (aD (v:=aB p)),aa h5,aa h6,aa h7,aa h8,ax h9,ax h10] 167684851458268626540781251231945583589285269921847701864440941966751634871745841778890962961397508228080074304330795069569
def ase (m p q r s k d:aC) (h1:(ay m&&ay s)=true) (h2:(fI (cA m s) q)=true) (h3:(aZ 50000 d&&aZ 50000 (fH (cA m s) q))=true) (h4:(p8 d (fH (cA m s) q)).1=(rz d m s q).1) (h5:(p8 d (fH (cA m s) q)).2=(rz d m s q).2):
  dV lr ((fl mg zh).drop 4) 1 (PA a m p q r s k d) 1 .normal Py (oR a m p q r s (rz d m s q)):=
 wy [aa (aD (v:=aB d)),aa (aD (v:=aB m)),aa (aD (v:=aB s)),aa h1,aa (aD (v:=aB q)),aa h2,aa h3,ax h4,ax h5] 66037675893156892702505327387767322447568038129623134178753279788514762829953
def asf (m p q r s k:aC) (h1:(ay k&&ay p)=true) (h2:(ay r&&ay (ba k p))=true) (h3:(ay k&&ay q)=true) (h4:(ay s&&ay (ba k q))=true) (h5:(cw r (ba k p)).1=(di r k p).1) (h6:(cw r (ba k p)).2=(di r k p).2) (h7:(cw s (ba k q)).1=(di s k q).1) (h8:(cw s (ba k q)).2=(di s k q).2):
  bz lr ((fl mg zh).drop 5) (oR a m p q r s k) 1 .normal Im (oQ a m p q (di r k p) (di s k q)):=
 wy [aa (aD (v:=aB r)),aa (aD (v:=aB k)),aa (aD (v:=aB p)),aa h1,aa h2,aa (aD (v:=aB s)),aa (aD (v:=aB q)),aa h3,aa h4,ax h5,ax h6,ax h7,ax h8] 102496949006146362094465917583864450335936012860877484237011324480897095043912517562497
def asg (m p q r s:aC) (h1:(fI p q)=true) (h2:(fI r s)=true):
  bS lr ((fl mg []).drop 6) (oQ a m p q r s) 1 Tryz.f90 false (.tuple [bN (dF p q),bN (dF r s)]):=
 wy [aa (aD (v:=aB p)),aa (aD (v:=aB q)),aa h1,aa (aD (v:=aB r)),aa (aD (v:=aB s)),aa h2] 26737313329281
noncomputable def gg (m p q r s:aC):Int×List Int:=rz (nc (oO a p q) (oP a r s)) m q s
noncomputable def iw (m p q r s:aC):Int×List Int:=rz (nc (oP a r s) (oO a p q)) m s q
end
noncomputable def s8 (a:bO) (m:aC):Nat->(aC×aC)×(aC×aC)->bO×bO
 |0,x=>(dF x.1.1 x.1.2,dF x.2.1 x.2.2)
 |n+1,x=>if fp (cw x.1.2 x.2.2) m<=0 then
   s8 a m n ((di x.1.1 (gg a m x.1.1 x.1.2 x.2.1 x.2.2) x.2.1,di x.1.2 (gg a m x.1.1 x.1.2 x.2.1 x.2.2) x.2.2),
    (di x.2.1 (iw a m (di x.1.1 (gg a m x.1.1 x.1.2 x.2.1 x.2.2) x.2.1) (di x.1.2 (gg a m x.1.1 x.1.2 x.2.1 x.2.2) x.2.2) x.2.1 x.2.2) (di x.1.1 (gg a m x.1.1 x.1.2 x.2.1 x.2.2) x.2.1),
     di x.2.2 (iw a m (di x.1.1 (gg a m x.1.1 x.1.2 x.2.1 x.2.2) x.2.1) (di x.1.2 (gg a m x.1.1 x.1.2 x.2.1 x.2.2) x.2.2) x.2.1 x.2.2) (di x.1.2 (gg a m x.1.1 x.1.2 x.2.1 x.2.2) x.2.2)))
  else(dF x.1.1 x.1.2,dF x.2.1 x.2.2)
noncomputable def bx (a:bO) (m:aC):((Int×List Int)×(Int×List Int))×((Int×List Int)×(Int×List Int)):=if fp a.2 m<=0 then(a,a)else s8 a m (aj m).toNat ((ei a.1 a.2,aT 1),(cw (ei a.1 a.2) (aT 1),aT 1))
noncomputable def p9 (a:bO) (m:aC):Bool:=lD 2 a&&(aZ 1 m&&(decide (1<=aj m)&&decide (aj m<=1000000000)))
def Io:=IN 90 [gi,dL] [gi,gi] false (fun d=>p9 d.1 d.2.1) fun d=>((bx d.1 d.2.1).1,(bx d.1 d.2.1).2,())
end
set_option maxHeartbeats 1000000
noncomputable section
def wU {x y:Int} {X Y:Nat} (h:x.natAbs<=X) (g:y.natAbs<=Y):(x*y).natAbs<=X*Y:=by
 rw [Int.natAbs_mul];exact Nat.mul_le_mul h g
def En {n:Nat} {a b:aC} (h:((aj a*aj b).natAbs:Int)<18446744073709551616^n):aZ n (ba a b)=true/\aj (ba a b)=aj a*aj b:=by
 unfold ba;exact jJ h
def PB {n:Nat} {a b:aC} (h:((aj a-aj b).natAbs:Int)<18446744073709551616^n):aZ n (cA a b)=true:=by
 unfold cA;refine uq ?_;rw [nG];rw [show aj a+ -aj b=aj a-aj b by omega];exact h
def ash (a b:aC):aj (p8 a b)=if aj b<aj a then aj b else aj a:=by
 unfold p8 fp jI;by_cases h:aj b<aj a
 .rw [if_pos h,if_pos (by split<;>(try split)<;>omega)]
 .rw [if_neg h,if_neg (by split<;>(try split)<;>omega)]
def asi {n:Nat} {a b:aC} (h:aZ n a=true) (g:aZ n b=true):aZ n (p8 a b)=true:=by
 unfold p8;split<;>assumption
def asj {n:Nat} {x y:aC} (h:aZ n x=true) (g:aZ n y=true) (hn:1<=n) (hy:0<aj y):aZ n (nc x y)=true/\aj (nc x y)=aj x/aj y/\aZ n (dF x y).1=true/\aZ n (dF x y).2=true/\0<aj (dF x y).2:=by
 have q:=DD h g hn (by omega);refine⟨pk q.o1 q.o2 q.pos hn, ?_,q.o1,q.o2,q.pos⟩;show aj (ei _ _)=_;rw [A2 q.o1 q.o2 q.pos];have e1:=Int.mul_ediv_mul_of_pos_left (aj (dF x y).1) (aj (dF x y).2) hy;have e2:=Int.mul_ediv_mul_of_pos_left (aj x) (aj y) q.pos;rw [<-e1,<-e2,q.val,Int.mul_comm (aj y)]
def asl {n:Nat} {a b:aC} (h:aZ n a=true) (g:aZ n b=true) (hn:1<=n) (hb:0<aj b):aZ n (fH a b)=true/\aj (fH a b)=aj a/aj b:=by
 refine⟨zr h g hn (by omega), ?_⟩;unfold fH;rw [if_neg (by omega)];exact A2 h g hb
def Iq {x y m q s:aC} (hx:aZ 5 x=true) (hy:aZ 5 y=true) (x0:0<aj x) (y0:0<aj y) (fh:aZ 1 m=true) (lF:aZ 3 q=true) (os:aZ 3 s=true) (hs:1<=aj s) (hq:1<=aj q) (eY:aj q<=aj m) (hM2:aj m<=1000000000):
  aj (rz (nc x y) m q s)=kN (aj x) (aj y) (aj m-aj q) (aj s)/\aZ 5 (rz (nc x y) m q s)=true/\(ay m&&ay q)=true/\fI (cA m q) s=true/\(aZ 50000 (nc x y)&&aZ 50000 (fH (cA m q) s))=true/\fI x y=true/\pj (dF x y).1 (dF x y).2=true:=by
 obtain⟨f1,f2,f3,f4,f5⟩:=asj hx hy (by decide) y0;have YI:aZ 3 (cA m q)=true:=PB (by
  have e:(18446744073709551616:Int)^3=6277101735386680763835789423207666416102355444464034512896:=(by decide);omega)
 obtain⟨g1,g2⟩:=asl YI os (by decide) (by omega);rw [val_sub]at g2;refine⟨?_,asi f1 (bc (by decide) g1),bZ (bc (by decide) fh) (bc (by decide) lF), ?_,bZ (bc (by decide) f1) (bc (by decide) g1), ?_,A3.2 ⟨bc (by decide) f3,bc (by decide) f4,f5⟩⟩
 .unfold rz;rw [ash,f2,g2];rfl
 .unfold fI;exact bZ (bZ (bc (by decide) YI) (bc (by decide) os)) (by rw [eB.2 (show aj s≠0 by omega)];rfl)
 .unfold fI;exact bZ (bZ (bc (by decide) hx) (bc (by decide) hy)) (by rw [eB.2 (show aj y≠0 by omega)];rfl)
structure Bz (a:bO) (m:aC) (N D M:Int):Prop where
 o1:aZ 2 a.1=true
 o2:aZ 2 a.2=true
 fh:aZ 1 m=true
 Ir:aj a.1=N
 vd:aj a.2=D
 vm:aj m=M
 eY:1<=M
 hM2:M<=1000000000
 hD:M<D
 hg:Int.gcd N D=1
 kO:N.natAbs<340282366920938463463374607431768211456
 bd:D<340282366920938463463374607431768211456
structure u0 (N D M:Int) (p q r s:aC):Prop where
 op:aZ 3 p=true
 lF:aZ 3 q=true
 or:aZ 3 r=true
 os:aZ 3 s=true
 nb:kn N D M (aj p) (aj q) (aj r) (aj s)
abbrev ng:Nat:=340282366920938463463374607431768211456
def CH {N D M p q r s:Int} (h:kn N D M p q r s) (hD:M<D) (eY:1<=M) (hM2:M<=1000000000) (kO:N.natAbs<ng):p.natAbs<=340282366920938463463374607431768211457000000000/\r.natAbs<=340282366920938463463374607431768211457000000000/\q.natAbs<=1000000000/\s.natAbs<=1000000000:=by
 obtain⟨f1,f2⟩:=Pp h (by omega);have hq:=h.q1;have hs:=h.s1;have s6:=h.s6;have s7:=h.s7;have pZ:=h.pZ;have br:=h.br;have hf:=Int.natAbs_ediv_le_natAbs N D;have c1:=wU (x:=N/D) (y:=q) (X:=ng) (Y:=1000000000) (by omega) (by omega);have c2:=wU (x:=N/D+1) (y:=q) (X:=ng+1) (Y:=1000000000) (by omega) (by omega);have c3:=wU (x:=N/D) (y:=s) (X:=ng) (Y:=1000000000) (by omega) (by omega);have c4:=wU (x:=N/D+1) (y:=s) (X:=ng+1) (Y:=1000000000) (by omega) (by omega);have e1:ng*1000000000=340282366920938463463374607431768211456000000000:=by decide
 have e2:(ng+1)*1000000000=340282366920938463463374607431768211457000000000:=by decide
 rw [e1]at c1 c3;rw [e2]at c2 c4;omega
def No:(18446744073709551616:Int)^3=6277101735386680763835789423207666416102355444464034512896:=by decide
def asm:(18446744073709551616:Int)^5=2135987035920910082395021706169552114602704522356652769947041607822219725780640550022962086936576:=by decide
end
set_option maxHeartbeats 1000000
noncomputable section
def Is {a:bO} {m p q r s:aC} {N D M:Int} (C:Bz a m N D M) (O:u0 N D M p q r s):
  ((aZ 5 (ba a.1 q)=true/\aZ 5 (ba p a.2)=true)/\aZ 5 (oO a p q)=true/\aj (oO a p q)=N*aj q-aj p*D)/\
  (aZ 5 (ba r a.2)=true/\aZ 5 (ba a.1 s)=true)/\aZ 5 (oP a r s)=true/\aj (oP a r s)=aj r*D-N*aj s:=by
 obtain⟨b1,b2,b3,b4⟩:=CH O.nb C.hD C.eY C.hM2 C.kO;have kO:=C.kO;have bd:=C.bd;have hD:=C.hD;have eY:=C.eY;have j6:=asm;have YJ:N.natAbs<=ng:=Nat.le_of_lt kO;have zd:D.natAbs<=ng:=by show D.natAbs<=340282366920938463463374607431768211456;omega
 have c1:=wU (x:=N) (y:=aj q) (X:=ng) (Y:=1000000000) YJ b3;have c2:=wU (x:=aj p) (y:=D) (X:=340282366920938463463374607431768211457000000000) (Y:=ng) b1 zd;have c3:=wU (x:=aj r) (y:=D) (X:=340282366920938463463374607431768211457000000000) (Y:=ng) b2 zd;have c4:=wU (x:=N) (y:=aj s) (X:=ng) (Y:=1000000000) YJ b4;have cT:ng*1000000000=340282366920938463463374607431768211456000000000:=by decide
 have z2:340282366920938463463374607431768211457000000000*ng=115792089237316195423570985008687907853610267032561502502920958615344897851392000000000:=by decide
 rw [cT]at c1 c4;rw [z2]at c2 c3;obtain⟨m1,v1⟩:=En (n:=5) (a:=a.1) (b:=q) (by rw [C.Ir,j6];omega);obtain⟨m2,v2⟩:=En (n:=5) (a:=p) (b:=a.2) (by rw [C.vd,j6];omega);obtain⟨m3,v3⟩:=En (n:=5) (a:=r) (b:=a.2) (by rw [C.vd,j6];omega);obtain⟨m4,v4⟩:=En (n:=5) (a:=a.1) (b:=s) (by rw [C.Ir,j6];omega);rw [C.Ir]at v1 v4;rw [C.vd]at v2 v3;refine⟨⟨⟨m1,m2⟩,PB (by rw [v1,v2,j6];omega), ?_⟩,⟨m3,m4⟩,PB (by rw [v3,v4,j6];omega), ?_⟩
 .unfold oO;rw [val_sub,v1,v2]
 .unfold oP;rw [val_sub,v3,v4]
def It {p k r:aC} {P:Int} (op:aZ 3 p=true) (or:aZ 3 r=true) (ok:aZ 5 k=true) (e:aj p+aj k*aj r=P) (h1:(aj p).natAbs<=340282366920938463463374607431768211457000000000) (h2:P.natAbs<=340282366920938463463374607431768211457000000000):
  aZ 3 (di p k r)=true/\aj (di p k r)=P/\(ay k&&ay r)=true/\(ay p&&ay (ba k r))=true:=by
 have e3:=No;obtain⟨m1,v1⟩:=En (n:=3) (a:=k) (b:=r) (by rw [e3];omega);refine⟨uq (by rw [v1,e,e3];omega), ?_,bZ (bc (by decide) ok) (bc (by decide) or),bZ (bc (by decide) op) (bc (by decide) m1)⟩;unfold di;rw [sg,v1,e]
abbrev qa (p q r s:aC):rj:=⟨aj p,aj q,aj r,aj s⟩
section
variable {a:bO} {m p q r s:aC} {N D M:Int} (C:Bz a m N D M) (O:u0 N D M p q r s)
def YK:
  u0 N D M (di p (gg a m p q r s) r) (di q (gg a m p q r s) s) r s/\qa (di p (gg a m p q r s) r) (di q (gg a m p q r s) s) r s=gB N D M (qa p q r s)/\
  ((ay (gg a m p q r s)&&ay r)=true/\(ay p&&ay (ba (gg a m p q r s) r))=true)/\((ay (gg a m p q r s)&&ay s)=true/\(ay q&&ay (ba (gg a m p q r s) s))=true):=by
 obtain⟨⟨_,p1,p2⟩,_,r1,r2⟩:=Is C O;have hM2:=C.hM2;obtain⟨k1,k2,_⟩:=Iq (m:=m) (q:=q) (s:=s) p1 r1 (by rw [p2];exact O.nb.lo) (by rw [r2];exact O.nb.hi) C.fh O.lF O.os O.nb.s1 O.nb.q1 (by rw [C.vm];exact O.nb.s6) (by rw [C.vm];exact hM2);rw [p2,r2,C.vm]at k1;have hA:=Yf (x:=qa p q r s) O.nb C.eY C.hD C.hg;obtain⟨b1,b2,b3,b4⟩:=CH O.nb C.hD C.eY hM2 C.kO;obtain⟨d1,d2,d3,d4⟩:=CH hA C.hD C.eY hM2 C.kO;obtain⟨m1,m2,m3,m4⟩:=It (k:=gg a m p q r s) (P:=(gB N D M (qa p q r s)).p) O.op O.or k2 (by unfold gg;rw [k1];rfl) b1 d1;obtain⟨n1,n2,n3,su⟩:=It (k:=gg a m p q r s) (P:=(gB N D M (qa p q r s)).q) O.lF O.os k2 (by unfold gg;rw [k1];rfl) (by omega) (by omega);refine⟨⟨m1,n1,O.or,O.os, ?_⟩, ?_,⟨m3,m4⟩,n3,su⟩
 .rw [m2,n2];exact hA
 .show rj.mk _ _ _ _=_;rw [m2,n2];rfl
def YL:
  u0 N D M p q (di r (iw a m p q r s) p) (di s (iw a m p q r s) q)/\qa p q (di r (iw a m p q r s) p) (di s (iw a m p q r s) q)=wT N D M (qa p q r s)/\
  ((ay (iw a m p q r s)&&ay p)=true/\(ay r&&ay (ba (iw a m p q r s) p))=true)/\((ay (iw a m p q r s)&&ay q)=true/\(ay s&&ay (ba (iw a m p q r s) q))=true):=by
 obtain⟨⟨_,p1,p2⟩,_,r1,r2⟩:=Is C O;have hM2:=C.hM2;obtain⟨k1,k2,_⟩:=Iq (m:=m) (q:=s) (s:=q) r1 p1 (by rw [r2];exact O.nb.hi) (by rw [p2];exact O.nb.lo) C.fh O.os O.lF O.nb.q1 O.nb.s1 (by rw [C.vm];exact O.nb.s7) (by rw [C.vm];exact hM2);rw [p2,r2,C.vm]at k1;have hB:=ark (x:=qa p q r s) O.nb C.eY C.hD C.hg;obtain⟨b1,b2,b3,b4⟩:=CH O.nb C.hD C.eY hM2 C.kO;obtain⟨d1,d2,d3,d4⟩:=CH hB C.hD C.eY hM2 C.kO;obtain⟨m1,m2,m3,m4⟩:=It (k:=iw a m p q r s) (P:=(wT N D M (qa p q r s)).r) O.or O.op k2 (by unfold iw;rw [k1];rfl) b2 d2;obtain⟨n1,n2,n3,su⟩:=It (k:=iw a m p q r s) (P:=(wT N D M (qa p q r s)).s) O.os O.lF k2 (by unfold iw;rw [k1];rfl) (by omega) (by omega);refine⟨⟨O.op,O.lF,m1,n1, ?_⟩, ?_,⟨m3,m4⟩,n3,su⟩
 .rw [m2,n2];exact hB
 .show rj.mk _ _ _ _=_;rw [m2,n2];rfl
end
def BA {a b:aC}:fp a b<=0↔aj a<=aj b:=by
 unfold fp jI;constructor
 .intro h;split at h
  .omega
  .split at h<;>omega
 .intro h;split
  .omega
  .split<;>omega
def YM {a:bO} {m:aC} {N D M:Int} (C:Bz a m N D M):u0 N D M (ei a.1 a.2) (aT 1) (cw (ei a.1 a.2) (aT 1)) (aT 1):=by
 have hD:=C.hD;have eY:=C.eY;have hd:0<aj a.2:=by rw [C.vd];omega
 have v:=A2 C.o1 C.o2 hd;have o:=pk C.o1 C.o2 hd (by decide);rw [C.Ir,C.vd]at v;have e1:aj (aT 1)=1:=tl 1;have hf:=Int.natAbs_ediv_le_natAbs N D;have kO:=C.kO;have e3:=No;refine⟨bc (by decide) o,NX (by decide),uq (by rw [v,e1,e3];omega),NX (by decide), ?_⟩;rw [sg,v,e1];exact ari eY hD C.hg
end
set_option maxHeartbeats 1000000
noncomputable section
def YN:bD prog (bF Px):=cN fun c hc=>by
 rw [List.mem_singleton.1 hc];exact De
def asn:YH.Ok prog:=fun⟨a,b,_⟩ h=>by
 have h:(aZ 50000 a&&aZ 50000 b)=true:=h;rw [ae]at h;show Holds prog false 151 [aB a,aB b] (aB (p8 a b));refine bL (c:=Pw) func151 rfl rfl fun w F=> ?_
 unfold p8;by_cases hc:fp b a<0
 .rw [if_pos hc];exact aY YN 9 (ar2 a b (bZ h.2 h.1) hc)
 .rw [if_neg hc];exact aY YN 9 (ar3 a b (bZ h.2 h.1) hc)
def aso:bD prog (bF lr):=cN (aQ De (aQ Vz (aQ lc (aQ yt (aQ kd (aQ pf (aQ Hf (aQ MT (aQ asn dW)))))))))
def YO {a:bO} {m:aC} {r:Rat} (h:QR 2 a r) (fh:aZ 1 m=true) (h1:1<=aj m) (h2:aj m<=1000000000) (hD:aj m<r.den):Bz a m r.num r.den (aj m):=by
 obtain⟨l1,l2⟩:=aqG h (by decide);have e:(18446744073709551616:Int)^2=340282366920938463463374607431768211456:=by decide
 exact⟨h.o1,h.o2,fh,h.num,h.den,rfl,h1,h2,hD,r.reduced,by omega,by omega⟩
def asp {a:bO} {m:aC} {eo:Rat} (h:QR 2 a eo) (fh:aZ 1 m=true) (h1:1<=aj m) (h2:aj m<=1000000000):Holds prog false 90 [bN a,aB m] (.tuple [bN (bx a m).1,bN (bx a m).2]):=by
 have hS:=aso;have k1:(aZ 50000 a.2&&aZ 50000 m)=true:=bZ (bc (by decide) h.o2) (bc (by decide) fh);refine bL (c:=mg) func90 rfl rfl fun w F=> ?_
 by_cases hc:fp a.2 m<=0
 .have e:bx a m=(a,a):=by unfold bx;rw [if_pos hc]
  rw [e];exact aY hS 3 (ar6 a m k1 hc)
 .have hD:aj m<eo.den:=by
   have:=mt BA.2 hc;rw [h.den]at this;omega
  have C:=YO h fh h1 h2 hD;have PC:=YM C;have e0:bx a m=s8 a m (aj m).toNat ((ei a.1 a.2,aT 1),(cw (ei a.1 a.2) (aT 1),aT 1)):=by unfold bx;rw [if_neg hc]
  obtain⟨R,hR⟩:∃R:af,R= .tuple [bN (bx a m).1,bN (bx a m).2]:=⟨_,rfl⟩;rw [<-hR];refine cR hS 5 (Nm a m k1 hc (A3.2 ⟨bc (by decide) h.o1,bc (by decide) h.o2,h.pos⟩) (bZ (bc (by decide) PC.op) (bc (by decide) PC.lF))) ?_;refine aW.loop (ι:={x:((aC×aC)×(aC×aC))×Nat//u0 eo.num eo.den (aj m) x.1.1.1 x.1.1.2 x.1.2.1 x.1.2.2/\bx a m=s8 a m x.2 x.1/\(aj m+1-(aj x.1.1.2+aj x.1.2.2)).toNat<=x.2}) (id:=0) (b:=cat mg Il) (rest:=(fl mg []).drop 6) (by kernel_rfl) (fun x=>oQ a m x.1.1.1.1 x.1.1.1.2 x.1.1.2.1 x.1.1.2.2) (fun x=>(aj m+1-(aj x.1.1.1.2+aj x.1.1.2.2)).toNat)
   ⟨(((ei a.1 a.2,aT 1),(cw (ei a.1 a.2) (aT 1),aT 1)),(aj m).toNat),PC,e0,by
     have e1:aj (aT 1)=1:=tl 1;show(aj m+1-(aj (aT 1)+aj (aT 1))).toNat<=(aj m).toNat;rw [e1];omega⟩ (fun _=>rfl) ?_
  rintro⟨⟨⟨⟨p,q⟩,r,s⟩,n⟩,O,he,hn⟩;have O:u0 eo.num eo.den (aj m) p q r s:=O;have he:bx a m=s8 a m n ((p,q),(r,s)):=he;have hn:(aj m+1-(aj q+aj s)).toNat<=n:=hn;have a1:(ay q&&ay s)=true:=bZ (bc (by decide) O.lF) (bc (by decide) O.os);have asq:aZ 3 (cw q s)=true:=uq (by
   have e3:=No;have:=O.nb.q1;have:=O.nb.s1;have:=O.nb.s6;have:=O.nb.s7;rw [e3];omega)
  have a2:(aZ 50000 (cw q s)&&aZ 50000 m)=true:=bZ (bc (by decide) asq) (bc (by decide) fh);have PD:=sg q s;by_cases hle:fp (cw q s) m<=0
  .have hle2:aj q+aj s<=aj m:=by rw [<-PD];exact BA.1 hle
   obtain⟨n,rfl⟩:∃j,n=j+1:=⟨n-1,by omega⟩;unfold s8 at he;rw [if_pos hle]at he;obtain⟨s9,PE,⟨c1,c2⟩,c3,c4⟩:=YK C O;obtain⟨PF,PG,⟨d1,d2⟩,d3,d4⟩:=YL C s9;have hg:=Yg (x:=qa p q r s) O.nb C.eY C.hD C.hg hle2;rw [<-PE,<-PG]at hg;obtain⟨⟨⟨f1,f2⟩,p1,p2⟩,⟨f3,f4⟩,r1,r2⟩:=Is C O;obtain⟨⟨⟨g1,g2⟩,p3,dM⟩,⟨g3,g4⟩,r3,mE⟩:=Is C s9;obtain⟨_,_,i1,i2,i3,i4,i5⟩:=Iq (m:=m) (q:=q) (s:=s) p1 r1 (by rw [p2];exact O.nb.lo) (by rw [r2];exact O.nb.hi) fh O.lF O.os O.nb.s1 O.nb.q1 O.nb.s6 h2;obtain⟨_,_,j1,j2,tN,asr,ass⟩:=Iq (m:=m) (q:=s) (s:=di q (gg a m p q r s) s) r3 p3 (by rw [mE];exact s9.nb.hi) (by rw [dM];exact s9.nb.lo) fh O.os s9.lF s9.nb.q1 O.nb.s1 O.nb.s7 h2;have m5:∀{k:Nat} {x:aC},aZ k x=true->k<=100000->ay x=true:=fun h hk=>bc hk h
   have Iu:=m5 h.o1 (by decide);have Iv:=m5 h.o2 (by decide);have op:=m5 O.op (by decide);have lF:=m5 O.lF (by decide);have or:=m5 O.or (by decide);have os:=m5 O.os (by decide);refine dP (s:=oQ a m p q r s) hS 2 (ar7 a m p q r s a1 a2 hle) ?_;refine FP (id:=1) (c:=cat mg zh) (rest:=(fl mg Il).drop 3) (by kernel_rfl) ?_;refine dP (s:=oQ a m p q r s) hS 1 (ar9 a m p q r s (bZ Iu lF) (bZ op Iv) (bZ (m5 f1 (by decide)) (m5 f2 (by decide))) (bZ or Iv) (bZ Iu os) (bZ (m5 f3 (by decide)) (m5 f4 (by decide))) i4 i5 rfl rfl) ?_;refine dP (s:=Pz a m p q r s (nc (oO a p q) (oP a r s))) hS 1 (asa a m p q r s _ i1 i2 i3 rfl rfl) ?_;show cg _ _ _ _ _ _ (oR a m p q r s (gg a m p q r s)).T (oR a m p q r s (gg a m p q r s)).H _;refine dP (s:=oR a m p q r s (gg a m p q r s)) hS 1 (asb a m p q r s _ c1 c2 c3 c4 rfl rfl rfl rfl) ?_;have ast:=m5 s9.op (by decide);have asu:=m5 s9.lF (by decide);generalize hk:gg a m p q r s=k at*;generalize hp1:di p k r=p1' at*;generalize hq1:di q k s=gC at*;refine dP (s:=oR a m p1' gC r s k) hS 1 (asc a m p1' gC r s k (bZ or Iv) (bZ Iu os) (bZ (m5 g3 (by decide)) (m5 g4 (by decide))) (bZ Iu asu) (bZ ast Iv) (bZ (m5 g1 (by decide)) (m5 g2 (by decide))) asr ass rfl rfl) ?_;refine dP (s:=PA a m p1' gC r s k (nc (oP a r s) (oO a p1' gC))) hS 1 (ase a m p1' gC r s k _ j1 j2 tN rfl rfl) ?_;show cg _ _ _ _ _ _ (oR a m p1' gC r s (iw a m p1' gC r s)).T (oR a m p1' gC r s (iw a m p1' gC r s)).H _;refine bC (s:=oR a m p1' gC r s (iw a m p1' gC r s)) hS (asf a m p1' gC r s _ d1 d2 d3 d4 rfl rfl rfl rfl) ?_;exact⟨⟨(((p1',gC),(di r (iw a m p1' gC r s) p1',di s (iw a m p1' gC r s) gC)),n),PF,he,by show(aj m+1-(aj gC+aj (di s (iw a m p1' gC r s) gC))).toNat<=n;have hg:aj q+aj s<aj gC+aj (di s (iw a m p1' gC r s) gC):=hg;omega⟩,by show(aj m+1-(aj gC+aj (di s (iw a m p1' gC r s) gC))).toNat<(aj m+1-(aj q+aj s)).toNat;have hg:aj q+aj s<aj gC+aj (di s (iw a m p1' gC r s) gC):=hg;omega,rfl,rfl⟩
  .have e:bx a m=(dF p q,dF r s):=by
    rw [he];cases n with
    |zero=>rfl
    |succ n=>unfold s8;rw [if_neg hle]
   refine dP (s:=oQ a m p q r s) hS 2 (ar8 a m p q r s a1 a2 hle) ?_;refine cI (cI (cQ ?_));have key:=asg a m p q r s (by
    unfold fI;exact bZ (bZ (bc (by decide) O.op) (bc (by decide) O.lF)) (by rw [eB.2 (show aj q≠0 by have:=O.nb.q1;omega)];rfl)) (by
    unfold fI;exact bZ (bZ (bc (by decide) O.or) (bc (by decide) O.os)) (by rw [eB.2 (show aj s≠0 by have:=O.nb.s1;omega)];rfl))
   have oH:R= .tuple [bN (dF p q),bN (dF r s)]:=by rw [hR,e]
   rw [<-oH]at key;exact bY (s:=oQ a m p q r s) hS key
def PI:Io.Ok prog:=fun⟨a,m,_⟩ h=>by
 have h:(lD 2 a&&(aZ 1 m&&(decide (1<=aj m)&&decide (aj m<=1000000000))))=true:=h;rw [ae,ae,ae,bE,bE]at h;exact asp (@ap _ (Classical.propDecidable _) h.1) h.2.1 h.2.2.1 h.2.2.2
def YP {a:bO} {m:aC} {N D:Int} (C:Bz a m N D (aj m)):∀(n:Nat) (p q r s:aC),u0 N D (aj m) p q r s->(aj m+1-(aj q+aj s)).toNat<=n->
  ∃x y u v:Int,kn N D (aj m) x y u v/\aj m<y+v/\QR 3 (s8 a m n ((p,q),(r,s))).1 (Rat.divInt x y)/\QR 3 (s8 a m n ((p,q),(r,s))).2 (Rat.divInt u v)
 |n,p,q,r,s,O,hn=>by
  have q1:=O.nb.q1;have s1:=O.nb.s1;have fin:∃x y u v:Int,kn N D (aj m) x y u v/\(aj q+aj s=y+v)/\QR 3 (dF p q) (Rat.divInt x y)/\QR 3 (dF r s) (Rat.divInt u v):=
   ⟨aj p,aj q,aj r,aj s,O.nb,rfl,(DD O.op O.lF (by decide) (by omega)).qr (by omega),(DD O.or O.os (by decide) (by omega)).qr (by omega)⟩
  have PD:=sg q s
  match n,hn with
  |0,hn=>
   obtain⟨x,y,u,v,f1,f2,f3,f4⟩:=fin;exact⟨x,y,u,v,f1,by omega,f3,f4⟩
  |n+1,hn=>
   unfold s8;by_cases hle:fp (cw q s) m<=0
   .have hle2:aj q+aj s<=aj m:=by rw [<-PD];exact BA.1 hle
    obtain⟨s9,PE,_⟩:=YK C O;obtain⟨PF,PG,_⟩:=YL C s9;have hg:=Yg (x:=qa p q r s) O.nb C.eY C.hD C.hg hle2;rw [<-PE,<-PG]at hg;rw [if_pos hle];have hg:aj q+aj s<aj (di q (gg a m p q r s) s)+aj (di s (iw a m (di p (gg a m p q r s) r) (di q (gg a m p q r s) s) r s) (di q (gg a m p q r s) s)):=hg;have key:=YP C n _ _ _ _ PF (by omega);exact key
   .rw [if_neg hle];have:=mt BA.2 hle;obtain⟨x,y,u,v,f1,f2,f3,f4⟩:=fin;exact⟨x,y,u,v,f1,by omega,f3,f4⟩
def asv {a:bO} {m:aC} {eo:Rat} (h:QR 2 a eo) (fh:aZ 1 m=true) (h1:1<=aj m) (h2:aj m<=1000000000):
  (eo.den<=aj m/\bx a m=(a,a))\/(aj m<eo.den/\∃x y u v:Int,kn eo.num eo.den (aj m) x y u v/\aj m<y+v/\QR 3 (bx a m).1 (Rat.divInt x y)/\QR 3 (bx a m).2 (Rat.divInt u v)):=by
 unfold bx;by_cases hc:fp a.2 m<=0
 .rw [if_pos hc];have:=BA.1 hc;rw [h.den]at this;exact Or.inl ⟨this,rfl⟩
 .rw [if_neg hc];have hD:aj m<eo.den:=by
   have:=mt BA.2 hc;rw [h.den]at this;omega
  have C:=YO h fh h1 h2 hD;have e1:aj (aT 1)=1:=tl 1;exact Or.inr ⟨hD,YP C _ _ _ _ _ (YM C) (by rw [e1];omega)⟩
end
set_option maxHeartbeats 4000000
noncomputable section
def Eo:=k_a Tryz.f89
def PJ:=k_a Tryz.f37
def BB:=k_a Tryz.f36
def Ep:=a7 [O6]
def cF (a:AT) (n:Int):Int:=if ckR a=0 then(if 1<=n/\n<=999999999 then 0 else 3)else ckR a
def Iw:=IN 89 [.str, .int .i64] [.int .i64] true (fun d=>decide (d.1.size<=1000000000)) fun d=>(cF d.1 d.2.1,())
def PK:=a7 [Iw,Bl,q6,Io,HX]
def BC:=a7 [Iw,Bl,q6,Io,HX,NP,DF,AI]
section
variable (a:AT) (n:Int) (h1:a.size<=1000000000)
def asw (h2:¬ckR a=0):
  aV Ep (fl Eo []) 9 17 [sv a,iv n] 3 Tryz.f89 true (iv (ckR a)):=
 wy [ah h1,aa (fA.mpr h2)] 129
def asx (h2:ckR a=0) (h3:¬n<1) (h4:n>999999999):
  aV Ep (fl Eo []) 9 17 [sv a,iv n] 54 Tryz.f89 true (iv (3)):=
 wy [ah h1,aa (ef.mpr h2),aa (bg (ab h3)),aF h3,ah h4] 5436616833
def asy (h2:ckR a=0) (h3:¬n<1) (h4:¬n>999999999):
  aV Ep (fl Eo []) 9 17 [sv a,iv n] 38 Tryz.f89 true (iv (0)):=
 wy [ah h1,aa (ef.mpr h2),aa (bg (ab h3)),aF h3,aF h4] 5436616833
def asz (h2:ckR a=0) (h3:n<1):
  aV Ep (fl Eo []) 9 17 [sv a,iv n] 56 Tryz.f89 true (iv (3)):=
 wy [ah h1,aa (ef.mpr h2),aa (bg (az h3)),ah h3] 67907713
def asA (h2:¬cF a n=0):
  aV PK (fl PJ []) 12 29 [sv a,iv n] 3 Tryz.f37 true (.tuple [.agg [sv (ByteArray.mk #[]),sv (ByteArray.mk #[])],iv (cF a n)]):=
 wy [ah h1,aa (fA.mpr h2)] 129
def asB (h2:cF a n=0) (h3:(dI a)=true) (h4:(p9 (aX a) (aT n))=true) (h5:(lD 10000 (bx (aX a) (aT n)).1)=true) (h6:(lD 10000 (bx (aX a) (aT n)).2)=true):
  aV PK (fl PJ []) 12 29 [sv a,iv n] 2 Tryz.f37 true (.tuple [.agg [sv (eS (bx (aX a) (aT n)).1),sv (eS (bx (aX a) (aT n)).2)],iv 0]):=
 wy [ah h1,aa (ef.mpr h2),aa h3,aa h4,aa (aD (v:=bN (bx (aX a) (aT n)).1)),aa h5,aa (aD (v:=bN (bx (aX a) (aT n)).2)),aa h6] 146116716991099009
def asC (h2:¬cF a n=0):
  aV BC (fl BB []) 16 51 [sv a,iv n] 3 Tryz.f36 true (.tuple [sv (ByteArray.mk #[]),iv (cF a n)]):=
 wy [ah h1,aa (fA.mpr h2)] 129
def asD (h2:cF a n=0) (h3:(dI a)=true) (h4:(p9 (aX a) (aT n))=true) (h5:(okQ 20000 (aX a)&&okQ 20000 (bx (aX a) (aT n)).1)=true) (h6:(okQ 20000 (bx (aX a) (aT n)).2&&okQ 20000 (aX a))=true) (h7:(okQ 20000 (fu (aX a) (bx (aX a) (aT n)).1)&&okQ 20000 (fu (bx (aX a) (aT n)).2 (aX a)))=true) (h8:lA (fu (aX a) (bx (aX a) (aT n)).1) (fu (bx (aX a) (aT n)).2 (aX a))>0) (h9:(lD 10000 (bx (aX a) (aT n)).2)=true):
  aV BC (fl BB []) 16 51 [sv a,iv n] 224 Tryz.f36 true (.tuple [sv (eS (bx (aX a) (aT n)).2),iv 0]):=
 wy [ah h1,aa (ef.mpr h2),aa h3,aa (aD (v:=bN (aX a))),aa h4,aa (aD (v:=bN (bx (aX a) (aT n)).1)),aa h5,aa (aD (v:=bN (bx (aX a) (aT n)).2)),aa h6,aa h7,aa (bg (az h8)),ah h8,aa h9] 70794915142931176077791226211902759645313
def asE (h2:cF a n=0) (h3:(dI a)=true) (h4:(p9 (aX a) (aT n))=true) (h5:(okQ 20000 (aX a)&&okQ 20000 (bx (aX a) (aT n)).1)=true) (h6:(okQ 20000 (bx (aX a) (aT n)).2&&okQ 20000 (aX a))=true) (h7:(okQ 20000 (fu (aX a) (bx (aX a) (aT n)).1)&&okQ 20000 (fu (bx (aX a) (aT n)).2 (aX a)))=true) (h8:¬lA (fu (aX a) (bx (aX a) (aT n)).1) (fu (bx (aX a) (aT n)).2 (aX a))>0) (h9:lA (fu (aX a) (bx (aX a) (aT n)).1) (fu (bx (aX a) (aT n)).2 (aX a))=0) (h10:(aZ 50000 (bx (aX a) (aT n)).2.2&&aZ 50000 (bx (aX a) (aT n)).1.2)=true) (h11:fp (bx (aX a) (aT n)).2.2 (bx (aX a) (aT n)).1.2<0) (h12:(lD 10000 (bx (aX a) (aT n)).2)=true):
  aV BC (fl BB []) 16 51 [sv a,iv n] 28670 Tryz.f36 true (.tuple [sv (eS (bx (aX a) (aT n)).2),iv 0]):=
 wy [ah h1,aa (ef.mpr h2),aa h3,aa (aD (v:=bN (aX a))),aa h4,aa (aD (v:=bN (bx (aX a) (aT n)).1)),aa h5,aa (aD (v:=bN (bx (aX a) (aT n)).2)),aa h6,aa h7,aa (bg (ab h8)),aa (aL (fW.mpr h9)),aa h10,cM h9,aF h8,ah h11,aa h12] 26441243112519129430488847351273044544497334563351048321
def asF (h2:cF a n=0) (h3:(dI a)=true) (h4:(p9 (aX a) (aT n))=true) (h5:(okQ 20000 (aX a)&&okQ 20000 (bx (aX a) (aT n)).1)=true) (h6:(okQ 20000 (bx (aX a) (aT n)).2&&okQ 20000 (aX a))=true) (h7:(okQ 20000 (fu (aX a) (bx (aX a) (aT n)).1)&&okQ 20000 (fu (bx (aX a) (aT n)).2 (aX a)))=true) (h8:¬lA (fu (aX a) (bx (aX a) (aT n)).1) (fu (bx (aX a) (aT n)).2 (aX a))>0) (h9:lA (fu (aX a) (bx (aX a) (aT n)).1) (fu (bx (aX a) (aT n)).2 (aX a))=0) (h10:(aZ 50000 (bx (aX a) (aT n)).2.2&&aZ 50000 (bx (aX a) (aT n)).1.2)=true) (h11:¬fp (bx (aX a) (aT n)).2.2 (bx (aX a) (aT n)).1.2<0) (h12:(lD 10000 (bx (aX a) (aT n)).1)=true):
  aV BC (fl BB []) 16 51 [sv a,iv n] 20478 Tryz.f36 true (.tuple [sv (eS (bx (aX a) (aT n)).1),iv 0]):=
 wy [ah h1,aa (ef.mpr h2),aa h3,aa (aD (v:=bN (aX a))),aa h4,aa (aD (v:=bN (bx (aX a) (aT n)).1)),aa h5,aa (aD (v:=bN (bx (aX a) (aT n)).2)),aa h6,aa h7,aa (bg (ab h8)),aa (aL (fW.mpr h9)),aa h10,cM h9,aF h8,aF h11,aa h12] 26441243112519129430488847351273044544497334563351048321
def asG (h2:cF a n=0) (h3:(dI a)=true) (h4:(p9 (aX a) (aT n))=true) (h5:(okQ 20000 (aX a)&&okQ 20000 (bx (aX a) (aT n)).1)=true) (h6:(okQ 20000 (bx (aX a) (aT n)).2&&okQ 20000 (aX a))=true) (h7:(okQ 20000 (fu (aX a) (bx (aX a) (aT n)).1)&&okQ 20000 (fu (bx (aX a) (aT n)).2 (aX a)))=true) (h8:¬lA (fu (aX a) (bx (aX a) (aT n)).1) (fu (bx (aX a) (aT n)).2 (aX a))>0) (h9:¬lA (fu (aX a) (bx (aX a) (aT n)).1) (fu (bx (aX a) (aT n)).2 (aX a))=0) (h10:(lD 10000 (bx (aX a) (aT n)).1)=true):
  aV BC (fl BB []) 16 51 [sv a,iv n] 17422 Tryz.f36 true (.tuple [sv (eS (bx (aX a) (aT n)).1),iv 0]):=
 wy [ah h1,aa (ef.mpr h2),aa h3,aa (aD (v:=bN (aX a))),aa h4,aa (aD (v:=bN (bx (aX a) (aT n)).1)),aa h5,aa (aD (v:=bN (bx (aX a) (aT n)).2)),aa h6,aa h7,aa (bg (ab h8)),aa (aL (eB.mpr h9)),yn h9,aF h8,aa h10] 359261689923794886237570838921716717002481865583505537
end
noncomputable def bK (a:AT) (n:Int):AT×AT:=if cF a n=0 then(eS (bx (aX a) (aT n)).1,eS (bx (aX a) (aT n)).2)else(ByteArray.mk #[],ByteArray.mk #[])
noncomputable def jN (a:AT) (n:Int):AT:=if cF a n=0 then(if 0<lA (fu (aX a) (bx (aX a) (aT n)).1) (fu (bx (aX a) (aT n)).2 (aX a))\/(lA (fu (aX a) (bx (aX a) (aT n)).1) (fu (bx (aX a) (aT n)).2 (aX a))=0/\fp (bx (aX a) (aT n)).2.2 (bx (aX a) (aT n)).1.2<0)then eS (bx (aX a) (aT n)).2 else eS (bx (aX a) (aT n)).1)else ByteArray.mk #[]
def YQ:=IN 37 [.str, .int .i64] [.pair .str .str, .int .i64] true (fun d=>decide (d.1.size<=24)) fun d=>(bK d.1 d.2.1,cF d.1 d.2.1,())
def YR:=IN 36 [.str, .int .i64] [.str, .int .i64] true (fun d=>decide (d.1.size<=24)) fun d=>(jN d.1 d.2.1,cF d.1 d.2.1,())
end
set_option maxHeartbeats 1000000
noncomputable section
def qe:bD prog (bF Ep):=cN fun c hc=>by
 rw [List.mem_singleton.1 hc];exact XM
def asH (a:AT) (n:Int) (hz:a.size<=1000000000):Holds prog true 89 [sv a,iv n] (iv (cF a n)):=by
 refine bL (c:=Eo) func89 rfl rfl fun w F=> ?_
 unfold cF;by_cases hc:ckR a=0
 .rw [if_pos hc];by_cases h1:n<1
  .rw [if_neg (by omega)];exact aY qe 9 (asz a n hz hc h1)
  .by_cases h2:n>999999999
   .rw [if_neg (by omega)];exact aY qe 9 (asx a n hz hc h1 h2)
   .rw [if_pos (by omega)];exact aY qe 9 (asy a n hz hc h1 h2)
 .rw [if_neg hc];exact aY qe 9 (asw a n hz hc)
def PL:Iw.Ok prog:=fun⟨a,n,_⟩ h=>asH a n (ap h)
structure asI (a:AT) (n:Int):Prop where
 fr:dI a=true
 qr:QR 2 (aX a) (toQ a)
 ok:p9 (aX a) (aT n)=true
 lo:∃r,QR 3 (bx (aX a) (aT n)).1 r
 hi:∃r,QR 3 (bx (aX a) (aT n)).2 r
 law:((toQ a).den<=n/\bx (aX a) (aT n)=(aX a,aX a))\/(n<(toQ a).den/\∃x y u v:Int,kn (toQ a).num (toQ a).den n x y u v/\n<y+v/\QR 3 (bx (aX a) (aT n)).1 (Rat.divInt x y)/\QR 3 (bx (aX a) (aT n)).2 (Rat.divInt u v))
def BD {a:AT} {n:Int} (hz:a.size<=24) (h:cF a n=0):asI a n:=by
 unfold cF at h;by_cases hc:ckR a=0
 .rw [if_pos hc]at h;by_cases hn:1<=n/\n<=999999999
  .obtain⟨r,k,rfl,hk,hi⟩:=HY hc;obtain⟨h1,h2⟩:=Pf hz;have e3:(10:Nat)^24=1000000000000000000000000:=by decide
   rw [e3]at h1 h2;have e2:(18446744073709551616:Int)^2=340282366920938463463374607431768211456:=by decide
   obtain⟨f1,f2⟩:=Wk (n:=2) (r:=r) (by decide) (by decide) (jJ (by omega)).1 (jJ (by omega)).1 (by omega);have i:fR 3 r:=⟨by have:(1000000000:Int)^3=1000000000000000000000000000:=(by decide);omega,by have:(1000000000:Int)^3=1000000000000000000000000000:=(by decide);omega⟩;have t:=iL (k:=3) (by decide) i;have vm:aj (aT n)=n:=tl n;have fh:aZ 1 (aT n)=true:=NX (by omega);have law:=asv f2 fh (by omega) (by omega);rw [vm]at law;have ok:p9 (aX (aU r)) (aT n)=true:=by
    unfold p9 lD;rw [vm];refine bZ (@az _ (Classical.propDecidable _) ?_) (bZ fh (bZ (az (by omega)) (az (by omega))));rw [f2.val];exact f2
   refine⟨f1,by rw [t];exact f2,ok, ?_, ?_,by rw [t];exact law⟩
   .rcases law with⟨_,e⟩|⟨_,x,y,u,v,_,_,g,_⟩
    .rw [e];exact⟨r,f2.mono (by decide)⟩
    .exact⟨_,g⟩
   .rcases law with⟨_,e⟩|⟨_,x,y,u,v,_,_,_,g⟩
    .rw [e];exact⟨r,f2.mono (by decide)⟩
    .exact⟨_,g⟩
  .rw [if_neg hn]at h;cases h
 .rw [if_neg hc]at h;exact absurd h hc
def YS:bD prog (bF PK):=cN (aQ PL (aQ DH (aQ lc (aQ PI (aQ O9 dW)))))
def asJ:bD prog (bF BC):=cN (aQ PL (aQ DH (aQ lc (aQ PI (aQ O9 (aQ VZ (aQ Ho (aQ De dW))))))))
def asK (a:AT) (n:Int) (hz:a.size<=24):Holds prog true 37 [sv a,iv n] (.tuple [.agg [sv (bK a n).1,sv (bK a n).2],iv (cF a n)]):=by
 refine bL (c:=PJ) func37 rfl rfl fun w F=> ?_
 unfold bK;by_cases h:cF a n=0
 .obtain⟨fr,qr,ok,⟨x,lo⟩,⟨y,hi⟩,_⟩:=BD hz h;rw [if_pos h,h];exact aY YS 12 (asB a n (by omega) h fr ok (lo.rd (by decide)) (hi.rd (by decide)))
 .rw [if_neg h];exact aY YS 12 (asA a n (by omega) h)
def asL:YQ.Ok prog:=fun⟨a,n,_⟩ h=>asK a n (ap h)
def asM (a:AT) (n:Int) (hz:a.size<=24):Holds prog true 36 [sv a,iv n] (.tuple [sv (jN a n),iv (cF a n)]):=by
 have hS:=asJ;refine bL (c:=BB) func36 rfl rfl fun w F=> ?_
 unfold jN;by_cases h:cF a n=0
 .obtain⟨fr,qr,ok,⟨x,lo⟩,⟨y,hi⟩,_⟩:=BD hz h;rw [if_pos h,h];have q1:=tk (qr.mono (show 2<=3 by decide)) lo (by decide);have aP:=tk hi (qr.mono (show 2<=3 by decide)) (by decide);have PM:∀{n m:Nat} {p q:bO} {r s:Rat},QR n p r->QR m q s->n<=20000->m<=20000->(okQ 20000 p&&okQ 20000 q)=true:=fun h g hn hm=>by rw [(h.mono hn).ok,(g.mono hm).ok];rfl
  have w1:=PM qr lo (by decide) (by decide);have w2:=PM hi qr (by decide) (by decide);have w3:=PM q1 aP (by decide) (by decide);by_cases c1:lA (fu (aX a) (bx (aX a) (aT n)).1) (fu (bx (aX a) (aT n)).2 (aX a))>0
  .rw [if_pos (Or.inl c1)];exact aY hS 16 (asD a n (by omega) h fr ok w1 w2 w3 c1 (hi.rd (by decide)))
  .by_cases c2:lA (fu (aX a) (bx (aX a) (aT n)).1) (fu (bx (aX a) (aT n)).2 (aX a))=0
   .have YT:(aZ 50000 (bx (aX a) (aT n)).2.2&&aZ 50000 (bx (aX a) (aT n)).1.2)=true:=bZ (bc (by decide) hi.o2) (bc (by decide) lo.o2);by_cases c3:fp (bx (aX a) (aT n)).2.2 (bx (aX a) (aT n)).1.2<0
    .rw [if_pos (Or.inr ⟨c2,c3⟩)];exact aY hS 16 (asE a n (by omega) h fr ok w1 w2 w3 c1 c2 YT c3 (hi.rd (by decide)))
    .rw [if_neg (fun g=>g.elim c1 fun g=>c3 g.2)];exact aY hS 16 (asF a n (by omega) h fr ok w1 w2 w3 c1 c2 YT c3 (lo.rd (by decide)))
   .rw [if_neg (fun g=>g.elim c1 fun g=>c2 g.1)];exact aY hS 16 (asG a n (by omega) h fr ok w1 w2 w3 c1 c2 (lo.rd (by decide)))
 .rw [if_neg h];exact aY hS 16 (asC a n (by omega) h)
def asN:YR.Ok prog:=fun⟨a,n,_⟩ h=>asM a n (ap h)
def CM (r:Rat):(0:Rat)<((r.den:Int):Rat):=Rat.intCast_pos.2 (by have:=r.den_pos;omega)
def PN (r:Rat):r*((r.den:Int):Rat)=(r.num:Rat):=by
 have e:(r.num:Rat)/((r.den:Int):Rat)=r:=by rw [<-Rat.divInt_eq_div,Rat.num_divInt_den]
 have h:=CM r;have e2:=Rat.div_mul_cancel (a:=(r.num:Rat)) (b:=((r.den:Int):Rat)) (by intro h0;rw [h0]at h;exact Rat.lt_irrefl h);rw [e]at e2;exact e2
def PO (r:Rat) (e:Int):(r*(e:Rat)).floor=r.num*e/(r.den:Int):=by
 have hD:0<(r.den:Int):=by have:=r.den_pos;omega
 have h:∀k:Int,k<=(r*(e:Rat)).floor↔k<=r.num*e/(r.den:Int):=fun k=>by
  rw [Rat.le_floor_iff,Int.le_ediv_iff_mul_le hD,<-Rat.intCast_le_intCast,Rat.intCast_mul,Rat.intCast_mul,<-PN r];have c:=CM r;have e1:r*((r.den:Int):Rat)*(e:Rat)=r*(e:Rat)*((r.den:Int):Rat):=by grind
  rw [e1];exact⟨fun g=>Rat.mul_le_mul_of_nonneg_right g (Rat.le_of_lt c),fun g=>Rat.le_of_mul_le_mul_right g c⟩
 have a:=(h _).1 (Int.le_refl _);have b:=(h _).2 (Int.le_refl _);omega
def YU (r:Rat) (e:Int):(-(r*(e:Rat))).floor= -(r.num*e)/(r.den:Int):=by
 have h:=PO r (-e);have e1:r*((-e:Int):Rat)= -(r*(e:Rat)):=by rw [Rat.intCast_neg];grind
 rw [e1,Int.mul_neg]at h;exact h
def YV {a b c d:Int} (hb:0<b) (hd:0<d) (h:a*d<=c*b):(a:Rat)/(b:Rat)<=(c:Rat)/(d:Rat):=by
 have pb:(0:Rat)<(b:Rat):=Rat.intCast_pos.2 hb;have pd:(0:Rat)<(d:Rat):=Rat.intCast_pos.2 hd;have nb:(b:Rat)≠0:=fun h0=>by rw [h0]at pb;exact Rat.lt_irrefl pb
 have nd:(d:Rat)≠0:=fun h0=>by rw [h0]at pd;exact Rat.lt_irrefl pd
 refine Rat.le_of_mul_le_mul_right (c:=(b:Rat)*(d:Rat)) ?_ (Rat.mul_pos pb pd);have e1:(a:Rat)/(b:Rat)*((b:Rat)*(d:Rat))=((a*d:Int):Rat):=by
  rw [<-Rat.mul_assoc,Rat.div_mul_cancel nb,Rat.intCast_mul]
 have e2:(c:Rat)/(d:Rat)*((b:Rat)*(d:Rat))=((c*b:Int):Rat):=by
  rw [Rat.mul_comm (b:Rat),<-Rat.mul_assoc,Rat.div_mul_cancel nd,Rat.intCast_mul]
 rw [e1,e2];exact Rat.intCast_le_intCast.2 h
def YW (a:Rat):a/((1:Int):Rat)=a:=by
 have h:=Rat.div_mul_cancel (a:=a) (b:=((1:Int):Rat)) (by decide);have e:a/((1:Int):Rat)*((1:Int):Rat)=a/((1:Int):Rat):=by rw [Rat.intCast_one,Rat.mul_one]
 rw [e]at h;exact h
def asO {a r:Rat} {e:Int} (he:0<e) (h:a<=r*(e:Rat)):a/(e:Rat)<=r:=by
 have p:(0:Rat)<(e:Rat):=Rat.intCast_pos.2 he;have n:(e:Rat)≠0:=fun h0=>by rw [h0]at p;exact Rat.lt_irrefl p
 refine Rat.le_of_mul_le_mul_right (c:=(e:Rat)) ?_ p;rw [Rat.div_mul_cancel n];exact h
def asP {a r:Rat} {e:Int} (he:0<e) (h:r*(e:Rat)<=a):r<=a/(e:Rat):=by
 have p:(0:Rat)<(e:Rat):=Rat.intCast_pos.2 he;have n:(e:Rat)≠0:=fun h0=>by rw [h0]at p;exact Rat.lt_irrefl p
 refine Rat.le_of_mul_le_mul_right (c:=(e:Rat)) ?_ p;rw [Rat.div_mul_cancel n];exact h
def YX (r:Rat):(r.num:Rat)/((r.den:Int):Rat)=r:=by rw [<-Rat.divInt_eq_div,Rat.num_divInt_den]
def asQ {a:AT} {n:Int} (hz:a.size<=24) (h:cF a n=0):Holds prog true 39 [sv a,iv n] (.agg [sv (bK a n).1,sv (bK a n).2]):=by
 have F:=BD hz h;have hc:ckR a=0/\1<=n/\n<=999999999:=by
  unfold cF at h;by_cases c:ckR a=0
  .rw [if_pos c]at h;by_cases g:1<=n/\n<=999999999
   .exact⟨c,g⟩
   .rw [if_neg g]at h;cases h
  .rw [if_neg c]at h;exact absurd h c
 obtain⟨r,k,rfl,hk,hi⟩:=HY hc.1;have PR:toQ (aU r)=r:=iL hk hi;obtain⟨t1,t2⟩:=Pf hz;have bd:mZ (10^24) (10^24) r:=⟨Nat.le_of_lt t1,Nat.le_of_lt t2⟩;have law:=F.law;rw [PR]at law;have hD:0<(r.den:Int):=by have:=r.den_pos;omega
 unfold bK;rw [if_pos h];rcases law with⟨hd,e⟩|⟨hd,x,y,u,v,nb,YY,l1,l2⟩
 .have lo:eS (bx (aX (aU r)) (aT n)).1=aU r:=by rw [e];unfold eS;rw [F.qr.val,PR]
  have hi:eS (bx (aX (aU r)) (aT n)).2=aU r:=by rw [e];unfold eS;rw [F.qr.val,PR]
  rw [lo,hi];have c1:(r*((r.den:Int):Rat)).floor=r.num:=by rw [PN,Rat.floor_intCast]
  have c2:(-(r*((r.den:Int):Rat))).floor= -r.num:=by rw [PN,<-Rat.intCast_neg,Rat.floor_intCast]
  refine YE (q:=r.den) (s:=r.den) bd (by omega) (by omega) hd (by omega) hd (Rat.floor_le r) (Rat.le_neg_iff.1 (Rat.floor_le (-r))) (fun e h1 _=>asO (by omega) (Rat.floor_le _)) ?_ (fun e h1 _=>asP (by omega) (Rat.le_neg_iff.1 (Rat.floor_le _))) ?_
  .rw [c1];exact YX r
  .rw [c2,Rat.intCast_neg,Rat.neg_neg];exact YX r
 .have lo:eS (bx (aX (aU r)) (aT n)).1=aU (Rat.divInt x y):=by unfold eS;rw [l1.val]
  have hi:eS (bx (aX (aU r)) (aT n)).2=aU (Rat.divInt u v):=by unfold eS;rw [l2.val]
  rw [lo,hi,Rat.divInt_eq_div,Rat.divInt_eq_div];have q1:=nb.q1;have s1:=nb.s1;obtain⟨f1,f2⟩:=arp nb hD;have hl:∀e:Int,1<=e->e<=n->((((r*(e:Rat)).floor:Int):Rat)/(e:Rat))<=(x:Rat)/(y:Rat):=fun e h1 h2=>by
   rw [PO];exact YV (by omega) (by omega) (arq nb hD YY h1 h2)
  have hh:∀e:Int,1<=e->e<=n->(u:Rat)/(v:Rat)<=(-(((-(r*(e:Rat))).floor:Int):Rat)/(e:Rat)):=fun e h1 h2=>by
   rw [YU,<-Rat.intCast_neg];exact YV (by omega) (by omega) (ars nb hD YY h1 h2)
  refine YE (q:=y) (s:=v) bd (by omega) q1 nb.s6 s1 nb.s7 ?_ ?_ hl ?_ hh ?_
  .have g:=hl 1 (by omega) (by omega);rw [YW,Rat.intCast_one,Rat.mul_one]at g;exact g
  .have g:=hh 1 (by omega) (by omega);rw [YW,Rat.intCast_one,Rat.mul_one]at g;exact g
  .rw [PO,f1]
  .rw [YU,<-Rat.intCast_neg,f2]
def wt (a:AT) (n:Int):Bool:=decide (a.size<=24)&&decide (cF a n=0)
def kw {a:AT} {n:Int}:wt a n=true↔a.size<=24/\cF a n=0:=by unfold wt;rw [ae,bE,bE]
def PS:=IN 39 [.str, .int .i64] [.pair .str .str] true (fun d=>wt d.1 d.2.1) fun d=>(bK d.1 d.2.1,())
def YZ:PS.Ok prog:=fun⟨a,n,_⟩ h=>asQ (kw.1 h).1 (kw.1 h).2
end
set_option maxHeartbeats 4000000
noncomputable section
def Er:=k_a Tryz.f40
def Es:=k_a Tryz.f41
def Iy:=k_a Tryz.f94
def BE:=k_a Tryz.f38
abbrev iy (lo hi:AT):af:= .agg [sv lo,sv hi]
def Et:=a7 [PS,Ph,H9,OD]
section
variable (a:AT) (n:Int) (h1:(wt a n)=true) (h2:(isQ a&&isQ (bK a n).1)=true) (h3:(isQ (bK a n).2&&isQ a)=true) (h4:(isQ (gA a (bK a n).1)&&isQ (gA (bK a n).2 a))=true)
def asR (h5:gk (gA a (bK a n).1) (gA (bK a n).2 a)=0) (h6:(bK a n).1.size<=1000000000) (h7:(bK a n).2.size<=1000000000) (h8:(isQ (kj (bK a n).1)&&isQ (kj (bK a n).2))=true) (h9:gk (kj (bK a n).1) (kj (bK a n).2)<=0):
  aV Et (fl Er []) 9 34 [sv a,iv n] 7 Tryz.f40 true (sv (bK a n).1):=
 wy [aa h1,aa (aD (v:=af.raw (Value.string (bK a n).1))),aa h2,aa (aD (v:=af.raw (Value.string (bK a n).2))),aa h3,aa h4,cM h5,ah h6,ah h7,aa h8,ah h9] 215836060003857674380783745
def asS (h5:gk (gA a (bK a n).1) (gA (bK a n).2 a)=0) (h6:(bK a n).1.size<=1000000000) (h7:(bK a n).2.size<=1000000000) (h8:(isQ (kj (bK a n).1)&&isQ (kj (bK a n).2))=true) (h9:¬gk (kj (bK a n).1) (kj (bK a n).2)<=0):
  aV Et (fl Er []) 9 34 [sv a,iv n] 5 Tryz.f40 true (sv (bK a n).2):=
 wy [aa h1,aa (aD (v:=af.raw (Value.string (bK a n).1))),aa h2,aa (aD (v:=af.raw (Value.string (bK a n).2))),aa h3,aa h4,cM h5,ah h6,ah h7,aa h8,aF h9] 215836060003857674380783745
def asT (h5:¬gk (gA a (bK a n).1) (gA (bK a n).2 a)=0) (h6:gk (gA a (bK a n).1) (gA (bK a n).2 a)<=0):
  aV Et (fl Er []) 9 34 [sv a,iv n] 6 Tryz.f40 true (sv (bK a n).1):=
 wy [aa h1,aa (aD (v:=af.raw (Value.string (bK a n).1))),aa h2,aa (aD (v:=af.raw (Value.string (bK a n).2))),aa h3,aa h4,yn h5,ah h6] 2283003893002369
def asU (h5:¬gk (gA a (bK a n).1) (gA (bK a n).2 a)=0) (h6:¬gk (gA a (bK a n).1) (gA (bK a n).2 a)<=0):
  aV Et (fl Er []) 9 34 [sv a,iv n] 4 Tryz.f40 true (sv (bK a n).2):=
 wy [aa h1,aa (aD (v:=af.raw (Value.string (bK a n).1))),aa h2,aa (aD (v:=af.raw (Value.string (bK a n).2))),aa h3,aa h4,yn h5,aF h6] 2283003893002369
end
def asV (l:List AT) (k:Nat) (h1:(k:Int)<(l.length:Int)) (h2:k<l.length) (h3:(l.getD k ByteArray.empty).size<=1000000000) (h4:¬ckR (l.getD k ByteArray.empty)=0):
  bS Bv (fl wP [1,0,1,0,0]) (p7 l k) 7 Tryz.f190 true (iv (ckR (l.getD k ByteArray.empty))):=
 wy [ah h1,ah h2,ah h3,aa (fA.mpr h4)] 67903489
def nT (l:List AT):Bool:=decide (l.length<=1000)&&l.all fun s=>decide (s.size<=1000000000)
noncomputable def PT (args:List af):aE (Option af):=match args with
 |[.bu false .str l, .raw (.func (.func g) ⟨[]⟩ ⟨[]⟩)]=> .must (Nat.beq g 54&&nT l) (.ret (some (iv (lC l))))
 |_=> .ret none
noncomputable def Y0:rY:={f:=190,res:=PT}
noncomputable def Y1:bG:=Aq [Y0] (a7 [])
def asW (l:List AT) (h1:(Nat.beq 54 54&&nT l)=true):
  aV Y1 (fl XN []) 3 5 [sl l] 1 Tryz.f153 true (iv (lC l)):=
 wy [aa h1] 1
def Y2:=IN 153 [.list false .str] [.int .i64] true (fun d=>nT d.1) fun d=>(lC d.1,())
def Iz:=a7 [Y2,Bl,DF]
section
variable (lo hi:AT) (h1:(nT [lo,hi])=true)
def Y3 (h2:¬lC [lo,hi]=0):
  aV Iz (fl Iy []) 9 22 [iy lo hi] 3 Tryz.f94 true (iv (lC [lo,hi])):=
 wy [aa h1,aa (fA.mpr h2)] 129
def asX (h2:lC [lo,hi]=0) (h3:(dI lo)=true) (h4:(dI hi)=true) (h5:(okQ 20000 (aX lo)&&okQ 20000 (aX hi))=true) (h6:lA (aX lo) (aX hi)>0):
  aV Iz (fl Iy []) 9 22 [iy lo hi] 6 Tryz.f94 true (iv 11):=
 wy [aa h1,aa (ef.mpr h2),aa (aD (v:=af.raw (Value.string lo))),aa h3,aa (aD (v:=af.raw (Value.string hi))),aa h4,aa h5,ah h6] 2283003909779585
def asY (h2:lC [lo,hi]=0) (h3:(dI lo)=true) (h4:(dI hi)=true) (h5:(okQ 20000 (aX lo)&&okQ 20000 (aX hi))=true) (h6:¬lA (aX lo) (aX hi)>0):
  aV Iz (fl Iy []) 9 22 [iy lo hi] 4 Tryz.f94 true (iv 0):=
 wy [aa h1,aa (ef.mpr h2),aa (aD (v:=af.raw (Value.string lo))),aa h3,aa (aD (v:=af.raw (Value.string hi))),aa h4,aa h5,aF h6] 2283003909779585
end
def Eu:=a7 [OV,H9]
noncomputable def jd (lo hi:AT):Int:=if ckR lo=0 then(if ckR hi=0 then(if 0<gk lo hi then 11 else 0)else ckR hi)else ckR lo
def Y4:=IN 94 [.pair .str .str] [.int .i64] true (fun d=>decide (d.1.1.size<=24)&&decide (d.1.2.size<=24)) fun d=>(jd d.1.1 d.1.2,())
def Y5:=IN 41 [.pair .str .str] [.int .i64] true (fun d=>decide (d.1.1.size<=24)&&decide (d.1.2.size<=24)) fun d=>(jd d.1.1 d.1.2,())
section
variable (lo hi:AT) (h1:lo.size<=1000000000) (h2:ckR lo=0) (h3:hi.size<=1000000000)
def asZ (h4:ckR hi=0) (h5:(isQ lo&&isQ hi)=true) (h6:gk lo hi>0):
  aV Eu (fl Es []) 9 23 [iy lo hi] 1023 Tryz.f41 true (iv 11):=
 wy [ah h1,cM h2,ah h3,aa (aL (fW.mpr h4)),aa h5,cM h4,ah h6] 523499845931857096833
def as0 (h4:ckR hi=0) (h5:(isQ lo&&isQ hi)=true) (h6:¬gk lo hi>0):
  aV Eu (fl Es []) 9 23 [iy lo hi] 767 Tryz.f41 true (iv (ckR hi)):=
 wy [ah h1,cM h2,ah h3,aa (aL (fW.mpr h4)),aa h5,cM h4,aF h6] 523499845931857096833
def as1 (h4:¬ckR hi=0):
  aV Eu (fl Es []) 9 23 [iy lo hi] 513 Tryz.f41 true (iv (ckR hi)):=
 wy [ah h1,cM h2,ah h3,aa (aL (eB.mpr h4)),yn h4] 91215763881341057
end
def as2 (lo hi:AT) (h1:lo.size<=1000000000) (h2:¬ckR lo=0):
  aV Eu (fl Es []) 9 23 [iy lo hi] 512 Tryz.f41 true (iv (ckR lo)):=
 wy [ah h1,yn h2,aa (aL (eB.mpr h2))] 576353523740801
def BF:=a7 [Iw,Y4,Bl,q6,Io,HX]
section
variable (a:AT) (n:Int) (lo hi:AT) (h1:a.size<=1000000000)
def as3 (h2:¬cF a n=0):
  aV BF (fl BE []) 16 42 [sv a,iv n,iy lo hi] 3 Tryz.f38 true (iv (cF a n)):=
 wy [ah h1,aa (fA.mpr h2)] 129
def as4 (h2:cF a n=0) (h3:(decide (lo.size<=24)&&decide (hi.size<=24))=true) (h4:¬jd lo hi=0):
  aV BF (fl BE []) 16 42 [sv a,iv n,iy lo hi] 6 Tryz.f38 true (iv (jd lo hi)):=
 wy [ah h1,aa (ef.mpr h2),aa h3,aa (fA.mpr h4)] 1060993
def as5 (h2:cF a n=0) (h3:(decide (lo.size<=24)&&decide (hi.size<=24))=true) (h4:jd lo hi=0) (h5:(dI a)=true) (h6:(p9 (aX a) (aT n))=true) (h7:(lD 10000 (bx (aX a) (aT n)).1)=true) (h8:(lo.data).toList=((eS (bx (aX a) (aT n)).1).data).toList) (h9:(lD 10000 (bx (aX a) (aT n)).2)=true) (h10:(hi.data).toList=((eS (bx (aX a) (aT n)).2).data).toList):
  aV BF (fl BE []) 16 42 [sv a,iv n,iy lo hi] 636 Tryz.f38 true (iv 0):=
 wy [ah h1,aa (ef.mpr h2),aa h3,aa (ef.mpr h4),aa h5,aa h6,aa (aD (v:=af.raw (Value.string lo))),aa (aD (v:=bN (bx (aX a) (aT n)).1)),aa h7,aa (bg (cj (az h8))),aa (aD (v:=af.raw (Value.string hi))),aa (aD (v:=bN (bx (aX a) (aT n)).2)),aa h9,aa (cj (az h8)),aa (cj (az h10))] 82872197645947659148057257001574995079297
def as6 (h2:cF a n=0) (h3:(decide (lo.size<=24)&&decide (hi.size<=24))=true) (h4:jd lo hi=0) (h5:(dI a)=true) (h6:(p9 (aX a) (aT n))=true) (h7:(lD 10000 (bx (aX a) (aT n)).1)=true) (h8:(lo.data).toList=((eS (bx (aX a) (aT n)).1).data).toList) (h9:(lD 10000 (bx (aX a) (aT n)).2)=true) (h10:¬(hi.data).toList=((eS (bx (aX a) (aT n)).2).data).toList):
  aV BF (fl BE []) 16 42 [sv a,iv n,iy lo hi] 892 Tryz.f38 true (iv 20):=
 wy [ah h1,aa (ef.mpr h2),aa h3,aa (ef.mpr h4),aa h5,aa h6,aa (aD (v:=af.raw (Value.string lo))),aa (aD (v:=bN (bx (aX a) (aT n)).1)),aa h7,aa (bg (cj (az h8))),aa (aD (v:=af.raw (Value.string hi))),aa (aD (v:=bN (bx (aX a) (aT n)).2)),aa h9,aa (cj (az h8)),aa (cj (ab h10))] 82872197645947659148057257001574995079297
def as7 (h2:cF a n=0) (h3:(decide (lo.size<=24)&&decide (hi.size<=24))=true) (h4:jd lo hi=0) (h5:(dI a)=true) (h6:(p9 (aX a) (aT n))=true) (h7:(lD 10000 (bx (aX a) (aT n)).1)=true) (h8:¬(lo.data).toList=((eS (bx (aX a) (aT n)).1).data).toList):
  aV BF (fl BE []) 16 42 [sv a,iv n,iy lo hi] 896 Tryz.f38 true (iv 20):=
 wy [ah h1,aa (ef.mpr h2),aa h3,aa (ef.mpr h4),aa h5,aa h6,aa (aD (v:=af.raw (Value.string lo))),aa (aD (v:=bN (bx (aX a) (aT n)).1)),aa h7,aa (bg (cj (ab h8))),aa (cj (ab h8))] 884085686465218348281072988289
end
noncomputable def oS (a:AT) (n:Int) (lo hi:AT):Int:=if cF a n=0 then(if jd lo hi=0 then(if lo=(bK a n).1/\hi=(bK a n).2 then 0 else 20)else jd lo hi)else cF a n
def Y6:=IN 38 [.str, .int .i64, .pair .str .str] [.int .i64] true (fun d=>decide (d.1.size<=24)&&(decide (d.2.2.1.1.size<=24)&&decide (d.2.2.1.2.size<=24))) fun d=>(oS d.1 d.2.1 d.2.2.1.1 d.2.2.1.2,())
def Y7:=IN 40 [.str, .int .i64] [.str] true (fun d=>wt d.1 d.2.1) fun d=>(jN d.1 d.2.1,())
end
end Go.Proofs.YtibikmmdbdlafaaGreatDoor
