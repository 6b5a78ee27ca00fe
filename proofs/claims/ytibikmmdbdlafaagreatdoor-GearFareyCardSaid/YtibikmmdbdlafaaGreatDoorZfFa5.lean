import Derived.Test.YtibikmmdbdlafaaGreatDoorZfFa2
set_option linter.defProp false
set_option linter.unusedSimpArgs false
set_option linter.unusedVariables false
set_option maxRecDepth 100000
namespace Go.Proofs.YtibikmmdbdlafaaGreatDoor
open Go.RowKit Sv Go.Proofs.Tryz
set_option maxHeartbeats 1000000
noncomputable section
def as0:bD prog (bF Et):=cM (aP O7 (aP W4 (aP W6 (aP W5 dV))))
def as1 (a:AT):Holds prog true 28 [sv a,iv 8] (bv (w5 a)):=by
 have hS:=as0;refine bL (c:=Es) func28 rfl rfl fun w F=> ?_
 unfold w5;by_cases h1:a.size<=18
 .rw [ay h1,Bool.true_and];have z9:a.size<=1000000000:=by omega
  by_cases h2:ckR a=0
  .rw [ay h2,Bool.true_and];by_cases h3:(sK (vz a)).size<=8
   .rw [ay h3,Bool.true_and];have key:=asU a ω z9 h2 ω rfl;rw [show decide (((jI a).size:Int)<=8)=decide ((jI a).size<=8)from decide_eq_decide.2 ω]at key;exact bg hS 9 key
   .rw [ab h3];exact bg hS 9 (asV a ω z9 h2 ω)
  .rw [ab h2];exact bg hS 9 (asW a ω z9 h2)
 .rw [ab h1];exact bg hS 9 (asX a ω)
def as2:YW.Ok prog:=fun⟨a,n,_⟩ h=>by
 obtain rfl:n=8:=ap h;exact as1 a
def as3:YX.Ok prog:=fun⟨a,⟨lo,hi⟩,_⟩ h=>by
 have h:(isQ a&&(isQ lo&&isQ hi))=true:=h;rw [ae,ae]at h;have hS:bD prog (bF P3):=qK Px;show Holds prog true 42 [sv a,kF lo hi] (bv (BH a lo hi));refine bL (c:=P0) func42 rfl rfl fun w F=> ?_
 unfold BH;by_cases c:fj lo a<=0
 .rw [ay c,Bool.true_and];exact bg hS 9 (in_1 a lo hi (bN h.2.1 h.1) c (bN h.1 h.2.2) rfl)
 .rw [ab c];exact bg hS 9 (asY a lo hi (bN h.2.1 h.1) c)
def as4:bD prog (bF YY):=cM (aP Pw (aP W6 dV))
def as5:YZ.Ok prog:=fun⟨a,b,_⟩ h=>by
 have h:(isQ a&&isQ b)=true:=h;show Holds prog true 34 [sv a,sv b] (sv (nN a b));refine bL (c:=YV) func34 rfl rfl fun w F=> ?_
 exact bg as4 9 (asZ a b h)
def P4 (r:Rat):sK (aU r)=aU (nM r):=by
 unfold sK nM;rw [Pu];by_cases h:r<0
 .rw [if_pos h,if_pos h,if_pos δ,X8 (DL.2 h)]
 .rw [if_neg h,if_neg h,if_neg (by split<;>decide)]
def Y0 (n:Int) (h:0<=n):(aU (n:Rat)).size=(Lib.decDigits n.natAbs).length:=by
 rw [cK,uX,BG (Rat.den_intCast _),List.append_nil,Rat.num_intCast,pY,ab ω];rfl
def as6 (n:Int):nM (n:Rat)=((n.natAbs:Int):Rat):=by
 have h:=YU (a:=n) (b:=1) δ;rw [Iz,Iz]at h;exact h
def P5:∀(n:Nat) (u:Nat),1<=n->u<10^n->(Lib.decDigits u).length<=n
 |0,u,h,_=>by omega
 |n+1,u,_,h=>by
  by_cases hu:u<10
  .rw [mN hu];simp
  .rw [sU hu,cW,List.length_singleton];have hn:1<=n:=by
    cases n with
    |zero=>simp at h;omega
    |succ n=>omega
   have:=P5 n (u/10) hn (by rw [Nat.pow_succ]at h;omega);omega
def Y1 {r:Rat} (h1:r.num.natAbs<100000000000000000) (h2:r.den<100000):(aU r).size<=24:=by
 have a:=P5 17 r.num.natAbs δ (by have:(10:Nat)^17=100000000000000000:=δ;omega);have b:=P5 5 r.den δ (by have:(10:Nat)^5=100000:=δ;omega);rw [cK,uX,cW,pY];have c:(fO r).length<=6:=by unfold fO;split<;>simp;omega
 split
 .rw [List.length_cons];omega
 .omega
def as7 {a:AT} (h:w5 a=true):a.size<=18/\ckR a=0/\Er (toQ a):=by
 unfold w5 at h;rw [ae,ae,ae,bA,bA,bA,bA]at h;obtain⟨h1,h2,h3,h4⟩:=h;have f:=Bu (a:=a) ω h2;refine⟨h1,h2, ?_, ?_⟩
 .rw [f.tx,PZ,P4,as6,Y0 _ ω]at h3;have:=mr 8 _ h3;have e:(10:Nat)^8=100000000:=δ;omega
 .rw [f.tx,IC,Y0 _ ω]at h4;have:=mr 8 _ h4;have e:(10:Nat)^8=100000000:=δ;omega
def as8:=IN 8 [] [.bool] true (fun d=>true) fun d=>(true,())
end
set_option maxHeartbeats 4000000
noncomputable section
def nO:=k_a Tryz.f7
noncomputable def uY (a b:AT):AT:=aU (toQ a+toQ b)
noncomputable def Eu (n d:Int):AT:=aU (Rat.divInt n d)
def as9:=IN 14 [.str, .str] [.str] true (fun d=>isQ d.1&&isQ d.2.1) fun d=>(uY d.1 d.2.1,())
def ata:=IN 44 [.int .i64, .int .i64] [.str] true (fun d=>(decide (-4000000000000000000<=d.1)&&decide (d.1<=4000000000000000000))&&(decide (0<d.2.1)&&decide (d.2.1<=4000000000000000000))) fun d=>(Eu d.1 d.2.1,())
def nP:=a8 [as8,YW,YG,YH,YP,HV,YX,YQ,OL,OM,aqY,Ii,aqW,Ie,as9,aqZ,aqX,ata,YZ]
abbrev zj (k:Int):af:= .raw (.int .u16 k)
abbrev u2 (x y:Int):af:= .agg [zj x,zj y]
abbrev IF (x y:Int):fE:= .blk (.cells 63 [zj x,zj y] true false false)
section
variable (a:AT) (x y M:Int)
def P6:bH:={n:=168,sl:=[(0,sv a),(5, .ptr 64 0),(7,iv M)],bJ:=[(64,IF x y)],next:=65}
def P7 (lo hi b:AT) (e:Int):bH:={n:=168,sl:=[(0,sv a),(5, .ptr 64 0),(7,iv M),(8, .ptr 65 0),(9,iv e),(10,sv b),(11,iv e)],bJ:=[(64,IF x y),(65,Ik lo hi)],next:=66}
def s6 (lo hi b p q r t w:AT):bH:={n:=168,sl:=[(0,sv a),(5, .ptr 64 0),(7,iv M),(8, .ptr 65 0),(10,sv b),(12,sv p),(13,sv q),(14,sv r),(15,sv t),(16,sv w)],bJ:=[(64,IF x y),(65,Ik lo hi)],next:=66}
end
def P8 (a:AT) (x y K:Int) (lo hi b:AT):bH:={n:=168,sl:=[(0,sv a),(5, .ptr 64 0),(8, .ptr 65 0),(10,sv b),(17,iv K)],bJ:=[(64,IF x y),(65,Ik lo hi)],next:=66}
def s7 (a lo hi b z:AT):bH:={n:=168,sl:=[(0,sv a),(8, .ptr 65 0),(10,sv b),(18,sv z)],bJ:=[(65,Ik lo hi)],next:=66}
abbrev IG:Sv.Ren:=[(65,65,none)]
section
variable (a:AT)
noncomputable def II (K y:Int):AT:=uY (Bw (zh (ol a (iT K))) (iT K)) (Eu ((IntKind.i64.wrap y).tmod 5-2) K)
def atb (m x y:Int) (h1:i6 (1+Int.tmod (IntKind.wrap IntKind.i64 m) 10000)) (h2:8=(8:av.den (.int .i64))) (h3:(w5 a)=false):
  bf nP (fl nO []) 4 168 [sv a,zj m,u2 x y] 55 Tryz.f7 true (bv true):=
 wy [yi h1,ah h2,aa (bY (h3))] 844427077615680
def atc (m x y:Int) (h1:i6 (1+Int.tmod (IntKind.wrap IntKind.i64 m) 10000)) (h2:8=(8:av.den (.int .i64))) (h3:(w5 a)=true):
  dy nP (fl nO []) 4 168 [sv a,zj m,u2 x y] 39 .normal m64 (P6 a x y (1+(IntKind.i64.wrap m).tmod 10000)):=
 wy [yi h1,ah h2,aa (bY (h3))] 844427077615680
def atd (x y M:Int) (h1:a.size<=24):
  cV nP ((fl nO []).drop 4) 2 (P6 a x y M) 1 .normal Bx (P7 a x y M (m7 a M).1 (m7 a M).2 (EN a M) (eD a M)):=
 wy [ah h1] 65
def ate (x y M:Int) (lo hi b:AT) (h1:(decide (lo.size<=24)&&decide (hi.size<=24))=true) (h2:mw lo hi=0) (h3:b.size<=1000000000) (h4:ckR b=0) (h5:(isQ a&&(isQ lo&&isQ hi))=true) (h6:(BH a lo hi)=true) (h7:(decide (a.size<=24)&&(decide (lo.size<=24)&&decide (hi.size<=24)))=true) (h8:BF a M lo hi=0) (h9:lo.size<=1000000000) (h10:hi.size<=1000000000) (h11:(decide ((-9223372036854775808:av.den (.int .i64))<=M)&&decide (M<=(9223372036854775807:av.den (.int .i64))))=true) (h12:(isQ (jI lo)&&isQ (iT M))=true) (dL:¬fj (jI lo) (iT M)>0) (gQ:(isQ (jI hi)&&isQ (iT M))=true) (je:¬fj (jI hi) (iT M)>0):
  cV nP ((fl nO []).drop 6) 6 (P7 a x y M lo hi b 0) 83095415 .normal Bx (s6 a x y M lo hi b (vz lo) (jI lo) (vz hi) (jI hi) (iT M)):=
 wy [aa h1,aa (bw (eF.mpr h2)),ah h3,aa (eF.mpr h2),aa (bw (eF.mpr h4)),aa h5,aa (eF.mpr h4),aa (bw (bY (h6))),aa h7,aa (bY (h6)),aa (eF.mpr h8),aa (aF (v:=af.raw (Value.string lo))),ah h9,aa (aF (v:=af.raw (Value.string hi))),ah h10,aa h11,aa h12,aa (bw (ab dL)),aa gQ,aK dL,aK je] 165647243220949026971167128866057479152239356764954362871212679669213473614724038131712
def atf (x y M:Int) (lo hi b p q r t w:AT) (h1:(lo.data).toList=(hi.data).toList) (h2:(lo.data).toList=(a.data).toList):
  cV nP ((fl nO []).drop 12) 2 (s6 a x y M lo hi b p q r t w) 5 .normal Bx (s6 a x y M lo hi b p q r t w):=
 wy [ah h1,aa (bY (ay h2))] 129
def atg (x y M:Int) (lo hi b p q r t w:AT) (h1:¬(lo.data).toList=(hi.data).toList) (h2:(isQ r&&isQ q)=true) (h3:(isQ p&&isQ t)=true) (h4:(isQ (ol r q)&&isQ (ol p t))=true) (h5:((p0 (ol r q) (ol p t)).data).toList=((ByteArray.mk #[49]).data).toList) (h6:(isQ q&&isQ t)=true) (h7:(isQ (uY q t)&&isQ w)=true) (h8:¬fj (uY q t) w<=0) (h9:a.size<=1000000000) (h10:(isQ (jI a)&&isQ w)=true) (h11:¬fj (jI a) w<=0):
  cV nP ((fl nO []).drop 12) 2 (s6 a x y M lo hi b p q r t w) 40830 .normal Bx (s6 a x y M lo hi b p q r t w):=
 wy [aK h1,aa h2,aa h3,aa h4,aa (bw (bY (ay h5))),aa h6,aa h7,aa (bY (ay h5)),aa (bw (ab h8)),ah h9,aa h10,aK h8,aK h11] 1122058967194497808014073507018053791873
def ath (x y M:Int) (lo hi b p q r t w:AT) (h1:M≠0) (h2:i6 (1+Int.tmod (IntKind.wrap IntKind.i64 x) M)):
  cV nP ((fl nO []).drop 14) 1 (s6 a x y M lo hi b p q r t w) 1 .normal Bx (P8 a x y (1+(IntKind.i64.wrap x).tmod M) lo hi b):=
 wy [ah h1,yi h2] 129
def ati (x y K:Int) (lo hi b:AT) (h1:(decide ((-9223372036854775808:av.den (.int .i64))<=K)&&decide (K<=(9223372036854775807:av.den (.int .i64))))=true) (h2:(isQ a&&isQ (iT K))=true) (h3:(isQ (ol a (iT K)))=true) (h4:(isQ (zh (ol a (iT K)))&&(isQ (iT K)&& !ptN (iT K)==0))=true) (h5:i6 (Int.tmod (IntKind.wrap IntKind.i64 y) 5-2)) (h6:(decide ((-4000000000000000000:av.den (.int .i64))<=Int.tmod (IntKind.wrap IntKind.i64 y) 5-2)&&decide (Int.tmod (IntKind.wrap IntKind.i64 y) 5-2<=(4000000000000000000:av.den (.int .i64)))&&(decide ((0:av.den (.int .i64))<K)&&decide (K<=(4000000000000000000:av.den (.int .i64)))))=true) (h7:(isQ (Bw (zh (ol a (iT K))) (iT K))&&isQ (Eu (Int.tmod (IntKind.wrap IntKind.i64 y) 5-2) K))=true) (h8:(uY (Bw (zh (ol a (iT K))) (iT K)) (Eu (Int.tmod (IntKind.wrap IntKind.i64 y) 5-2) K))=(II a K y)):
  cV nP ((fl nO []).drop 15) 1 (P8 a x y K lo hi b) 1 .normal IG (s7 a lo hi b (II a K y)):=
 wy [aa h1,aa h2,aa h3,aa h4,aa (aF (v:=af.raw (Value.int IntKind.u16 y))),yi h5,aa h6,aa h7,ax h8] 11963052368207433767547496092070588545
end
section
variable (a lo hi b z:AT) (h1:(isQ z&&isQ lo)=true)
def atj (h2:¬fj z lo>0):
  cV nP ((fl nO []).drop 16) 2 (s7 a lo hi b z) 128 .normal IG (s7 a lo hi b z):=
 wy [aa h1,aa (aL (ab h2)),aK h2] 208340000897
def atk (h2:fj z lo>0) (h3:(isQ z&&isQ hi)=true) (h4:¬fj z hi<0):
  cV nP ((fl nO []).drop 16) 2 (s7 a lo hi b z) 191 .normal IG (s7 a lo hi b z):=
 wy [aa h1,aa (aL (ay h2)),aa h3,ah h2,aK h4] 1425107763863681
end
def atl (a lo hi b z:AT) (h1:(isQ z&&isQ a)=true) (h2:(isQ b&&isQ a)=true) (h3:(isQ (nN z a)&&isQ (nN b a))=true) (h4:(decide (fj (nN z a) (nN b a)>=0))=(decide (fj (nN z a) (nN b a)>=0))):
  bW nP ((fl nO []).drop 18) (s7 a lo hi b z) 1 Tryz.f7 true (bv (decide (fj (nN z a) (nN b a)>=0))):=
 wy [aa h1,aa h2,aa h3,ax h4] 1060993
end
set_option maxHeartbeats 1000000
noncomputable section
def atm:bD prog (bF nP):=cM (aP (fun _ _=>arq) (aP as2 (aP ase (aP asg (aP asH (aP O7 (aP as3 (aP asK (aP W4 (aP W5 (aP anX (aP Px (aP WT (aP Pw (aP WV (aP aqT (aP aog (aP WH (aP as5 dV)))))))))))))))))))
section
variable {k:Nat} {r s:Rat} (hk:k<=10000) (h:fX k r)
def uZ (g:fX k s):fj (aU r) (aU s)<=0↔r<=s:=by
 rw [Py hk hk h g];by_cases c:r-s<0
 .rw [if_pos c];exact⟨fun _=>by grind,fun _=>by decide⟩
 .rw [if_neg c];by_cases e:r-s=0
  .rw [if_pos e];exact⟨fun _=>by grind,fun _=>by decide⟩
  .rw [if_neg e];exact⟨fun h=>absurd h δ,fun _=>by grind⟩
def NE (g:fX k s):0<=fj (aU r) (aU s)↔s<=r:=by
 rw [Py hk hk h g];by_cases c:r-s<0
 .rw [if_pos c];exact⟨fun h=>absurd h δ,fun _=>by grind⟩
 .rw [if_neg c];exact⟨fun _=>by grind,fun _=>by split<;>decide⟩
end
def fJ {r:Rat} (h:gy r):fX 5 r:=⟨by have:=h.1;show(r.num.natAbs:Int)<1000000000000000000000000000000000000000000000;omega,by have:=h.2;show(r.den:Int)<1000000000000000000000000000000000000000000000;omega⟩
def u0 {n:Int} (h:n.natAbs<1000000000000000000):gy (n:Rat):=⟨by rw [Rat.num_intCast];exact h,by rw [Rat.den_intCast];decide⟩
section
variable {r s:Rat} (h:fX 5 r) (g:fX 5 s)
def atn:p0 (aU r) (aU s)=aU (r-s):=by unfold p0;rw [lf δ h,lf δ g]
def P9:ol (aU r) (aU s)=aU (r*s):=by unfold ol;rw [lf δ h,lf δ g]
def Y2:uY (aU r) (aU s)=aU (r+s):=by unfold uY;rw [lf δ h,lf δ g]
end
def ato {x y:Int} {r:Rat} (hf:Er r) (hy:1<=y) (hx:x.natAbs<1000000000000000000) (hy2:y<1000000000000000000):fX 5 (nM ((x:Rat)/(y:Rat)-r)):=by
 have hD:0<(r.den:Int):=by have:=r.den_pos;omega
 have e:=asT (a:=x) (b:=y) (c:=r.num) (d:=r.den) ω hD;rw [PX]at e;rw [e,YU (Int.mul_pos ω hD),<-Rat.divInt_eq_div];obtain⟨f1,f2⟩:=hf;have t1:y*(r.den:Int)<=1000000000000000000*100000000:=Int.mul_le_mul ω ω ω δ;have t2:(x*(r.den:Int)).natAbs<=1000000000000000000*100000000:=by rw [Int.natAbs_mul];exact Nat.mul_le_mul ω ω
 have t3:(r.num*y).natAbs<=100000000*1000000000000000000:=by rw [Int.natAbs_mul];exact Nat.mul_le_mul ω ω
 have pos:1<=y*(r.den:Int):=by have:=Int.mul_pos (show 0<y by omega) hD;omega
 exact aru (k:=5) (Yw (N:=1000000000000000000000000000) (D:=1000000000000000000000000000) pos ω ω) δ δ
def Y3 {s r:Rat} (hf:Er r) (h:gy s):fX 5 (nM (s-r)):=by
 have:=s.den_pos;have k:=ato (x:=s.num) (y:=s.den) hf ω h.1 (by have:=h.2;omega);rw [PX]at k;exact k
def atp {r:Rat} (h:Er r):gy r:=⟨by have:=h.1;omega,by have:=h.2;omega⟩
attribute [local irreducible] ckR aU isQ toQ EN m7 vz jI sK
def atq (a:AT) (m:Int) (hm:yb m) (x y:Int) (hx:yb x) (hy:yb y):Holds prog true 7 [sv a,zj m,u2 x y] (bv true):=by
 have hS:=atm;have wr:∀{k:Int},yb k->IntKind.i64.wrap k=k/\0<=k/\k<=65535:=fun {k} h=>by
  obtain⟨h1,h2⟩:=h;exact⟨by rw [IntKind.wrap_i64];omega,h1,h2⟩
 obtain⟨m1,m2,m3⟩:=wr hm;obtain⟨x1,x2,x3⟩:=wr hx;obtain⟨y1,y2,y3⟩:=wr hy;have Qa:(IntKind.i64.wrap m).tmod 10000=m%10000:=by rw [m1,Int.tmod_eq_emod_of_nonneg m2]
 obtain⟨M,dY⟩:∃M,M=1+m%10000:=⟨_,rfl⟩;have M1:1<=M:=by omega
 have M2:M<=10000:=by omega
 refine bL (c:=nO) func7 rfl rfl fun w F=> ?_
 cases hw:w5 a with
 |false=>exact bg hS 4 (atb a m x y (by rw [Qa];omega) rfl hw)
 |true=>
 obtain⟨ID,hc,hf⟩:=as7 hw;have f:=Bu (a:=a) ω hc;have z24:a.size<=24:=by omega
 have tI:=EQ hc;have ea:=f.tx;have FN:=atp hf;have key:=atc a m x y (by rw [Qa];omega) rfl hw;rw [Qa,<-dY]at key;refine cP hS 4 key ?_;have hnk:eD a M=0:=by unfold eD;rw [if_pos hc,if_pos ω]
 obtain⟨lo,hi,n1,n2,l1,l2,kf⟩:=asO z24 hnk hf;obtain⟨b,eb,hb⟩:=asQ hnk f.qr l1 l2;have key:=atd a x y M z24;rw [n1,n2,eb,hnk]at key;refine cX (s:=P6 a x y M) hS 2 key ?_;have sl:=kf.sl;have sh:=kf.sh;have sb:gy b:=by rcases hb with⟨e,_⟩|⟨e,_⟩<;>rw [e]<;>assumption
 have p8:(aU lo).size<=24:=Y1 kf.nl (by have:=kf.dl;omega);have rA:(aU hi).size<=24:=Y1 kf.asM (by have:=kf.Ep;omega);have cJ:=HY sl;have ch:=HY sh;have cb:=HY sb;have Qb:=EQ cJ;have Y4:=EQ ch;have zL:=EQ cb;have le:=kf.le;have ge:=kf.ge;have Y5:mw (aU lo) (aU hi)=0:=by
  unfold mw;rw [if_pos cJ,if_pos ch,if_neg];have:=(uZ (k:=5) δ (fJ sl) (fJ sh)).2 (Rat.le_trans le ge);omega
 have hin:BH a (aU lo) (aU hi)=true:=by
  unfold BH;have h1:=(uZ (k:=5) δ (fJ sl) (fJ FN)).2 le;have h2:=(uZ (k:=5) δ (fJ FN) (fJ sh)).2 ge;rw [<-ea]at h1 h2;exact bN (ay h1) (ay h2)
 have atr:BF a M (aU lo) (aU hi)=0:=by
  unfold BF;rw [if_pos hnk,if_pos Y5,if_pos ⟨n1.symm,n2.symm⟩]
 have w6:gy (M:Rat):=u0 ω;have BI:gy ((lo.den:Int):Rat):=u0 (by have:=kf.dl;omega);have BJ:gy ((hi.den:Int):Rat):=u0 (by have:=kf.Ep;omega);have inl:gy (lo.num:Rat):=u0 sl.1;have inh:gy (hi.num:Rat):=u0 sh.1;have jq:∀{s:Rat},gy s->isQ (aU s)=true:=fun h=>EQ (HY h)
 have Y6:=w4.2 ⟨p8,rA⟩;have key:=ate a x y M (aU lo) (aU hi) (aU b) Y6 Y5 (by have:=apw sb;omega) cb (bN tI (bN Qb Y4)) hin (bN (ay z24) Y6) atr ω ω (bN (ay (by show(-9223372036854775808:Int)<=M;omega)) (ay (by show M<=(9223372036854775807:Int);omega)));have att:iT M=aU (M:Rat):=rfl;rw [PZ,PZ,IC,IC,att]at key;have au9:=(uZ (k:=5) δ (fJ BI) (fJ w6)).2 (Rat.intCast_le_intCast.2 kf.dl);have ava:=(uZ (k:=5) δ (fJ BJ) (fJ w6)).2 (Rat.intCast_le_intCast.2 kf.Ep);refine cX (s:=P7 a x y M (aU lo) (aU hi) (aU b) 0) hS 6 (key (bN (jq BI) (jq w6)) ω (bN (jq BJ) (jq w6)) ω) ?_;have step:∀(R:Prop),(∀L,aD.path (vM prog nP ((fl nO []).drop 12) 2 (s6 a x y M (aU lo) (aU hi) (aU b) (aU (lo.num:Rat)) (aU ((lo.den:Int):Rat)) (aU (hi.num:Rat)) (aU ((hi.den:Int):Rat)) (aU (M:Rat)))) L (dU prog 168 .normal Bx (s6 a x y M (aU lo) (aU hi) (aU b) (aU (lo.num:Rat)) (aU ((lo.den:Int):Rat)) (aU (hi.num:Rat)) (aU ((hi.den:Int):Rat)) (aU (M:Rat))))->R)->R:=fun R k=>by
  rcases kf.alt with⟨e1,e2,_⟩|⟨g1,wY,g2⟩
  .exact k _ (atf a x y M _ _ _ _ _ _ _ _ (by rw [e1,e2]) (by rw [e1,<-ea]))
  .have hne:¬(aU lo).data.toList=(aU hi).data.toList:=fun g=>by
    have g2:aU lo=aU hi:=fN g;have g3:=congrArg toQ g2;rw [zg sl,zg sh]at g3;rw [g3]at wY;have:hi.num*(hi.den:Int)-hi.num*(hi.den:Int)=0:=Int.sub_self _;omega
   have ii:∀{n:Int},n.natAbs<1000000000000000000000000000->fX 5 (n:Rat):=fun {n} h=>⟨by rw [Rat.num_intCast];show(n.natAbs:Int)<1000000000000000000000000000000000000000000000;omega,by rw [Rat.den_intCast];decide⟩
   have b1:(hi.num*(lo.den:Int)).natAbs<1000000000000000000000000000:=by
    rw [Int.natAbs_mul];exact Nat.lt_of_lt_of_le (Nat.mul_lt_mul_of_lt_of_le sh.1 (show(lo.den:Int).natAbs<=10000 by have:=kf.dl;omega) δ) δ
   have b2:(lo.num*(hi.den:Int)).natAbs<1000000000000000000000000000:=by
    rw [Int.natAbs_mul];exact Nat.lt_of_lt_of_le (Nat.mul_lt_mul_of_lt_of_le sl.1 (show(hi.den:Int).natAbs<=10000 by have:=kf.Ep;omega) δ) δ
   have t1:ol (aU (hi.num:Rat)) (aU ((lo.den:Int):Rat))=aU ((hi.num*(lo.den:Int):Int):Rat):=by rw [P9 (fJ inh) (fJ BI),Rat.intCast_mul]
   have t2:ol (aU (lo.num:Rat)) (aU ((hi.den:Int):Rat))=aU ((lo.num*(hi.den:Int):Int):Rat):=by rw [P9 (fJ inl) (fJ BJ),Rat.intCast_mul]
   have t3:p0 (aU ((hi.num*(lo.den:Int):Int):Rat)) (aU ((lo.num*(hi.den:Int):Int):Rat))=ByteArray.mk #[49]:=by
    rw [atn (ii b1) (ii b2),<-Rat.intCast_sub,wY];refine fN ?_;show aq (aU ((1:Int):Rat))=_;rw [uX,BG (Rat.den_intCast _),List.append_nil,Rat.num_intCast];show Lib.itoa ((1:Nat):Int)=[49];rw [Dec.oH,mN δ];rfl
   have t4:uY (aU ((lo.den:Int):Rat)) (aU ((hi.den:Int):Rat))=aU (((lo.den:Int)+(hi.den:Int):Int):Rat):=by rw [Y2 (fJ BI) (fJ BJ),Rat.intCast_add]
   have Y7:gy (((lo.den:Int)+(hi.den:Int):Int):Rat):=u0 (by have:=kf.dl;have:=kf.Ep;omega);have Y8:gy (((toQ a).den:Int):Rat):=u0 (by have:=hf.2;omega);have t5:jI a=aU (((toQ a).den:Int):Rat):=by rw [<-IC,<-ea]
   have c4:=mt (uZ (k:=5) δ (fJ Y7) (fJ w6)).1 (fun g=>by have:=Rat.intCast_le_intCast.1 g;omega);have c5:=mt (uZ (k:=5) δ (fJ Y8) (fJ w6)).1 (fun g=>by have:=Rat.intCast_le_intCast.1 g;omega);have key:=atg a x y M (aU lo) (aU hi) (aU b) (aU (lo.num:Rat)) (aU ((lo.den:Int):Rat)) (aU (hi.num:Rat)) (aU ((hi.den:Int):Rat)) (aU (M:Rat)) hne (bN (jq inh) (jq BI)) (bN (jq inl) (jq BJ));rw [t1,t2,t3,t4,t5]at key;exact k _ (key (bN (y6 (k:=5) δ (ii b1)) (y6 (k:=5) δ (ii b2))) rfl (bN (jq BI) (jq BJ)) (bN (jq Y7) (jq w6)) c4 ω (bN (jq Y8) (jq w6)) c5)
 refine step _ fun L hP=> ?_
 refine cX (s:=s6 a x y M (aU lo) (aU hi) (aU b) (aU (lo.num:Rat)) (aU ((lo.den:Int):Rat)) (aU (hi.num:Rat)) (aU ((hi.den:Int):Rat)) (aU (M:Rat))) hS 2 hP ?_
 -- the fraction to compare with
 have eK:(IntKind.i64.wrap x).tmod M=x%M:=by rw [x1,Int.tmod_eq_emod_of_nonneg x2]
 have k0:=dM x (show M≠0 by omega);have k1:=er x (show 0<M by omega);obtain⟨K,hK⟩:∃K,K=1+x%M:=⟨_,rfl⟩;have DD:1<=K:=by omega
 have Vf:K<=M:=by omega
 have key:=ath a x y M (aU lo) (aU hi) (aU b) (aU (lo.num:Rat)) (aU ((lo.den:Int):Rat)) (aU (hi.num:Rat)) (aU ((hi.den:Int):Rat)) (aU (M:Rat)) ω (by rw [eK];omega);rw [eK,<-hK]at key;refine cX (s:=s6 a x y M (aU lo) (aU hi) (aU b) (aU (lo.num:Rat)) (aU ((lo.den:Int):Rat)) (aU (hi.num:Rat)) (aU ((hi.den:Int):Rat)) (aU (M:Rat))) hS 1 key ?_;have eJ:(IntKind.i64.wrap y).tmod 5=y%5:=by rw [y1,Int.tmod_eq_emod_of_nonneg y2]
 obtain⟨J,hJ⟩:∃J,J=y%5-2:=⟨_,rfl⟩;have avb: -2<=J/\J<=2:=by omega
 have Ev:gy (K:Rat):=u0 ω;have hfl:=asi (toQ a) K;have avc:((toQ a*(K:Rat)).floor).natAbs<=1000000000000:=by
  rw [hfl];have e1:=Int.natAbs_ediv_le_natAbs ((toQ a).num*K) ((toQ a).den:Int);have e2:((toQ a).num*K).natAbs<=100000000*10000:=by rw [Int.natAbs_mul];exact Nat.mul_le_mul (by have:=hf.1;omega) ω
  omega
 have Y9:gy (toQ a*(K:Rat)):=by
  have e:=ars (N:=100000000) (D:=100000000) (M:=10000) (E:=1) (r:=toQ a) (s:=(K:Rat)) ⟨by have:=hf.1;omega,by have:=hf.2;omega⟩ (art ω);exact⟨by have:=e.n;omega,by have:=e.d;omega⟩
 generalize atu:(toQ a*(K:Rat)).floor=oP at*;have Za:gy (oP:Rat):=u0 ω;have Zb:gy ((oP:Rat)/(K:Rat)):=by rw [<-Rat.divInt_eq_div];exact O3 DD ω ω
 have Zc:gy (Rat.divInt J K):=O3 DD ω ω;have BK:gy (Rat.divInt (oP+J) K):=O3 DD ω ω;have Bp:(oP:Rat)/(K:Rat)+Rat.divInt J K=Rat.divInt (oP+J) K:=by
  rw [Rat.divInt_eq_div,Rat.divInt_eq_div,Rat.intCast_add,Rat.div_def,Rat.div_def,Rat.div_def,Rat.add_mul]
 have u1:ol a (iT K)=aU (toQ a*(K:Rat)):=by
  have:=P9 (fJ FN) (fJ Ev);rw [<-ea]at this;exact this
 have Zd:zh (aU (toQ a*(K:Rat)))=aU (oP:Rat):=by unfold zh Pt;rw [zg Y9,atu]
 have u3:Bw (aU (oP:Rat)) (iT K)=aU ((oP:Rat)/(K:Rat)):=by unfold Bw iT;rw [zg Za,zg Ev]
 have u4:uY (aU ((oP:Rat)/(K:Rat))) (Eu J K)=aU (Rat.divInt (oP+J) K):=by
  have:=Y2 (fJ Zb) (fJ Zc);rw [Bp]at this;exact this
 have near:II a K y=aU (Rat.divInt (oP+J) K):=by
  unfold II;rw [u1,Zd,u3,eJ,<-hJ,u4]
 have atv:ptN (iT K)≠0:=by
  show ptN (aU (K:Rat))≠0;rw [(uP (k:=5) δ (fJ Ev)).n,Rat.num_intCast];omega
 have key:=ati a x y K (aU lo) (aU hi) (aU b) (bN (ay (by show(-9223372036854775808:Int)<=K;omega)) (ay (by show K<=(9223372036854775807:Int);omega))) (bN tI (jq Ev));rw [near,u1,Zd,u3,eJ,<-hJ]at key;refine cX (s:=P8 a x y K (aU lo) (aU hi) (aU b)) hS 1 (key (jq Y9) (bN (jq Za) (bN (jq Ev) (by rw [eN.2 atv];rfl))) ω (bN (bN (ay (by show(-4000000000000000000:Int)<=J;omega)) (ay (by show J<=(4000000000000000000:Int);omega))) (bN (ay (by show(0:Int)<K;omega)) (ay (by show K<=(4000000000000000000:Int);omega)))) (bN (jq Zb) (jq Zc)) u4) ?_;have Eo:=kf.Eo (oP+J) K DD Vf;rw [<-Rat.divInt_eq_div]at Eo;have atw:=asR kf hb Eo;have IJ:=jq BK;generalize Rat.divInt (oP+J) K=z at*;have atx:∀(R:Prop),(∀L,aD.path (vM prog nP ((fl nO []).drop 16) 2 (s7 a (aU lo) (aU hi) (aU b) (aU z))) L (dU prog 168 .normal IG (s7 a (aU lo) (aU hi) (aU b) (aU z)))->R)->R:=fun R k=>by
  by_cases c:z<=lo
  .have:=(uZ (k:=5) δ (fJ BK) (fJ sl)).2 c;exact k _ (atj a _ _ _ _ (bN IJ Qb) ω)
  .have h1:=mt (uZ (k:=5) δ (fJ BK) (fJ sl)).1 c;have h2:=(NE (k:=5) δ (fJ BK) (fJ sh)).2 (Eo.elim (fun g=>absurd g c) id);exact k _ (atk a _ _ _ _ (bN IJ Qb) ω (bN IJ Y4) ω)
 refine atx _ fun L hP=> ?_
 refine cX (s:=s7 a (aU lo) (aU hi) (aU b) (aU z)) hS 2 hP ?_;have fz:nN (aU z) a=aU (nM (z-toQ a)):=by unfold nN p0;rw [zg BK,P4]
 have fb:nN (aU b) a=aU (nM (b-toQ a)):=by unfold nN p0;rw [zg sb,P4]
 have Ze:=Y3 hf BK;have Zf:=Y3 hf sb;have key:=atl a (aU lo) (aU hi) (aU b) (aU z) (bN IJ tI) (bN zL tI);rw [fz,fb]at key;have key:=key (bN (y6 (k:=5) δ Ze) (y6 (k:=5) δ Zf)) rfl;rw [ay (show fj (aU (nM (z-toQ a))) (aU (nM (b-toQ a)))>=0 from(NE (k:=5) δ Ze Zf).2 atw)]at key;exact b5 (s:=s7 a (aU lo) (aU hi) (aU b) (aU z)) hS key
end
end Go.Proofs.YtibikmmdbdlafaaGreatDoor
