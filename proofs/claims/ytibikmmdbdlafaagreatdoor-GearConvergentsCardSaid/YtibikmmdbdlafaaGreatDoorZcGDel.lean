import Derived.Test.YtibikmmdbdlafaaGreatDoorZcF3
set_option linter.defProp false
set_option linter.unusedSectionVars false
set_option linter.unusedSimpArgs false
set_option linter.unusedVariables false
set_option maxRecDepth 100000
namespace Go.Proofs.YtibikmmdbdlafaaGreatDoor
open Go.RowKit Sv Go.Proofs.Tryz
section
set_option maxHeartbeats 1000000
noncomputable section
def qa (l:List Int):Rat:=Rat.divInt (kk l).1 (kk l).2
def cvX (l:List Int):List AT:=(List.range l.length).map fun i=>textQ (qa (l.take (i+1)))
def lG (a:AT):List AT:=if ckR a=0 then cvX (dI a)else []
def Yc:=IN 24 [.str] [.list false .str, .int .i64] true (fun d=>decide (d.1.size<=24)) fun d=>(lG d.1,ckR d.1,())
def aqX:bC prog (bF BZ):=cK (aP Ya (aP uS (aP yO (aP hJ (aP DK (aP tp dQ))))))
def aqY {a:AT} {r:Rat} (h:EA a r) (k:Nat) {t:List Int} (ht:s9 t ((cfI r.num r.den).drop k)): -2000000000000000000000000<=(kk t).1/\(kk t).1<=2000000000000000000000000/\1<=(kk t).2/\(kk t).2<=2000000000000000000000000/\(1<=k->1<=(kk t).1):=by
 have h1:=h.n;have h2:=h.d;have h3:=r.den_pos;exact XW (B:=2000000000000000000000000) ω ⟨by omega,by omega⟩ ω k ht
def ol {α:Type} {l:List α} {k:Nat} (d:α) (h:k<l.length):l.take (k+1)=l.take k++[l.getD k d]:=by
 rw [List.take_succ_eq_append_getElem h,ao,rJ h];rfl
def Yd {l:List Int} {k:Nat} (h:k<l.length):s9 (l.take (k+1)) (l.drop 0):=
 ⟨fun e=>by have:=congrArg List.length e;rw [ek,List.length_nil]at this;omega,l.drop (k+1),by rw [List.drop_zero,List.take_append_drop]⟩
structure Io (L:List Int) (k:Nat) (p q r s:aC):Prop where
 p:aj p=(gg (1,0) (L.take k)).1/\aT 2 p=true
 r:aj r=(gg (1,0) (L.take k)).2/\aT 2 r=true
 q:aj q=(gg (0,1) (L.take k)).1/\aT 2 q=true
 s:aj s=(gg (0,1) (L.take k)).2/\aT 2 s=true
def aqZ {a:AT} {x:Rat} (h:EA a x) {k:Nat} (hk:k<(cfI x.num x.den).length) {p q r s n:aC} (I:Io (cfI x.num x.den) k p q r s) (hn:aj n=(cfI x.num x.den).getD k 0):
  Io (cfI x.num x.den) (k+1) (fu n p r) (fu n q s) p q/\1<=aj (fu n q s)/\aj (fu n p r)=(kk ((cfI x.num x.den).take (k+1))).1/\aj (fu n q s)=(kk ((cfI x.num x.den).take (k+1))).2:=by
 have hB:=aqY h 0 (Yd hk);have hr:=Ey ((cfI x.num x.den).take (k+1));have e1:(kk ((cfI x.num x.den).take (k+1))).1=(gg (1,0) ((cfI x.num x.den).take (k+1))).1:=by rw [hr]
 have e2:(kk ((cfI x.num x.den).take (k+1))).2=(gg (0,1) ((cfI x.num x.den).take (k+1))).1:=by rw [hr]
 have hs:=ol 0 hk;have v1:aj (fu n p r)=(gg (1,0) ((cfI x.num x.den).take (k+1))).1:=by
  unfold fu;rw [nI,de,hn,I.p.1,I.r.1,hs,BU]
 have v2:aj (fu n q s)=(gg (0,1) ((cfI x.num x.den).take (k+1))).1:=by
  unfold fu;rw [nI,de,hn,I.q.1,I.s.1,hs,BU]
 have e3:(18446744073709551616:Int)^2=340282366920938463463374607431768211456:=by decide
 have o1:aT 2 (fu n p r)=true:=q6 (by
  have:aj (a7 n p)+aj r=aj (fu n p r):=(nI _ _).symm;rw [this,v1,<-e1];omega)
 have o2:aT 2 (fu n q s)=true:=q6 (by
  have:aj (a7 n q)+aj s=aj (fu n q s):=(nI _ _).symm;rw [this,v2,<-e2];omega)
 refine⟨⟨⟨v1,o1⟩,⟨?_,I.p.2⟩,⟨v2,o2⟩,⟨?_,I.q.2⟩⟩,by rw [v2,<-e2];exact hB.2.2.1,by rw [v1,e1],by rw [v2,e2]⟩
 .rw [I.p.1,hs,BU]
 .rw [I.q.1,hs,BU]
def aq0 (a:AT) (hs:a.size<=24):Holds prog true 24 [sv a] (.tuple [mU (lG a),iv (ckR a)]):=by
 have hS:=aqX;refine bL (c:=xz) func24 rfl rfl fun w F=> ?_
 unfold lG;by_cases hc:ckR a=0
 .have hf:=EB hs hc;obtain⟨c1,c2,c3⟩:=EC hf;rw [if_pos hc,hc];refine cJ hS 8 (aqI a hs hc) ?_;have hL:p9 a=iX (aW a):=if_pos hc;rw [hL];show ba _ _ _ _ _ _ _ _ (hG prog true f24 (.tuple [mU (cvX (cfI (toQ a).num (toQ a).den)),iv 0]));generalize toQ a=x at*;generalize iX (aW a)=L at*;have hlen:L.length=(cfI x.num x.den).length:=by rw [<-c1,kL]
  have jz:∀k,k<L.length->aj (L.getD k ng)=(cfI x.num x.den).getD k 0:=fun k hk=>by
   rw [<-c1,ao,ao,List.getElem?_map,rJ hk];rfl
  refine aU.loop (ι:={y:(aC×aC×aC×aC)×Nat//y.2<=L.length/\Io (cfI x.num x.den) y.2 y.1.1 y.1.2.1 y.1.2.2.1 y.1.2.2.2}) (id:=0) (b:=cat xz Pw) (rest:=(fl xz []).drop 9) (by kernel_rfl)
   (fun y=>tj L y.1.1.1 y.1.1.2.1 y.1.1.2.2.1 y.1.1.2.2.2 ((cvX (cfI x.num x.den)).take y.1.2) y.1.2) (fun y=>L.length-y.1.2)
   ⟨((aV 1,aV 0,aV 0,aV 1),0),Nat.zero_le _,⟨xj 1,zx δ⟩,⟨xj 0,zx δ⟩,⟨xj 0,zx δ⟩,⟨xj 1,zx δ⟩⟩ (fun _=>rfl) ?_
  rintro⟨⟨⟨p,q,r,s⟩,k⟩,hk,I⟩;have hk:k<=L.length:=hk;have I:Io (cfI x.num x.den) k p q r s:=I;have hxl:(cvX (cfI x.num x.den)).length=L.length:=by unfold cvX;rw [kL,List.length_range,hlen]
  have hol:((cvX (cfI x.num x.den)).take k).length<=160:=by rw [ek];omega
  by_cases hlt:k<L.length
  .have hm:L.getD k ng∈L:=by rw [ao,rJ hlt];exact List.getElem_mem _
   have on:=c2 _ hm;obtain⟨J,j1,j2,qy⟩:=aqZ hf (show k<(cfI x.num x.den).length by omega) I (jz k hlt);have tq:∀{y:aC} {m:Nat},m<=100->aT m y=true->ay y=true:=fun hm h=>a8 ω h
   have m1:=dE on I.p.2 δ δ;have m2:=dE on I.q.2 δ δ;have hq:eO (fu (L.getD k ng) p r) (fu (L.getD k ng) q s)=true:=fa.2 ⟨tq δ J.p.2,tq δ J.q.2,by omega⟩;have Ye:=(y7 J.p.2 J.q.2 δ ω).qr ω;have tx:gu (cT (fu (L.getD k ng) p r) (fu (L.getD k ng) q s))=(cvX (cfI x.num x.den)).getD k ByteArray.empty:=by
    unfold gu;rw [Ye.val,j2,qy];unfold cvX;rw [ao,List.getElem?_map,List.getElem?_range ω];rfl
   have key:=aqJ L p q r s ((cvX (cfI x.num x.den)).take k) k ω hlt (by rw [ae];exact⟨tq δ on,tq δ I.p.2⟩) (by rw [ae];exact⟨tq δ m1,tq δ I.r.2⟩) (by rw [ae];exact⟨tq δ on,tq δ I.q.2⟩) (by rw [ae];exact⟨tq δ m2,tq δ I.s.2⟩) hq (Ye.rd δ) ω ω (by rw [cQ];rfl) (zA _ _) rfl rfl rfl rfl rfl;rw [tx,<-ol ByteArray.empty ω]at key;refine bx (s:=tj L p q r s ((cvX (cfI x.num x.den)).take k) k) hS key ?_;exact⟨⟨((fu (L.getD k ng) p r,fu (L.getD k ng) q s,p,q),k+1),hlt,J⟩,by show L.length-(k+1)<L.length-k;omega,rfl,rfl⟩
  .refine bx (s:=tj L p q r s ((cvX (cfI x.num x.den)).take k) k) hS (aqK L p q r s _ k ω) ?_;refine cy (cF ?_);have e:(cvX (cfI x.num x.den)).take k=cvX (cfI x.num x.den):=eH ω;rw [e];exact bX (s:=tj L p q r s (cvX (cfI x.num x.den)) k) hS (aqL L p q r s _ k (by rw [List.drop_zero,dK]) (RK _ .str _) (fun h=>by cases h))
 .rw [if_neg hc];exact bw hS 11 (aqH a hs hc)
def aq1:Yc.Ok prog:=fun⟨a,_⟩ h=>aq0 a (ap h)
def ED:=k_a f21
def Yf:=k_a f30
def Pz:=k_a f31
def PA:=k_a f32
abbrev aq2:AT:=ByteArray.mk #[49]
def aq3 (s:AT) (h1:(s.data).toList=((ByteArray.mk #[48]).data).toList):
  bh (bc []) (fl ED []) 9 13 [sv s] 3 f21 true (iv 0):=
 wy [ah h1] 1
section
variable (s:AT) (h1:¬(s.data).toList=((ByteArray.mk #[48]).data).toList)
def aq4 (h2:(s.size:Int)>0) (h3:Int.toNat 0<s.size) (h4:(↑(UInt8.toNat (s.data.toList.getD (Int.toNat 0) (0:UInt8))):Int)=45):
  bh (bc []) (fl ED []) 9 13 [sv s] 126 f21 true (iv (-1)):=
 wy [aJ h1,af (aM (az h2)),ah h3,ah h2,cX h4] 22267308286081
def aq5 (h2:(s.size:Int)>0) (h3:Int.toNat 0<s.size) (h4:¬(↑(UInt8.toNat (s.data.toList.getD (Int.toNat 0) (0:UInt8))):Int)=45):
  bh (bc []) (fl ED []) 9 13 [sv s] 94 f21 true (iv 1):=
 wy [aJ h1,af (aM (az h2)),ah h3,ah h2,yn h4] 22267308286081
def aq6 (h2:¬(s.size:Int)>0):
  bh (bc []) (fl ED []) 9 13 [sv s] 64 f21 true (iv 1):=
 wy [aJ h1,af (aM (ab h2)),aJ h2] 50864257
end
def iY (s:AT):Int:=if s=ByteArray.mk #[48]then 0 else if 0<s.size/\(b9 s 0).toNat=45 then-1 else 1
def PB {a b:AT} (h:a.data.toList=b.data.toList):a=b:=by
 cases a;cases b;simp at h;rw [h]
def aq7 (s:AT):Holds prog true 21 [sv s] (iv (iY s)):=by
 have hS:=cC;refine bL (c:=ED) func21 rfl rfl fun w F=> ?_
 unfold iY;by_cases h0:s=ByteArray.mk #[48]
 .rw [if_pos h0];exact bw hS 9 (aq3 s (congrArg aq h0))
 .rw [if_neg h0];by_cases h1:0<s.size
  .by_cases h2:(b9 s 0).toNat=45
   .rw [if_pos ⟨h1,h2⟩];exact bw hS 9 (aq4 s (fun h=>h0 (PB h)) ω ω (by show((b9 s 0).toNat:Int)=45;omega))
   .rw [if_neg fun h=>h2 h.2];exact bw hS 9 (aq5 s (fun h=>h0 (PB h)) ω ω (by show¬((b9 s 0).toNat:Int)=45;omega))
  .rw [if_neg fun h=>h1 h.1];exact bw hS 9 (aq6 s (fun h=>h0 (PB h)) ω)
def EE:=IN 21 [.str] [.int .i64] true (fun d=>true) fun d=>(iY d.1,())
def Ip:=bc [BC]
def PC:=bc [EE]
section
variable (s:AT)
def ot:AT:=s.extract 0 (bf (aq s))
def kR:AT:=if bf (aq s)=s.size then ByteArray.mk #[49]else s.extract (bf (aq s)+1) s.size
def qb:AT:=if iY s<0 then s.extract 1 s.size else s
def aq8 (h1:s.size<=1000000000) (h2:bf s.data.toList<=s.size):
  bh Ip (fl Yf []) 9 7 [sv s] 1 f30 true (sv (s.extract 0 (bf (aq s)))):=
 wy [ah h1,ah h2] 524289
def aq9 (h1:s.size<=1000000000) (h2:(↑(bf s.data.toList):Int)=(s.size:Int)):
  bh Ip (fl Pz []) 9 14 [sv s] 3 f31 true (sv aq2):=
 wy [ah h1,cX h2] 129
def ara (h1:s.size<=1000000000) (h2:¬(↑(bf s.data.toList):Int)=(s.size:Int)) (h3:i6 ((↑(bf s.data.toList):Int)+1)) (h4:((↑(bf s.data.toList):Int)+1).toNat<=s.size) (h5:(s.extract ((↑(bf s.data.toList):Int)+1).toNat s.size)=(s.extract (bf s.data.toList+1) s.size)):
  bh Ip (fl Pz []) 9 14 [sv s] 2 f31 true (sv (s.extract (bf (aq s)+1) s.size)):=
 wy [ah h1,yn h2,yi h3,ah h4,ah (by omega:s.size<=s.size),ax h5] 417752690817
def arb (h1:iY s<0) (h2:Int.toNat 1<=s.size) (h3:(s.extract (Int.toNat 1) s.size)=(s.extract 1 s.size)):
  bh PC (fl PA []) 9 9 [sv s] 3 f32 true (sv (s.extract 1 s.size)):=
 wy [ah h1,ah h2,ah (by omega:s.size<=s.size),ax h3] 4345823296
def arc (h1:¬iY s<0):
  bh PC (fl PA []) 9 9 [sv s] 2 f32 true (sv s):=
 wy [aJ h1] 64
end
def Iq:EE.Ok prog:=fun⟨s,_⟩ _=>aq7 s
def PD:bC prog (bF Ip):=uz D0
def Yg:bC prog (bF PC):=uz Iq
def Yh:∀l:List UInt8,bf l<=l.length
 |[]=>aI _
 |b::r=>by
  have:=Yh r;unfold bf;split
  .exact Nat.zero_le _
  .simp;omega
def Yi (s:AT):bf (aq s)<=s.size:=by rw [cP];exact Yh _
def PE:=IN 30 [.str] [.str] true (fun d=>decide (d.1.size<=1000000000)) fun d=>(ot d.1,())
def PF:=IN 31 [.str] [.str] true (fun d=>decide (d.1.size<=1000000000)) fun d=>(kR d.1,())
def Ir:=IN 32 [.str] [.str] true (fun d=>true) fun d=>(qb d.1,())
def Yj:PE.Ok prog:=fun⟨s,_⟩ h=>by
 have hz:=ap h;refine bL (c:=Yf) func30 rfl rfl fun w F=> ?_
 exact bw PD 9 (aq8 s hz (Yi s))
def Yk:PF.Ok prog:=fun⟨s,_⟩ h=>by
 have hz:=ap h;have hl:bf s.data.toList<=s.size:=Yi s;show Holds prog true 31 [sv s] (sv (kR s));refine bL (c:=Pz) func31 rfl rfl fun w F=> ?_
 unfold kR;by_cases h1:bf s.data.toList=s.size
 .rw [if_pos h1];exact bw PD 9 (aq9 s hz ω)
 .rw [if_neg h1];exact bw PD 9 (ara s hz ω (by have hz:s.size<=1000000000:=hz;omega) ω (by rw [show((bf s.data.toList:Int)+1).toNat=bf s.data.toList+1 by omega]))
def ard {s:AT} (h:iY s<0):0<s.size:=by
 unfold iY at h;split at h
 .exact absurd h δ
 .split at h
  .rename_i h1;exact h1.1
  .exact absurd h δ
def PG:Ir.Ok prog:=fun⟨s,_⟩ _=>by
 show Holds prog true 32 [sv s] (sv (qb s));refine bL (c:=PA) func32 rfl rfl fun w F=> ?_
 unfold qb;by_cases h1:iY s<0
 .rw [if_pos h1];exact bw Yg 9 (arb s h1 (by have:=ard h1;omega) rfl)
 .rw [if_neg h1];exact bw Yg 9 (arc s h1)
def Yl:=k_a Tryz.f87
def Is:=k_a Tryz.f86
def Ym:=k_a Tryz.f29
def Yn:=bc [BC]
def zL (s:AT):Bool:=decide (((bf (aq s):Nat):Int)=(s.size:Int))
def arf (s:AT) (h1:s.size<=1000000000) (h2:((↑(bf s.data.toList):Int)==(s.size:Int))=(zL s)):
  bh Yn (fl Yl []) 9 8 [sv s] 1 Tryz.f87 true (bv (zL s)):=
 wy [ah h1,ax h2] 129
def Yo:=IN 87 [.str] [.bool] true (fun d=>decide (d.1.size<=1000000000)) fun d=>(zL d.1,())
def It:=bc [EE]
def arh (s:AT) (h1:iY s<0) (h2:Int.toNat 1<=s.size) (h3:(s.extract (Int.toNat 1) s.size)=(s.extract 1 s.size)):
  bh It (fl Is []) 9 14 [sv s] 3 Tryz.f86 true (sv (s.extract 1 s.size)):=
 wy [ah h1,ah h2,ah (by omega:s.size<=s.size),ax h3] 4345823296
def ari (s:AT) (h1:¬iY s<0) (h2:iY s=0):
  bh It (fl Is []) 9 14 [sv s] 6 Tryz.f86 true (sv s):=
 wy [aJ h1,cX h2] 524352
def arj (s:AT) (h1:¬iY s<0) (h2:¬iY s=0) (h3:(ByteArray.mk #[45]).size+s.size<=9223372036854775807):
  bh It (fl Is []) 9 14 [sv s] 4 Tryz.f86 true (sv (ByteArray.mk #[45]++s)):=
 wy [aJ h1,yn h2,ah h3] 50856000
noncomputable def M1 (s:AT):AT:=textQ (-toQ s)
def Yp:=IN 86 [.str] [.str] true (fun d=>isQ d.1) fun d=>(M1 d.1,())
def Yq:=bc [Yp,Xk]
noncomputable def nU (s t:AT):AT:=textQ (toQ s-toQ t)
def M2 (s t:AT) (h1:(isQ t)=true) (h2:(isQ s&&isQ (M1 t))=true):
  bh Yq (fl Ym []) 9 9 [sv s,sv t] 1 Tryz.f29 true (sv (textQ (toQ s+toQ (M1 t)))):=
 wy [af h1,af h2] 129
def Iu:=IN 29 [.str, .str] [.str] true (fun d=>isQ d.1&&isQ d.2.1) fun d=>(nU d.1 d.2.1,())
end
set_option maxHeartbeats 1000000
noncomputable section
def dC (r:Rat):List UInt8:=if r.den=1 then []else 47::Lib.decDigits r.den
def B0 (r:Rat):aq (textQ r)=(if decide (r.num<0)then 45::(Lib.decDigits r.num.natAbs++dC r)else Lib.decDigits r.num.natAbs++dC r):=by
 have e:aq (textQ r)=Lib.itoa r.num++dC r:=by
  unfold textQ dC;by_cases h1:r.den=1
  .rw [if_pos h1,if_pos h1,List.append_nil];exact jm _
  .rw [if_neg h1,if_neg h1,<-Dec.oz]
 rw [e,rE];by_cases hn:r.num<0
 .rw [az hn];rfl
 .rw [ab hn];rfl
def Iv {r:Rat} (h:r.num<0):aq (textQ r)=45::(Lib.decDigits r.num.natAbs++dC r):=by rw [B0,az h];rfl
def Iw {r:Rat} (h:¬r.num<0):aq (textQ r)=Lib.decDigits r.num.natAbs++dC r:=by rw [B0,ab h];rfl
def ark:textQ 0=ByteArray.mk #[48]:=by
 refine gA ?_;show aq (textQ 0)=_;rw [Iw δ];show Lib.decDigits 0++dC 0=[48];rw [mZ δ];unfold dC;rw [if_pos δ];rfl
def Iy (r:Rat):iY (textQ r)=if r<0 then-1 else if r=0 then 0 else 1:=by
 by_cases h1:r<0
 .have hn:=y9.2 h1;have hb:=Iv hn;rw [if_pos h1];unfold iY;have hne:textQ r≠ByteArray.mk #[48]:=fun e=>by
   rw [e]at hb;have:(48:UInt8)=45:=(List.cons.inj hb).1;cases this
  rw [if_neg hne,if_pos];refine⟨by rw [cP,hb];simp, ?_⟩;show((aq (textQ r)).getD 0 0).toNat=45;rw [hb];rfl
 .rw [if_neg h1];have hn:¬r.num<0:=fun h=>h1 (y9.1 h)
  by_cases h0:r=0
  .rw [if_pos h0,h0,ark];unfold iY;rw [if_pos rfl]
  .rw [if_neg h0];have hnz:r.num≠0:=fun e=>h0 (Rat.num_eq_zero.1 e)
   have hb:=Iw hn;have hd:=H7 r.num.natAbs;obtain⟨k1,k2⟩:=tm (R:=dC r) hd (lC r.num.natAbs);unfold iY;have hne:textQ r≠ByteArray.mk #[48]:=fun e=>by
    rw [e]at hb;have hb:[48]=Lib.decDigits r.num.natAbs++dC r:=hb;cases hq:Lib.decDigits r.num.natAbs with
    |nil=>exact hd hq
    |cons b t=>
     rw [hq]at hb;have:=Dec.aje r.num.natAbs ω b t hq;rw [<-(List.cons.inj hb).1]at this;exact this rfl
   rw [if_neg hne,if_neg];rintro⟨_,hq⟩;have hq:((aq (textQ r)).getD 0 0).toNat=45:=hq;rw [hb]at hq;exact k2 hq
def Yr {r:Rat} (h:r.num<0):(textQ r).extract 1 (textQ r).size=textQ (-r):=by
 refine gA ?_;rw [MV];show(aq (textQ r)).drop 1=aq (textQ (-r));rw [Iv h,Iw (show¬(-r).num<0 by rw [Rat.neg_num];omega)];unfold dC;rw [Rat.neg_num,Rat.neg_den,Int.natAbs_neg];rfl
def arl {r:Rat} (h:0<r.num):ByteArray.mk #[45]++textQ r=textQ (-r):=by
 refine gA ?_;rw [dp];show [45]++aq (textQ r)=aq (textQ (-r));rw [Iw ω,Iv (show(-r).num<0 by rw [Rat.neg_num];omega)];unfold dC;rw [Rat.neg_num,Rat.neg_den,Int.natAbs_neg];rfl
def Yt {k:Nat} {r:Rat} (h:l7 k r):l7 k (-r):=by
 obtain⟨h1,h2⟩:=h;exact⟨by rw [Rat.neg_num,Int.natAbs_neg];exact h1,by rw [Rat.neg_den];exact h2⟩
def PI:bC prog (bF It):=uz Iq
def QP {k:Nat} {r:Rat} (hk:k<=10000) (h:l7 k r):(textQ r).size<=1000000:=by
 have l1:=Eg h.1;have l2:=Eg h.2;rw [cP,B0];have:(dC r).length<=9*k+2:=by unfold dC;split<;>simp;omega
 split
 .rw [List.length_cons,cQ];omega
 .rw [cQ];omega
def QQ:Yp.Ok prog:=fun⟨s,_⟩ h=>by
 obtain⟨r,k,rfl,hk,hi⟩:=vg.1 h;have hz:=QP hk hi;have hs:=Iy r;show Holds prog true 86 [sv (textQ r)] (sv (textQ (-toQ (textQ r))));rw [p6 hk hi];refine bL (c:=Is) func86 rfl rfl fun w F=> ?_
 by_cases h1:r<0
 .rw [if_pos h1]at hs;have hn:=y9.2 h1;have hb:=Iv hn;have key:=arh (textQ r) ω (by rw [cP,hb];show 1<=_;simp) rfl;rw [Yr hn]at key;exact bw PI 9 key
 .rw [if_neg h1]at hs;by_cases h0:r=0
  .rw [if_pos h0]at hs;rw [h0,show(-0:Rat)=0 from rfl];rw [h0]at hs;exact bw PI 9 (ari (textQ 0) ω hs)
  .rw [if_neg h0]at hs;have hn:¬r.num<0:=fun h=>h1 (y9.1 h)
   have hnz:r.num≠0:=fun e=>h0 (Rat.num_eq_zero.1 e)
   have dD:(ByteArray.mk #[45]).size=1:=rfl;have key:=arj (textQ r) ω ω (by rw [dD];omega);rw [arl ω]at key;exact bw PI 9 key
def arn:bC prog (bF Yq):=cK (aP QQ (aP aoF dQ))
def PJ:Iu.Ok prog:=fun⟨s,t,_⟩ h=>by
 have h:(isQ s&&isQ t)=true:=h;rw [ae]at h;obtain⟨r,k,rfl,hk,hi⟩:=vg.1 h.2;have e:M1 (textQ r)=textQ (-r):=by unfold M1;rw [p6 hk hi]
 have key:=M2 s (textQ r) h.2 (by rw [h.1,e,ml hk (Yt hi)];rfl);rw [e,p6 hk (Yt hi)]at key;show Holds prog true 29 [sv s,sv (textQ r)] (sv (textQ (toQ s-toQ (textQ r))));rw [p6 hk hi,Rat.sub_eq_add_neg];refine bL (c:=Ym) func29 rfl rfl fun w F=> ?_
 exact bw arn 9 key
def aro:bC prog (bF Yn):=uz D0
def arp:Yo.Ok prog:=fun⟨s,_⟩ h=>by
 have hs:s.size<=1000000000:=ap h;show Holds prog true 87 [sv s] (bv (zL s));refine bL (c:=Yl) func87 rfl rfl fun w F=> ?_
 exact bw aro 9 (arf s hs rfl)
def arq (r:Rat):zL (textQ r)=decide (r.den=1):=by
 unfold zL;refine decide_eq_decide.2 ?_;have p0:bf (Lib.decDigits r.num.natAbs++dC r)=(Lib.decDigits r.num.natAbs).length:=by
  unfold dC;split
  .rw [List.append_nil];exact D1 _ (lC _)
  .exact D2 _ _ (lC _)
 rw [cP,B0,rx,p0];have hl:(if decide (r.num<0)then 45::(Lib.decDigits r.num.natAbs++dC r)else Lib.decDigits r.num.natAbs++dC r).length=(Lib.decDigits r.num.natAbs).length+(dC r).length+(if decide (r.num<0)then 1 else 0):=by
  split
  .rw [List.length_cons,cQ]
  .rw [cQ];rfl
 rw [hl];unfold dC;by_cases h:r.den=1
 .rw [if_pos h];simp [h]
 .rw [if_neg h,List.length_cons];constructor
  .intro e;omega
  .intro e;exact absurd e h
attribute [local irreducible] mkR vZ okZ textQ okPt okQs qB ptN ptD okA
end
end
section
noncomputable section
def Yu:=k_a Tryz.f33
noncomputable def zM (a b:AT):Int:=iY (nU a b)
def Yv:=bc [Iu,EE]
def Yw:=IN 33 [.str, .str] [.int .i64] true (fun d=>isQ d.1&&isQ d.2.1) fun d=>(zM d.1 d.2.1,())
def ars (a b:AT) (h1:(isQ a&&isQ b)=true) (h2:(iY (nU a b))=(zM a b)):
  bh Yv (fl Yu []) 3 9 [sv a,sv b] 1 Tryz.f33 true (iv (zM a b)):=
 wy [af h1,ax h2] 8193
def art:bC prog (bF Yv):=cK (aP PJ (aP Iq dQ))
def aru:Yw.Ok prog:=fun⟨a,b,_⟩ h=>by
 have h:(isQ a&&isQ b)=true:=h;show Holds prog true 33 [sv a,sv b] (iv (zM a b));refine bL (c:=Yu) func33 rfl rfl fun w F=> ?_
 exact bw art 3 (ars a b h rfl)
def arv {k m:Nat} {r s:Rat} (hk:k<=10000) (hm:m<=10000) (h:l7 k r) (g:l7 m s):zM (textQ r) (textQ s)=if r-s<0 then-1 else if r-s=0 then 0 else 1:=by
 unfold zM nU;rw [p6 hk h,p6 hm g];exact Iy _
end
set_option maxHeartbeats 4000000
noncomputable section
noncomputable def vu (a b:AT):AT:=textQ (toQ a*toQ b)
def arw:=IN 15 [.str, .str] [.str] true (fun d=>isQ d.1&&isQ d.2.1) fun d=>(vu d.1 d.2.1,())
end
end
end Go.Proofs.YtibikmmdbdlafaaGreatDoor
namespace Go.Proofs.YtibikmmdbdlafaaGreatDoor
structure nh (N D M p q r s:Int):Prop where
 iH:r*q-p*s=1
 q1:1<=q
 s1:1<=s
 oI:q<=M
 oJ:s<=M
 lo:0<N*q-p*D
 hi:0<r*D-N*s
 jT:N/D*q<=p
 br:r<=(N/D+1)*s
def arx {D N:Int} (hD:1<D) (hg:Int.gcd N D=1):¬D∣N:=fun h=>by
 have h1:D∣((Int.gcd N D:Nat):Int):=Int.dvd_coe_gcd h (Int.dvd_refl D);rw [hg]at h1;have:=Int.le_of_dvd δ h1;omega
def Yx {D N q:Int} (hg:Int.gcd N D=1) (h:D∣N*q):D∣q:=
 Int.natAbs_dvd_natAbs.1 (Nat.Coprime.dvd_of_dvd_mul_left (show Nat.gcd D.natAbs N.natAbs=1 by rw [Nat.gcd_comm];exact hg) (by rw [<-Int.natAbs_mul];exact Int.natAbs_dvd_natAbs.2 h))
def ary {N D M:Int} (eB:1<=M) (hD:M<D) (hg:Int.gcd N D=1):nh N D M (N/D) 1 (N/D+1) 1:=by
 have h1:=Int.mul_ediv_add_emod N D;have h2:=dr N (show D≠0 by omega);have h3:=c7 N (show 0<D by omega);have h4:N%D≠0:=fun e=>arx ω hg (Int.dvd_of_emod_eq_zero e)
 have e1:N/D*D=D*(N/D):=Int.mul_comm ..;have e2:(N/D+1)*D=D*(N/D)+D:=by rw [Int.add_mul,e1,Int.one_mul]
 refine⟨?_,by omega,by omega,eB,eB, ?_, ?_, ?_, ?_⟩
 .rw [Int.mul_one,Int.mul_one];omega
 .rw [Int.mul_one,e1];omega
 .rw [Int.mul_one,e2];omega
 .rw [Int.mul_one];exact Int.le_refl _
 .rw [Int.mul_one];exact Int.le_refl _
def PK {N D M p q r s:Int} (h:nh N D M p q r s) (hD:1<=D):N/D*s<r/\p<(N/D+1)*q:=by
 have h1:=Int.mul_ediv_add_emod N D;have h2:=dr N (show D≠0 by omega);have h3:=c7 N (show 0<D by omega);have hq:=h.q1;have hs:=h.s1;have lo:=h.lo;have hi:=h.hi;constructor
 .refine Int.lt_of_mul_lt_mul_right (a:=D) ?_ ω;have e:N/D*s*D=(D*(N/D))*s:=by grind
  have h4:(D*(N/D))*s<=N*s:=ar ω ω;rw [e];omega
 .refine Int.lt_of_mul_lt_mul_right (a:=D) ?_ ω;have e:(N/D+1)*q*D=(D*(N/D)+D)*q:=by grind
  have h4:N*q<=(D*(N/D)+D)*q:=ar ω ω;rw [e];omega
section
variable {N D M p q r s k:Int} (h:nh N D M p q r s)
def arz (eB:1<=M) (hD:M<D) (hg:Int.gcd N D=1) (k0:0<=k) (k1:k*(r*D-N*s)<=N*q-p*D) (k2:k*s<=M-q):nh N D M (p+k*r) (q+k*s) r s:=by
 obtain⟨f1,f2⟩:=PK h ω;have hq:=h.q1;have hs:=h.s1;have ks:0<=k*s:=Int.mul_nonneg k0 ω;have e1:N*(q+k*s)-(p+k*r)*D=(N*q-p*D)-k*(r*D-N*s):=by grind
 have e2:N/D*(q+k*s)=N/D*q+k*(N/D*s):=by grind
 have e3:k*(N/D*s)<=k*r:=dn ω k0;have jT:=h.jT;refine⟨?_,by omega,hs,by omega,h.oJ, ?_,h.hi,by omega,h.br⟩
 .have:=h.iH;have e:r*(q+k*s)-(p+k*r)*s=r*q-p*s:=by grind
  omega
 .rcases Int.lt_or_le 0 (N*(q+k*s)-(p+k*r)*D)with g|g
  .exact g
  .exfalso;have hz:N*(q+k*s)=(p+k*r)*D:=by omega
   have hd:D∣q+k*s:=Yx hg ⟨p+k*r,by rw [hz,Int.mul_comm]⟩;have:=Int.le_of_dvd ω hd;omega
def arA (eB:1<=M) (hD:M<D) (hg:Int.gcd N D=1) (k0:0<=k) (k1:k*(N*q-p*D)<=r*D-N*s) (k2:k*q<=M-s):nh N D M p q (r+k*p) (s+k*q):=by
 obtain⟨f1,f2⟩:=PK h ω;have hq:=h.q1;have hs:=h.s1;have ks:0<=k*q:=Int.mul_nonneg k0 ω;have e1:(r+k*p)*D-N*(s+k*q)=(r*D-N*s)-k*(N*q-p*D):=by grind
 have e2:(N/D+1)*(s+k*q)=(N/D+1)*s+k*((N/D+1)*q):=by grind
 have e3:k*p<=k*((N/D+1)*q):=dn ω k0;have br:=h.br;refine⟨?_,hq,by omega,h.oI,by omega,h.lo, ?_,h.jT,by omega⟩
 .have:=h.iH;have e:(r+k*p)*q-p*(s+k*q)=r*q-p*s:=by grind
  omega
 .rcases Int.lt_or_le 0 ((r+k*p)*D-N*(s+k*q))with g|g
  .exact g
  .exfalso;have hz:N*(s+k*q)=(r+k*p)*D:=by omega
   have hd:D∣s+k*q:=Yx hg ⟨r+k*p,by rw [hz,Int.mul_comm]⟩;have:=Int.le_of_dvd ω hd;omega
end
def kI (a b c d:Int):Int:=if c/d<a/b then c/d else a/b
def Iz {a b c d:Int} (ha:0<=a) (hb:0<b) (hc:0<=c) (hd:0<d):0<=kI a b c d/\kI a b c d*b<=a/\kI a b c d*d<=c:=by
 have a1:=Int.ediv_mul_le a (show b≠0 by omega);have c1:=Int.ediv_mul_le c (show d≠0 by omega);have a0:0<=a/b:=Int.ediv_nonneg ha ω;have c0:0<=c/d:=Int.ediv_nonneg hc ω;unfold kI;split
 .exact⟨c0,Int.le_trans (ar ω ω) a1,c1⟩
 .exact⟨a0,a1,Int.le_trans (ar ω ω) c1⟩
def Yy {a b c d:Int} (hb:0<b) (hd:0<d) (h1:b<=a) (h2:d<=c):1<=kI a b c d:=by
 have a0:1<=a/b:=(Int.le_ediv_iff_mul_le hb).2 ω;have c0:1<=c/d:=(Int.le_ediv_iff_mul_le hd).2 ω;unfold kI;split<;>omega
structure rF where
 (p q r s:Int)
section
variable (N D M:Int) (x:rF)
def gv:rF:=⟨x.p+kI (N*x.q-x.p*D) (x.r*D-N*x.s) (M-x.q) x.s*x.r,x.q+kI (N*x.q-x.p*D) (x.r*D-N*x.s) (M-x.q) x.s*x.s,x.r,x.s⟩
def xB:rF:=⟨x.p,x.q,x.r+kI (x.r*D-N*x.s) (N*x.q-x.p*D) (M-x.s) x.q*x.p,x.s+kI (x.r*D-N*x.s) (N*x.q-x.p*D) (M-x.s) x.q*x.q⟩
abbrev EF:Prop:=nh N D M x.p x.q x.r x.s
end
section
variable {N D M:Int} {x:rF} (h:EF N D M x) (eB:1<=M) (hD:M<D) (hg:Int.gcd N D=1)
def Yz:EF N D M (gv N D M x):=by
 have:=h.oI;obtain⟨k0,k1,k2⟩:=Iz (a:=N*x.q-x.p*D) (b:=x.r*D-N*x.s) (c:=M-x.q) (d:=x.s) (cr h.lo) h.hi ω h.s1;exact arz h eB hD hg k0 k1 k2
def arB:EF N D M (xB N D M x):=by
 have:=h.oJ;obtain⟨k0,k1,k2⟩:=Iz (a:=x.r*D-N*x.s) (b:=N*x.q-x.p*D) (c:=M-x.s) (d:=x.q) (cr h.hi) h.lo ω h.q1;exact arA h eB hD hg k0 k1 k2
def YA (hle:x.q+x.s<=M):x.q+x.s<(xB N D M (gv N D M x)).q+(xB N D M (gv N D M x)).s:=by
 have hA:=Yz h eB hD hg;have oI:=h.oI;have hs:=h.s1;have hq:=h.q1;have lo:=h.lo;have hi:=h.hi;obtain⟨k0,k1,k2⟩:=Iz (a:=N*x.q-x.p*D) (b:=x.r*D-N*x.s) (c:=M-x.q) (d:=x.s) ω hi ω ω;have au8:=hA.oJ;have arC:=hA.q1;obtain⟨m0,m1,m2⟩:=Iz (a:=x.r*D-N*x.s) (b:=N*(gv N D M x).q-(gv N D M x).p*D) (c:=M-x.s) (d:=(gv N D M x).q) ω hA.lo (by have:=h.oJ;omega) arC;have e1:(xB N D M (gv N D M x)).q=(gv N D M x).q:=rfl;have e2:(xB N D M (gv N D M x)).s=x.s+kI (x.r*D-N*x.s) (N*(gv N D M x).q-(gv N D M x).p*D) (M-x.s) (gv N D M x).q*(gv N D M x).q:=rfl;have e3:(gv N D M x).q=x.q+kI (N*x.q-x.p*D) (x.r*D-N*x.s) (M-x.q) x.s*x.s:=rfl;have bV:(gv N D M x).p=x.p+kI (N*x.q-x.p*D) (x.r*D-N*x.s) (M-x.q) x.s*x.r:=rfl;rw [e1,e2];by_cases hc:x.r*D-N*x.s<=N*x.q-x.p*D
 .have hk:=Yy (a:=N*x.q-x.p*D) (b:=x.r*D-N*x.s) (c:=M-x.q) (d:=x.s) hi ω hc ω;have h5:1*1<=kI (N*x.q-x.p*D) (x.r*D-N*x.s) (M-x.q) x.s*x.s:=Int.mul_le_mul hk ω δ ω;have h6:=Int.mul_nonneg m0 (show 0<=(gv N D M x).q by omega);omega
 .have z:kI (N*x.q-x.p*D) (x.r*D-N*x.s) (M-x.q) x.s=0:=by
   have a0:(N*x.q-x.p*D)/(x.r*D-N*x.s)=0:=Int.ediv_eq_zero_of_lt ω ω;have c0:0<=(M-x.q)/x.s:=Int.ediv_nonneg ω ω;unfold kI;rw [a0,if_neg ω]
  have q0:(gv N D M x).q=x.q:=by rw [e3,z];omega
  have gm:(gv N D M x).p=x.p:=by rw [bV,z];omega
  have hk:=Yy (a:=x.r*D-N*x.s) (b:=N*(gv N D M x).q-(gv N D M x).p*D) (c:=M-x.s) (d:=(gv N D M x).q) hA.lo ω (by rw [q0,gm];omega) ω;have h5:1*1<=kI (x.r*D-N*x.s) (N*(gv N D M x).q-(gv N D M x).p*D) (M-x.s) (gv N D M x).q*(gv N D M x).q:=Int.mul_le_mul hk ω δ ω;omega
end
def arD {N D M p q r s n d:Int} (h:nh N D M p q r s) (Xi:M<q+s) (hd:1<=d) (au9:d<=M):n*q<=p*d\/r*d<=n*s:=by
 rcases Int.lt_or_le (p*d) (n*q)with g|g
 .rcases Int.lt_or_le (n*s) (r*d)with g2|g2
  .exfalso;have e:s*(n*q-p*d)+q*(r*d-n*s)=d*(r*q-p*s):=by grind
   rw [h.iH,Int.mul_one]at e;have hq:=h.q1;have hs:=h.s1;have a1:s*1<=s*(n*q-p*d):=dn ω ω;have a2:q*1<=q*(r*d-n*s):=dn ω ω;omega
  .exact Or.inr g2
 .exact Or.inl g
section
open Go.RowKit Sv Go.Proofs.Tryz
set_option maxRecDepth 100000 in
set_option maxHeartbeats 4000000 in
def arE (g k:Nat) (x y:Int) (cur:Array Value) (w:World) (hb:w.heap[g]? =some (.cells cur 3 (0,0))) (h0:cur[0]? =some (.int .i64 x)) (h1:cur[1]? =some (.int .i64 y)) (hk:2<=k):
  Calls prog 101 #[.slice (some ⟨g,0,none⟩) 2 k, .int .i64 0, .int .i64 1] w fun e w'=>e= .returned (.slice (some ⟨g,0,none⟩) 1 k)/\w'=(w.drew.setCells g 0 [.int .i64 y]).setCells g 1 [.int .i64 0]:=by
 obtain⟨i0,tU,NU,NV,V9⟩:=info_parts Tryz.V6;have c0:w.cell? ⟨g,0,none⟩=some (.int .i64 x):=by rw [cell_of_row _ _ 0 cur _ _ hb];exact h0
 have c1:w.cell? ⟨g,1,none⟩=some (.int .i64 y):=by rw [cell_of_row _ _ 1 cur _ _ hb];exact h1
 have f0:w.frozen? ⟨g,0,none⟩=false:=by simp [World.frozen?,hb]
 have f1:w.frozen? ⟨g,1,none⟩=false:=by simp [World.frozen?,hb]
 have k1:¬k=1:=by omega
 have k0:0<=k:=by omega
 have ava:1<=k:=by omega
 refine calls_of_wp func101 rfl ?_;simp only [Tryz.ntmps101,List.size_toArray,List.length_cons,List.length_nil,Nat.reduceAdd,Nat.reduceSub,Array.replicate_succ,Array.replicate_zero,List.push_toArray,List.append_toArray,List.nil_append,List.cons_append]
 go_wp2_with fail
 have s1:=Lib.hid (show∀t u,[Value.int .i64 y][t]? =some u->w.drew.cell? ((⟨g,1,none⟩:Addr).add t)=some u from fun t u hu=>by
  cases t with
  |zero=>simp at hu;subst hu;exact c1
  |succ t=>simp at hu)
 have s2:=Lib.hid (show∀t,t<[Value.int .i64 y].length->(w.drew.cell? ⟨g,0+0*1+t,none⟩).isSome=true/\w.drew.frozen? ⟨g,0+0*1+t,none⟩=false from fun t ht=>by
  obtain rfl:t=0:=by simpa using ht
  exact⟨by show(w.cell? _).isSome=true;rw [c0];rfl,f0⟩)
 have s3:=Lib.hid (show∀u∈[Value.int .i64 y],u.oneCell'=true from fun u hu=>by simp at hu;subst hu;rfl);obtain⟨vv,PL⟩:∃vv,vv=w.drew.setCells g (0+0*1) [.int .i64 y]:=⟨_,rfl⟩;have hW:=Lib.hid PL;have b1:eP vv g 3 (cur.setIfInBounds 0 (.int .i64 y)):=by rw [PL];exact(eP.drew hb).set 0 _
 have e1:(cur.setIfInBounds 0 (Value.int .i64 y))[1]? =some (.int .i64 y):=by rw [Array.getElem?_setIfInBounds];simpa using h1
 have w1:vv.cell? ⟨g,1,none⟩=some (.int .i64 y):=by rw [b1.cell 1];exact e1
 have hc1:∀j,j<1->(vv.cell? ⟨g,1+j,none⟩).isSome=true:=fun j hj=>by
  obtain rfl:j=0:=by omega
  rw [Nat.add_zero,w1];rfl
 have ye:∀j,j<1->vv.frozen? ⟨g,1+j,none⟩=false:=fun j hj=>b1.frozen _
 have CD:∀w,(zeroValue 3).run prog w= .ok (.int .i64 0) w:=fun w=>E2 (by simp [nk,tU,NU]) w
 have hU:∀ty,(Builtin.clear_ #[93] ty #[.slice (some ⟨g,1,none⟩) 1 (k-1)]).run prog vv= .ok (.tuple #[]) (vv.setCells g 1 [.int .i64 0]):=fun ty=>
  Lib.run_clear_slice vv _ _ ty _ Tryz.underlying93 CD rfl rfl g 1 1 (k-1) δ hc1 ye
 clear PL;have mx:prog.follows .mixedOrders=true:=mixed
 go_region_law_o (refine step_append_room rfl (.tmp 22) (.tmp 25) 93 rfl 3 i0 1 Tryz.underlying93 tU NV g 0 0 k (by simp [Act.eval,Act.put]) ⟨g,1,none⟩ 1 (k-1) [.int .i64 y] (by simp [Act.eval,Act.put]) rfl s1.out s3.out ω s2.out ?_;rw [<-hW.out])
 go_wp2
 go_ret
 exact⟨rfl,by rw [hW.out]⟩
noncomputable section
def YB (i:Nat) (H:ai) (blk:Option bl):aL:=match blk with
 |some (.cells e [.raw (.int .i64 _), .raw (.int .i64 y)] false false false)=>cond (Nat.beq e 3) (.ok (.slice i 0 1 .full) (H.set i (.cells e [.raw (.int .i64 y)] false false false))) .no
 |_=> .no
def PM (args:List aa) (H:ai):aL:=match args with
 |[.slice i 0 2 .full, .raw (.int .i64 0), .raw (.int .i64 1)]=>YB i H (H.get i)
 |_=> .no
def IA:eC:=fun f args H=> @Bool.rec (fun _=>aL) (bF Of f args H) (PM args H) (Nat.beq f 101)
def YC {args:List aa} {H:ai} {v:aa} {H':ai} (h:PM args H= .ok v H'):∃i x y,args=[.slice i 0 2 .full, .raw (.int .i64 0), .raw (.int .i64 1)]/\H.get i=some (.cells 3 [.raw (.int .i64 x), .raw (.int .i64 y)] false false false)/\
  v= .slice i 0 1 .full/\H'=H.set i (.cells 3 [.raw (.int .i64 y)] false false false):=by
 unfold PM at h;split at h
 .rename_i i;unfold YB at h;split at h
  .rename_i e x y hg;cases hb:Nat.beq e 3 with
   |false=>rw [hb]at h;cases h
   |true=>
    rw [hb]at h;obtain rfl:=ac hb;cases h;exact⟨i,x,y,rfl,hg,rfl,rfl⟩
  .cases h
 .cases h
def arF:bC prog IA where
 mono f args H v H' h:=by
  unfold IA at h;cases hb:Nat.beq f 101 with
  |false=>rw [hb]at h;exact Og.mono _ _ _ _ _ h
  |true=>
   rw [hb]at h;obtain⟨i,x,y,_,_,_,rfl⟩:=YC h;exact aI _
 cx f args H v H' h B ρ xs w m hH cv hd hf:=by
  unfold IA at h;cases hb:Nat.beq f 101 with
  |false=>rw [hb]at h;exact Og.cx _ _ _ _ _ h B ρ xs w m hH cv hd hf
  |true=>
   rw [hb]at h;obtain rfl:=ac hb;obtain⟨i,x,y,rfl,hg,rfl,rfl⟩:=YC h
   match xs,hd with
   |[x0,x1,x2], .cons d0 (.cons d1 (.cons d2 .nil))=>
    obtain⟨g,c,k,er,hk,hlk,rfl⟩:=d0.ig;have hk:k=c:=hk;subst hk;rw [d1.cg,d2.cg];obtain⟨ys,fz,g1,g2,g3,_,g5,g6⟩:=mA hH hg er;have g2:=g2 rfl;subst g2;have g5:=g5 rfl;have n0:ys[0]? =some (.int .i64 x):=by
     obtain⟨z,dD,z2⟩:=g3.get (i:=0) rfl;rw [z2.cg]at dD;simpa using dD
    have n1:ys[1]? =some (.int .i64 y):=by
     obtain⟨z,dD,z2⟩:=g3.get (i:=1) rfl;rw [z2.cg]at dD;simpa using dD
    refine so (n:=0) (callsIn_wide.2 ((arE g k x y ys w g1 n0 n1 hlk).mono ?_));rintro e w' ⟨rfl,rfl⟩;have jy:eP (w.drew.setCells g 0 [.int .i64 y]) g 3 (ys.setIfInBounds 0 (.int .i64 y)):=(eP.drew g1).set 0 _;have kO:eP ((w.drew.setCells g 0 [.int .i64 y]).setCells g 1 [.int .i64 0]) g 3 ((ys.setIfInBounds 0 (.int .i64 y)).setIfInBounds 1 (.int .i64 0)):=jy.set 1 _;have gF:∀j,j≠g->((w.drew.setCells g 0 [.int .i64 y]).setCells g 1 [.int .i64 0]).heap[j]? =w.heap[j]? :=fun j hj=>(Below.heap_setCell _ _ _ j hj).trans (Below.heap_setCell _ _ _ j hj)
    have lI:aG ρ [aa.raw (Value.int .i64 y)] (((ys.setIfInBounds 0 (Value.int .i64 y)).setIfInBounds 1 (.int .i64 0)).toList.take [aa.raw (Value.int .i64 y)].length):=by
     have e1:(((ys.setIfInBounds 0 (Value.int .i64 y)).setIfInBounds 1 (.int .i64 0)).toList.take [aa.raw (Value.int .i64 y)].length)=[.int .i64 y]:=by
      have hs:0<ys.size:=(dJ.1 n0).1;refine List.ext_getElem? fun j=> ?_
      rw [List.getElem?_take];cases j with
      |zero=>simp [hs]
      |succ j=>simp
     rw [e1];exact .cons (.raw _) .nil
    obtain⟨p1,p2⟩:=vL hH hg er rfl (k:= .cells 3 [.raw (.int .i64 y)] false false false) ((w.drew.setCells g 0 [.int .i64 y]).setCells g 1 [.int .i64 0]) _ rfl rfl rfl (by show(World.setCell (World.setCell w.drew ⟨g,0,none⟩ _) ⟨g,1,none⟩ _).heap.size=_;simp [World.setCell]) kO gF
     ⟨_,_,rfl,fun _=>rfl,lI,(fun hh=>by cases hh),fun _=>⟨g,k,er,by simpa using g5⟩⟩
    exact⟨_,ρ,rfl, .slice er rfl ω,p1,p2⟩
end
end
end Go.Proofs.YtibikmmdbdlafaaGreatDoor
