import Derived.Test.YtibikmmdbdlafaaGreatDoorZcA12
set_option linter.defProp false
set_option linter.unusedSimpArgs false
set_option linter.unusedVariables false
set_option maxRecDepth 100000
namespace Go.Proofs.YtibikmmdbdlafaaGreatDoor
open Go.RowKit Sv Go.Proofs.Tryz
noncomputable section
def p5:=k_a f65
def OP:=k_a f44
def s7:=bc [BC,NK]
def OQ:=bc [NJ,HE]
def kH (u:AT) (n:Bool) (k:Int):bD:={n:=54,sl:=[(5,sv u),(6,bv n),(7,iv k)],bJ:=[],next:=64}
def aoe (s:AT) (h1:(s.size:Int)>20):
  bh s7 (fl p5 []) 4 54 [sv s] 3 f65 true (.tuple [iv 0,iv 0,bv false]):=
 wy [ah h1] 1
section
variable (s:AT) (h1:¬(s.size:Int)>20) (h2:(s.size:Int)>0) (h3:Int.toNat 0<s.size)
def P2 (h4:¬(↑(UInt8.toNat (s.data.toList.getD (Int.toNat 0) (0:UInt8))):Int)=45) (h5:s.size<=1000000000):
  cZ s7 (fl p5 []) 8 54 [sv s] 94 .normal [] (kH s false (bf (aq s))):=
 wy [aJ h1,af (aM (az h2)),ah h3,ah h2,yn h4,ah h5,ax (e8.mpr h4)] 8072161649416478849
def aof (h4:(↑(UInt8.toNat (s.data.toList.getD (Int.toNat 0) (0:UInt8))):Int)=45) (h5:Int.toNat 1<=s.size) (h6:(s.extract (Int.toNat 1) s.size).size<=1000000000) (h7:(s.extract (Int.toNat 1) s.size)=(s.extract 1 s.size)) (h8:(↑(bf (s.extract (Int.toNat 1) s.size).data.toList):Int)=(↑(bf (s.extract 1 s.size).data.toList):Int)):
  cZ s7 (fl p5 []) 8 54 [sv s] 126 .normal [] (kH (s.extract 1 s.size) true (bf (aq (s.extract 1 s.size)))):=
 wy [aJ h1,af (aM (az h2)),ah h3,ah h2,cX h4,ah h5,ah (by omega:s.size<=s.size),ah h6,ax h7,ax (fU.mpr h4),ax h8] 215836358573926683810734209
end
def aog (u:AT) (n:Bool) (k:Int) (h1:k>9):
  bS s7 ((fl p5 []).drop 8) (kH u n k) 224 f65 true (.tuple [iv 0,iv 0,bv false]):=
 wy [af (bq (az h1)),ah h1] 2164527169
def aoh (u:AT) (n:Bool) (k:Int) (h1:¬k>9) (h2:i6 ((u.size:Int)-k)) (h3:(u.size:Int)-k>10):
  bS s7 ((fl p5 []).drop 8) (kH u n k) 223 f65 true (.tuple [iv 0,iv 0,bv false]):=
 wy [af (bq (ab h1)),yi h2,aJ h1,ah h3] 17799452037185
section
variable (u:AT) (k:Int) (h1:¬k>9) (h2:i6 ((u.size:Int)-k)) (h3:¬(u.size:Int)-k>10) (h4:0<=k) (h5:k.toNat<=u.size) (h6:(decide ((u.extract 0 k.toNat).size<=17)&&bZ (u.extract 0 k.toNat).data.toList)=true)
def aoi (h7:¬k<(u.size:Int)):
  bS s7 ((fl p5 []).drop 8) (kH u false k) 543 f65 true (.tuple [iv (bg (aq (u.extract 0 k.toNat))),iv 1,bv true]):=
 wy [af (bq (ab h1)),yi h2,aJ h1,aJ h3,ah h4,ah h5,af h6,aJ h7] 38302359651223005827137
def aoj (h7:k<(u.size:Int)) (h8:i6 (k+1)) (h9:0<=k+1) (h10:(k+1).toNat<=u.size) (h11:(decide ((u.extract (k+1).toNat u.size).size<=17)&&bZ (u.extract (k+1).toNat u.size).data.toList)=true):
  bS s7 ((fl p5 []).drop 8) (kH u false k) 671 f65 true (.tuple [iv (bg (aq (u.extract 0 k.toNat))),iv (bg (aq (u.extract (k+1).toNat u.size))),bv true]):=
 wy [af (bq (ab h1)),yi h2,aJ h1,aJ h3,ah h4,ah h5,af h6,ah h7,yi h8,ah h9,ah h10,ah (by omega:u.size<=u.size),af h11] 66882382688987832236781586354241
def aok (h7:¬k<(u.size:Int)) (h8:i6 (0-bg (u.extract 0 k.toNat).data.toList)):
  bS s7 ((fl p5 []).drop 8) (kH u true k) 799 f65 true (.tuple [iv (0-bg (aq (u.extract 0 k.toNat))),iv 1,bv true]):=
 wy [af (bq (ab h1)),yi h2,aJ h1,aJ h3,ah h4,ah h5,af h6,aJ h7,yi h8] 174123620384157824163516481
def aol (h7:k<(u.size:Int)) (h8:i6 (k+1)) (h9:0<=k+1) (h10:(k+1).toNat<=u.size) (h11:(decide ((u.extract (k+1).toNat u.size).size<=17)&&bZ (u.extract (k+1).toNat u.size).data.toList)=true) (h12:i6 (0-bg (u.extract 0 k.toNat).data.toList)):
  bS s7 ((fl p5 []).drop 8) (kH u true k) 927 f65 true (.tuple [iv (0-bg (aq (u.extract 0 k.toNat))),iv (bg (aq (u.extract (k+1).toNat u.size))),bv true]):=
 wy [af (bq (ab h1)),yi h2,aJ h1,aJ h3,ah h4,ah h5,af h6,ah h7,yi h8,ah h9,ah h10,ah (by omega:u.size<=u.size),af h11,yi h12] 290835506460639335029944576022679617
end
abbrev BN (z:Int):Int:=if 0-z>z then 0-z else z
abbrev xk:AT:=⟨#[45]⟩
section
variable (n d:Int) (h1:¬n< -4000000000000000000) (h2:¬n>4000000000000000000) (h3:¬d< -4000000000000000000) (h4:¬d>4000000000000000000) (h5:¬d<0) (h6:i6 (0-n)) (h7:(decide ((0:av.den (.int .i64))<=if 0-n>n then 0-n else n)&&decide ((0:av.den (.int .i64))<=d))=true) (h8:(bA n d)≠0) (h9:i6 (Int.tdiv n (bA n d))) (h10:i6 (Int.tdiv d (bA n d))) (h11:Int.tdiv n (bA n d)<0) (h12:i6 (0-Int.tdiv n (bA n d))) (dF:(decide ((0:av.den (.int .i64))<=if 0-Int.tdiv n (bA n d)>Int.tdiv n (bA n d)then 0-Int.tdiv n (bA n d)else Int.tdiv n (bA n d))&&(decide ((if 0-Int.tdiv n (bA n d)>Int.tdiv n (bA n d)then 0-Int.tdiv n (bA n d)else Int.tdiv n (bA n d))<=(9223372036854775807:av.den (.int .i64)))&&decide (1<=(20:av.den (.int .i64)))))=true) (gb:(ByteArray.mk (#[(45:UInt8)])).size+(ByteArray.mk (List.toArray (cp 20 (if 0-Int.tdiv n (bA n d)>Int.tdiv n (bA n d)then 0-Int.tdiv n (bA n d)else Int.tdiv n (bA n d)) 1 []))).size<=9223372036854775807)
def aom (iA:¬Int.tdiv d (bA n d)>1) (k8:((ByteArray.mk (#[(45:UInt8)]))++(ByteArray.mk (List.toArray (cp 20 (if 0-Int.tdiv n (bA n d)>Int.tdiv n (bA n d)then 0-Int.tdiv n (bA n d)else Int.tdiv n (bA n d)) 1 []))))=((ByteArray.mk (#[(45:UInt8)]))++(ByteArray.mk (List.toArray (cp 20 (if 0-Int.tdiv n (bA n d)>Int.tdiv n (bA n d)then 0-Int.tdiv n (bA n d)else Int.tdiv n (bA n d)) 1 []))))):
  bh OQ (fl OP []) 30 61 [iv n,iv d] 10459 f44 true (sv (xk++kF (BN (Int.tdiv n (Int.gcd (BN n) d))) 1)):=
 wy [af (bq (ab h1)),aJ h1,af (bq (ab h2)),aJ h2,af (bq (ab h3)),aJ h3,aJ h4,aJ h5,yi h6,af h7,ah h8,yi h9,yi h10,ah h11,yi h12,af dF,ah gb,aJ iA,ax k8] 105000044317847363205758449615782206513217
def aon (iA:Int.tdiv d (bA n d)>1) (k8:((ByteArray.mk (#[(45:UInt8)]))++(ByteArray.mk (List.toArray (cp 20 (if 0-Int.tdiv n (bA n d)>Int.tdiv n (bA n d)then 0-Int.tdiv n (bA n d)else Int.tdiv n (bA n d)) 1 [])))).size+(ByteArray.mk (#[(47:UInt8)])).size<=9223372036854775807) (uX:(decide ((0:av.den (.int .i64))<=Int.tdiv d (bA n d))&&(decide (Int.tdiv d (bA n d)<=(9223372036854775807:av.den (.int .i64)))&&decide (1<=(20:av.den (.int .i64)))))=true) (zi:((ByteArray.mk (#[(45:UInt8)]))++(ByteArray.mk (List.toArray (cp 20 (if 0-Int.tdiv n (bA n d)>Int.tdiv n (bA n d)then 0-Int.tdiv n (bA n d)else Int.tdiv n (bA n d)) 1 [])))++(ByteArray.mk (#[(47:UInt8)]))).size+(ByteArray.mk (List.toArray (cp 20 (Int.tdiv d (bA n d)) 1 []))).size<=9223372036854775807) (h19:((ByteArray.mk (#[(45:UInt8)]))++(ByteArray.mk (List.toArray (cp 20 (if 0-Int.tdiv n (bA n d)>Int.tdiv n (bA n d)then 0-Int.tdiv n (bA n d)else Int.tdiv n (bA n d)) 1 [])))++(ByteArray.mk (#[(47:UInt8)]))++(ByteArray.mk (List.toArray (cp 20 (Int.tdiv d (bA n d)) 1 []))))=((ByteArray.mk (#[(45:UInt8)]))++(ByteArray.mk (List.toArray (cp 20 (if 0-Int.tdiv n (bA n d)>Int.tdiv n (bA n d)then 0-Int.tdiv n (bA n d)else Int.tdiv n (bA n d)) 1 [])))++(ByteArray.mk (#[(47:UInt8)]))++(ByteArray.mk (List.toArray (cp 20 (Int.tdiv d (bA n d)) 1 []))))):
  bh OQ (fl OP []) 30 61 [iv n,iv d] 14555 f44 true (sv (xk++kF (BN (Int.tdiv n (Int.gcd (BN n) d))) 1++iC++kF (Int.tdiv d (Int.gcd (BN n) d)) 1)):=
 wy [af (bq (ab h1)),aJ h1,af (bq (ab h2)),aJ h2,af (bq (ab h3)),aJ h3,aJ h4,aJ h5,yi h6,af h7,ah h8,yi h9,yi h10,ah h11,yi h12,af dF,ah gb,ah iA,ah k8,af uX,ah zi,ax h19] 31874838871619119136349477082024326987223146561
end
section
variable (s:AT)
def s8:Nat:=bf (aq (bO s))
def Ee:Int:=bg (aq ((bO s).extract 0 (s8 s)))
def Ef:Int:=if s8 s<(bO s).size then bg (aq ((bO s).extract (s8 s+1) (bO s).size))else 1
def qB:Bool:=decide (s.size<=20)&&(decide (s8 s<=9)&&decide ((bO s).size-s8 s<=10))
def okQs:Bool:=(decide (0<s.size)&&decide (s.size<=800000))&&(bZ (aq ((bO s).extract 0 (s8 s)))&&bZ (aq ((bO s).extract (s8 s+1) (bO s).size)))
def jr:Int:=if qB s then bk (b5 s) (Ee s)else 0
def gi:Int:=if qB s then Ef s else 0
end
def W7:=IN 65 [.str] [.int .i64, .int .i64, .bool] true (fun d=>okQs d.1) fun d=>(jr d.1,gi d.1,qB d.1,())
def W8:=IN 44 [.int .i64, .int .i64] [.str] true (fun d=>(decide (-4000000000000000000<=d.1)&&decide (d.1<=4000000000000000000))&&(decide (0<d.2.1)&&decide (d.2.1<=4000000000000000000))) fun d=>(textQ (Rat.divInt d.1 d.2.1),())
def W9:bC prog (bF s7):=cK (aP D0 (aP VT dQ))
def Xa:bC prog (bF OQ):=cK (aP VQ (aP NM dQ))
abbrev OS (a b:Int) (c:Bool):Exit->au aa->ai->Prop:=hG prog true f65 (.tuple [iv a,iv b,bv c])
def aoo (u:AT) (n:Bool) (hl:u.size<=20) (h1:bZ (aq (u.extract 0 (bf (aq u))))=true) (h2:bZ (aq (u.extract (bf (aq u)+1) u.size))=true) (w:World) (F:Sv.Env):
  aU prog w F 54 ((fl p5 []).drop 8) (kH u n (bf (aq u))).T (kH u n (bf (aq u))).H (if bf (aq u)<=9/\u.size-bf (aq u)<=10 then OS (bk n (bg (aq (u.extract 0 (bf (aq u)))))) (if bf (aq u)<u.size then bg (aq (u.extract (bf (aq u)+1) u.size))else 1) true else OS 0 0 false):=by
 have hS:=W9;have hle:bf (aq u)<=u.size:=by rw [cP];exact BD _
 generalize bf (aq u)=k at*;have u9:(k:Int).toNat=k:=by omega
 have HY:((k:Int)+1).toNat=k+1:=by omega
 have hz:=lu u 0 k hle;have k6:=lu u (k+1) u.size (aI _);by_cases hk:k<=9
 .by_cases hd:u.size-k<=10
  .rw [if_pos ⟨hk,hd⟩];have g1:(decide ((u.extract 0 k).size<=17)&&bZ (aq (u.extract 0 k)))=true:=by rw [h1,az ω];rfl
   have g2:(decide ((u.extract (k+1) u.size).size<=17)&&bZ (aq (u.extract (k+1) u.size)))=true:=by rw [h2,az ω];rfl
   have hv:=u7 h1;have hp:(10:Int)^(u.extract 0 k).size<=10^9:=iQ δ ω;have WO:(10:Int)^9=1000000000:=rfl;by_cases hlt:k<u.size
   .rw [if_pos hlt];cases n with
    |false=>
     have key:=aoj u (k:Int) ω ω ω ω;rw [u9,HY]at key;exact bX (s:=kH u false k) hS (key hle g1 ω ω ω ω g2)
    |true=>
     have key:=aol u (k:Int) ω ω ω ω;rw [u9,HY]at key;have key:=key hle g1 ω ω ω ω g2 (by show-9223372036854775808<=0-bg (aq (u.extract 0 k))/\0-bg (aq (u.extract 0 k))<=9223372036854775807;omega);rw [Int.zero_sub]at key;exact bX (s:=kH u true k) hS key
   .rw [if_neg hlt];cases n with
    |false=>
     have key:=aoi u (k:Int) ω ω ω ω;rw [u9]at key;exact bX (s:=kH u false k) hS (key hle g1 ω)
    |true=>
     have key:=aok u (k:Int) ω ω ω ω;rw [u9]at key;have key:=key hle g1 ω (by show-9223372036854775808<=0-bg (aq (u.extract 0 k))/\0-bg (aq (u.extract 0 k))<=9223372036854775807;omega);rw [Int.zero_sub]at key;exact bX (s:=kH u true k) hS key
  .rw [if_neg fun h=>hd h.2];exact bX (s:=kH u n k) hS (aoh u n (k:Int) ω ω ω)
 .rw [if_neg fun h=>hk h.1];exact bX (s:=kH u n k) hS (aog u n (k:Int) ω)
def aop (s:AT) (h:okQs s=true):Holds prog true 65 [sv s] (.tuple [iv (if qB s then bk (b5 s) (Ee s)else 0),iv (if qB s then Ef s else 0),bv (qB s)]):=by
 have hS:=W9;unfold okQs at h;rw [ae,ae,ae,bE,bE]at h;obtain⟨⟨h0,hl⟩,h1,h2⟩:=h;refine bL (c:=p5) func65 rfl rfl fun w F=> ?_
 by_cases OT:s.size<=20
 .have fin:∀u n,bO s=u->b5 s=n->u.size<=20->aU prog w F 54 ((fl p5 []).drop 8) (kH u n (bf (aq u))).T (kH u n (bf (aq u))).H (OS (if qB s then bk (b5 s) (Ee s)else 0) (if qB s then Ef s else 0) (qB s)):=fun u n e1 e2 hu=>by
   unfold Ee Ef qB s8 at*;rw [e1]at h1 h2 ⊢;rw [e2,az OT,Bool.true_and];have key:=aoo u n hu h1 h2 w F;by_cases hc:bf (aq u)<=9/\u.size-bf (aq u)<=10
   .rw [if_pos hc]at key;rw [az hc.1,az hc.2];exact key
   .rw [if_neg hc]at key;have e:(decide (bf (aq u)<=9)&&decide (u.size-bf (aq u)<=10))=false:=by
     rw [Bool.eq_false_iff];intro h;rw [ae,bE,bE]at h;exact hc h
    rw [e];exact key
  by_cases lz:(b9 s 0).toNat=45
  .have e1:b5 s=true:=by unfold b5;rw [az h0,az lz];rfl
   have e2:bO s=s.extract 1 s.size:=by unfold bO;rw [e1]
   have hz:=lu s 1 s.size (aI _);refine cJ hS 8 (aof s ω ω (by show 0<s.size;exact h0) (by show((b9 s 0).toNat:Int)=45;omega) (by show 1<=s.size;omega) (by show(s.extract 1 s.size).size<=_;omega) rfl rfl) ?_;exact fin _ _ e2 e1 ω
  .have e1:b5 s=false:=by unfold b5;rw [az h0,ab lz];rfl
   have e2:bO s=s:=by unfold bO;rw [e1]
   refine cJ hS 8 (P2 s ω ω (by show 0<s.size;exact h0) (by show¬((b9 s 0).toNat:Int)=45;omega) ω) ?_;exact fin _ _ e2 e1 OT
 .have e:qB s=false:=by unfold qB;rw [ab OT];rfl
  rw [e];exact bw hS 4 (aoe s ω)
def aoq:W7.Ok prog:=fun⟨s,_⟩ h=>aop s h
def Xb {n:Bool} {x d g:Int} (hd:0<d) (hx:0<=x) (hg:(Int.gcd x d:Int)=g):(textQ (Rat.divInt (bk n x) d)).data.toList=Lib.itoa (bk n (x/g))++(if d/g>1 then 47::Lib.itoa (d/g)else []):=by
 obtain⟨r1,r2⟩:=W1 (n:=n) (x:=x) hd;rw [hg]at r1 r2;have hp:0<(Rat.divInt (bk n x) d).den:=(Rat.divInt (bk n x) d).den_pos;unfold textQ;by_cases h1:d/g>1
 .rw [if_neg ω,if_pos h1,r1,r2]
 .rw [if_pos ω,if_neg h1,jm,r1,List.append_nil]
def aor (n d:Int) (ny: -4000000000000000000<=n) (hn2:n<=4000000000000000000) (hd:0<d) (gP:d<=4000000000000000000):Holds prog true 44 [iv n,iv d] (sv (textQ (Rat.divInt n d))):=by
 have hg:0<Int.gcd n d:=Int.gcd_pos_of_ne_zero_right _ ω;have hgd:(Int.gcd n d:Int)<=d:=Int.le_of_dvd hd (Int.gcd_dvd_right ..);by_cases hn:0<=n
 .have key:=ame n d hn hn2 hd gP;have e:xh (n/Int.gcd n d) (d/Int.gcd n d)=textQ (Rat.divInt n d):=gA (by
   have b1:0<=n/(Int.gcd n d:Int):=Int.ediv_nonneg hn ω;have b2:n/(Int.gcd n d:Int)<=n:=Int.ediv_le_self _ hn;have b3:0<=d/(Int.gcd n d:Int):=Int.ediv_nonneg ω ω;have b4:d/(Int.gcd n d:Int)<=d:=Int.ediv_le_self _ ω;have:=Xb (n:=false) (x:=n) hd hn rfl;show cp 20 _ 1 []++_=_;have e0:bk false n=n:=rfl;rw [e0]at this;rw [this,Ea b1 ω,Ea b3 ω];rfl)
  rw [<-e];exact key
 .obtain⟨x,rfl⟩:∃x,n= -x:=⟨-n,by omega⟩;have hm:(if(0:Int)- -x> -x then(0:Int)- -x else-x)=x:=by rw [if_pos ω];omega
  have k1:=aom (-x) d;have k2:=aon (-x) d;have eg:Int.gcd (-x) d=Int.gcd x d:=Int.neg_gcd;unfold BN at k1 k2;simp only [bA,hm]at k1 k2;rw [eg]at hg hgd;have CS:(Int.gcd x d:Int)<=x:=Int.le_of_dvd ω (Int.gcd_dvd_left ..);have t1:Int.tdiv (-x) (Int.gcd x d:Int)= -(x/(Int.gcd x d:Int)):=by rw [Int.neg_tdiv,Int.tdiv_eq_ediv_of_nonneg ω]
  have t2:Int.tdiv d (Int.gcd x d:Int)=d/(Int.gcd x d:Int):=Int.tdiv_eq_ediv_of_nonneg ω;simp only [t1,t2]at k1 k2;have b1:1<=x/(Int.gcd x d:Int):=Int.le_ediv_of_mul_le ω ω;have b2:x/(Int.gcd x d:Int)<=x:=Int.ediv_le_self _ ω;have b3:0<=d/(Int.gcd x d:Int):=Int.ediv_nonneg ω ω;have b4:d/(Int.gcd x d:Int)<=d:=Int.ediv_le_self _ ω;have ht:=Xb (n:=true) (x:=x) hd ω rfl;have es:bk true x= -x:=rfl;have aos:bk true (x/(Int.gcd x d:Int))= -(x/(Int.gcd x d:Int)):=rfl;rw [es,aos]at ht;have qD:(1:Int)<=(Int.gcd x d:Int):=by omega
  generalize (Int.gcd x d:Int)=g at*;generalize x/g=y at*;generalize d/g=z at*;have hm2:(if(0:Int)- -y> -y then(0:Int)- -y else-y)=y:=by rw [if_pos ω];omega
  simp only [hm2]at k1 k2;have Xc:=Ea (n:=y) ω ω;have fz:=Ea (n:=z) b3 ω;have Ag:Lib.itoa (-y)=45::Lib.itoa y:=by rw [itoa_neg ω,ib ω,Int.natAbs_neg]
  rw [Ag]at ht;have l1:=mf 20 y 1 [];have l2:=mf 20 z 1 [];have dD:=ti (cp 20 y 1 []);have z2:=ti (cp 20 z 1 []);simp only [List.length_nil,aw]at l1 l2;have Xd:(decide ((0:Int)<=x)&&decide ((0:Int)<=d))=true:=by rw [az ω,az ω];rfl
  have py:(decide ((0:Int)<=y)&&(decide (y<=(9223372036854775807:Int))&&decide ((1:Int)<=20)))=true:=by rw [az ω,az ω];rfl
  have aot:(decide ((0:Int)<=z)&&(decide (z<=(9223372036854775807:Int))&&decide ((1:Int)<=20)))=true:=by rw [az ω,az ω];rfl
  refine bL (c:=OP) func44 rfl rfl fun w F=> ?_
  by_cases h1:z>1
  .rw [if_pos h1]at ht;have e:textQ (Rat.divInt (-x) d)=xk++kF y 1++iC++kF z 1:=gA (by
    rw [ht,dp,dp,dp];show _=[45]++cp 20 y 1 []++[47]++cp 20 z 1 [];rw [Xc,fz];simp)
   rw [e];have y1:(xk++kF y 1).size=1+(cp 20 y 1 []).length:=by rw [ByteArray.size_append];rfl
   have y2:(xk++kF y 1++iC).size=1+(cp 20 y 1 []).length+1:=by rw [ByteArray.size_append,y1];rfl
   exact bw Xa 30 (k2 ω ω ω ω ω ω Xd ω ω ω ω ω py (by show 1+(cp 20 y 1 []).length<=_;omega) h1 (by show(xk++kF y 1).size+1<=_;omega) aot (by show(xk++kF y 1++iC).size+(cp 20 z 1 []).length<=_;omega) trivial)
  .rw [if_neg h1,List.append_nil]at ht;have e:textQ (Rat.divInt (-x) d)=xk++kF y 1:=gA (by
    rw [ht,dp];show _=[45]++cp 20 y 1 [];rw [Xc];rfl)
   rw [e];exact bw Xa 30 (k1 ω ω ω ω ω ω Xd ω ω ω ω ω py (by show 1+(cp 20 y 1 []).length<=_;omega) h1 trivial)
def aou:W8.Ok prog:=fun⟨n,d,_⟩ h=>by
 have h:((decide (-4000000000000000000<=n)&&decide (n<=4000000000000000000))&&(decide (0<d)&&decide (d<=4000000000000000000)))=true:=h;rw [ae,ae,ae,bE,bE,bE,bE]at h;exact aor n d h.1.1 h.1.2 h.2.1 h.2.2
def HZ:=k_a Tryz.f15
def H6:=k_a Tryz.f14
def Xe:=k_a Tryz.f72
def xm:=ow [VL,VM] (bc [W7,W8,OK,WW,Nl,Ol])
abbrev lB (s:AT):Bool×List Int:=mkR (ptN s)
abbrev iD (s:AT):Bool×List Int:=mkR (ptD s)
section
variable (a b:AT) (h1:(okQs a)=true) (h2:(okQs b)=true)
def aov (h3:(qB a)=true) (h4:(qB b)=true) (h5:i6 (jr a*jr b)) (h6:i6 (gi a*gi b)) (h7:(decide ((-4000000000000000000:av.den (.int .i64))<=jr a*jr b)&&decide (jr a*jr b<=(4000000000000000000:av.den (.int .i64)))&&(decide ((0:av.den (.int .i64))<gi a*gi b)&&decide (gi a*gi b<=(4000000000000000000:av.den (.int .i64)))))=true):
  bh xm (fl HZ []) 30 (Tryz.f15.ntmps) [sv a,sv b] 15 Tryz.f15 true (sv (textQ (Rat.divInt (jr a*jr b) (gi a*gi b)))):=
 wy [af h1,af h2,af (aM (h3)),af h3,af h4,yi h5,yi h6,af h7] 35671935824001
def aow (h3:(qB a)=false) (h4:(okPt a)=true) (h5:(okPt b)=true) (h6:(okZ (mkR (ptN a))&&okZ (mkR (ptN b)))=true) (h7:(okZ (mkR (ptD a))&&okZ (mkR (ptD b)))=true) (h8:(okZ (mkR (vZ (mkR (ptN a))*vZ (mkR (ptN b))))&&(okZ (mkR (vZ (mkR (ptD a))*vZ (mkR (ptD b))))&& !Nat.beq (mkR (vZ (mkR (ptD a))*vZ (mkR (ptD b)))).2.length 0))=true):
  bh xm (fl HZ []) 30 (Tryz.f15.ntmps) [sv a,sv b] 8 Tryz.f15 true (sv (textQ (Rat.divInt (vZ (mkR (vZ (lB a)*vZ (lB b)))) (vZ (mkR (vZ (iD a)*vZ (iD b))))))):=
 wy [af h1,af h2,af (aM (h3)),af h3,af h4,af h5,af (aF (v:=aa.agg [aa.raw (Value.bool (mkR (ptN a)).1),aa.bn false (.int .i64) (mkR (ptN a)).2])),af (aF (v:=aa.agg [aa.raw (Value.bool (mkR (ptN b)).1),aa.bn false (.int .i64) (mkR (ptN b)).2])),af h6,af (aF (v:=aa.agg [aa.raw (Value.bool (mkR (ptD a)).1),aa.bn false (.int .i64) (mkR (ptD a)).2])),af (aF (v:=aa.agg [aa.raw (Value.bool (mkR (ptD b)).1),aa.bn false (.int .i64) (mkR (ptD b)).2])),af h7,af h8] 16328711509674594756421759105
def aox (h3:(qB a)=true) (h4:(qB b)=false) (h5:(okPt a)=true) (h6:(okPt b)=true) (h7:(okZ (mkR (ptN a))&&okZ (mkR (ptN b)))=true) (h8:(okZ (mkR (ptD a))&&okZ (mkR (ptD b)))=true) (h9:(okZ (mkR (vZ (mkR (ptN a))*vZ (mkR (ptN b))))&&(okZ (mkR (vZ (mkR (ptD a))*vZ (mkR (ptD b))))&& !Nat.beq (mkR (vZ (mkR (ptD a))*vZ (mkR (ptD b)))).2.length 0))=true):
  bh xm (fl HZ []) 30 (Tryz.f15.ntmps) [sv a,sv b] 11 Tryz.f15 true (sv (textQ (Rat.divInt (vZ (mkR (vZ (lB a)*vZ (lB b)))) (vZ (mkR (vZ (iD a)*vZ (iD b))))))):=
 wy [af h1,af h2,af (aM (h3)),af h3,af h4,af h5,af h6,af (aF (v:=aa.agg [aa.raw (Value.bool (mkR (ptN a)).1),aa.bn false (.int .i64) (mkR (ptN a)).2])),af (aF (v:=aa.agg [aa.raw (Value.bool (mkR (ptN b)).1),aa.bn false (.int .i64) (mkR (ptN b)).2])),af h7,af (aF (v:=aa.agg [aa.raw (Value.bool (mkR (ptD a)).1),aa.bn false (.int .i64) (mkR (ptD a)).2])),af (aF (v:=aa.agg [aa.raw (Value.bool (mkR (ptD b)).1),aa.bn false (.int .i64) (mkR (ptD b)).2])),af h8,af h9] 17586301390853393765909934209
def aoy (h3:(qB a)=true) (h4:(qB b)=true) (h5:i6 (jr a*gi b)) (h6:i6 (jr b*gi a)) (h7:i6 (jr a*gi b+jr b*gi a)) (h8:i6 (gi a*gi b)) (h9:(decide ((-4000000000000000000:av.den (.int .i64))<=jr a*gi b+jr b*gi a)&&decide (jr a*gi b+jr b*gi a<=(4000000000000000000:av.den (.int .i64)))&&(decide ((0:av.den (.int .i64))<gi a*gi b)&&decide (gi a*gi b<=(4000000000000000000:av.den (.int .i64)))))=true):
  bh xm (fl H6 []) 30 (Tryz.f14.ntmps) [sv a,sv b] 15 Tryz.f14 true (sv (textQ (Rat.divInt (jr a*gi b+jr b*gi a) (gi a*gi b)))):=
 wy [af h1,af h2,af (aM (h3)),af h3,af h4,yi h5,yi h6,yi h7,yi h8,af h9] 182712931821039745
def aoz (h3:(qB a)=false) (h4:(okPt a)=true) (h5:(okPt b)=true) (h6:(okZ (mkR (ptN a))&&okZ (mkR (ptD b)))=true) (h7:(okZ (mkR (ptN b))&&okZ (mkR (ptD a)))=true) (h8:(okZ (mkR (vZ (mkR (ptN a))*vZ (mkR (ptD b))))&&okZ (mkR (vZ (mkR (ptN b))*vZ (mkR (ptD a)))))=true) (h9:(okZ (mkR (ptD a))&&okZ (mkR (ptD b)))=true) (h10:(okZ (mkR (vZ (mkR (vZ (mkR (ptN a))*vZ (mkR (ptD b))))+vZ (mkR (vZ (mkR (ptN b))*vZ (mkR (ptD a))))))&&(okZ (mkR (vZ (mkR (ptD a))*vZ (mkR (ptD b))))&& !Nat.beq (mkR (vZ (mkR (ptD a))*vZ (mkR (ptD b)))).2.length 0))=true):
  bh xm (fl H6 []) 30 (Tryz.f14.ntmps) [sv a,sv b] 8 Tryz.f14 true (sv (textQ (Rat.divInt (vZ (mkR (vZ (mkR (vZ (lB a)*vZ (iD b)))+vZ (mkR (vZ (lB b)*vZ (iD a)))))) (vZ (mkR (vZ (iD a)*vZ (iD b))))))):=
 wy [af h1,af h2,af (aM (h3)),af h3,af h4,af h5,af (aF (v:=aa.agg [aa.raw (Value.bool (mkR (ptN a)).1),aa.bn false (.int .i64) (mkR (ptN a)).2])),af (aF (v:=aa.agg [aa.raw (Value.bool (mkR (ptD b)).1),aa.bn false (.int .i64) (mkR (ptD b)).2])),af h6,af (aF (v:=aa.agg [aa.raw (Value.bool (mkR (ptN b)).1),aa.bn false (.int .i64) (mkR (ptN b)).2])),af (aF (v:=aa.agg [aa.raw (Value.bool (mkR (ptD a)).1),aa.bn false (.int .i64) (mkR (ptD a)).2])),af h7,af h8,af h9,af h10] 21723757664092254386358743102598938459181691009
def aoA (h3:(qB a)=true) (h4:(qB b)=false) (h5:(okPt a)=true) (h6:(okPt b)=true) (h7:(okZ (mkR (ptN a))&&okZ (mkR (ptD b)))=true) (h8:(okZ (mkR (ptN b))&&okZ (mkR (ptD a)))=true) (h9:(okZ (mkR (vZ (mkR (ptN a))*vZ (mkR (ptD b))))&&okZ (mkR (vZ (mkR (ptN b))*vZ (mkR (ptD a)))))=true) (h10:(okZ (mkR (ptD a))&&okZ (mkR (ptD b)))=true) (h11:(okZ (mkR (vZ (mkR (vZ (mkR (ptN a))*vZ (mkR (ptD b))))+vZ (mkR (vZ (mkR (ptN b))*vZ (mkR (ptD a))))))&&(okZ (mkR (vZ (mkR (ptD a))*vZ (mkR (ptD b))))&& !Nat.beq (mkR (vZ (mkR (ptD a))*vZ (mkR (ptD b)))).2.length 0))=true):
  bh xm (fl H6 []) 30 (Tryz.f14.ntmps) [sv a,sv b] 11 Tryz.f14 true (sv (textQ (Rat.divInt (vZ (mkR (vZ (mkR (vZ (lB a)*vZ (iD b)))+vZ (mkR (vZ (lB b)*vZ (iD a)))))) (vZ (mkR (vZ (iD a)*vZ (iD b))))))):=
 wy [af h1,af h2,af (aM (h3)),af h3,af h4,af h5,af h6,af (aF (v:=aa.agg [aa.raw (Value.bool (mkR (ptN a)).1),aa.bn false (.int .i64) (mkR (ptN a)).2])),af (aF (v:=aa.agg [aa.raw (Value.bool (mkR (ptD b)).1),aa.bn false (.int .i64) (mkR (ptD b)).2])),af h7,af (aF (v:=aa.agg [aa.raw (Value.bool (mkR (ptN b)).1),aa.bn false (.int .i64) (mkR (ptN b)).2])),af (aF (v:=aa.agg [aa.raw (Value.bool (mkR (ptD a)).1),aa.bn false (.int .i64) (mkR (ptD a)).2])),af h8,af h9,af h10,af h11] 23173660082079261249656049484261917645415133313
end
def aoB (a:AT) (h1:(okPt a)=true) (h2:(okZ (mkR (ptD a))&&(okZ (mkR (ptN a))&& !Nat.beq (mkR (ptN a)).2.length 0))=true):
  bh xm (fl Xe []) 30 (Tryz.f72.ntmps) [sv a] 1 Tryz.f72 true (sv (textQ (Rat.divInt (vZ (iD a)) (vZ (lB a))))):=
 wy [af h1,af h2] 129
--{
def lC (u:Nat):bZ (Lib.decDigits u)=true:=by
 unfold bZ;rw [List.all_eq_true];intro b hb;obtain⟨h1,h2⟩:=Dec.M3 u b hb;rw [az h1,az h2];rfl
def ve (u:Nat):bg (Lib.decDigits u)=(u:Int):=by
 induction u using Nat.strongRecOn with
 |_ u ih=>
  by_cases h:u<10
  .rw [mZ h,rk,Dec.zc u h];show(((48+u:Nat):Int)-48)*10^0+0=_;rw [Int.pow_zero];omega
  .rw [s5 h,OE,ih _ ω,rk,Dec.zc _ ω];show((u/10:Nat):Int)*10^1+((((48+u%10:Nat):Int)-48)*10^0+0)=_;rw [Int.pow_zero,Int.pow_succ,Int.pow_zero];omega
def H7 (u:Nat):Lib.decDigits u≠[]:=fun e=>by
 have:=Dec.Hg u;rw [e]at this;cases this
def Eg {u k:Nat} (h:(u:Int)<1000000000^k):(Lib.decDigits u).length<=9*k+1:=by
 have:=Oo (co (Int.natCast_nonneg u)).1;rw [(co (Int.natCast_nonneg u)).2.2,Int.toNat_natCast]at this;have h2:=HC (Int.natCast_nonneg u) h;omega
def Xf {u:Nat} (h:(Lib.decDigits u).length<=9):(u:Int)<1000000000:=by
 have h1:=BB (s:=⟨(Lib.decDigits u).toArray⟩) (by rw [show aq ⟨(Lib.decDigits u).toArray⟩=Lib.decDigits u from rfl];exact lC u) (Lib.decDigits u).length (aI _);rw [show aq ⟨(Lib.decDigits u).toArray⟩=Lib.decDigits u from rfl,dK,ve]at h1;have h2:(10:Int)^(Lib.decDigits u).length<=10^9:=iQ δ h;have:(10:Int)^9=1000000000:=rfl;omega
def tm {L R:List UInt8} (hL:L≠[]) (hd:bZ L=true):L++R≠[]/\((L++R).getD 0 0).toNat≠45:=by
 cases L with
 |nil=>exact absurd rfl hL
 |cons b l=>
  rw [BE,ae,ae,bE,bE]at hd;refine⟨by simp, ?_⟩;show b.toNat≠45;omega
def OU {s:AT} {neg:Bool} {M:List UInt8} (eB:M≠[]/\(M.getD 0 0).toNat≠45) (hs:aq s=if neg then 45::M else M):b5 s=neg/\aq (bO s)=M/\0<s.size:=by
 have hl:0<M.length:=List.length_pos_iff.2 eB.1;cases neg with
 |true=>
  have hs:aq s=45::M:=hs;have hz:s.size=M.length+1:=by rw [cP,hs];rfl
  have lz:(b9 s 0).toNat=45:=by show((aq s).getD 0 0).toNat=45;rw [hs];rfl
  have e1:b5 s=true:=by unfold b5;rw [az ω,az lz];rfl
  refine⟨e1, ?_,by omega⟩;unfold bO;rw [e1];show aq (s.extract 1 s.size)=M;rw [jQ,hs,hz,eH τ];rfl
 |false=>
  have hs:aq s=M:=hs;have hz:s.size=M.length:=by rw [cP,hs]
  have lz:¬(b9 s 0).toNat=45:=by show¬((aq s).getD 0 0).toNat=45;rw [hs];exact eB.2
  have e1:b5 s=false:=by unfold b5;rw [ab lz,Bool.and_false]
  refine⟨e1, ?_,by omega⟩;unfold bO;rw [e1];exact hs
def rx {neg:Bool} {M:List UInt8}:bf (if neg then 45::M else M)=bf M+(if neg then 1 else 0):=by
 cases neg with
 |true=>
  show(if(45:UInt8).toNat=47 then 0 else bf M+1)=bf M+1;rw [if_neg δ]
 |false=>rfl
def rE (n:Int):Lib.itoa n=if decide (n<0)then 45::Lib.decDigits n.natAbs else Lib.decDigits n.natAbs:=by
 by_cases h:n<0
 .rw [itoa_neg h,az h];rfl
 .rw [ib h,ab h];rfl
def OV {s:AT} {n:Int} (h:aq s=Lib.itoa n):jq s=n/\bZ (aq (bO s))=true:=by
 have h0:=tm (R:=[]) (H7 n.natAbs) (lC n.natAbs);rw [List.append_nil]at h0;obtain⟨h1,h2,h3⟩:=OU (neg:=decide (n<0)) h0 (by rw [h];exact rE n);unfold jq;rw [h1,h2,ve];refine⟨?_,lC _⟩;by_cases hn:n<0
 .rw [az hn];show-(n.natAbs:Int)=n;omega
 .rw [ab hn];show(n.natAbs:Int)=n;omega
def l7 (k:Nat) (r:Rat):Prop:=(r.num.natAbs:Int)<1000000000^k/\(r.den:Int)<1000000000^k
structure Xg (s:AT) (r:Rat):Prop where
 jc:okQs s=true
 pt:okPt s=true
 n:ptN s=r.num
 d:ptD s=r.den
 q:qB s=true->jr s=r.num/\gi s=r.den/\(r.num.natAbs:Int)<1000000000/\(r.den:Int)<1000000000
def BO {r:Rat} {k:Nat} (hk:k<=10000) (h:l7 k r):Xg (textQ r) r:=by
 obtain⟨hN,hD⟩:=h;have hdp:0<r.den:=r.den_pos;obtain⟨T,hT⟩:∃T:List UInt8,T=if r.den=1 then []else 47::Lib.decDigits r.den:=⟨_,rfl⟩
 have eB:=tm (R:=T) (H7 r.num.natAbs) (lC r.num.natAbs);have hb:aq (textQ r)=if decide (r.num<0)then 45::(Lib.decDigits r.num.natAbs++T)else Lib.decDigits r.num.natAbs++T:=by
  have e:aq (textQ r)=Lib.itoa r.num++T:=by
   rw [hT];unfold textQ;by_cases h1:r.den=1
   .rw [if_pos h1,if_pos h1,List.append_nil];exact jm _
   .rw [if_neg h1,if_neg h1,<-Dec.oz]
  rw [e,rE];by_cases hn:r.num<0
  .rw [az hn];rfl
  .rw [ab hn];rfl
 obtain⟨p1,p2,p3⟩:=OU eB hb;have aoC:=Eg hN;have Hx:=Eg hD;have au2:T.length<=9*k+2:=by rw [hT];split<;>simp;omega
 have p0:bf (Lib.decDigits r.num.natAbs++T)=(Lib.decDigits r.num.natAbs).length:=by
  rw [hT];split
  .rw [List.append_nil];exact D1 _ (lC _)
  .exact D2 _ _ (lC _)
 have hsz:(textQ r).size=(if decide (r.num<0)then 1 else 0)+((Lib.decDigits r.num.natAbs).length+T.length):=by
  rw [cP,hb];by_cases hn:r.num<0
  .rw [az hn];simp;omega
  .rw [ab hn];simp
 have Xh:(textQ r).size<=800000:=by rw [hsz];split<;>omega
 -- the text without its sign
 have hu:(bO (textQ r)).size=(Lib.decDigits r.num.natAbs).length+T.length:=by rw [cP,p2,cQ]
 have OW:s8 (textQ r)=(Lib.decDigits r.num.natAbs).length:=by unfold s8;rw [p2,p0]
 have x1:aq ((bO (textQ r)).extract 0 (Lib.decDigits r.num.natAbs).length)=Lib.decDigits r.num.natAbs:=by rw [jQ,p2,List.drop_zero,List.take_left'];rfl
 have x2:aq ((bO (textQ r)).extract ((Lib.decDigits r.num.natAbs).length+1) (bO (textQ r)).size)=T.drop 1:=by
  rw [jQ,p2,hu,<-cQ,dK,<-List.drop_drop,List.drop_left'];rfl
 have CJ:bZ (T.drop 1)=true:=by
  rw [hT];split
  .rfl
  .exact lC _
 have Xi:okQs (textQ r)=true:=by
  unfold okQs;rw [OW,x1,x2,CJ,lC,az p3,az Xh];rfl
 -- the text with its sign
 have H8:bf (aq (textQ r))=(if decide (r.num<0)then 1 else 0)+(Lib.decDigits r.num.natAbs).length:=by
  rw [hb,rx,p0];omega
 have y1:aq ((textQ r).extract 0 (bf (aq (textQ r))))=Lib.itoa r.num:=by
  rw [jQ,List.drop_zero,H8,hb,rE];by_cases hn:r.num<0
  .rw [az hn];show List.take (1+_) (45::_)=45::_;rw [Nat.add_comm,List.take_succ_cons,List.take_left'];rfl
  .rw [ab hn];show List.take (0+_) (Lib.decDigits r.num.natAbs++T)=Lib.decDigits r.num.natAbs;rw [aw,List.take_left'];rfl
 have y2:aq ((textQ r).extract (bf (aq (textQ r))+1) (textQ r).size)=T.drop 1:=by
  have HU:(textQ r).size=(aq (textQ r)).length:=cP _;rw [jQ,H8,HU,dK,hb];by_cases hn:r.num<0
  .rw [az hn];show List.drop (1+_+1) (45::_)=_;rw [Nat.add_right_comm,Nat.add_comm 1,Nat.add_assoc,Nat.add_comm,List.drop_succ_cons,Nat.add_comm,<-List.drop_drop,List.drop_left'];rfl
  .rw [ab hn];show List.drop (0+_+1) (Lib.decDigits r.num.natAbs++T)=_;rw [aw,<-List.drop_drop,List.drop_left'];rfl
 obtain⟨v1,v2⟩:=OV y1;have lI:r.den≠1->jq ((textQ r).extract (bf (aq (textQ r))+1) (textQ r).size)=r.den/\bZ (aq (bO ((textQ r).extract (bf (aq (textQ r))+1) (textQ r).size)))=true:=fun h1=>OV (n:=(r.den:Int)) (by rw [y2,hT,if_neg h1,Dec.oz];rfl)
 have gP:bZ (aq (bO ((textQ r).extract (bf (aq (textQ r))+1) (textQ r).size)))=true:=by
  by_cases h1:r.den=1
  .have e0:aq ((textQ r).extract (bf (aq (textQ r))+1) (textQ r).size)=[]:=by rw [y2,hT,if_pos h1];rfl
   have e1:b5 ((textQ r).extract (bf (aq (textQ r))+1) (textQ r).size)=false:=by
    unfold b5;rw [ab (by rw [cP,e0];decide)];rfl
   unfold bO;rw [e1];show bZ (aq _)=true;rw [e0];rfl
  .exact(lI h1).2
 refine⟨Xi, ?_,v1, ?_,fun hq=> ?_⟩
 .unfold okPt;rw [az Xh,v2,gP];rfl
 .unfold ptD;by_cases h1:r.den=1
  .rw [if_neg (by rw [H8,hsz,hT,if_pos h1];simp),h1];rfl
  .rw [if_pos (by rw [H8,hsz,hT,if_neg h1];simp)];exact(lI h1).1
 .have mN:=hq;unfold qB at hq;rw [OW,hu,ae,ae,bE,bE,bE]at hq;unfold jr gi Ee Ef;rw [mN,OW,p1,x1,x2,hu,ve];refine⟨?_, ?_,Xf hq.2.1, ?_⟩
  .show bk _ _=_;by_cases hn:r.num<0
   .rw [az hn];show-(r.num.natAbs:Int)=_;omega
   .rw [ab hn];show(r.num.natAbs:Int)=_;omega
  .rw [if_pos rfl];by_cases h1:r.den=1
   .rw [if_neg (by rw [hT,if_pos h1];simp),h1];rfl
   .rw [if_pos (by rw [hT,if_neg h1];simp),hT,if_neg h1];exact ve _
  .by_cases h1:r.den=1
   .omega
   .refine Xf ?_;have h3:=hq.2.2;rw [hT,if_neg h1]at h3;simp at h3;omega
--}
def xo (s:AT):Prop:=∃(r:Rat) (k:Nat),s=textQ r/\k<=10000/\l7 k r
noncomputable def isQ (s:AT):Bool:= @decide (xo s) (Classical.propDecidable _)
def toQ (s:AT):Rat:=Rat.divInt (ptN s) (ptD s)
def Xj:=IN 15 [.str, .str] [.str] true (fun d=>isQ d.1&&isQ d.2.1) fun d=>(textQ (toQ d.1*toQ d.2.1),())
def Xk:=IN 14 [.str, .str] [.str] true (fun d=>isQ d.1&&isQ d.2.1) fun d=>(textQ (toQ d.1+toQ d.2.1),())
def Xl:=IN 72 [.str] [.str] true (fun d=>isQ d.1&& !(ptN d.1==0)) fun d=>(textQ (toQ d.1)⁻¹,())
--{
def vg {s:AT}:isQ s=true↔xo s:= @decide_eq_true_iff _ (Classical.propDecidable _)
def BP {s:AT} {r:Rat} (F:Xg s r):toQ s=r:=by
 unfold toQ;rw [F.n,F.d];exact Rat.num_divInt_den r
def ml {r:Rat} {k:Nat} (hk:k<=10000) (h:l7 k r):isQ (textQ r)=true:=vg.2 ⟨r,k,rfl,hk,h⟩
def p6 {r:Rat} {k:Nat} (hk:k<=10000) (h:l7 k r):toQ (textQ r)=r:=BP (BO hk h)
def i8:bC prog (bF xm):=uM (fun c hc=>by
 simp only [en,ki,or_false]at hc;rcases hc with rfl |rfl
 .exact alM
 .exact alN) (cK fun c hc=>by
 simp only [en,ki,or_false]at hc;rcases hc with rfl |rfl |rfl |rfl |rfl |rfl
 .exact aoq
 .exact aou
 .exact W0
 .exact P1
 .exact Vs
 .exact Wv)
def cq {a b:Bool} (h:a=true) (g:b=true):(a&&b)=true:=by rw [h,g];rfl
section
variable {x y:Int} {i j:Nat} (hx:(x.natAbs:Int)<1000000000^i) (hy:(y.natAbs:Int)<1000000000^j)
def zG:((x*y).natAbs:Int)<1000000000^(i+j):=by
 rw [Int.natAbs_mul,Int.natCast_mul];exact VN (Int.natCast_nonneg _) (Int.natCast_nonneg _) hx hy
def aoD:((x+y).natAbs:Int)<1000000000^(max i j+1):=by
 have:=add_lt hx hy;have h2:(x+y).natAbs<=x.natAbs+y.natAbs:=Int.natAbs_add_le x y;omega
end
def Eh {x y:Int} (hx:(x.natAbs:Int)<1000000000) (hy:(y.natAbs:Int)<1000000000): -1000000000000000000<=x*y/\x*y<=1000000000000000000:=by
 have h1:x.natAbs*y.natAbs<=999999999*999999999:=Nat.mul_le_mul ω ω;have h2:(x*y).natAbs=x.natAbs*y.natAbs:=Int.natAbs_mul x y;rw [<-h2]at h1;omega
def OX {z:Int} (h:z≠0):(!(Nat.beq (mkR z).2.length 0))=true:=by
 rw [Bool.not_eq_true'];cases hb:Nat.beq (mkR z).2.length 0 with
 |false=>rfl
 |true=>
  have e:aK (z.natAbs:Int)=[]:=List.eq_nil_of_length_eq_zero (ac hb);have:=(Hr (Int.natCast_nonneg _)).1 e;omega
def zH (d:Nat):((d:Int).natAbs:Int)=(d:Int):=by omega
attribute [local irreducible] mkR vZ okZ textQ okPt okQs qB ptN ptD okA
def IR (a b:AT) (ha:xo a) (hb:xo b):Holds prog true 15 [sv a,sv b] (sv (textQ (toQ a*toQ b))):=by
 obtain⟨r,i,rfl,hi,hr⟩:=ha;obtain⟨s,j,rfl,hj,hs⟩:=hb;have F:=BO hi hr;have G:=BO hj hs;obtain⟨r1,r2⟩:=hr;obtain⟨s1,s2⟩:=hs;rw [BP F,BP G];have hrd:0<r.den:=r.den_pos;have aoE:0<s.den:=s.den_pos;have hD:0<(r.den:Int)*(s.den:Int):=Int.mul_pos ω ω;have ev:r*s=Rat.divInt (r.num*s.num) (r.den*s.den):=by rw [<-Rat.divInt_mul_divInt,Rat.num_divInt_den,Rat.num_divInt_den]
 have zI:okZ (mkR (ptN (textQ r)))=true:=by rw [F.n];exact jP r1 ω
 have Ei:okZ (mkR (ptN (textQ s)))=true:=by rw [G.n];exact jP s1 ω
 have vh:okZ (mkR (ptD (textQ r)))=true:=by rw [F.d];exact jP (k:=i) (by rw [zH];exact r2) ω
 have zJ:okZ (mkR (ptD (textQ s)))=true:=by rw [G.d];exact jP (k:=j) (by rw [zH];exact s2) ω
 have Ej:okZ (mkR (vZ (mkR (ptN (textQ r)))*vZ (mkR (ptN (textQ s)))))=true:=by rw [dU,dU,F.n,G.n];exact jP (zG r1 s1) ω
 have Ek:okZ (mkR (vZ (mkR (ptD (textQ r)))*vZ (mkR (ptD (textQ s)))))=true:=by rw [dU,dU,F.d,G.d];exact jP (zG (i:=i) (j:=j) (by rw [zH];exact r2) (by rw [zH];exact s2)) ω
 have El:(!(Nat.beq (mkR (vZ (mkR (ptD (textQ r)))*vZ (mkR (ptD (textQ s))))).2.length 0))=true:=by rw [dU,dU,F.d,G.d];exact OX ω
 have e:Rat.divInt (vZ (mkR (vZ (lB (textQ r))*vZ (lB (textQ s))))) (vZ (mkR (vZ (iD (textQ r))*vZ (iD (textQ s)))))=r*s:=by
  unfold lB iD;rw [dU,dU,dU,dU,dU,dU,F.n,F.d,G.n,G.d,ev]
 refine bL (c:=HZ) func15 rfl rfl fun w0 Xm=> ?_
 cases vk:qB (textQ r)with
 |false=>
  rw [<-e];exact bw i8 30 (aow (textQ r) (textQ s) F.jc G.jc vk F.pt G.pt (cq zI Ei) (cq vh zJ) (cq Ej (cq Ek El)))
 |true=>
  cases fX:qB (textQ s)with
  |false=>
   rw [<-e];exact bw i8 30 (aox (textQ r) (textQ s) F.jc G.jc vk fX F.pt G.pt (cq zI Ei) (cq vh zJ) (cq Ej (cq Ek El)))
  |true=>
   obtain⟨f1,f2,f3,f4⟩:=F.q vk;obtain⟨g1,g2,g3,g4⟩:=G.q fX;have m1:=Eh f3 g3;have m2:=Eh (x:=r.den) (y:=s.den) ω ω;have key:=aov (textQ r) (textQ s) F.jc G.jc vk fX;rw [f1,f2,g1,g2,<-ev]at key;exact bw i8 30 (key ω ω (cq (cq (az (show(-4000000000000000000:Int)<=r.num*s.num by omega)) (az (show r.num*s.num<=(4000000000000000000:Int) by omega))) (cq (az hD) (az (show(r.den:Int)*(s.den:Int)<=(4000000000000000000:Int) by omega)))))
def Xn:Xj.Ok prog:=fun⟨a,b,_⟩ h=>by
 have h:(isQ a&&isQ b)=true:=h;rw [ae]at h;exact IR a b (vg.1 h.1) (vg.1 h.2)
def IS (a b:AT) (ha:xo a) (hb:xo b):Holds prog true 14 [sv a,sv b] (sv (textQ (toQ a+toQ b))):=by
 obtain⟨r,i,rfl,hi,hr⟩:=ha;obtain⟨s,j,rfl,hj,hs⟩:=hb;have F:=BO hi hr;have G:=BO hj hs;obtain⟨r1,r2⟩:=hr;obtain⟨s1,s2⟩:=hs;rw [BP F,BP G];have hrd:0<r.den:=r.den_pos;have aoE:0<s.den:=s.den_pos;have hD:0<(r.den:Int)*(s.den:Int):=Int.mul_pos ω ω;have BQ:((r.den:Int).natAbs:Int)<1000000000^i:=by rw [zH];exact r2
 have s2':((s.den:Int).natAbs:Int)<1000000000^j:=by rw [zH];exact s2
 have ev:r+s=Rat.divInt (r.num*s.den+s.num*r.den) (r.den*s.den):=by rw [<-Rat.divInt_add_divInt _ _ ω ω,Rat.num_divInt_den,Rat.num_divInt_den]
 have zI:okZ (mkR (ptN (textQ r)))=true:=by rw [F.n];exact jP r1 ω
 have Ei:okZ (mkR (ptN (textQ s)))=true:=by rw [G.n];exact jP s1 ω
 have vh:okZ (mkR (ptD (textQ r)))=true:=by rw [F.d];exact jP BQ ω
 have zJ:okZ (mkR (ptD (textQ s)))=true:=by rw [G.d];exact jP s2' ω
 have Xo:okZ (mkR (vZ (mkR (ptN (textQ r)))*vZ (mkR (ptD (textQ s)))))=true:=by rw [dU,dU,F.n,G.d];exact jP (zG r1 s2') ω
 have eG:okZ (mkR (vZ (mkR (ptN (textQ s)))*vZ (mkR (ptD (textQ r)))))=true:=by rw [dU,dU,G.n,F.d];exact jP (zG s1 BQ) ω
 have Ej:okZ (mkR (vZ (mkR (vZ (mkR (ptN (textQ r)))*vZ (mkR (ptD (textQ s)))))+vZ (mkR (vZ (mkR (ptN (textQ s)))*vZ (mkR (ptD (textQ r)))))))=true:=by
  rw [dU,dU,dU,dU,dU,dU,F.n,G.d,G.n,F.d];exact jP (aoD (zG r1 s2') (zG s1 BQ)) ω
 have Ek:okZ (mkR (vZ (mkR (ptD (textQ r)))*vZ (mkR (ptD (textQ s)))))=true:=by rw [dU,dU,F.d,G.d];exact jP (zG BQ s2') ω
 have El:(!(Nat.beq (mkR (vZ (mkR (ptD (textQ r)))*vZ (mkR (ptD (textQ s))))).2.length 0))=true:=by rw [dU,dU,F.d,G.d];exact OX ω
 have e:Rat.divInt (vZ (mkR (vZ (mkR (vZ (lB (textQ r))*vZ (iD (textQ s))))+vZ (mkR (vZ (lB (textQ s))*vZ (iD (textQ r))))))) (vZ (mkR (vZ (iD (textQ r))*vZ (iD (textQ s)))))=r+s:=by
  unfold lB iD;rw [dU,dU,dU,dU,dU,dU,dU,dU,F.n,F.d,G.n,G.d,ev]
 refine bL (c:=H6) func14 rfl rfl fun w0 Xm=> ?_
 cases vk:qB (textQ r)with
 |false=>
  rw [<-e];exact bw i8 30 (aoz (textQ r) (textQ s) F.jc G.jc vk F.pt G.pt (cq zI zJ) (cq Ei vh) (cq Xo eG) (cq vh zJ) (cq Ej (cq Ek El)))
 |true=>
  cases fX:qB (textQ s)with
  |false=>
   rw [<-e];exact bw i8 30 (aoA (textQ r) (textQ s) F.jc G.jc vk fX F.pt G.pt (cq zI zJ) (cq Ei vh) (cq Xo eG) (cq vh zJ) (cq Ej (cq Ek El)))
  |true=>
   obtain⟨f1,f2,f3,f4⟩:=F.q vk;obtain⟨g1,g2,g3,g4⟩:=G.q fX;have m1:=Eh (y:=(s.den:Int)) f3 ω;have m3:=Eh (y:=(r.den:Int)) g3 ω;have m2:=Eh (x:=r.den) (y:=s.den) ω ω;have key:=aoy (textQ r) (textQ s) F.jc G.jc vk fX;rw [f1,f2,g1,g2,<-ev]at key;exact bw i8 30 (key ω ω ω ω (cq (cq (az (show(-4000000000000000000:Int)<=r.num*(s.den:Int)+s.num*(r.den:Int) by omega)) (az (show r.num*(s.den:Int)+s.num*(r.den:Int)<=(4000000000000000000:Int) by omega))) (cq (az hD) (az (show(r.den:Int)*(s.den:Int)<=(4000000000000000000:Int) by omega)))))
def aoF:Xk.Ok prog:=fun⟨a,b,_⟩ h=>by
 have h:(isQ a&&isQ b)=true:=h;rw [ae]at h;exact IS a b (vg.1 h.1) (vg.1 h.2)
def IT (a:AT) (ha:xo a) (h0:ptN a≠0):Holds prog true 72 [sv a] (sv (textQ (toQ a)⁻¹)):=by
 obtain⟨r,i,rfl,hi,hr⟩:=ha;have F:=BO hi hr;obtain⟨r1,r2⟩:=hr;rw [BP F];have BQ:((r.den:Int).natAbs:Int)<1000000000^i:=by rw [zH];exact r2
 have ev:r⁻¹ =Rat.divInt r.den r.num:=by
  have:=Rat.inv_divInt r.num r.den;rw [Rat.num_divInt_den]at this;exact this
 have zI:okZ (mkR (ptN (textQ r)))=true:=by rw [F.n];exact jP r1 ω
 have vh:okZ (mkR (ptD (textQ r)))=true:=by rw [F.d];exact jP BQ ω
 have e:Rat.divInt (vZ (iD (textQ r))) (vZ (lB (textQ r)))=r⁻¹ :=by
  unfold lB iD;rw [dU,dU,F.n,F.d,ev]
 refine bL (c:=Xe) func72 rfl rfl fun w0 Xm=> ?_
 rw [<-e];exact bw i8 30 (aoB (textQ r) F.pt (cq vh (cq zI (OX h0))))
def aoG:Xl.Ok prog:=fun⟨a,_⟩ h=>by
 have h:(isQ a&& !(ptN a==0))=true:=h;rw [ae,Bool.not_eq_true',e8]at h;exact IT a (vg.1 h.1) h.2
--}
end
noncomputable section
def vn:=k_a f137
def Em:=k_a f75
def aoH:=bc [Xj,Xl]
def nS (s:AT) (k:Nat):bD:={n:=20,sl:=[(0,sv s),(3,iv k)],bJ:=[],next:=64}
abbrev En:List Nat:=[1,0,1,0,0]
def aoI (s:AT):
  cZ (bc []) (fl vn []) 2 20 [sv s] 1 .normal [] (nS s 0):=
 wy [] 0
section
variable (s:AT) (k:Nat) (h1:(k:Int)<(s.size:Int)) (h2:k<s.size)
def aoJ (h3:(↑(UInt8.toNat (s.data.toList.getD k (0:UInt8))):Int)<48):
  bS (bc []) (fl vn En) (nS s k) 225 f137 true (bv false):=
 wy [ah h1,ah h2,af (bq (az h3)),ah h3] 17801616826369
def UP (h3:¬(↑(UInt8.toNat (s.data.toList.getD k (0:UInt8))):Int)<48) (h4:(↑(UInt8.toNat (s.data.toList.getD k (0:UInt8))):Int)>57):
  bS (bc []) (fl vn En) (nS s k) 223 f137 true (bv false):=
 wy [ah h1,ah h2,af (bq (ab h3)),aJ h3,ah h4] 5837518341367668737
def aoK (h3:¬(↑(UInt8.toNat (s.data.toList.getD k (0:UInt8))):Int)<48) (h4:¬(↑(UInt8.toNat (s.data.toList.getD k (0:UInt8))):Int)>57) (h5:i6 ((k:Int)+1)):
  bt (bc []) (fl vn En) (nS s k) 159 .normal [] (nS s (k+1)):=
 wy [ah h1,ah h2,af (bq (ab h3)),aJ h3,aJ h4,yi h5] 448559376110396907521
end
def aoL (s:AT) (k:Nat) (h1:¬(k:Int)<(s.size:Int)):
  bt (bc []) (fl vn En) (nS s k) 2 (.exit 0) [] (nS s k):=
 wy [aJ h1] 1
def aoM (s:AT) (k:Nat):
  bS (bc []) ((fl vn []).drop 3) (nS s k) 1 f137 true (bv true):=
 wy [] 0
def Xp:=IN 137 [.str] [.bool] true (fun d=>decide (d.1.size<=1000000000)) fun d=>(bZ (aq d.1),())
def Eo:=bc [Xp]
def aoN (s:AT) (h1:(s.size:Int)=0):
  bh Eo (fl Em []) 9 18 [sv s] 224 f75 true (bv false):=
 wy [af (bq (fU.mpr h1)),cX h1] 2164527169
section
variable (s:AT) (h1:¬(s.size:Int)=0) (h2:(s.size:Int)>1) (h3:Int.toNat 0<s.size)
def aoO (h4:(↑(UInt8.toNat (s.data.toList.getD (Int.toNat 0) (0:UInt8))):Int)=48):
  bh Eo (fl Em []) 9 18 [sv s] 3583 f75 true (bv false):=
 wy [af (bq (e8.mpr h1)),af (aM (az h2)),ah h3,ah h2,yn h1,cX h4] 28707764055255273443393
def aoP (h4:¬(↑(UInt8.toNat (s.data.toList.getD (Int.toNat 0) (0:UInt8))):Int)=48) (h5:s.size<=1000000000):
  bh Eo (fl Em []) 9 18 [sv s] 2559 f75 true (bv (bZ (aq s))):=
 wy [af (bq (e8.mpr h1)),af (aM (az h2)),ah h3,ah h2,yn h1,yn h4,ah h5] 2144327948380856329179201
end
def aoQ (s:AT) (h1:¬(s.size:Int)=0) (h2:¬(s.size:Int)>1) (h3:s.size<=1000000000):
  bh Eo (fl Em []) 9 18 [sv s] 2191 f75 true (bv (bZ (aq s))):=
 wy [af (bq (e8.mpr h1)),af (aM (ab h2)),aJ h2,yn h1,ah h3] 369007788030825861185
def cA (s:AT):Bool:=decide (0<s.size)&&((decide (s.size<=1)|| !(decide ((b9 s 0).toNat=48)))&&bZ (aq s))
def Xq:=IN 75 [.str] [.bool] true (fun d=>decide (d.1.size<=1000000000)) fun d=>(cA d.1,())
def au3:bC prog (bF aoH):=cK (aP Xn (aP aoG dQ))
def aoR (s:AT) (hl:s.size<=1000000000):Holds prog true 137 [sv s] (bv (bZ (aq s))):=by
 have hS:=cC;have hz:=cP s;refine bL (c:=vn) func137 rfl rfl fun w F=> ?_
 refine cJ hS 2 (aoI s) ?_;refine aU.loop (ι:={k:Nat//k<=s.size/\bZ ((aq s).take k)=true}) (id:=0) (b:=cat vn En) (rest:=(fl vn []).drop 3) (by kernel_rfl) (fun k=>nS s k.1) (fun k=>s.size-k.1) ⟨0,Nat.zero_le _,by rw [List.take_zero];rfl⟩ (fun _=>rfl) ?_;rintro⟨k,hk,hd⟩;by_cases hlt:k<s.size
 .have hmem:b9 s k∈aq s:=by rw [zo ω];exact List.getElem_mem _
  have hno:¬(48<=(b9 s k).toNat/\(b9 s k).toNat<=57)->bZ (aq s)=false:=fun hn=>by
   rw [Bool.eq_false_iff];intro h;have:=List.all_eq_true.1 h _ hmem;rw [ae,bE,bE]at this;exact hn this
  by_cases h1:(b9 s k).toNat<48
  .rw [hno ω];exact bX (s:=nS s k) hS (aoJ s k ω hlt (by show((b9 s k).toNat:Int)<48;omega))
  .by_cases h2:57<(b9 s k).toNat
   .rw [hno ω];exact bX (s:=nS s k) hS (UP s k ω hlt (by show¬((b9 s k).toNat:Int)<48;omega) (by show((b9 s k).toNat:Int)>57;omega))
   .refine bx (s:=nS s k) hS (aoK s k ω hlt (by show¬((b9 s k).toNat:Int)<48;omega) (by show¬((b9 s k).toNat:Int)>57;omega) ω) ?_;refine⟨⟨k+1,hlt, ?_⟩,by show s.size-(k+1)<s.size-k;omega,rfl,rfl⟩;rw [zt ω,HW];refine⟨hd, ?_⟩;show bZ [b9 s k]=true;rw [BE,az ω,az ω];rfl
 .refine bx (s:=nS s k) hS (aoL s k ω) ?_;refine cy (cF ?_);rw [eH ω]at hd;rw [hd];exact bX (s:=nS s k) hS (aoM s k)
def aoS:Xp.Ok prog:=fun⟨s,_⟩ h=>aoR s (ap h)
def aoT:bC prog (bF Eo):=cK (aP aoS dQ)
def aoU (s:AT) (hl:s.size<=1000000000):Holds prog true 75 [sv s] (bv (cA s)):=by
 have hS:=aoT;refine bL (c:=Em) func75 rfl rfl fun w F=> ?_
 unfold cA;by_cases h0:s.size=0
 .rw [ab (show¬0<s.size by omega),Bool.false_and];exact bw hS 9 (aoN s ω)
 .rw [az (show 0<s.size by omega),Bool.true_and];by_cases h1:s.size<=1
  .rw [az h1,Bool.true_or,Bool.true_and];exact bw hS 9 (aoQ s ω ω hl)
  .rw [ab h1,Bool.false_or];by_cases h2:(b9 s 0).toNat=48
   .rw [az h2,Bool.not_true,Bool.false_and];exact bw hS 9 (aoO s ω ω (by show 0<s.size;omega) (by show((b9 s 0).toNat:Int)=48;omega))
   .rw [ab h2,Bool.not_false,Bool.true_and];exact bw hS 9 (aoP s ω ω (by show 0<s.size;omega) (by show¬((b9 s 0).toNat:Int)=48;omega) hl)
def aoV:Xq.Ok prog:=fun⟨s,_⟩ h=>aoU s (ap h)
def iE:=k_a Tryz.f20
def jU:=bc [BC,Xq,OK,NH]
def dz (s u:AT) (k:Int):bD:={n:=96,sl:=[(0,sv s),(3,sv u),(4,iv k)],bJ:=[],next:=64}
section
variable (s:AT) (h1:(s.size:Int)>0) (h2:Int.toNat 0<s.size)
def aoW (h3:¬(↑(UInt8.toNat (s.data.toList.getD (Int.toNat 0) (0:UInt8))):Int)=45) (h4:s.size<=1000000000):
  cZ jU (fl iE []) 5 96 [sv s] 47 .normal [] (dz s s (bf (aq s))):=
 wy [af (aM (az h1)),ah h2,ah h1,yn h3,ah h4] 22268348989505
def aoX (h3:(↑(UInt8.toNat (s.data.toList.getD (Int.toNat 0) (0:UInt8))):Int)=45) (h4:Int.toNat 1<=s.size) (h5:(s.extract (Int.toNat 1) s.size).size<=1000000000) (h6:(s.extract (Int.toNat 1) s.size)=(s.extract 1 s.size)) (h7:(↑(bf (s.extract (Int.toNat 1) s.size).data.toList):Int)=(↑(bf (s.extract 1 s.size).data.toList):Int)):
  cZ jU (fl iE []) 5 96 [sv s] 63 .normal [] (dz s (s.extract 1 s.size) (bf (aq (s.extract 1 s.size)))):=
 wy [af (aM (az h1)),ah h2,ah h1,cX h3,ah h4,ah (by omega:s.size<=s.size),ah h5,ax h6,ax h7] 2757870205940449109606465
end
def aoY (s:AT) (h1:¬(s.size:Int)>0) (h2:s.size<=1000000000):
  cZ jU (fl iE []) 5 96 [sv s] 32 .normal [] (dz s s (bf (aq s))):=
 wy [af (aM (ab h1)),aJ h1,ah h2] 3221753921
section
variable (s u:AT) (k:Int) (h1:0<=k) (h2:k.toNat<=u.size) (h3:(u.extract 0 k.toNat).size<=1000000000)
def aoZ (h4:(cA (u.extract 0 k.toNat))=false):
  bS jU ((fl iE []).drop 5) (dz s u k) 224 Tryz.f20 true (iv 1):=
 wy [ah h1,ah h2,ah h3,af (bq (cj (h4))),af (cj (h4))] 91215763881074689
def ao0 (h4:(cA (u.extract 0 k.toNat))=true) (h5:Int.toNat 0<s.size) (h6:(↑(UInt8.toNat (s.data.toList.getD (Int.toNat 0) (0:UInt8))):Int)=45) (h7:((u.extract 0 k.toNat).data).toList=((ByteArray.mk (#[(48:UInt8)])).data).toList):
  bS jU ((fl iE []).drop 5) (dz s u k) 7167 Tryz.f20 true (iv 1):=
 wy [ah h1,ah h2,ah h3,af (bq (cj (h4))),ah h5,af (aM (fU.mpr h6)),cX h6,af (cj (h4)),ah h7] 12131497851667756158528324735890890753
def ao1 (h4:(cA (u.extract 0 k.toNat))=true) (h5:Int.toNat 0<s.size) (h6:(↑(UInt8.toNat (s.data.toList.getD (Int.toNat 0) (0:UInt8))):Int)=45) (h7:¬((u.extract 0 k.toNat).data).toList=((ByteArray.mk (#[(48:UInt8)])).data).toList):
  cY jU ((fl iE []).drop 5) 2 (dz s u k) 5119 .normal [] (dz s u k):=
 wy [ah h1,ah h2,ah h3,af (bq (cj (h4))),ah h5,af (aM (fU.mpr h6)),cX h6,af (cj (h4)),aJ h7] 12131497851667756158528324735890890753
def ao2 (h4:(cA (u.extract 0 k.toNat))=true) (h5:Int.toNat 0<s.size) (h6:¬(↑(UInt8.toNat (s.data.toList.getD (Int.toNat 0) (0:UInt8))):Int)=45):
  cY jU ((fl iE []).drop 5) 2 (dz s u k) 4367 .normal [] (dz s u k):=
 wy [ah h1,ah h2,ah h3,af (bq (cj (h4))),ah h5,af (aM (e8.mpr h6)),yn h6,af (cj (h4))] 642570093814208610386670526465
end
section
variable (s u:AT) (k:Int)
def UV (h1:¬k<(u.size:Int)):
  cY jU ((fl iE []).drop 7) 2 (dz s u k) 4096 .normal [] (dz s u k):=
 wy [af (aM (ab h1)),aJ h1] 2324143350556659777
def ao3 (h1:k<(u.size:Int)) (h2:i6 (k+1)) (h3:0<=k+1) (h4:(k+1).toNat<=u.size) (h5:(u.extract (k+1).toNat u.size).size<=1000000000) (h6:(cA (u.extract (k+1).toNat u.size))=false):
  bS jU ((fl iE []).drop 7) (dz s u k) 32534655 Tryz.f20 true (iv 1):=
 wy [af (aM (az h1)),yi h2,ah h3,ah h4,ah (by omega:u.size<=u.size),ah h5,af (bq (cj (h6))),af (cj (h6)),ah h1] 52615486191605234386183578337711327053139317100609
def ao4 (h1:k<(u.size:Int)) (h2:i6 (k+1)) (h3:0<=k+1) (h4:(k+1).toNat<=u.size) (h5:(u.extract (k+1).toNat u.size).size<=1000000000) (h6:(cA (u.extract (k+1).toNat u.size))=true) (h7:((u.extract (k+1).toNat u.size).data).toList=((ByteArray.mk (#[(48:UInt8)])).data).toList):
  bS jU ((fl iE []).drop 7) (dz s u k) 32530431 Tryz.f20 true (iv 1):=
 wy [af (aM (az h1)),yi h2,ah h3,ah h4,ah (by omega:u.size<=u.size),ah h5,af (bq (cj (h6))),af (cj (h6)),af (bq (az h7)),ah h7,ah h1] 1094229182170043027733640569609741686283412839940049342529
def ao5 (h1:k<(u.size:Int)) (h2:i6 (k+1)) (h3:0<=k+1) (h4:(k+1).toNat<=u.size) (h5:(u.extract (k+1).toNat u.size).size<=1000000000) (h6:(cA (u.extract (k+1).toNat u.size))=true) (h7:¬((u.extract (k+1).toNat u.size).data).toList=((ByteArray.mk (#[(48:UInt8)])).data).toList) (h8:((u.extract (k+1).toNat u.size).data).toList=((ByteArray.mk (#[(49:UInt8)])).data).toList):
  bS jU ((fl iE []).drop 7) (dz s u k) 31449087 Tryz.f20 true (iv 1):=
 wy [af (aM (az h1)),yi h2,ah h3,ah h4,ah (by omega:u.size<=u.size),ah h5,af (bq (cj (h6))),af (cj (h6)),af (bq (ab h7)),aJ h7,ah h1,ah h8] 1282105618965331399306456053895005741220147403057679523796635619393
def ao6 (h1:k<(u.size:Int)) (h2:i6 (k+1)) (h3:0<=k+1) (h4:(k+1).toNat<=u.size) (h5:(u.extract (k+1).toNat u.size).size<=1000000000) (h6:(cA (u.extract (k+1).toNat u.size))=true) (h7:¬((u.extract (k+1).toNat u.size).data).toList=((ByteArray.mk (#[(48:UInt8)])).data).toList) (h8:¬((u.extract (k+1).toNat u.size).data).toList=((ByteArray.mk (#[(49:UInt8)])).data).toList):
  cY jU ((fl iE []).drop 7) 2 (dz s u k) 23060479 .normal [] (dz s u k):=
 wy [af (aM (az h1)),yi h2,ah h3,ah h4,ah (by omega:u.size<=u.size),ah h5,af (bq (cj (h6))),af (cj (h6)),af (bq (ab h7)),aJ h7,ah h1,aJ h8] 1282105618965331399306456053895005741220147403057679523796635619393
def ao7 (h1:k>600):
  bS jU ((fl iE []).drop 9) (dz s u k) 448 Tryz.f20 true (iv 4):=
 wy [af (bq (az h1)),ah h1] 138529738817
def ao8 (h1:¬k>600) (h2:i6 ((u.size:Int)-k)) (h3:i6 ((u.size:Int)-k-1)) (h4:(u.size:Int)-k-1>600):
  bS jU ((fl iE []).drop 9) (dz s u k) 447 Tryz.f20 true (iv 4):=
 wy [af (bq (ab h1)),yi h2,yi h3,aJ h1,ah h4] 91202497766756417
def ao9 (h1:¬k>600) (h2:i6 ((u.size:Int)-k)) (h3:i6 ((u.size:Int)-k-1)) (h4:¬(u.size:Int)-k-1>600):
  cY jU ((fl iE []).drop 9) 2 (dz s u k) 319 .normal [] (dz s u k):=
 wy [af (bq (ab h1)),yi h2,yi h3,aJ h1,aJ h4] 91202497766756417
def apa (h1:¬k<(u.size:Int)):
  bS jU ((fl iE []).drop 11) (dz s u k) 2 Tryz.f20 true (iv 0):=
 wy [aJ h1] 1
def apb (h1:k<(u.size:Int)) (h2:(okPt u)=true) (h3:(okA (mkR (ptN u)).2&&okA (mkR (ptD u)).2)=true) (h4:¬(↑(aK (↑(Int.gcd (ag (mkR (ptN u)).2) (ag (mkR (ptD u)).2)):Int)).length:Int)=1):
  bS jU ((fl iE []).drop 11) (dz s u k) 225 Tryz.f20 true (iv 1):=
 wy [ah h1,af h2,af h3,af (bq (gC.mpr h4)),af (gC.mpr h4)] 22269473599617
def apc (h1:k<(u.size:Int)) (h2:(okPt u)=true) (h3:(okA (mkR (ptN u)).2&&okA (mkR (ptD u)).2)=true) (h4:(↑(aK (↑(Int.gcd (ag (mkR (ptN u)).2) (ag (mkR (ptD u)).2)):Int)).length:Int)=1) (h5:Int.toNat 0<(aK (↑(Int.gcd (ag (mkR (ptN u)).2) (ag (mkR (ptD u)).2)):Int)).length) (h6:¬(aK (↑(Int.gcd (ag (mkR (ptN u)).2) (ag (mkR (ptD u)).2)):Int)).getD (Int.toNat 0) 0=1):
  bS jU ((fl iE []).drop 11) (dz s u k) 223 Tryz.f20 true (iv 1):=
 wy [ah h1,af h2,af h3,af (bq (eR.mpr h4)),ah h5,af (eR.mpr h4),af (gC.mpr h6)] 8179680759063261313
def apd (h1:k<(u.size:Int)) (h2:(okPt u)=true) (h3:(okA (mkR (ptN u)).2&&okA (mkR (ptD u)).2)=true) (h4:(↑(aK (↑(Int.gcd (ag (mkR (ptN u)).2) (ag (mkR (ptD u)).2)):Int)).length:Int)=1) (h5:Int.toNat 0<(aK (↑(Int.gcd (ag (mkR (ptN u)).2) (ag (mkR (ptD u)).2)):Int)).length) (h6:(aK (↑(Int.gcd (ag (mkR (ptN u)).2) (ag (mkR (ptD u)).2)):Int)).getD (Int.toNat 0) 0=1):
  bS jU ((fl iE []).drop 11) (dz s u k) 159 Tryz.f20 true (iv 0):=
 wy [ah h1,af h2,af h3,af (bq (eR.mpr h4)),ah h5,af (eR.mpr h4),af (eR.mpr h6)] 8179680759063261313
end
def zK (neg:Bool) (u:AT) (k:Nat):Int:=
 if cA (u.extract 0 k)=false then 1
 else if neg=true/\aq (u.extract 0 k)=[48]then 1
 else if k<u.size/\(cA (u.extract (k+1) u.size)=false\/aq (u.extract (k+1) u.size)=[48]\/aq (u.extract (k+1) u.size)=[49])then 1
 else if 600<k\/601+k<u.size then 4
 else if k<u.size/\Int.gcd (bg (aq (u.extract 0 k))) (bg (aq (u.extract (k+1) u.size)))≠1 then 1
 else 0
def ckR (s:AT):Int:=zK (b5 s) (bO s) (bf (aq (bO s)))
def OY:=IN 20 [.str] [.int .i64] true (fun d=>decide (d.1.size<=1000000000)) fun d=>(ckR d.1,())
--{
def Xr:bC prog (bF jU):=cK (aP D0 (aP aoV (aP W0 (aP VP dQ))))
def OZ {t:AT} (h:bZ (aq t)=true):b5 t=false/\bO t=t:=by
 have e:b5 t=false:=by
  unfold b5;by_cases h0:0<t.size
  .have hm:b9 t 0∈aq t:=by rw [zo (by rw [<-cP];exact h0)];exact List.getElem_mem _
   have:=List.all_eq_true.1 h _ hm;rw [ae,bE,bE]at this;rw [ab (show¬(b9 t 0).toNat=45 by omega),Bool.and_false]
  .rw [ab h0];rfl
 refine⟨e, ?_⟩;unfold bO;rw [e]
def Xt {t:AT} (h:bZ (aq t)=true):jq t=bg (aq t):=by
 obtain⟨h1,h2⟩:=OZ h;unfold jq;rw [h1,h2];rfl
def tn:∀n:Nat,(10:Int)^n<=1000000000^n
 |0=>by simp
 |n+1=>by
  rw [Int.pow_succ,Int.pow_succ];have h1:=tn n;have h2:=dR (b:=10) δ n;omega
def Xu {z:Int} (h:0<=z):ag (mkR z).2=z:=by
 show ag (aK (z.natAbs:Int))=z;rw [(co (Int.natCast_nonneg _)).2.2];omega
def Xv {t:AT} (h:bZ (aq t)=true) (hl:t.size<=100000):okA (mkR (bg (aq t))).2=true:=by
 have h1:=u7 h;have h2:=tn t.size;show okA (aK ((bg (aq t)).natAbs:Int))=true;exact zr (k:=t.size) (Int.natCast_nonneg _) ω hl
def xp {t:AT} (h:cA t=true):bZ (aq t)=true/\0<t.size:=by
 unfold cA at h;rw [ae,ae,bE]at h;exact⟨h.2.2,h.1⟩
abbrev O0 (e:Int):Exit->au aa->ai->Prop:=hG prog true f20 (iv e)
def O1 (s u:AT) (neg:Bool) (hl:u.size<=1000000000) (hs:0<u.size->0<s.size) (hn:neg=true↔(0<s.size/\(b9 s 0).toNat=45)) (w:World) (F:Sv.Env):
  aU prog w F 96 ((fl iE []).drop 5) (dz s u (bf (aq u))).T (dz s u (bf (aq u))).H (O0 (zK neg u (bf (aq u)))):=by
 have hS:=Xr;have hle:bf (aq u)<=u.size:=by rw [cP];exact BD _
 obtain⟨k,hk⟩:∃k,bf (aq u)=k:=⟨_,rfl⟩;rw [hk]at hle ⊢;have u9:(k:Int).toNat=k:=by omega
 have HY:((k:Int)+1).toNat=k+1:=by omega
 have hz:=lu u 0 k hle;have k6:=lu u (k+1) u.size (aI _);have au4:((ByteArray.mk (#[(48:UInt8)])).data).toList=[48]:=rfl;have au5:((ByteArray.mk (#[(49:UInt8)])).data).toList=[49]:=rfl;unfold zK;cases ha:cA (u.extract 0 k)with
 |false=>
  rw [if_pos rfl];have key:=aoZ s u (k:Int) ω;rw [u9]at key;exact bX (s:=dz s u k) hS (key hle ω ha)
 |true=>
  rw [if_neg δ];obtain⟨da,pa⟩:=xp ha;have hs0:0<s.size:=hs ω
  -- behind the second part
  have rest:(¬(k<u.size/\(cA (u.extract (k+1) u.size)=false\/aq (u.extract (k+1) u.size)=[48]\/aq (u.extract (k+1) u.size)=[49])))->aU prog w F 96 ((fl iE []).drop 9) (dz s u k).T (dz s u k).H (O0 (if 600<k\/601+k<u.size then 4 else if k<u.size/\Int.gcd (bg (aq (u.extract 0 k))) (bg (aq (u.extract (k+1) u.size)))≠1 then 1 else 0)):=fun hno=>by
   by_cases h6:600<k
   .rw [if_pos (.inl h6)];exact bX (s:=dz s u k) hS (ao7 s u (k:Int) ω)
   .by_cases h7:601+k<u.size
    .rw [if_pos (.inr h7)];exact bX (s:=dz s u k) hS (ao8 s u (k:Int) ω ω ω ω)
    .rw [if_neg ω];refine c6 (s:=dz s u k) hS 2 (ao9 s u (k:Int) ω ω ω ω) ?_;by_cases hlt:k<u.size
     .have db:bZ (aq (u.extract (k+1) u.size))=true:=by
       cases hb:cA (u.extract (k+1) u.size)with
       |false=>exact absurd ⟨hlt, .inl hb⟩ hno
       |true=>exact(xp hb).1
      have hpt:okPt u=true:=by
       unfold okPt;rw [hk,(OZ da).2,(OZ db).2,da,db,az ω];rfl
      have e1:ptN u=bg (aq (u.extract 0 k)):=by unfold ptN;rw [hk];exact Xt da
      have e2:ptD u=bg (aq (u.extract (k+1) u.size)):=by unfold ptD;rw [hk,if_pos hlt];exact Xt db
      have o1:=Xv da ω;have o2:=Xv db ω;have b1:=u7 da;have b2:=u7 db;have k1:=apb s u (k:Int) ω hpt;have k2:=apc s u (k:Int) ω hpt;have dN:=apd s u (k:Int) ω hpt;rw [e1,e2,Xu b1.1,Xu b2.1]at k1 k2 dN;generalize bg (aq (u.extract 0 k))=A at*;generalize bg (aq (u.extract (k+1) u.size))=B at*;have kr:=cq o1 o2;by_cases hg:Int.gcd A B=1
      .rw [if_neg (fun h=>h.2 hg)];have e3:aK ((Int.gcd A B:Nat):Int)=[1]:=by
        rw [hg];have h11:e5 [(1:Int)]:=fun k hk=>by
         obtain rfl:k=0:=by simpa using hk.symm
         show(1:Int)≠0;decide
        have:=BY (l:=[(1:Int)]) (.cons (show(0:Int)<=1/\(1:Int)<1000000000 by decide) .nil) h11;rw [show ag [(1:Int)]=1 from sg _ _]at this;exact this
       rw [e3]at dN;exact bX (s:=dz s u k) hS (dN kr rfl δ rfl)
      .rw [if_pos ⟨hlt,hg⟩];by_cases tW:((aK ((Int.gcd A B:Nat):Int)).length:Int)=1
       .refine bX (s:=dz s u k) hS (k2 kr tW (by show 0<_;omega) fun h=> ?_);obtain⟨c,hc⟩:∃c,aK ((Int.gcd A B:Nat):Int)=[c]:=List.length_eq_one_iff.1 ω;have h:(aK ((Int.gcd A B:Nat):Int)).getD 0 0=1:=h;rw [hc]at h;have h:c=1:=h;have hv:=(co (Int.natCast_nonneg (Int.gcd A B))).2.2;rw [hc,h,show ag [(1:Int)]=1 from sg _ _]at hv;omega
       .exact bX (s:=dz s u k) hS (k1 kr tW)
     .rw [if_neg (fun h=>hlt h.1)];exact bX (s:=dz s u k) hS (apa s u (k:Int) ω)
  -- the second part
  have second:aU prog w F 96 ((fl iE []).drop 7) (dz s u k).T (dz s u k).H (O0 (if k<u.size/\(cA (u.extract (k+1) u.size)=false\/aq (u.extract (k+1) u.size)=[48]\/aq (u.extract (k+1) u.size)=[49])then 1 else if 600<k\/601+k<u.size then 4 else if k<u.size/\Int.gcd (bg (aq (u.extract 0 k))) (bg (aq (u.extract (k+1) u.size)))≠1 then 1 else 0)):=by
   by_cases hlt:k<u.size
   .have Xw:=ao3 s u (k:Int) ω ω ω;have kV:=ao4 s u (k:Int) ω ω ω;have Ep:=ao5 s u (k:Int) ω ω ω;have Er:=ao6 s u (k:Int) ω ω ω;rw [HY]at Xw kV Ep Er;cases hb:cA (u.extract (k+1) u.size)with
    |false=>
     rw [if_pos ⟨hlt, .inl rfl⟩];exact bX (s:=dz s u k) hS (Xw ω ω hb)
    |true=>
     by_cases h8:aq (u.extract (k+1) u.size)=[48]
     .rw [if_pos ⟨hlt, .inr (.inl h8)⟩];exact bX (s:=dz s u k) hS (kV ω ω hb h8)
     .by_cases h9:aq (u.extract (k+1) u.size)=[49]
      .rw [if_pos ⟨hlt, .inr (.inr h9)⟩];exact bX (s:=dz s u k) hS (Ep ω ω hb h8 h9)
      .have hno:¬(k<u.size/\(cA (u.extract (k+1) u.size)=false\/aq (u.extract (k+1) u.size)=[48]\/aq (u.extract (k+1) u.size)=[49])):=fun h=>by
        rcases h.2 with h|h|h
        .rw [hb]at h;cases h
        .exact h8 h
        .exact h9 h
       have Fi:=hno;rw [hb]at Fi;rw [if_neg Fi];refine c6 (s:=dz s u k) hS 2 (Er ω ω hb h8 h9) ?_;exact rest hno
   .have hno:¬(k<u.size/\(cA (u.extract (k+1) u.size)=false\/aq (u.extract (k+1) u.size)=[48]\/aq (u.extract (k+1) u.size)=[49])):=fun h=>hlt h.1
    rw [if_neg hno];refine c6 (s:=dz s u k) hS 2 (UV s u (k:Int) ω) ?_;exact rest hno
  have kV:=ao0 s u (k:Int) ω;have Ep:=ao1 s u (k:Int) ω;have Er:=ao2 s u (k:Int) ω;rw [u9]at kV Ep Er;by_cases lz:(b9 s 0).toNat=45
  .have hneg:neg=true:=hn.2 ⟨hs0,lz⟩;have H9:((b9 s 0).toNat:Int)=45:=by omega
   by_cases h0:aq (u.extract 0 k)=[48]
   .rw [if_pos ⟨hneg,h0⟩];exact bX (s:=dz s u k) hS (kV hle ω ha hs0 H9 h0)
   .rw [if_neg (fun h=>h0 h.2)];refine c6 (s:=dz s u k) hS 2 (Ep hle ω ha hs0 H9 h0) ?_;exact second
  .have H9:¬((b9 s 0).toNat:Int)=45:=by omega
   rw [if_neg (fun h=>lz (hn.1 h.1).2)];refine c6 (s:=dz s u k) hS 2 (Er hle ω ha hs0 H9) ?_;exact second
def ape (s:AT) (hl:s.size<=1000000000):Holds prog true 20 [sv s] (iv (ckR s)):=by
 have hS:=Xr;refine bL (c:=iE) func20 rfl rfl fun w F=> ?_
 unfold ckR;by_cases h0:0<s.size
 .by_cases lz:(b9 s 0).toNat=45
  .have e1:b5 s=true:=by unfold b5;rw [az h0,az lz];rfl
   have e2:bO s=s.extract 1 s.size:=by unfold bO;rw [e1]
   have hz:=lu s 1 s.size (aI _);rw [e1,e2];refine cJ hS 5 (aoX s ω (by show 0<s.size;exact h0) (by show((b9 s 0).toNat:Int)=45;omega) (by show 1<=s.size;omega) (by show(s.extract 1 s.size).size<=_;omega) rfl rfl) ?_;exact O1 s _ true ω (fun _=>h0) ⟨fun _=>⟨h0,lz⟩,fun _=>rfl⟩ w F
  .have e1:b5 s=false:=by unfold b5;rw [az h0,ab lz];rfl
   have e2:bO s=s:=by unfold bO;rw [e1]
   rw [e1,e2];refine cJ hS 5 (aoW s ω (by show 0<s.size;exact h0) (by show¬((b9 s 0).toNat:Int)=45;omega) hl) ?_;exact O1 s s false hl id ⟨fun h=>(by cases h),fun h=>absurd h.2 lz⟩ w F
 .have e1:b5 s=false:=by unfold b5;rw [ab h0];rfl
  have e2:bO s=s:=by unfold bO;rw [e1]
  rw [e1,e2];refine cJ hS 5 (aoY s ω hl) ?_;exact O1 s s false hl id ⟨fun h=>(by cases h),fun h=>absurd h.1 h0⟩ w F
attribute [local irreducible] ckR
def Xx:OY.Ok prog:=fun⟨s,_⟩ h=>by
 have h:decide (s.size<=1000000000)=true:=h;exact ape s (ap h)
--}
end
def Ia {u:Nat} (h:u<1000000000000000000):(Lib.decDigits u).length<=19:=by
 have:=Eg (u:=u) (k:=2) (by show(u:Int)<1000000000000000000;omega);omega
def Xy (r:Rat):aq (textQ r)=Lib.itoa r.num++if r.den=1 then []else 47::Lib.decDigits r.den:=by
 unfold textQ;by_cases h1:r.den=1
 .rw [if_pos h1,if_pos h1,List.append_nil];exact jm _
 .rw [if_neg h1,if_neg h1,<-Dec.oz]
def apf {n:Int} (h:n.natAbs<1000000000000000000):(Lib.itoa n).length<=20:=by
 have:=Ia h;rw [rE];split
 .simp;omega
 .omega
def Ic {r:Rat} (h:p4 r):(textQ r).size<=60:=by
 rw [cP,Xy,cQ];have h1:=apf h.1;have h2:=Ia h.2;split
 .simp;omega
 .simp;omega
def apg:∀(u:Nat),0<u->((Lib.decDigits u).getD 0 0).toNat≠48:=fun u=>by
 induction u using Nat.strongRecOn with
 |_ u ih=>
  intro hu;by_cases h:u<10
  .rw [mZ h];show(UInt8.ofNat (48+u)).toNat≠48;rw [Dec.zc u h];omega
  .rw [s5 h];have:=ih (u/10) ω ω;have hl:=Dec.Hg (u/10);rw [ao,List.getElem?_append_left ω,<-ao];exact this
def Xz {u:AT} {n:Nat} (h:aq u=Lib.decDigits n):cA u=true:=by
 have hp:=Dec.Hg n;have hz:u.size=(Lib.decDigits n).length:=by rw [cP,h]
 unfold cA;rw [h,lC,az ω,Bool.and_true,Bool.true_and,Bool.or_eq_true];rcases Nat.eq_zero_or_pos n with h0|h0
 .left;refine az ?_;rw [hz,h0,mZ δ];decide
 .right;rw [Bool.not_eq_true',decide_eq_false_iff_not];show¬((aq u).getD 0 0).toNat=48;rw [h];exact apg n h0
def xq {r:Rat} (h:p4 r):ckR (textQ r)=0:=by
 have hdp:0<r.den:=r.den_pos;obtain⟨T,hT⟩:∃T:List UInt8,T=if r.den=1 then []else 47::Lib.decDigits r.den:=⟨_,rfl⟩
 have eB:=tm (R:=T) (H7 r.num.natAbs) (lC r.num.natAbs);have hb:aq (textQ r)=if decide (r.num<0)then 45::(Lib.decDigits r.num.natAbs++T)else Lib.decDigits r.num.natAbs++T:=by
  rw [Xy,<-hT,rE];by_cases hn:r.num<0
  .rw [az hn];rfl
  .rw [ab hn];rfl
 obtain⟨p1,p2,p3⟩:=OU eB hb;have aoC:=Ia h.1;have Hx:=Ia h.2;have p0:bf (Lib.decDigits r.num.natAbs++T)=(Lib.decDigits r.num.natAbs).length:=by
  rw [hT];split
  .rw [List.append_nil];exact D1 _ (lC _)
  .exact D2 _ _ (lC _)
 have hu:(bO (textQ r)).size=(Lib.decDigits r.num.natAbs).length+T.length:=by rw [cP,p2,cQ]
 have x1:aq ((bO (textQ r)).extract 0 (Lib.decDigits r.num.natAbs).length)=Lib.decDigits r.num.natAbs:=by rw [jQ,p2,List.drop_zero,List.take_left'];rfl
 have x2:aq ((bO (textQ r)).extract ((Lib.decDigits r.num.natAbs).length+1) (bO (textQ r)).size)=T.drop 1:=by
  rw [jQ,p2,hu,<-cQ,dK,<-List.drop_drop,List.drop_left'];rfl
 unfold ckR;rw [p2,p0,p1];unfold zK;rw [x1,x2,ve];rw [if_neg (by rw [Xz x1];decide)];rw [if_neg (fun hc=>by
  have h1:=ap hc.1;have h2:=congrArg bg hc.2;rw [ve]at h2;have h3:bg [48]=0:=(by decide);omega)]
 by_cases hd:r.den=1
 .have e:T=[]:=by rw [hT,if_pos hd]
  have hlt:¬(Lib.decDigits r.num.natAbs).length<(bO (textQ r)).size:=by rw [hu,e];simp
  rw [if_neg (fun hc=>hlt hc.1),if_neg (by rw [hu,e];simp;omega),if_neg (fun hc=>hlt hc.1)]
 .have e:T=47::Lib.decDigits r.den:=by rw [hT,if_neg hd]
  have x3:aq ((bO (textQ r)).extract ((Lib.decDigits r.num.natAbs).length+1) (bO (textQ r)).size)=Lib.decDigits r.den:=by rw [x2,e];rfl
  rw [if_neg (fun hc=>by
   rcases hc.2 with h1|h1|h1
   .rw [Xz x3]at h1;cases h1
   .have h2:=congrArg bg h1;rw [e]at h2;have h2:bg (Lib.decDigits r.den)=bg [48]:=h2;rw [ve]at h2;have h3:bg [48]=0:=(by decide);omega
   .have h2:=congrArg bg h1;rw [e]at h2;have h2:bg (Lib.decDigits r.den)=bg [49]:=h2;rw [ve]at h2;have h3:bg [49]=1:=(by decide);omega)]
  rw [if_neg (by rw [hu,e];simp;omega)];rw [if_neg (fun hc=>hc.2 (by
   rw [e];show Int.gcd _ (bg (Lib.decDigits r.den))=1;rw [ve];have hg:Int.gcd r.num ((r.den:Nat):Int)=1:=r.reduced;rw [<-hg];simp [Int.gcd]))]
end Go.Proofs.YtibikmmdbdlafaaGreatDoor
