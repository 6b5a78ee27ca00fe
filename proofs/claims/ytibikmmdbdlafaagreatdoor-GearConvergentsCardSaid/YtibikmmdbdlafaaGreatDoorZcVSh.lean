import Derived.Test.YtibikmmdbdlafaaGreatDoorZcNI
set_option linter.defProp false
set_option linter.unusedSimpArgs false
set_option linter.unusedVariables false
set_option maxRecDepth 100000
namespace Go.Proofs.YtibikmmdbdlafaaGreatDoor
open Go.RowKit Sv Go.Proofs.Tryz
noncomputable section
abbrev cS:av:= .pair (.int .i64) (.list true aE)
abbrev aA (a:aC):aa:= .agg [iv a.1, .bn true aE a.2]
def wJ:=k_a f142
def Gt:=k_a f141
def LM:=k_a f140
def LN:=IN 140 [.int .i64] [aE] true (fun d=>gI d.1) fun d=>(cm d.1,())
def Gu:=bc [LN]
def afk (n:Int) (h1:n<0) (h2:(IntKind.wrap IntKind.u64 (IntKind.wrap IntKind.i64 (0-n)))=(cm n)):
  bh (bc []) (fl LM []) 9 10 [iv n] 3 f140 true (cu (cm n)):=
 wy [ah h1,ax h2] 129
def afl (n:Int) (h1:¬n<0) (h2:(IntKind.wrap IntKind.u64 n)=(cm n)):
  bh (bc []) (fl LM []) 9 10 [iv n] 2 f140 true (cu (cm n)):=
 wy [aJ h1,ax h2] 129
def afm (a:aC) (h1:a.2.isEmpty=false) (h2:(decide (a.1<0))=(bY a)) (h3:a.2=(aB a)):
  bh Gu (fl Gt []) 9 24 [aA a] 3 f141 false (.tuple [bv (bY a),bI (aB a)]):=
 wy [af (bq (h1)),af (aF (v:=iv (a.1))),af (aF (v:=aa.bn true aE a.2)),ax h2,ax h3] 84947073
def afn (a:aC) (h1:a.2.isEmpty=true) (h2:a.1=0) (h3:(false)=(bY a)) (h4:(aB a)=([])):
  bh Gu (fl Gt []) 9 24 [aA a] 6 f141 false (.tuple [bv (bY a),bI (aB a)]):=
 wy [af (bq (h1)),cX h2,ax h3,ax h4] 1060993
def afo (a:aC) (h1:a.2.isEmpty=true) (h2:¬a.1=0) (h3:(gI a.1)=true) (h4:(decide (a.1<0))=(bY a)) (h5:([cm a.1])=(aB a)) (h6:(Nat.ble (1*1) (aa.raw (Value.int .u64 (cm a.1))::List.append._f [] PUnit.unit (List.flatten._f [] PUnit.unit)).length&&(!false||Nat.ble 1 1))=true):
  bh Gu (fl Gt []) 9 24 [aA a] 4 f141 false (.tuple [bv (bY a),bI (aB a)]):=
 wy [af (bq (h1)),yn h2,af (aF (v:=iv (a.1))),af h3,ax h4,r9 (an h5 (show(Nat.ble ((0:Nat)+(1:Nat)*(1:Nat)) (aa.raw (Value.int IntKind.u64 (cm a.1))::List.append._f [] PUnit.unit (List.flatten._f [] PUnit.unit)).length&&(!false||Nat.ble (1:Nat) (1:Nat)))=true from(by simp only [aw]<;>exact h6)))] 1711049540382849
section
variable (neg:Bool) (w:List Int)
def cc:Int:=match neg with |true=> -ak w|false=>ak w
def afp (h1:(w.length:Int)=0) (h2:(0)=(aY (cc neg w)).1) (h3:(aY (cc neg w)).2=([])):
  bh (bc []) (fl wJ []) 9 50 [bv neg,bI w] 3 f142 false (aA (aY (cc neg w))):=
 wy [cX h1,ax h2,ax h3] 12417
def afq (h1:¬(w.length:Int)=0) (h2:(w.length:Int)=1) (h3:Int.toNat 0<w.length) (h4:w.getD (Int.toNat 0) 0<=9223372036854775807) (h5:(neg)=true) (h6:(IntKind.wrap IntKind.i64 (0-IntKind.wrap IntKind.i64 (w.getD (Int.toNat 0) 0)))=(aY (cc neg w)).1) (h7:(aY (cc neg w)).2=([])):
  bh (bc []) (fl wJ []) 9 50 [bv neg,bI w] 1022 f142 false (aA (aY (cc neg w))):=
 wy [yn h1,af (aM (fU.mpr h2)),ah h3,cX h2,af (aM (az h4)),ah h4,af h5,ax h6,ax h7] 176517344943146498453938305
def afr (h1:¬(w.length:Int)=0) (h2:(w.length:Int)=1) (h3:Int.toNat 0<w.length) (h4:w.getD (Int.toNat 0) 0<=9223372036854775807) (h5:(neg)=false) (h6:(IntKind.wrap IntKind.i64 (w.getD (Int.toNat 0) 0))=(aY (cc neg w)).1) (h7:(aY (cc neg w)).2=([])):
  bh (bc []) (fl wJ []) 9 50 [bv neg,bI w] 65278 f142 false (aA (aY (cc neg w))):=
 wy [yn h1,af (aM (fU.mpr h2)),ah h3,cX h2,af (aM (az h4)),ah h4,af h5,ax h6,ax h7] 49685215221999092210630363047398624731265
def afs (h1:¬(w.length:Int)=0) (h2:(w.length:Int)=1) (h3:Int.toNat 0<w.length) (h4:¬w.getD (Int.toNat 0) 0<=9223372036854775807) (h5:(neg)=true) (h6:(-1:Int)=(aY (cc neg w)).1) (h7:(w)=(aY (cc neg w)).2) (h8:1<=(aY (cc neg w)).2.length):
  bh (bc []) (fl wJ []) 9 50 [bv neg,bI w] 114238 f142 false (aA (aY (cc neg w))):=
 wy [yn h1,af (aM (fU.mpr h2)),ah h3,cX h2,af (aM (ab h4)),aJ h4,af h5,ax h6,ax h7,af (fF h8)] 55221595208755305796440247856831230124161
def aft (h1:¬(w.length:Int)=0) (h2:(w.length:Int)=1) (h3:Int.toNat 0<w.length) (h4:¬w.getD (Int.toNat 0) 0<=9223372036854775807) (h5:(neg)=false) (h6:(1)=(aY (cc neg w)).1) (h7:(w)=(aY (cc neg w)).2) (h8:1<=(aY (cc neg w)).2.length):
  bh (bc []) (fl wJ []) 9 50 [bv neg,bI w] 81470 f142 false (aA (aY (cc neg w))):=
 wy [yn h1,af (aM (fU.mpr h2)),ah h3,cX h2,af (aM (ab h4)),aJ h4,af h5,ax h6,ax h7,af (fF h8)] 55221595208755305796440247856831230124161
def afu (h1:¬(w.length:Int)=0) (h2:¬(w.length:Int)=1) (h3:(neg)=true) (h4:(-1:Int)=(aY (cc neg w)).1) (h5:(w)=(aY (cc neg w)).2) (h6:1<=(aY (cc neg w)).2.length):
  bh (bc []) (fl wJ []) 9 50 [bv neg,bI w] 98304 f142 false (aA (aY (cc neg w))):=
 wy [yn h1,af (aM (e8.mpr h2)),yn h2,af h3,ax h4,ax h5,af (fF h6)] 2302454583503482069828190673051777
def afv (h1:¬(w.length:Int)=0) (h2:¬(w.length:Int)=1) (h3:(neg)=false) (h4:(1)=(aY (cc neg w)).1) (h5:(w)=(aY (cc neg w)).2) (h6:1<=(aY (cc neg w)).2.length):
  bh (bc []) (fl wJ []) 9 50 [bv neg,bI w] 65536 f142 false (aA (aY (cc neg w))):=
 wy [yn h1,af (aM (e8.mpr h2)),yn h2,af h3,ax h4,ax h5,af (fF h6)] 2302454583503482069828190673051777
end
def Gv:=IN 141 [cS] [.bool, .list false aE] false (fun d=>ay d.1) fun d=>(bY d.1,aB d.1,())
def LP:=IN 142 [.bool, .list false aE] [cS] false (fun d=>gR d.2.1&&jG d.2.1) fun d=>(aY (cc d.1 d.2.1),())
def wK {x:Int} (h: -9223372036854775808<=x/\x<=9223372036854775807):IntKind.wrap .i64 x=x:=Sg (eN h)
def afw (n:Int) (h:gI n=true):Holds prog true 140 [iv n] (cu (cm n)):=by
 have h:=q5.1 h;refine bL (c:=LM) func140 rfl rfl fun w F=> ?_
 by_cases hn:n<0
 .refine bw cC 9 (afk n hn ?_);unfold cm;by_cases hm:n= -9223372036854775808
  .subst hm;rfl
  .rw [wK ω,fL ω];omega
 .refine bw cC 9 (afl n hn ?_);unfold cm;rw [fL ω];omega
def TC:LN.Ok prog:=fun⟨n,_⟩ h=>afw n h
def LQ:bC prog (bF Gu):=uz TC
def afx (a:aC) (h:ay a=true):Holds prog false 141 [aA a] (.tuple [bv (bY a),bI (aB a)]):=by
 refine bL (c:=Gt) func141 rfl rfl fun w F=> ?_
 by_cases hs:a.2=[]
 .have h:=(nH hs).symm.trans h;by_cases h0:a.1=0
  .refine bw LQ 9 (afn a (dy.2 hs) h0 ?_ ?_)
   .unfold bY;rw [h0];rfl
   .unfold aB;rw [if_pos hs,if_pos h0]
  .refine bw LQ 9 (afo a (dy.2 hs) h0 h rfl ?_ rfl);unfold aB;rw [if_pos hs,if_neg h0]
 .refine bw LQ 9 (afm a (su.2 hs) rfl ?_);unfold aB;rw [if_neg hs]
def LR:Gv.Ok prog:=fun⟨a,_⟩ h=>afx a h
def LS (neg:Bool) {w:List Int} (hw:aS 18446744073709551616 w):((cc neg w).natAbs:Int)=ak w:=by
 have:=fY (b:=18446744073709551616) δ hw;unfold cc ak;cases neg<;>simp only<;>omega
def TD {neg:Bool} {w:List Int} (hw:aS 18446744073709551616 w) (ht:e5 w) (h:9223372036854775807<ak w):aY (cc neg w)=(if neg then-1 else 1,w):=by
 have ha:=LS neg hw;have hd:cO 18446744073709551616 ((cc neg w).natAbs:Int)=w:=by rw [ha];exact(qY δ hw ht rfl).symm
 unfold aY;rw [hd];unfold cc at ha ⊢;cases neg
 .simp only at ha ⊢;rw [if_neg ω,if_neg ω];rfl
 .simp only at ha ⊢;rw [if_neg ω,if_pos ω];rfl
def sw {z:Int} (h: -9223372036854775807<=z/\z<=9223372036854775807):aY z=(z,[]):=by unfold aY;rw [if_pos h]
def afy (neg:Bool) (w:List Int) (h1:aS 18446744073709551616 w) (h2:e5 w):Holds prog false 142 [bv neg,bI w] (aA (aY (cc neg w))):=by
 refine bL (c:=wJ) func142 rfl rfl fun w0 F=> ?_
 cases w with
 |nil=>
  have e:aY (cc neg [])=(0,[]):=by
   have:cc neg []=0:=by cases neg<;>rfl
   rw [this];exact sw δ
  exact bw cC 9 (afp neg [] rfl (by rw [e]) (by rw [e]))
 |cons x l=>
  have hx:=h1.head;have hne:¬((x::l).length:Int)=0:=by simp;omega
  cases l with
  |nil=>
   have hv:ak [x]=x:=A1 x;by_cases hs:x<=9223372036854775807
   .cases neg with
    |true=>
     have e:aY (cc true [x])=(-x,[]):=by
      show aY (-ak [x])=_;rw [hv];exact sw ω
     refine bw cC 9 (afq true [x] hne rfl τ hs rfl ?_ (by rw [e]));rw [e];show IntKind.wrap .i64 (0-IntKind.wrap .i64 x)= -x;rw [wK (x:=x) ω,wK ω];omega
    |false=>
     have e:aY (cc false [x])=(x,[]):=by
      show aY (ak [x])=_;rw [hv];exact sw ω
     refine bw cC 9 (afr false [x] hne rfl τ hs rfl ?_ (by rw [e]));rw [e];exact wK (x:=x) ω
   .have e:=TD (neg:=neg) h1 h2 ω;cases neg with
    |true=>exact bw cC 9 (afs true [x] hne rfl τ hs rfl (by rw [e];rfl) (by rw [e]) (by rw [e];simp))
    |false=>exact bw cC 9 (aft false [x] hne rfl τ hs rfl (by rw [e];rfl) (by rw [e]) (by rw [e];simp))
  |cons y l=>
   have hbig:9223372036854775807<ak (x::y::l):=by
    have h3:=yH (b:=18446744073709551616) δ h1 h2 (k:=l.length+1) τ;have h4:=iQ (b:=18446744073709551616) δ (show 1<=l.length+1 by omega);rw [Int.pow_one]at h4;unfold ak;omega
   have e:=TD (neg:=neg) h1 h2 hbig;have ny:¬((x::y::l).length:Int)=1:=by simp;omega
   cases neg with
   |true=>exact bw cC 9 (afu true _ hne ny rfl (by rw [e];rfl) (by rw [e]) (by rw [e];simp))
   |false=>exact bw cC 9 (afv false _ hne ny rfl (by rw [e];rfl) (by rw [e]) (by rw [e];simp))
def TE:LP.Ok prog:=fun⟨neg,w,_⟩ h=>by
 have h:(gR w&&jG w)=true:=h;rw [ae]at h;exact afy neg w (hM.1 h.1) (q2.1 h.2)
def Gw:=k_a f147
def LU:=k_a f170
def TF:=k_a f128
def uC:=k_a f82
def TG:=k_a f150
def uD:=k_a f81
def A3:=k_a f93
def lc:=bc [Gv,LP,Tn,To,LF,Ty,Gm,LN]
abbrev eu (a:aC):fJ:= .blk (.cells 83 [iv a.1, .bn true aE a.2] true false false)
abbrev b0:fJ:= .blk (.cells 83 [iv 0, .raw (.slice none 0 0)] true false false)
abbrev s3:Sv.Ren:=[(64,64,none),(65,65,none),(66,66,none)]
def j8 (a b:aC) (n:Nat):bD:={n:=n,sl:=[(2, .ptr 64 0),(3, .ptr 65 0),(4, .ptr 66 0)],bJ:=[(64,eu a),(65,eu b),(66,b0)],next:=67}
def afz (a:aC) (h1:a.2.isEmpty=true) (h2:¬a.1= -9223372036854775808) (h3:(IntKind.wrap IntKind.i64 (0-a.1))=(-a.1)):
  bh lc (fl Gw []) 9 26 [aA a] 63 f147 false (aA (-a.1,[])):=
 wy [af (aM (aM (h1))),af (aM (h1)),af (gC.mpr h2),ax h3] 4345827393
def afA (a:aC) (h1:a.2.isEmpty=true) (h2:a.1= -9223372036854775808) (h3:(ay a)=true) (h4:(gR (aB a)&&jG (aB a))=true):
  bh lc (fl Gw []) 9 26 [aA a] 47 f147 false (aA (aY (cc (!bY a) (aB a)))):=
 wy [af (aM (aM (h1))),af (aM (h1)),af (eR.mpr h2),af h3,af h4] 347943211073
def afB (a:aC) (h1:a.2.isEmpty=false) (h2:(ay a)=true) (h3:(gR (aB a)&&jG (aB a))=true):
  bh lc (fl Gw []) 9 26 [aA a] 32 f147 false (aA (aY (cc (!bY a) (aB a)))):=
 wy [af (aM (aM (h1))),af (aM (h1)),af h2,af h3] 278099660865
def afC (a:aC) (h1:(if(if a.1<1 then a.1 else 1)> -1 then if a.1<1 then a.1 else 1 else(-1:Int))=(jH a.1)):
  bh (bc []) (fl TF []) 9 7 [aA a] 1 f128 true (iv (jH a.1)):=
 wy [ax h1] 1
section
variable (a b:aC)
def afD (h1:a.2.isEmpty=true) (h2:b.2.isEmpty=true) (h3:i6 (a.1+b.1)) (h4:decide (a.1+b.1>a.1)=decide (b.1>0)):
  bh lc (fl uC []) 3 67 [aA a,aA b] 127 f82 false (aA (a.1+b.1,[])):=
 wy [af (aM (aM (h1))),af (aM (h1)),af (aM (h2)),yi h3,cX h4] 347943211073
def afE (h1:a.2.isEmpty=false):
  cZ lc (fl uC []) 3 67 [aA a,aA b] 32 .normal s3 (j8 a b 67):=
 wy [af (aM (aM (h1))),af (aM (h1))] 528449
def afF (h1:a.2.isEmpty=true) (h2:b.2.isEmpty=false):
  cZ lc (fl uC []) 3 67 [aA a,aA b] 47 .normal s3 (j8 a b 67):=
 wy [af (aM (aM (h1))),af (aM (h1)),af (aM (h2))] 50860097
def afG (h1:a.2.isEmpty=true) (h2:b.2.isEmpty=true) (h3:(fits IntKind.i64 (a.1+b.1))=false) (h4:¬decide (IntKind.wrap IntKind.i64 (a.1+b.1)>a.1)=decide (b.1>0)):
  aD.uh (pF prog lc (fl uC []) 3 67 [aA a,aA b]) (dl 95) (ef prog 67 .normal s3 (j8 a b 67)):=
 adu [af (aM (aM (h1))),af (aM (h1)),af (aM (h2)),af h3,yn h4] 347943211073
def afH (h1:(ay a)=true) (h2:(ay b)=true) (h3:bY a=bY b) (h4:(kZ (aB a) (aB b))=true) (h5:(gR (wG (aB a) (aB b))&&jG (wG (aB a) (aB b)))=true):
  bS lc ((fl uC []).drop 3) (j8 a b 67) 3 f82 false (aA (aY (cc (bY a) (wG (aB a) (aB b))))):=
 wy [af h1,af h2,cX h3,af h4,af h5] 84947073
def afI (h1:(ay a)=true) (h2:(ay b)=true) (h3:¬bY a=bY b) (h4:(mR (aB a) (aB b))=true) (h5:k3 (ak (aB a)) (ak (aB b))>=0) (h6:(kZ (aB a) (aB b)&&decide (ak (aB b)<=ak (aB a)))=true) (h7:(gR (pI (aB a) (aB b))&&jG (pI (aB a) (aB b)))=true):
  bS lc ((fl uC []).drop 3) (j8 a b 67) 6 f82 false (aA (aY (cc (bY a) (pI (aB a) (aB b))))):=
 wy [af h1,af h2,yn h3,af h4,ah h5,af h6,af h7] 487563735169
def afJ (h1:(ay a)=true) (h2:(ay b)=true) (h3:¬bY a=bY b) (h4:(mR (aB a) (aB b))=true) (h5:¬k3 (ak (aB a)) (ak (aB b))>=0) (h6:(kZ (aB b) (aB a)&&decide (ak (aB a)<=ak (aB b)))=true) (h7:(gR (pI (aB b) (aB a))&&jG (pI (aB b) (aB a)))=true):
  bS lc ((fl uC []).drop 3) (j8 a b 67) 4 f82 false (aA (aY (cc (bY b) (pI (aB b) (aB a))))):=
 wy [af h1,af h2,yn h3,af h4,aJ h5,af h6,af h7] 487563735169
def afK (h1:a.2.isEmpty=true) (h2:b.2.isEmpty=true) (h3:(gI a.1)=true) (h4:(gI b.1)=true) (h5:(k4 (cm a.1) (cm b.1))=true) (h6:fK (cm a.1) (cm b.1)=0) (h7:cL (cm a.1) (cm b.1)<=9223372036854775807) (h8:¬decide (a.1<0)=decide (b.1<0)) (h9:(IntKind.wrap IntKind.i64 (0-IntKind.wrap IntKind.i64 (cL (cm a.1) (cm b.1))))=(-cL (cm a.1) (cm b.1))):
  bh lc (fl uD []) 3 66 [aA a,aA b] 2047 f81 false (aA (-(cL (cm a.1) (cm b.1)),[])):=
 wy [af (aM (aM (h1))),af (aM (h1)),af (aM (h2)),af (aF (v:=iv (a.1))),af h3,af (aF (v:=iv (b.1))),af h4,af h5,af (aM (fU.mpr h6)),cX h6,ah h7,af (cj (e8.mpr h8)),ax h9] 1045037229590394484215400370241
def afL (h1:a.2.isEmpty=true) (h2:b.2.isEmpty=true) (h3:(gI a.1)=true) (h4:(gI b.1)=true) (h5:(k4 (cm a.1) (cm b.1))=true) (h6:fK (cm a.1) (cm b.1)=0) (h7:cL (cm a.1) (cm b.1)<=9223372036854775807) (h8:decide (a.1<0)=decide (b.1<0)) (h9:(IntKind.wrap IntKind.i64 (cL (cm a.1) (cm b.1)))=(cL (cm a.1) (cm b.1))):
  bh lc (fl uD []) 3 66 [aA a,aA b] 1535 f81 false (aA (cL (cm a.1) (cm b.1),[])):=
 wy [af (aM (aM (h1))),af (aM (h1)),af (aM (h2)),af (aF (v:=iv (a.1))),af h3,af (aF (v:=iv (b.1))),af h4,af h5,af (aM (fU.mpr h6)),cX h6,ah h7,af (cj (fU.mpr h8)),ax h9] 1045037229590394484215400370241
def afM (h1:a.2.isEmpty=true) (h2:b.2.isEmpty=true) (h3:(gI a.1)=true) (h4:(gI b.1)=true) (h5:(k4 (cm a.1) (cm b.1))=true) (h6:fK (cm a.1) (cm b.1)=0) (h7:¬cL (cm a.1) (cm b.1)<=9223372036854775807):
  cZ lc (fl uD []) 3 66 [aA a,aA b] 767 .normal s3 (j8 a b 66):=
 wy [af (aM (aM (h1))),af (aM (h1)),af (aM (h2)),af (aF (v:=iv (a.1))),af h3,af (aF (v:=iv (b.1))),af h4,af h5,af (aM (fU.mpr h6)),cX h6,aJ h7] 215836433533532200539525185
def afN (h1:a.2.isEmpty=true) (h2:b.2.isEmpty=true) (h3:(gI a.1)=true) (h4:(gI b.1)=true) (h5:(k4 (cm a.1) (cm b.1))=true) (h6:¬fK (cm a.1) (cm b.1)=0):
  cZ lc (fl uD []) 3 66 [aA a,aA b] 543 .normal s3 (j8 a b 66):=
 wy [af (aM (aM (h1))),af (aM (h1)),af (aM (h2)),af (aF (v:=iv (a.1))),af h3,af (aF (v:=iv (b.1))),af h4,af h5,af (aM (e8.mpr h6)),yn h6] 3065489281357465791238209
def afO (h1:a.2.isEmpty=true) (h2:b.2.isEmpty=false):
  cZ lc (fl uD []) 3 66 [aA a,aA b] 47 .normal s3 (j8 a b 66):=
 wy [af (aM (aM (h1))),af (aM (h1)),af (aM (h2))] 50860097
def afP (h1:a.2.isEmpty=false):
  cZ lc (fl uD []) 3 66 [aA a,aA b] 32 .normal s3 (j8 a b 66):=
 wy [af (aM (aM (h1))),af (aM (h1))] 528449
def afQ (h1:(ay a)=true) (h2:(ay b)=true) (h3:(kZ (aB a) (aB b))=true) (h4:(gR (pK (aB a) (aB b))&&jG (pK (aB a) (aB b)))=true) (h5:(aY (cc (!bY a==bY b) (pK (aB a) (aB b)))).1=(aY (cc (bY a != bY b) (pK (aB a) (aB b)))).1) (h6:(aY (cc (!bY a==bY b) (pK (aB a) (aB b)))).2=(aY (cc (bY a != bY b) (pK (aB a) (aB b)))).2):
  bS lc ((fl uD []).drop 3) (j8 a b 66) 1 f81 false (aA (aY (cc (bY a != bY b) (pK (aB a) (aB b))))):=
 wy [af h1,af h2,af h3,af h4,ax h5,ax h6] 6527398017
end
def yK:=IN 147 [cS] [cS] false (fun d=>ay d.1) fun d=>(e6 d.1,())
def wL:=IN 128 [cS] [.int .i64] true (fun d=>ay d.1) fun d=>(fk d.1,())
def uE:=IN 82 [cS,cS] [cS] false (fun d=>ay d.1&&ay d.2.1) fun d=>(b8 d.1 d.2.1,())
def wM:=IN 81 [cS,cS] [cS] false (fun d=>ay d.1&&ay d.2.1) fun d=>(a7 d.1 d.2.1,())
def k7:bC prog (bF lc):=cK (aP LR (aP TE (aP aes (aP aev (aP Tv (aP afi (aP LH (aP TC dQ))))))))
def yL {z:Int} (h:0<=z):(gR (cO 18446744073709551616 z)&&jG (cO 18446744073709551616 z))=true:=by
 obtain⟨h1,h2,_⟩:=qX (b:=18446744073709551616) δ h;rw [hM.2 h1,q2.2 h2];rfl
def wN {z:Int} (h:0<=z):ak (cO 18446744073709551616 z)=z:=(qX (b:=18446744073709551616) δ h).2.2
def TH {a:aC} (h:ay a=true):(gR (aB a)&&jG (aB a))=true:=by
 obtain⟨h1,h2,_⟩:=cf h;rw [hM.2 h1,q2.2 h2];rfl
def Gx {a b:aC} (h:ay a=true) (g:ay b=true):kZ (aB a) (aB b)=true:=by
 obtain⟨h1,_,_,_,h5⟩:=cf h;obtain⟨g1,_,_,_,g5⟩:=cf g;unfold kZ;rw [hM.2 h1,hM.2 g1,az (show(aB a).length<=400000 by omega),az (show(aB b).length<=400000 by omega)];rfl
def LV {a b:aC} (h:ay a=true) (g:ay b=true):mR (aB a) (aB b)=true:=by
 obtain⟨h1,h2,_,_,h5⟩:=cf h;obtain⟨g1,g2,_⟩:=cf g;unfold mR;rw [hM.2 h1,q2.2 h2,hM.2 g1,q2.2 g2,az (show(aB a).length<=1000000 by omega)];rfl
def yM {a:aC} (h:ay a=true) (hs:a.2=[]): -9223372036854775808<=a.1/\a.1<=9223372036854775807:=q5.1 ((nH hs).symm.trans h)
def HI (a:aC) (h:ay a=true):Holds prog false 147 [aA a] (aA (e6 a)):=by
 obtain⟨h1,h2,h3,h4,_⟩:=cf h;have e2:aY (cc (!bY a) (aB a))=e6 a:=by
  unfold e6;congr 1;cases hn:bY a
  .have:¬aj a<0:=fun hh=>by rw [h4.2 hh]at hn;cases hn
   show-ak (aB a)=_;omega
  .have:=h4.1 hn;show ak (aB a)=_;omega
 refine bL (c:=Gw) func147 rfl rfl fun w F=> ?_
 by_cases hs:a.2=[]
 .have hr:=yM h hs;by_cases hm:a.1= -9223372036854775808
  .rw [<-e2];exact bw k7 9 (afA a (dy.2 hs) hm h (TH h))
  .have e:e6 a=(-a.1,[]):=by unfold e6;rw [lT hs];exact sw ω
   rw [e];refine bw k7 9 (afz a (dy.2 hs) hm ?_);rw [wK ω];omega
 .rw [<-e2];exact bw k7 9 (afB a (su.2 hs) h (TH h))
def A4:yK.Ok prog:=fun⟨a,_⟩ h=>HI a h
def afR {a:aC} (h:ay a=true):fk a=jH a.1:=by
 unfold fk;by_cases hs:a.2=[]
 .rw [lT hs]
 .obtain⟨h1,_,_,h4,_⟩:=(pM hs).1 h;have hv:aj a=a.1*ak a.2:=by unfold aj;rw [if_neg hs]
  rw [hv];rcases h1 with h1|h1<;>rw [h1]
  .rw [LL ω,LL ω]
  .rw [Gs ω,Gs ω]
def afS (a:aC) (h:ay a=true):Holds prog true 128 [aA a] (iv (fk a)):=by
 rw [afR h];refine bL (c:=TF) func128 rfl rfl fun w F=> ?_
 refine bw cC 9 (afC a ?_);unfold jH;split<;>split<;>split<;>(try split)<;>omega
def yN:wL.Ok prog:=fun⟨a,_⟩ h=>afS a h
def LW (a b:aC) (h:ay a=true) (g:ay b=true) (hn:b8 a b=aY (aj a+aj b)) (w:World) (F:Sv.Env):
  aU prog w F 67 ((fl uC []).drop 3) (j8 a b 67).T (j8 a b 67).H (hG prog false f82 (aA (b8 a b))):=by
 obtain⟨h1,h2,h3,h4,_⟩:=cf h;obtain⟨g1,g2,g3,g4,_⟩:=cf g;rw [hn];by_cases hs:bY a=bY b
 .have e:aY (cc (bY a) (wG (aB a) (aB b)))=aY (aj a+aj b):=by
   congr 1;have hv:ak (wG (aB a) (aB b))=ak (aB a)+ak (aB b):=wN ω;cases hna:bY a
   .have:¬aj a<0:=fun hh=>by rw [h4.2 hh]at hna;cases hna
    have:¬aj b<0:=fun hh=>by rw [<-hs,hna]at g4;have:=g4.2 hh;cases this
    show ak _=_;omega
   .have:=h4.1 hna;have:=g4.1 (by rw [<-hs];exact hna);show-ak _=_;omega
  rw [<-e];exact bX (s:=j8 a b 67) k7 (afH a b h g hs (Gx h g) (yL (show 0<=ak (aB a)+ak (aB b) by omega)))
 .have hab:(aj a<0/\¬aj b<0)\/(¬aj a<0/\aj b<0):=by
   cases hna:bY a<;>cases hnb:bY b
   .rw [hna,hnb]at hs;exact absurd rfl hs
   .exact .inr ⟨fun hh=>(by rw [h4.2 hh]at hna;cases hna),g4.1 hnb⟩
   .exact .inl ⟨h4.1 hna,fun hh=>(by rw [g4.2 hh]at hnb;cases hnb)⟩
   .rw [hna,hnb]at hs;exact absurd rfl hs
  by_cases hge:k3 (ak (aB a)) (ak (aB b))>=0
  .have hle:ak (aB b)<=ak (aB a):=by
    unfold k3 at hge;split at hge
    .omega
    .omega
   have hv:ak (pI (aB a) (aB b))=ak (aB a)-ak (aB b):=wN ω;have e:aY (cc (bY a) (pI (aB a) (aB b)))=aY (aj a+aj b):=by
    congr 1;cases hna:bY a
    .have:¬aj a<0:=fun hh=>by rw [h4.2 hh]at hna;cases hna
     show ak _=_;omega
    .have:=h4.1 hna;show-ak _=_;omega
   rw [<-e];exact bX (s:=j8 a b 67) k7 (afI a b h g hs (LV h g) hge (by rw [show kZ _ _=true from Gx h g,Bool.true_and];exact az hle) (yL (show 0<=ak (aB a)-ak (aB b) by omega)))
  .have hle:ak (aB a)<=ak (aB b):=by
    unfold k3 at hge;split at hge
    .omega
    .split at hge<;>omega
   have hv:ak (pI (aB b) (aB a))=ak (aB b)-ak (aB a):=wN ω;have e:aY (cc (bY b) (pI (aB b) (aB a)))=aY (aj a+aj b):=by
    congr 1;cases hnb:bY b
    .have:¬aj b<0:=fun hh=>by rw [g4.2 hh]at hnb;cases hnb
     show ak _=_;omega
    .have:=g4.1 hnb;show-ak _=_;omega
   rw [<-e];exact bX (s:=j8 a b 67) k7 (afJ a b h g hs (LV h g) hge (by rw [show kZ _ _=true from Gx g h,Bool.true_and];exact az hle) (yL (show 0<=ak (aB b)-ak (aB a) by omega)))
def qS {a b:aC} (h:¬(iy a&&(iy b&&gI (a.1+b.1)))=true):b8 a b=aY (aj a+aj b):=by unfold b8;rw [if_neg h]
def afT (a b:aC) (h:ay a=true) (g:ay b=true):Holds prog false 82 [aA a,aA b] (aA (b8 a b)):=by
 refine bL (c:=uC) func82 rfl rfl fun w F=> ?_
 by_cases ha:a.2=[]
 .have LX:=yM h ha;by_cases hb:b.2=[]
  .have hrb:=yM g hb;by_cases hf:gI (a.1+b.1)=true
   .have hf':=q5.1 hf;have e:b8 a b=(a.1+b.1,[]):=by unfold b8;rw [dy.2 ha,dy.2 hb,hf];rfl
    rw [e];refine bw k7 3 (afD a b (dy.2 ha) (dy.2 hb) hf' ?_);rw [decide_eq_decide];omega
   .have e:=qS (a:=a) (b:=b) fun hh=>by
     simp only [ae]at hh;exact hf hh.2.2
    have hf':¬(-9223372036854775808<=a.1+b.1/\a.1+b.1<=9223372036854775807):=fun hh=>hf (q5.2 hh)
    refine aU.ado known mixed k7 3 _ (afG a b (dy.2 ha) (dy.2 hb) ?_ ?_) (by kernel_rfl) (LW a b h g e w F)
    .unfold fits;rw [Bool.and_eq_false_iff];by_cases h0: -9223372036854775808<=a.1+b.1
     .exact .inr (ab fun hh=>hf' ⟨h0,hh⟩)
     .exact .inl (ab h0)
    .rw [decide_eq_decide];have hw:IntKind.wrap .i64 (a.1+b.1)=if a.1+b.1<0 then a.1+b.1+18446744073709551616 else a.1+b.1-18446744073709551616:=by
      have e1:IntKind.signed .i64=true:=rfl;have e2:IntKind.bits .i64=64:=rfl;unfold IntKind.wrap;simp only [e1,e2,Bool.true_and];rw [show(2:Int)^64=18446744073709551616 from rfl];split<;>split<;>simp_all<;>omega
     rw [hw];split<;>omega
  .exact aU.to known mixed k7 3 _ (afF a b (dy.2 ha) (su.2 hb)) (by kernel_rfl) (LW a b h g (qS fun hh=>by
    simp only [ae]at hh;exact hb (dy.1 hh.2.1)) w F)
 .exact aU.to known mixed k7 3 _ (afE a b (su.2 ha)) (by kernel_rfl) (LW a b h g (qS fun hh=>by
    simp only [ae]at hh;exact ha (dy.1 hh.1)) w F)
def hJ:uE.Ok prog:=fun⟨a,b,_⟩ h=>by
 have h:(ay a&&ay b)=true:=h;rw [ae]at h;exact afT a b h.1 h.2
def TI {x y:Int} {n m:Bool} (hn:n=true↔x<0) (hm:m=true↔y<0) {p:Int} (hp:p=x.natAbs*y.natAbs):(match(n != m)with |true=> -p|false=>p)=x*y:=by
 have e:(p:Int)=((x*y).natAbs:Int):=by rw [hp,Int.natAbs_mul];simp
 cases n<;>cases m<;>simp only [Bool.false_eq_true,false_iff,true_iff,Int.not_lt]at hn hm
 .have:=Int.mul_nonneg hn hm;show p=_;omega
 .have:=Int.mul_nonneg hn (show 0<= -y by omega);rw [Int.mul_neg]at this;show-p=_;omega
 .have:=Int.mul_nonneg (show 0<= -x by omega) hm;rw [Int.neg_mul]at this;show-p=_;omega
 .have:=Int.mul_nonneg (show 0<= -x by omega) (show 0<= -y by omega);rw [Int.neg_mul,Int.mul_neg,Int.neg_neg]at this;show p=_;omega
def Gy (a b:aC) (h:ay a=true) (g:ay b=true) (w:World) (F:Sv.Env):
  aU prog w F 66 ((fl uD []).drop 3) (j8 a b 66).T (j8 a b 66).H (hG prog false f81 (aA (a7 a b))):=by
 obtain⟨h1,h2,h3,h4,_⟩:=cf h;obtain⟨g1,g2,g3,g4,_⟩:=cf g;have hp:0<=ak (aB a)*ak (aB b):=Int.mul_nonneg ω ω;have e:aY (cc (bY a != bY b) (pK (aB a) (aB b)))=a7 a b:=by
  unfold a7 cc;have hv:ak (pK (aB a) (aB b))=ak (aB a)*ak (aB b):=wN hp;rw [hv,h3,g3];exact congrArg aY (TI h4 g4 rfl)
 rw [<-e];exact bX (s:=j8 a b 66) k7 (afQ a b h g (Gx h g) (yL hp) rfl rfl)
def afU (a b:aC) (h:ay a=true) (g:ay b=true):Holds prog false 81 [aA a,aA b] (aA (a7 a b)):=by
 refine bL (c:=uD) func81 rfl rfl fun w F=> ?_
 by_cases ha:a.2=[]
 .have LX:=yM h ha;by_cases hb:b.2=[]
  .have hrb:=yM g hb;have Gz:=q5.2 LX;have GA:=q5.2 hrb;have hm:k4 (cm a.1) (cm b.1)=true:=Ds.2 (by unfold cm;omega);by_cases hhi:fK (cm a.1) (cm b.1)=0
   .by_cases hlo:cL (cm a.1) (cm b.1)<=9223372036854775807
    .have hlo0:0<=cL (cm a.1) (cm b.1):=dr _ δ;have hp:cL (cm a.1) (cm b.1)=a.1.natAbs*b.1.natAbs:=by
      have:=Int.emod_add_mul_ediv (cm a.1*cm b.1) 18446744073709551616;unfold fK at hhi;rw [hhi]at this;unfold cL;show _=cm a.1*cm b.1;omega
     have kQ:=TI (n:=decide (a.1<0)) (m:=decide (b.1<0)) τ τ hp;have hval:a7 a b=aY (a.1*b.1):=by unfold a7;rw [lT ha,lT hb]
     by_cases lU:decide (a.1<0)=decide (b.1<0)
     .have e:a7 a b=(cL (cm a.1) (cm b.1),[]):=by
       rw [lU,bne_self_eq_false]at kQ;have kQ:cL (cm a.1) (cm b.1)=a.1*b.1:=kQ;rw [hval,<-kQ];exact sw ω
      rw [e];exact bw k7 3 (afL a b (dy.2 ha) (dy.2 hb) Gz GA hm hhi hlo lU (wK ω))
     .have e:a7 a b=(-cL (cm a.1) (cm b.1),[]):=by
       rw [show(decide (a.1<0) != decide (b.1<0))=true from gC.2 lU]at kQ;have kQ: -cL (cm a.1) (cm b.1)=a.1*b.1:=kQ;rw [hval,<-kQ];exact sw ω
      rw [e];refine bw k7 3 (afK a b (dy.2 ha) (dy.2 hb) Gz GA hm hhi hlo lU ?_);rw [wK (x:=cL (cm a.1) (cm b.1)) ω,wK ω];omega
    .exact cJ k7 3 (afM a b (dy.2 ha) (dy.2 hb) Gz GA hm hhi hlo) (Gy a b h g w F)
   .exact cJ k7 3 (afN a b (dy.2 ha) (dy.2 hb) Gz GA hm hhi) (Gy a b h g w F)
  .exact cJ k7 3 (afO a b (dy.2 ha) (su.2 hb)) (Gy a b h g w F)
 .exact cJ k7 3 (afP a b (su.2 ha)) (Gy a b h g w F)
def yO:wM.Ok prog:=fun⟨a,b,_⟩ h=>by
 have h:(ay a&&ay b)=true:=h;rw [ae]at h;exact afU a b h.1 h.2
def GB:=bc [uE,yK,wL]
def Dt:=IN 150 [cS,cS] [cS] false (fun d=>ay d.1&&ay d.2.1) fun d=>(cz d.1 d.2.1,())
def TJ:=IN 170 [cS] [cS] false (fun d=>ay d.1) fun d=>(pL d.1,())
def A5:=IN 93 [cS,cS] [.int .i64] true (fun d=>aT 50000 d.1&&aT 50000 d.2.1) fun d=>(fM d.1 d.2.1,())
def xa:=bc [Dt,wL]
def afV (a b:aC) (h1:(ay b)=true) (h2:(ay a&&ay (e6 b))=true):
  bh GB (fl TG []) 9 (f150.ntmps) [aA a,aA b] 1 f150 false (aA (b8 a (e6 b))):=
 wy [af (aF (v:=aA a)),af (aF (v:=aA b)),af h1,af h2] 67383425
def afW (a:aC) (h1:a.1<0) (h2:(ay a)=true):
  bh GB (fl LU []) 9 (f170.ntmps) [aA a] 3 f170 false (aA (e6 a)):=
 wy [ah h1,af h2] 129
def afX (a:aC) (h1:¬a.1<0):
  bh GB (fl LU []) 9 (f170.ntmps) [aA a] 2 f170 false (aA a):=
 wy [aJ h1] 1
section
variable (a b:aC) (h1:a.2.isEmpty=true) (h2:b.2.isEmpty=true)
def afY (h3:a.1<b.1):
  bh xa (fl A3 []) 9 29 [aA a,aA b] 127 f93 true (iv (-1)):=
 wy [af (aM (aM (h1))),af (aM (h1)),af (aM (h2)),ah h3] 4345827393
def afZ (h3:¬a.1<b.1) (h4:a.1>b.1):
  bh xa (fl A3 []) 9 29 [aA a,aA b] 223 f93 true (iv 1):=
 wy [af (aM (aM (h1))),af (aM (h1)),af (aM (h2)),aJ h3,ah h4] 347943211073
def af0 (h3:¬a.1<b.1) (h4:¬a.1>b.1):
  bh xa (fl A3 []) 9 29 [aA a,aA b] 159 f93 true (iv 0):=
 wy [af (aM (aM (h1))),af (aM (h1)),af (aM (h2)),aJ h3,aJ h4] 347943211073
end
def af1 (a b:aC) (h1:a.2.isEmpty=true) (h2:b.2.isEmpty=false) (h3:(ay a&&ay b)=true) (h4:(ay (cz a b))=true):
  bh xa (fl A3 []) 9 29 [aA a,aA b] 47 f93 true (iv (fk (cz a b))):=
 wy [af (aM (aM (h1))),af (aM (h1)),af (aM (h2)),af h3,af h4] 347943211073
def af2 (a b:aC) (h1:a.2.isEmpty=false) (h2:(ay a&&ay b)=true) (h3:(ay (cz a b))=true):
  bh xa (fl A3 []) 9 29 [aA a,aA b] 32 f93 true (iv (fk (cz a b))):=
 wy [af (aM (aM (h1))),af (aM (h1)),af h2,af h3] 278099660865
def a8 {n m:Nat} {a:aC} (hnm:n<=m) (h:aT n a=true):aT m a=true:=by
 by_cases hs:a.2=[]
 .rw [nH hs]at h ⊢;exact h
 .obtain⟨h1,h2,h3,h4,h5⟩:=(pM hs).1 h;exact(pM hs).2 ⟨h1,h2,h3,h4,by omega⟩
def oo {n:Nat} {a:aC} (h:aT n a=true) (hn:1<=n):aT n (e6 a)=true:=by
 have:=jI h hn;exact(jJ ω).1
def eK (a:aC):aj (e6 a)= -aj a:=val_mk _
def val_sub (a b:aC):aj (cz a b)=aj a-aj b:=by unfold cz;rw [nI,eK];omega
def de (a b:aC):aj (a7 a b)=aj a*aj b:=val_mk _
def GC (a:aC):aj (pL a)=(aj a).natAbs:=val_mk _
def LY:bC prog (bF GB):=cK (aP hJ (aP A4 (aP yN dQ)))
def af3 (a b:aC) (h:ay a=true) (g:ay b=true):Holds prog false 150 [aA a,aA b] (aA (cz a b)):=by
 refine bL (c:=TG) func150 rfl rfl fun w F=> ?_
 have gn:ay (e6 b)=true:=oo g δ;exact bw LY 9 (afV a b g (by rw [show ay (a.1,a.2)=true from h,Bool.true_and];exact gn))
def GD:Dt.Ok prog:=fun⟨a,b,_⟩ h=>by
 have h:(ay a&&ay b)=true:=h;rw [ae]at h;exact af3 a b h.1 h.2
def TK {n:Nat} {a:aC} (h:aT n a=true):a.1<0↔aj a<0:=by
 obtain⟨_,_,_,h4,_⟩:=cf h;rw [<-h4];unfold bY;rw [bE]
def af4 (a:aC) (h:ay a=true):Holds prog false 170 [aA a] (aA (pL a)):=by
 refine bL (c:=LU) func170 rfl rfl fun w F=> ?_
 by_cases hn:a.1<0
 .have hv:=(TK h).1 hn;have e:e6 a=pL a:=by unfold e6 pL;congr 1;omega
  rw [<-e];exact bw LY 9 (afW a hn h)
 .have hv:¬aj a<0:=fun hh=>hn ((TK h).2 hh)
  have e:a=pL a:=by
   have:=Gr h ω;unfold pL;rw [show((aj a).natAbs:Int)=aj a by omega];exact this
  have:=aU.ret (P:=prog) (w0:=w) (F:=F) (X:=pz) known mixed LY 9 _ (afX a hn) fun T H h=>h
  rw [<-e];exact this
def af5:TJ.Ok prog:=fun⟨a,_⟩ h=>af4 a h
def Du:bC prog (bF xa):=cK (aP GD (aP yN dQ))
def af6:(2:Int)*18446744073709551616^50000<=18446744073709551616^100000:=by
 have h:=iQ (b:=18446744073709551616) δ (show 50001<=100000 by decide);rw [show 50001=50000+1 from rfl,Int.pow_succ]at h;have:=dR (b:=18446744073709551616) δ 50000;generalize (18446744073709551616:Int)^50000=p at*;generalize (18446744073709551616:Int)^100000=q at*;omega
def SO {a b:aC} (h:aT 50000 a=true) (g:aT 50000 b=true):ay (cz a b)=true:=by
 have h1:=jI h δ;have g1:=jI g δ;have h2:=af6;refine q6 ?_;rw [eK];generalize (18446744073709551616:Int)^50000=p at*;generalize (18446744073709551616:Int)^100000=q at*;omega
def af7 (a b:aC) (h:aT 50000 a=true) (g:aT 50000 b=true):Holds prog true 93 [aA a,aA b] (iv (fM a b)):=by
 have ho:=SO h g;have hs:fk (cz a b)=fM a b:=by unfold fk fM;rw [val_sub]
 have h':=a8 (show 50000<=100000 by decide) h;have g':=a8 (show 50000<=100000 by decide) g;have hh:(ay (a.1,a.2)&&ay (b.1,b.2))=true:=by
  rw [show ay (a.1,a.2)=true from h',show ay (b.1,b.2)=true from g'];rfl
 refine bL (c:=A3) func93 rfl rfl fun w F=> ?_
 by_cases ha:a.2=[]
 .by_cases hb:b.2=[]
  .have e:fM a b=jH (a.1-b.1):=by unfold fM;rw [lT ha,lT hb]
   rw [e];by_cases h1:a.1<b.1
   .rw [Gs ω];exact bw Du 9 (afY a b (dy.2 ha) (dy.2 hb) h1)
   .by_cases h2:a.1>b.1
    .rw [LL ω];exact bw Du 9 (afZ a b (dy.2 ha) (dy.2 hb) h1 h2)
    .rw [show a.1-b.1=0 by omega,afj];exact bw Du 9 (af0 a b (dy.2 ha) (dy.2 hb) h1 h2)
  .rw [<-hs];exact bw Du 9 (af1 a b (dy.2 ha) (su.2 hb) hh ho)
 .rw [<-hs];exact bw Du 9 (af2 a b (su.2 ha) hh ho)
def Dv:A5.Ok prog:=fun⟨a,b,_⟩ h=>by
 have h:(aT 50000 a&&aT 50000 b)=true:=h;rw [ae]at h;exact af7 a b h.1 h.2
end
end Go.Proofs.YtibikmmdbdlafaaGreatDoor
namespace Go.Proofs.YtibikmmdbdlafaaGreatDoor
def fS (b:Int):Nat->Int->List Int
 |0,_=>[]
 |m+1,z=>z%b::fS b m (z/b)
def yP (b:Int):∀(m:Nat) (z:Int),(fS b m z).length=m
 |0,_=>rfl
 |m+1,z=>by rw [fS,List.length_cons,yP b m]
def Dw {b:Int} (hb:0<b):∀(m:Nat) (z:Int),aS b (fS b m z)
 |0,_=> .nil
 |m+1,z=> .cons ⟨dr _ ω,c7 _ hb⟩ (Dw hb m _)
def Dx {b:Int} (hb:0<b):∀(m:Nat) (z:Int),0<=z->z<b^m->vl b (fS b m z)=z
 |0,z,h0,h1=>by simp at h1;simp [fS,vl];omega
 |m+1,z,h0,h1=>by
  have h2:z/b<b^m:=Int.ediv_lt_of_lt_mul hb (by rw [Int.pow_succ]at h1;exact h1);have h3:=Dx hb m (z/b) (Int.ediv_nonneg h0 (cr hb)) h2;show z%b+b*vl b (fS b m (z/b))=z;rw [h3];exact Int.emod_add_mul_ediv z b
def LZ {b:Int} (hb:1<b) {l:List Int} (h:aS b l):l=fS b l.length (vl b l):=by
 have hb0:0<b:=by omega
 exact Lx hb h (Dw hb0 _ _) (yP b _ _).symm (Dx hb0 _ _ (fY hb0 h) (dt hb0 h)).symm
def L0 {b:Int} {u v:List Int} {n:Nat} (hb:2<=b) (hu:aS b u) (hv:aS b v) (bI:u.length=n+3) (lv:v.length=n+2) (h1:1<=v.getD (n+1) 0):
  AW b (v.getD (n+1) 0) (v.getD n 0) (vl b (v.take n)) (u.getD (n+2) 0) (u.getD (n+1) 0) (u.getD n 0) (vl b (u.take n)) (b^n):=by
 have hb0:0<b:=by omega
 have hp:=dR hb0 n;have l1:=dt hb0 (hv.take n);have l2:=dt hb0 (hu.take n);rw [ek,Nat.min_eq_left ω]at l1 l2;exact⟨hb,hp,⟨h1,(hv.get hb0 _).2⟩,hv.get hb0 _,⟨fY hb0 (hv.take n),l1⟩,hu.get hb0 _,hu.get hb0 _,hu.get hb0 _,⟨fY hb0 (hu.take n),l2⟩⟩
def L1 {b:Int} {v:List Int} {n:Nat} (lv:v.length=n+2):gG b (v.getD (n+1) 0) (v.getD n 0) (vl b (v.take n)) (b^n)=vl b v:=by
 have h1:=lS (b:=b) (l:=v) (k:=n+1) ω;have h2:=lS (b:=b) (l:=v) (k:=n) ω;rw [eH ω]at h1;rw [h1,h2];unfold gG;rw [Int.add_mul,Int.pow_succ,Int.mul_comm (v.getD (n+1) 0) b,Int.mul_assoc,Int.mul_comm (v.getD (n+1) 0),Int.mul_comm (v.getD n 0),<-Int.mul_assoc,Int.mul_comm b];omega
def L2 {b:Int} {u:List Int} {n:Nat} (bI:u.length=n+3):nE b (u.getD (n+2) 0) (u.getD (n+1) 0) (u.getD n 0) (vl b (u.take n)) (b^n)=vl b u:=by
 have h0:=lS (b:=b) (l:=u) (k:=n+2) ω;have h1:=lS (b:=b) (l:=u) (k:=n+1) ω;have h2:=lS (b:=b) (l:=u) (k:=n) ω;rw [eH ω]at h0;rw [h0,h1,h2];unfold nE;simp only [Int.pow_succ];generalize u.getD (n+2) 0=x;generalize u.getD (n+1) 0=y;generalize u.getD n 0=z;generalize b^n=P;clear h0 h1 h2 bI;generalize vl b (u.take n)=V;grind
def yQ {U V t:Int} (hV:0<V) (h1:0<=U-t*V) (h2:U-t*V<V):U/V=t/\U%V=U-t*V:=by
 have h3:U=(U-t*V)+t*V:=by omega
 have hq:U/V=t:=by
  rw [h3,Int.add_mul_ediv_right _ _ ω,Int.ediv_eq_zero_of_lt h1 h2];omega
 refine⟨hq, ?_⟩;have:=Int.emod_add_mul_ediv U V;rw [hq,Int.mul_comm]at this;omega
def af8 {B P lo c' c t v u u' sx bo X O W:Int} (h1:c'*B+lo=t*v+c) (h2:u'-B*sx=u-lo-bo) (hi:O-P*bo=X-t*W+P*c):
  O+P*u'-P*B*sx=X+P*u-t*(W+P*v)+P*B*c':=by
 grind
section
open Go.RowKit Sv Go.Proofs.Tryz
def eV (a b:Int):Int:=IntKind.wrap .u64 (((BitVec.ofInt 64 a|||BitVec.ofInt 64 b).toNat:Nat):Int)
def L3 {a b:Int} {s:Nat} (hs:s<=64) (ha:0<=a/\a<2^s) {c:Int} (hc:0<=c) (hb:b=2^s*c) (kO:b<18446744073709551616):eV a b=a+b:=by
 obtain⟨A,rfl⟩:∃A:Nat,a=(A:Int):=⟨a.toNat,by omega⟩;obtain⟨C,rfl⟩:∃C:Nat,c=(C:Int):=⟨c.toNat,by omega⟩;have hA:A<2^s:=by have:=ha.2;exact_mod_cast this
 have hb':b=((2^s*C:Nat):Int):=by rw [hb];norm_cast
 subst hb';have q7:((2^64:Nat):Int)=18446744073709551616:=rfl;have hB:2^s*C<2^64:=by rw [<-q7]at kO;exact Int.ofNat_lt.1 kO
 have vV:A<2^64:=Nat.lt_of_lt_of_le hA (Nat.pow_le_pow_right δ hs);unfold eV;rw [BitVec.toNat_or,BitVec.ofInt_natCast,BitVec.ofInt_natCast,BitVec.toNat_ofNat,BitVec.toNat_ofNat,Nat.mod_eq_of_lt vV,Nat.mod_eq_of_lt hB];have e:A|||2^s*C=A+2^s*C:=by
  rw [Nat.or_comm,<-Nat.two_pow_add_eq_or_of_lt hA C,Nat.add_comm]
 have hlt:A|||2^s*C<2^64:=Nat.or_lt_two_pow vV hB;rw [e]at hlt ⊢;rw [fL ⟨Int.natCast_nonneg _,by have:(2:Nat)^64=18446744073709551616:=rfl;omega⟩];exact Int.natCast_add _ _
def L4 {x:Int} {s:Nat} (hs:s<=64) (hx:0<=x/\x<18446744073709551616):
  x*2^s%18446744073709551616=2^s*(x%2^(64-s))/\x*2^s=2^s*(x%2^(64-s))+18446744073709551616*(x/2^(64-s))/\(0<=x/2^(64-s)/\x/2^(64-s)<2^s)/\(0<=x%2^(64-s)/\x%2^(64-s)<2^(64-s)):=by
 have hp:(0:Int)<2^(64-s):=dR δ _;have hq:(0:Int)<2^s:=dR δ _;have jD:(2:Int)^s*2^(64-s)=18446744073709551616:=by rw [<-Int.pow_add,show s+(64-s)=64 by omega];rfl
 have hd:=Int.emod_add_mul_ediv x (2^(64-s));have h0:=dr x (show(2:Int)^(64-s)≠0 by omega);have h1:=c7 x hp;have h2:0<=x/2^(64-s):=Int.ediv_nonneg hx.1 (cr hp);have h3:x/2^(64-s)<2^s:=Int.ediv_lt_of_lt_mul hp (by rw [jD];exact hx.2);have e:x*2^s=2^s*(x%2^(64-s))+18446744073709551616*(x/2^(64-s)):=by
  have:2^s*(x%2^(64-s)+2^(64-s)*(x/2^(64-s)))=2^s*x:=by rw [hd]
  rw [Int.mul_add,<-Int.mul_assoc,jD]at this;rw [Int.mul_comm x];omega
 refine⟨?_,e,⟨h2,h3⟩,h0,h1⟩;rw [e,Int.add_mul_emod_self_left];refine Int.emod_eq_of_lt (Int.mul_nonneg (cr hq) h0) ?_;rw [<-jD];exact Int.mul_lt_mul_of_pos_left h1 hq
end
def af9 {l:List Int} {k:Nat} (h:k<l.length):l.drop k=l.getD k 0::l.drop (k+1):=by
 rw [uB h];exact List.drop_eq_getElem_cons h
def uF {b:Int} {l:List Int} {k:Nat} (h:k<l.length):vl b (l.drop k)=l.getD k 0+b*vl b (l.drop (k+1)):=by
 rw [af9 h];rfl
def L5 {b:Int} (hb:1<b) {u:List Int} {j n:Nat} (hu:aS b u) (hj:j+n+1<=u.length) {V:Int} (hV:V<=b^n) (h:vl b (u.drop (j+1))<V):
  vl b (u.drop j)=vl b ((u.drop j).take (n+1))/\vl b (u.drop j)<b*V/\vl b (u.drop (j+n+1))=0:=by
 have hb0:0<b:=by omega
 have h1:=uF (b:=b) (l:=u) (k:=j) ω;have h2:=hu.get hb0 j;have h3:vl b (u.drop j)<b*V:=by
  have:b*vl b (u.drop (j+1))<=b*(V-1):=dn ω (cr hb0);rw [Int.mul_sub,Int.mul_one]at this;omega
 have h4:vl b (u.drop j)<b^(n+1):=by
  have:b*V<=b*b^n:=dn hV (cr hb0);rw [Int.pow_succ,Int.mul_comm];omega
 have h5:=Dm hb0 (hu.drop j) h4;refine⟨h5.symm,h3, ?_⟩;have h6:=si b (u.drop j) (n+1) (by rw [mb];omega);rw [h5,List.drop_drop]at h6;have h7:b^(n+1)*vl b (u.drop (j+(n+1)))=0:=by omega
 rcases Int.mul_eq_zero.1 h7 with h8|h8
 .have:=dR hb0 (n+1);omega
 .exact h8
def TL {b:Int} (hb:1<b) {u:List Int} {j n:Nat} (hu:aS b u) (hj:j+n+1<=u.length) {V:Int} (iz:0<V) (hV:V<=b^n) (h:vl b (u.drop (j+1))<V) {u':List Int}
  (GF:u'=u.take j++(fS b (n+1) (vl b ((u.drop j).take (n+1))%V)++u.drop (j+(n+1)))):
  u'.length=u.length/\aS b u'/\vl b u'+b^j*(vl b ((u.drop j).take (n+1))/V)*V=vl b u/\vl b (u'.drop j)<V:=by
 have hb0:0<b:=by omega
 obtain⟨h1,h2,h3⟩:=L5 hb hu hj hV h;generalize hW:vl b ((u.drop j).take (n+1))=W at*;have hm0:=dr W (show V≠0 by omega);have pN:=c7 W iz;have hm2:W%V<b^(n+1):=by
  have:=iQ (show 1<=b by omega) (show n<=n+1 by omega);omega
 have hpv:=Dx hb0 (n+1) (W%V) hm0 hm2;have wz:(u.take j).length=j:=by rw [ek];omega
 have hdj:u'.drop j=fS b (n+1) (W%V)++u.drop (j+(n+1)):=by
  rw [GF,List.drop_append,wz,Nat.sub_self,List.drop_zero,List.drop_eq_nil_of_le ω,List.nil_append]
 have aga:u'.take j=u.take j:=by
  rw [GF,List.take_append,wz,Nat.sub_self,List.take_zero,List.append_nil,eH ω]
 have Dy:vl b (u'.drop j)=W%V:=by rw [hdj,Ga,hpv,<-Nat.add_assoc,h3,Int.mul_zero,Int.add_zero]
 have hlen:u'.length=u.length:=by
  rw [GF,cQ,cQ,wz,yP,mb];omega
 refine⟨hlen, ?_, ?_,by rw [Dy];exact pN⟩
 .rw [GF];exact(hu.take j).app ((Dw hb0 _ _).app (hu.drop _))
 .rw [si b u' j ω,si b u j ω,aga,Dy,h1];have e:=Int.emod_add_mul_ediv W V;have e2:b^j*(W%V+V*(W/V))=b^j*W:=by rw [e]
  rw [Int.mul_add]at e2;have e3:b^j*(W/V)*V=b^j*(V*(W/V)):=by rw [Int.mul_assoc,Int.mul_comm (W/V)]
  omega
def L6 {A b V S U q:Int} (hS:0<S) (hb:0<b) (hV:V=b*S) (h:U+V*q=A*S) (h0:0<=U) (h1:U<V):A/b=q/\U=S*(A%b):=by
 have e:U=S*(A-b*q):=by
  rw [Int.mul_sub,Int.mul_comm S A];have:S*(b*q)=V*q:=by rw [hV,<-Int.mul_assoc,Int.mul_comm S b]
  omega
 have g0:0<=A-q*b:=by
  rw [Int.mul_comm q b];refine Int.not_lt.1 fun hn=> ?_
  have:=Int.mul_lt_mul_of_pos_left hn hS;omega
 have g1:A-q*b<b:=by
  rw [Int.mul_comm q b];refine Int.not_le.1 fun hn=> ?_
  have:=dn hn (cr hS);rw [<-e,Int.mul_comm S b,<-hV]at this;omega
 obtain⟨k1,k2⟩:=yQ hb g0 g1;exact⟨k1,by rw [e,k2,Int.mul_comm b q]⟩
section
open Go.RowKit Sv Go.Proofs.Tryz
noncomputable section
def dY (x:Int):Int:=64-(Lib.bitLen x.toNat:Int)
def wO (x:Int):Bool:=decide (0<=x)&&decide (x<18446744073709551616)
def L7:=IN 224 [aE] [.int .i64] true (fun d=>wO d.1) fun d=>(dY d.1,())
def jg:=k_a f223
def nJ:=bc [L7]
abbrev A6:List Nat:=[1,1,1,1,1,1,1,1,1,1,1,1,1,1,0,0,0]
abbrev A7:List Nat:=[1,1,1,1,1,1,1,1,1,1,1,1,1,1,1,1,1,1,0,0,0]
def jh (Y s v1 v2 X c d q r:Int):bD:={n:=135,sl:=[(2,cu Y),(8,cu s),(9,cu v1),(10,cu v2),(11,cu X),(13,cu c),(14,cu d),(15,cu q),(16,cu r)],bJ:=[],next:=64}
def ji (Y s v1 v2 d p X q r:Int):bD:={n:=135,sl:=[(2,cu Y),(8,cu s),(9,cu v1),(10,cu v2),(14,cu d),(15,cu p),(17,cu X),(18,cu q),(16,cu r)],bJ:=[],next:=64}
def agb (hi lo y:Int) (h1:¬y=0) (h2:¬y<=hi) (h3:hi=0) (h4:y≠0) (h5:(IntKind.wrap IntKind.u64 (Int.tdiv lo y))=(lo/y)) (h6:(Int.tmod lo y)=(lo%y)):
  bh nJ (fl jg []) 9 135 [cu hi,cu lo,cu y] 12 f223 true (.tuple [cu (lo/y),cu (lo%y)]):=
 wy [yn h1,aJ h2,cX h3,ah h4,ax h5,ax h6] 417753739393
def agc (hi lo y Y s v1 v2 X c d q r:Int) (h1:¬y=0) (h2:¬y<=hi) (h3:¬hi=0) (h4:(wO y)=true) (h5:0<=IntKind.wrap IntKind.u64 (dY y)) (h6:0<=IntKind.wrap IntKind.u64 (64-IntKind.wrap IntKind.u64 (dY y))) (h7:Int.fdiv (IntKind.wrap IntKind.u64 (y*(2:Int)^min (IntKind.wrap IntKind.u64 (dY y)).toNat 64)) ((2:Int)^min (Int.toNat 32) 64)≠0) (h8:(IntKind.wrap IntKind.u64 (y*(2:Int)^min (IntKind.wrap IntKind.u64 (dY y)).toNat 64))=(Y)) (h9:(IntKind.wrap IntKind.u64 (dY y))=(s)) (h10:(Int.fdiv (IntKind.wrap IntKind.u64 (y*(2:Int)^min (IntKind.wrap IntKind.u64 (dY y)).toNat 64)) ((2:Int)^min (Int.toNat 32) 64))=(v1)) (h11:(IntKind.wrap IntKind.u64 (↑(BitVec.toNat (BitVec.ofInt 64 (IntKind.wrap IntKind.u64 (y*(2:Int)^min (IntKind.wrap IntKind.u64 (dY y)).toNat 64)) &&& BitVec.ofInt 64 4294967295)):Int))=(v2)) (h12:(IntKind.wrap IntKind.u64 (↑(BitVec.toNat (BitVec.ofInt 64 (IntKind.wrap IntKind.u64 (hi*(2:Int)^min (IntKind.wrap IntKind.u64 (dY y)).toNat 64))|||BitVec.ofInt 64 (Int.fdiv lo ((2:Int)^min (IntKind.wrap IntKind.u64 (64-IntKind.wrap IntKind.u64 (dY y))).toNat 64)))):Int))=(X)) (dF:(Int.fdiv (IntKind.wrap IntKind.u64 (lo*(2:Int)^min (IntKind.wrap IntKind.u64 (dY y)).toNat 64)) ((2:Int)^min (Int.toNat 32) 64))=(c)) (gb:(IntKind.wrap IntKind.u64 (↑(BitVec.toNat (BitVec.ofInt 64 (IntKind.wrap IntKind.u64 (lo*(2:Int)^min (IntKind.wrap IntKind.u64 (dY y)).toNat 64)) &&& BitVec.ofInt 64 4294967295)):Int))=(d)) (iA:(IntKind.wrap IntKind.u64 (Int.tdiv (IntKind.wrap IntKind.u64 (↑(BitVec.toNat (BitVec.ofInt 64 (IntKind.wrap IntKind.u64 (hi*(2:Int)^min (IntKind.wrap IntKind.u64 (dY y)).toNat 64))|||BitVec.ofInt 64 (Int.fdiv lo ((2:Int)^min (IntKind.wrap IntKind.u64 (64-IntKind.wrap IntKind.u64 (dY y))).toNat 64)))):Int)) (Int.fdiv (IntKind.wrap IntKind.u64 (y*(2:Int)^min (IntKind.wrap IntKind.u64 (dY y)).toNat 64)) ((2:Int)^min (Int.toNat 32) 64))))=(q)) (k8:(IntKind.wrap IntKind.u64 (IntKind.wrap IntKind.u64 (↑(BitVec.toNat (BitVec.ofInt 64 (IntKind.wrap IntKind.u64 (hi*(2:Int)^min (IntKind.wrap IntKind.u64 (dY y)).toNat 64))|||BitVec.ofInt 64 (Int.fdiv lo ((2:Int)^min (IntKind.wrap IntKind.u64 (64-IntKind.wrap IntKind.u64 (dY y))).toNat 64)))):Int)-IntKind.wrap IntKind.u64 (IntKind.wrap IntKind.u64 (Int.tdiv (IntKind.wrap IntKind.u64 (↑(BitVec.toNat (BitVec.ofInt 64 (IntKind.wrap IntKind.u64 (hi*(2:Int)^min (IntKind.wrap IntKind.u64 (dY y)).toNat 64))|||BitVec.ofInt 64 (Int.fdiv lo ((2:Int)^min (IntKind.wrap IntKind.u64 (64-IntKind.wrap IntKind.u64 (dY y))).toNat 64)))):Int)) (Int.fdiv (IntKind.wrap IntKind.u64 (y*(2:Int)^min (IntKind.wrap IntKind.u64 (dY y)).toNat 64)) ((2:Int)^min (Int.toNat 32) 64)))*Int.fdiv (IntKind.wrap IntKind.u64 (y*(2:Int)^min (IntKind.wrap IntKind.u64 (dY y)).toNat 64)) ((2:Int)^min (Int.toNat 32) 64))))=(r)):
  cZ nJ (fl jg []) 17 135 [cu hi,cu lo,cu y] 8 .normal [] (jh Y s v1 v2 X c d q r):=
 wy [yn h1,aJ h2,yn h3,af h4,ah h5,ah h6,ah h7,ax h8,ax h9,ax h10,ax h11,ax h12,ax dF,ax gb,ax iA,ax k8] 337246810721947665302387067909582977
section
variable (Y s v1 v2 X c d q r:Int)
def agd (h1:q>=4294967296) (h2:IntKind.wrap IntKind.u64 (r+v1)>=4294967296) (h3:(IntKind.wrap IntKind.u64 (q-1))=(q-1)) (h4:(IntKind.wrap IntKind.u64 (r+v1))=(r+v1)):
  bt nJ (fl jg A6) (jh Y s v1 v2 X c d q r) 3840 (.exit 0) [] (jh Y s v1 v2 X c d (q-1) (r+v1)):=
 wy [af (bq (az h1)),ah h1,ah h2,ax h3,ax h4] 105144011385330262937074482297442369
def age (h1:q>=4294967296) (h2:¬IntKind.wrap IntKind.u64 (r+v1)>=4294967296) (h3:(IntKind.wrap IntKind.u64 (q-1))=(q-1)) (h4:(IntKind.wrap IntKind.u64 (r+v1))=(r+v1)):
  bt nJ (fl jg A6) (jh Y s v1 v2 X c d q r) 2816 .normal [] (jh Y s v1 v2 X c d (q-1) (r+v1)):=
 wy [af (bq (az h1)),ah h1,aJ h2,ax h3,ax h4] 105144011385330262937074482297442369
def agf (h1:¬q>=4294967296) (h2:IntKind.wrap IntKind.u64 (q*v2)>IntKind.wrap IntKind.u64 (IntKind.wrap IntKind.u64 (4294967296*r)+c)) (h3:IntKind.wrap IntKind.u64 (r+v1)>=4294967296) (h4:(IntKind.wrap IntKind.u64 (q-1))=(q-1)) (h5:(IntKind.wrap IntKind.u64 (r+v1))=(r+v1)):
  bt nJ (fl jg A6) (jh Y s v1 v2 X c d q r) 3839 (.exit 0) [] (jh Y s v1 v2 X c d (q-1) (r+v1)):=
 wy [af (bq (ab h1)),aJ h1,ah h2,ah h3,ax h4,ax h5] 126237717373128001384944323770191937
def agh (h1:¬q>=4294967296) (h2:IntKind.wrap IntKind.u64 (q*v2)>IntKind.wrap IntKind.u64 (IntKind.wrap IntKind.u64 (4294967296*r)+c)) (h3:¬IntKind.wrap IntKind.u64 (r+v1)>=4294967296) (h4:(IntKind.wrap IntKind.u64 (q-1))=(q-1)) (h5:(IntKind.wrap IntKind.u64 (r+v1))=(r+v1)):
  bt nJ (fl jg A6) (jh Y s v1 v2 X c d q r) 2815 .normal [] (jh Y s v1 v2 X c d (q-1) (r+v1)):=
 wy [af (bq (ab h1)),aJ h1,ah h2,aJ h3,ax h4,ax h5] 126237717373128001384944323770191937
def agi (h1:¬q>=4294967296) (h2:¬IntKind.wrap IntKind.u64 (q*v2)>IntKind.wrap IntKind.u64 (IntKind.wrap IntKind.u64 (4294967296*r)+c)):
  bt nJ (fl jg A6) (jh Y s v1 v2 X c d q r) 1279 (.exit 0) [] (jh Y s v1 v2 X c d q r):=
 wy [af (bq (ab h1)),aJ h1,aJ h2] 54610613338640449
end
def agj (Y s v1 v2 X c d q r eG aQ r2:Int) (h1:v1≠0) (h2:(IntKind.wrap IntKind.u64 (IntKind.wrap IntKind.u64 (IntKind.wrap IntKind.u64 (X*4294967296)+c)-IntKind.wrap IntKind.u64 (q*Y)))=(eG)) (h3:(IntKind.wrap IntKind.u64 (Int.tdiv (IntKind.wrap IntKind.u64 (IntKind.wrap IntKind.u64 (IntKind.wrap IntKind.u64 (X*4294967296)+c)-IntKind.wrap IntKind.u64 (q*Y))) v1))=(aQ)) (h4:(IntKind.wrap IntKind.u64 (IntKind.wrap IntKind.u64 (IntKind.wrap IntKind.u64 (IntKind.wrap IntKind.u64 (X*4294967296)+c)-IntKind.wrap IntKind.u64 (q*Y))-IntKind.wrap IntKind.u64 (IntKind.wrap IntKind.u64 (Int.tdiv (IntKind.wrap IntKind.u64 (IntKind.wrap IntKind.u64 (IntKind.wrap IntKind.u64 (X*4294967296)+c)-IntKind.wrap IntKind.u64 (q*Y))) v1)*v1)))=(r2)):
  cY nJ ((fl jg []).drop 18) 3 (jh Y s v1 v2 X c d q r) 1 .normal [] (ji Y s v1 v2 d q eG aQ r2):=
 wy [ah h1,ax h2,ax h3,ax h4] 72910815061082113
section
variable (Y s v1 v2 d p X q r:Int)
def agk (h1:q>=4294967296) (h2:IntKind.wrap IntKind.u64 (r+v1)>=4294967296) (h3:(IntKind.wrap IntKind.u64 (q-1))=(q-1)) (h4:(IntKind.wrap IntKind.u64 (r+v1))=(r+v1)):
  bt nJ (fl jg A7) (ji Y s v1 v2 d p X q r) 3840 (.exit 2) [] (ji Y s v1 v2 d p X (q-1) (r+v1)):=
 wy [af (bq (az h1)),ah h1,ah h2,ax h3,ax h4] 105144011385330262937074482297442369
def agl (h1:q>=4294967296) (h2:¬IntKind.wrap IntKind.u64 (r+v1)>=4294967296) (h3:(IntKind.wrap IntKind.u64 (q-1))=(q-1)) (h4:(IntKind.wrap IntKind.u64 (r+v1))=(r+v1)):
  bt nJ (fl jg A7) (ji Y s v1 v2 d p X q r) 2816 .normal [] (ji Y s v1 v2 d p X (q-1) (r+v1)):=
 wy [af (bq (az h1)),ah h1,aJ h2,ax h3,ax h4] 105144011385330262937074482297442369
def agm (h1:¬q>=4294967296) (h2:IntKind.wrap IntKind.u64 (q*v2)>IntKind.wrap IntKind.u64 (IntKind.wrap IntKind.u64 (4294967296*r)+d)) (h3:IntKind.wrap IntKind.u64 (r+v1)>=4294967296) (h4:(IntKind.wrap IntKind.u64 (q-1))=(q-1)) (h5:(IntKind.wrap IntKind.u64 (r+v1))=(r+v1)):
  bt nJ (fl jg A7) (ji Y s v1 v2 d p X q r) 3839 (.exit 2) [] (ji Y s v1 v2 d p X (q-1) (r+v1)):=
 wy [af (bq (ab h1)),aJ h1,ah h2,ah h3,ax h4,ax h5] 126237717373128001384944323770191937
def agn (h1:¬q>=4294967296) (h2:IntKind.wrap IntKind.u64 (q*v2)>IntKind.wrap IntKind.u64 (IntKind.wrap IntKind.u64 (4294967296*r)+d)) (h3:¬IntKind.wrap IntKind.u64 (r+v1)>=4294967296) (h4:(IntKind.wrap IntKind.u64 (q-1))=(q-1)) (h5:(IntKind.wrap IntKind.u64 (r+v1))=(r+v1)):
  bt nJ (fl jg A7) (ji Y s v1 v2 d p X q r) 2815 .normal [] (ji Y s v1 v2 d p X (q-1) (r+v1)):=
 wy [af (bq (ab h1)),aJ h1,ah h2,aJ h3,ax h4,ax h5] 126237717373128001384944323770191937
def ago (h1:¬q>=4294967296) (h2:¬IntKind.wrap IntKind.u64 (q*v2)>IntKind.wrap IntKind.u64 (IntKind.wrap IntKind.u64 (4294967296*r)+d)):
  bt nJ (fl jg A7) (ji Y s v1 v2 d p X q r) 1279 (.exit 2) [] (ji Y s v1 v2 d p X q r):=
 wy [af (bq (ab h1)),aJ h1,aJ h2] 54610613338640449
end
def agp (Y s v1 v2 d p X q r a b:Int) (h1:0<=s) (h2:(IntKind.wrap IntKind.u64 (IntKind.wrap IntKind.u64 (p*4294967296)+q))=(a)) (h3:(Int.fdiv (IntKind.wrap IntKind.u64 (IntKind.wrap IntKind.u64 (IntKind.wrap IntKind.u64 (X*4294967296)+d)-IntKind.wrap IntKind.u64 (q*Y))) ((2:Int)^min s.toNat 64))=(b)):
  bS nJ ((fl jg []).drop 22) (ji Y s v1 v2 d p X q r) 1 f223 true (.tuple [cu a,cu b]):=
 wy [ah h1,ax h2,ax h3] 12417
def kz (hi lo y:Int):Int:=(hi*18446744073709551616+lo)/y
def oq (hi lo y:Int):Int:=(hi*18446744073709551616+lo)%y
def uG (hi lo y:Int):Bool:=(decide (0<=hi)&&decide (hi<y))&&(wO lo&&wO y)
def L8:=IN 223 [aE,aE,aE] [aE,aE] true (fun d=>uG d.1 d.2.1 d.2.2.1) fun d=>(kz d.1 d.2.1 d.2.2.1,(oq d.1 d.2.1 d.2.2.1,()))
def sy {x:Int}:wO x=true↔0<=x/\x<18446744073709551616:=by
 unfold wO;rw [ae,bE,bE]
def TM:L7.Ok prog:=fun⟨x,_⟩ h w F xs hF cv hd=>by
 have h:=sy.1 h;cases hd with
 |cons d1 d2=>
  cases d2;rw [d1.cg];refine(Tryz.bits_LeadingZeros64 x w h.1 ω).mono fun e w' ⟨h1,h2⟩=> ?_
  subst h2;exact⟨_,⟨F.at',fun _=>none⟩,h1, .raw _,⟨hF.pE,hF.all,fun b A h=>by cases h⟩,(fun b A h=>by cases h),Below.refl _ _⟩
def q8 (z:Int):IntKind.wrap .u64 z=z%18446744073709551616:=by
 unfold IntKind.wrap;have e:IntKind.signed .u64=false:=rfl;have e2:IntKind.bits .u64=64:=rfl;simp only [e,e2,Bool.false_and,Bool.false_eq_true,if_false];rfl
def agq {a:Int} (h:0<=a/\a<18446744073709551616):IntKind.wrap .u64 (((BitVec.ofInt 64 a &&& BitVec.ofInt 64 4294967295).toNat:Nat):Int)=a%4294967296:=by
 obtain⟨A,rfl⟩:∃A:Nat,a=(A:Int):=⟨a.toNat,by omega⟩;have hA:A<2^64:=by have q7:((2^64:Nat):Int)=18446744073709551616:=rfl;rw [<-q7]at h;exact Int.ofNat_lt.1 h.2
 rw [BitVec.toNat_and,BitVec.ofInt_natCast,BitVec.toNat_ofNat,Nat.mod_eq_of_lt hA];rw [show(BitVec.ofInt 64 4294967295).toNat=2^32-1 from rfl,Nat.and_two_pow_sub_one_eq_mod];have:A%2^32<2^32:=Nat.mod_lt _ δ;rw [fL (by have e:(2:Nat)^32=4294967296:=rfl;omega)];rfl
def agr (a b:Int):eV a b=eV b a:=by unfold eV;rw [BitVec.or_comm]
def ags:∀f:Nat,Lib.bitLenAux f 0=0
 |0=>rfl
 |f+1=>by unfold Lib.bitLenAux;rw [if_pos rfl]
def bitLen_spec:∀(f x:Nat),x<2^f->0<x->2^(Lib.bitLenAux f x-1)<=x/\x<2^Lib.bitLenAux f x/\1<=Lib.bitLenAux f x/\Lib.bitLenAux f x<=f:=by
 intro f;induction f with
 |zero=>intro x h h0;simp at h;omega
 |succ f ih=>
  intro x h h0;unfold Lib.bitLenAux;rw [if_neg ω];by_cases h1:x=1
  .subst h1;rw [show 1/2=0 from rfl,ags];simp
  .obtain⟨g1,g2,g3,g4⟩:=ih (x/2) (by rw [Nat.pow_succ]at h;omega) ω;generalize Lib.bitLenAux f (x/2)=L at*;obtain⟨l,rfl⟩:∃l,L=l+1:=⟨L-1,by omega⟩;rw [show 1+(l+1)-1=l+1 by omega,show 1+(l+1)=l+1+1 by omega];rw [Nat.add_sub_cancel]at g1;rw [Nat.pow_succ]at g2;rw [Nat.pow_succ,Nat.pow_succ];omega
def TN {x:Int} (h:0<x/\x<18446744073709551616):∃s:Nat,dY x=s/\s<=63/\9223372036854775808<=x*2^s/\x*2^s<18446744073709551616:=by
 obtain⟨X,rfl⟩:∃X:Nat,x=(X:Int):=⟨x.toNat,by omega⟩;have q7:((2^64:Nat):Int)=18446744073709551616:=rfl;have hX:X<2^64:=by rw [<-q7]at h;exact Int.ofNat_lt.1 h.2
 obtain⟨g1,g2,g3,g4⟩:=bitLen_spec 64 X hX ω;refine⟨64-Lib.bitLenAux 64 X, ?_,by omega, ?_, ?_⟩
 .unfold dY Lib.bitLen;rw [Int.toNat_natCast];omega
 .generalize Lib.bitLenAux 64 X=L at*;have h1:2^(L-1)*2^(64-L)<=X*2^(64-L):=Nat.mul_le_mul_right _ g1;rw [<-Nat.pow_add,show L-1+(64-L)=63 by omega]at h1;have e:((X*2^(64-L):Nat):Int)=(X:Int)*2^(64-L):=by rw [Int.natCast_mul,Int.natCast_pow];rfl
  have TP:((2^63:Nat):Int)=9223372036854775808:=rfl;rw [<-e,<-TP];exact Int.ofNat_le.2 h1
 .generalize Lib.bitLenAux 64 X=L at*;have h1:X*2^(64-L)<2^L*2^(64-L):=Nat.mul_lt_mul_of_pos_right g2 (Nat.pow_pos δ);rw [<-Nat.pow_add,show L+(64-L)=64 by omega]at h1;have e:((X*2^(64-L):Nat):Int)=(X:Int)*2^(64-L):=by rw [Int.natCast_mul,Int.natCast_pow];rfl
  rw [<-e,<-q7];exact Int.ofNat_lt.2 h1
section
variable {b v1 v2 X c q r:Int}
def TQ (h:q*v1+r=X):q*(v1*b+v2)=X*b-r*b+q*v2:=by subst h;grind
def GG (hY:0<v1*b+v2) (h:q*v1+r=X) (hq:(X*b+c)/(v1*b+v2)<=q) (hle:q*v2<=b*r+c):(X*b+c)/(v1*b+v2)=q:=by
 have h1:q*(v1*b+v2)<=X*b+c:=by rw [TQ h,Int.mul_comm r b];omega
 have:=(Int.le_ediv_iff_mul_le hY).2 h1;omega
def TR (hY:0<v1*b+v2) (hX:X<v1*b+v2) (hb:0<b) (hc:c<b) (h:q*v1+r=X) (hgt:b<=q\/b*r+c<q*v2):(X*b+c)/(v1*b+v2)<=q-1:=by
 have h1:X*b+c<q*(v1*b+v2):=by
  rcases hgt with hgt|hgt
  .have a1:=ar hgt (cr hY);have a2:=ar (show X<=v1*b+v2-1 by omega) (cr hb);rw [Int.sub_mul,Int.one_mul,Int.mul_comm (v1*b+v2)]at a2;omega
  .rw [TQ h,Int.mul_comm r b];omega
 have:=(Int.ediv_lt_iff_lt_mul hY).2 h1;omega
def TS (yR:0<=v1) (hX:X<v1*b+v2) (iO:0<=v2/\v2<b) (hc:0<=c) (h:q*v1+r=X) (h0:0<=q) (hr:b<=r):q*v2<=b*r+c:=by
 have fX:q<b:=by
  refine Int.not_le.1 fun hn=> ?_
  have:=ar hn yR;rw [Int.mul_comm b v1]at this;omega
 have a1:q*v2<=b*b:=Int.mul_le_mul (cr fX) (cr iO.2) iO.1 ω;have a2:=dn hr (show 0<=b by omega);omega
end
def agt {q v:Int} (h0:0<=q) (hq:q<4294967296) (hv:0<=v/\v<4294967296):0<=q*v/\q*v<18446744073709551616:=by
 refine⟨Int.mul_nonneg h0 hv.1, ?_⟩;have:=Int.mul_le_mul (show q<=4294967295 by omega) (show v<=4294967295 by omega) hv.1 δ;omega
structure A8 (v1 v2 X c Y:Int):Prop where
 y:Y=v1*4294967296+v2
 v1:2147483648<=v1/\v1<4294967296
 v2:0<=v2/\v2<4294967296
 x:0<=X/\X<Y
 c:0<=c/\c<4294967296
def A8.start {v1 v2 X c Y:Int} (p:A8 v1 v2 X c Y):X.tdiv v1*v1+(X-X.tdiv v1*v1)=X/\(X*4294967296+c)/Y<=X.tdiv v1/\0<=X.tdiv v1/\0<=X-X.tdiv v1*v1/\X-X.tdiv v1*v1<4294967296/\X.tdiv v1<18446744073709551616:=by
 have hv:=p.v1;have hx:=p.x;have hy:=p.y;have iO:=p.v2;have e:X.tdiv v1=X/v1:=Int.tdiv_eq_ediv_of_nonneg hx.1;rw [e];have h1:=Int.emod_add_mul_ediv X v1;have h2:=dr X (show v1≠0 by omega);have h3:=c7 X (show 0<v1 by omega);rw [Int.mul_comm]at h1;have h4:0<=X/v1:=Int.ediv_nonneg hx.1 ω;have h5:X/v1<=X:=Int.ediv_le_self _ hx.1;refine⟨by omega, ?_,h4,by omega,by omega,by omega⟩;have hY:0<Y:=by omega
 have hc:=p.c;have key:X*4294967296+c<(X/v1+1)*Y:=by
  have a1:(X/v1+1)*Y=(X/v1*v1+v1)*4294967296+(X/v1+1)*v2:=by rw [hy];grind
  have a2:=Int.mul_nonneg (show 0<=X/v1+1 by omega) iO.1;omega
 have:=(Int.ediv_lt_iff_lt_mul hY).2 key;omega
def A8.lim {v1 v2 X c Y q r:Int} (p:A8 v1 v2 X c Y) (h0:0<=q) (hq:q<4294967296) (hr:0<=r/\r<4294967296):IntKind.wrap .u64 (q*v2)=q*v2/\IntKind.wrap .u64 (IntKind.wrap .u64 (4294967296*r)+c)=4294967296*r+c:=by
 have hc:=p.c;exact⟨fL (agt h0 hq p.v2),by rw [fL (x:=4294967296*r) ω,fL ω]⟩
def agu (hi lo y:Int) (h:uG hi lo y=true):Holds prog true 223 [cu hi,cu lo,cu y] (.tuple [cu (kz hi lo y),cu (oq hi lo y)]):=by
 unfold uG at h;simp only [ae,bE,sy]at h;obtain⟨⟨tU,auf⟩,⟨Dz,agv⟩,y0,y1⟩:=h;have hS:=uz TM;refine bL (c:=jg) func223 rfl rfl fun w F=> ?_
 by_cases hz:hi=0
 .have e1:kz hi lo y=lo/y:=by unfold kz;rw [hz,Int.zero_mul,Int.zero_add]
  have e2:oq hi lo y=lo%y:=by unfold oq;rw [hz,Int.zero_mul,Int.zero_add]
  rw [e1,e2];refine bw hS 9 (agb hi lo y ω ω hz ω ?_ (Int.tmod_eq_emod_of_nonneg Dz));rw [Int.tdiv_eq_ediv_of_nonneg Dz];exact fL ⟨Int.ediv_nonneg Dz ω,by have:=Int.ediv_le_self y Dz;omega⟩
 .obtain⟨s,hs,TT,TU,TV⟩:=TN (x:=y) ω;have A9:IntKind.wrap .u64 (dY y)=(s:Int):=by rw [hs];exact fL ω
  have TW:IntKind.wrap .u64 (64-(s:Int))=((64-s:Nat):Int):=by rw [fL ω];omega
  have hp:(0:Int)<2^s:=dR δ _;obtain⟨l1,l2,l3,l4⟩:=L4 (x:=lo) (s:=s) ω ⟨Dz,agv⟩;generalize TX:y*2^s=Y at*;have hhi:0<=hi*2^s/\hi*2^s+2^s<=Y:=by
   refine⟨Int.mul_nonneg tU (cr hp), ?_⟩;have:=ar (show hi+1<=y by omega) (cr hp);rw [Int.add_mul,Int.one_mul]at this;omega
  generalize hX:hi*2^s+lo/2^(64-s)=X;generalize hL:lo*2^s%18446744073709551616=L at*;have agw:0<=L/\L<18446744073709551616:=by rw [<-hL];exact⟨dr _ δ,c7 _ δ⟩
  have fB:A8 (Y/4294967296) (Y%4294967296) X (L/4294967296) Y:=⟨by omega,by omega,by omega,by omega,by omega⟩;obtain⟨k1,k2,dN,mC,o7,x7⟩:=fB.start;have hmin:min s 64=s:=by omega
  have agx:min (64-s) 64=64-s:=by omega
  have agy:IntKind.wrap .u64 Y=Y:=fL ω;have mK:∀z:Int,Int.fdiv z (2^min (Int.toNat 32) 64)=z/4294967296:=fun z=>by
   rw [show(2:Int)^min (Int.toNat 32) 64=4294967296 from rfl];exact Int.fdiv_eq_ediv_of_nonneg _ δ
  have agz:IntKind.wrap .u64 (lo*2^s)=L:=by rw [q8];exact hL
  have agA:IntKind.wrap .u64 (((BitVec.ofInt 64 (IntKind.wrap .u64 (hi*2^s))|||BitVec.ofInt 64 (Int.fdiv lo (2^(64-s)))).toNat:Nat):Int)=X:=by
   rw [fL (x:=hi*2^s) ω,Int.fdiv_eq_ediv_of_nonneg _ (cr (dR δ _))];show eV _ _=_;rw [agr,L3 (s:=s) ω l3 tU (Int.mul_comm _ _) ω,<-hX];omega
  have A:IntKind.wrap .u64 (y*2^min (IntKind.wrap .u64 (dY y)).toNat 64)=Y:=by rw [A9,Int.toNat_natCast,hmin,TX];exact agy
  have B:IntKind.wrap .u64 (lo*2^min (IntKind.wrap .u64 (dY y)).toNat 64)=L:=by rw [A9,Int.toNat_natCast,hmin];exact agz
  have C:IntKind.wrap .u64 (((BitVec.ofInt 64 (IntKind.wrap .u64 (hi*2^min (IntKind.wrap .u64 (dY y)).toNat 64))|||BitVec.ofInt 64 (Int.fdiv lo (2^min (IntKind.wrap .u64 (64-IntKind.wrap .u64 (dY y))).toNat 64))).toNat:Nat):Int)=X:=by
   rw [A9,TW,Int.toNat_natCast,Int.toNat_natCast,hmin,agx];exact agA
  have TY:∀z:Int,0<=z/\z<18446744073709551616->IntKind.wrap .u64 (((BitVec.ofInt 64 z &&& BitVec.ofInt 64 4294967295).toNat:Nat):Int)=z%4294967296:=fun z hz=>agq hz
  have hq1:=fL (x:=X.tdiv (Y/4294967296)) ⟨dN,x7⟩;have agB:IntKind.wrap .u64 (X.tdiv (Y/4294967296)*(Y/4294967296))=X.tdiv (Y/4294967296)*(Y/4294967296):=fL (by have:=fB.v1;have:=Int.mul_nonneg dN (show 0<=Y/4294967296 by omega);omega);have kS:=fL (x:=X-X.tdiv (Y/4294967296)*(Y/4294967296)) ω;refine aU.to known mixed hS 17 _ (agc hi lo y Y s (Y/4294967296) (Y%4294967296) X (L/4294967296) (L%4294967296) (X.tdiv (Y/4294967296)) (X-X.tdiv (Y/4294967296)*(Y/4294967296)) ω ω hz (sy.2 ⟨y0,y1⟩)
   (by rw [A9];omega) (by rw [A9,TW];omega) (by rw [A,mK];have:=fB.v1;omega) A A9 (by rw [A,mK]) (by rw [A];exact TY Y ω) C (by rw [B,mK]) (by rw [B];exact TY L agw) (by rw [C,A,mK];exact hq1) (by rw [C,A,mK,hq1,agB];exact kS)) (by kernel_rfl) ?_
  have hN:(hi*18446744073709551616+lo)*2^s=(X*4294967296+L/4294967296)*4294967296+L%4294967296:=by
   have e1:L=L/4294967296*4294967296+L%4294967296:=by omega
   rw [Int.add_mul,Int.mul_right_comm,l2,<-l1,<-hX];omega
  generalize yR:Y/4294967296=v1 at*;generalize iO:Y%4294967296=v2 at*;generalize hc:L/4294967296=c at*;generalize hd:L%4294967296=d at*;have gP:0<=d/\d<4294967296:=by omega
  have sA:0<Y:=by omega
  have agC:=Int.emod_add_mul_ediv (X*4294967296+c) Y;have hx0:=dr (X*4294967296+c) (show Y≠0 by omega);have hx1:=c7 (X*4294967296+c) sA;have sB:A8 v1 v2 ((X*4294967296+c)%Y) d Y:=⟨fB.y,fB.v1,fB.v2,⟨hx0,hx1⟩,gP⟩;have L9:∀r,aU prog w F 135 ((fl jg []).drop 22) (ji Y s v1 v2 d ((X*4294967296+c)/Y) ((X*4294967296+c)%Y) (((X*4294967296+c)%Y*4294967296+d)/Y) r).T (ji Y s v1 v2 d ((X*4294967296+c)/Y) ((X*4294967296+c)%Y) (((X*4294967296+c)%Y*4294967296+d)/Y) r).H (hG prog true f223 (.tuple [cu (kz hi lo y),cu (oq hi lo y)])):=fun r=>by
   have TZ:=Int.emod_add_mul_ediv ((X*4294967296+c)%Y*4294967296+d) Y;have lM:=dr ((X*4294967296+c)%Y*4294967296+d) (show Y≠0 by omega);have CD:=c7 ((X*4294967296+c)%Y*4294967296+d) sA;have mN:0<=(X*4294967296+c)/Y:=Int.ediv_nonneg (by have:=fB.x;have:=fB.c;omega) ω;have aug:(X*4294967296+c)/Y<4294967296:=Int.ediv_lt_of_lt_mul sA (by have:=fB.x;have:=fB.c;omega);have LI:0<=((X*4294967296+c)%Y*4294967296+d)/Y:=Int.ediv_nonneg ω ω;have hp1:((X*4294967296+c)%Y*4294967296+d)/Y<4294967296:=Int.ediv_lt_of_lt_mul sA ω;generalize (X*4294967296+c)/Y=fQ at*;generalize (X*4294967296+c)%Y=eG at*;generalize auh:(eG*4294967296+d)/Y=uv at*;generalize aui:(eG*4294967296+d)%Y=T3 at*;obtain⟨j1,j2⟩:=L6 (A:=hi*18446744073709551616+lo) (b:=y) (V:=Y) (S:=2^s) (U:=T3) (q:=fQ*4294967296+uv) hp ω TX.symm (by rw [hN];grind) lM CD;refine bX (s:=ji Y s v1 v2 d fQ eG uv r) hS (agp Y s v1 v2 d fQ eG uv r _ _ ω ?_ ?_)
   .rw [fL (x:=fQ*4294967296) ω,fL ω];exact j1.symm
   .rw [Int.toNat_natCast,hmin,Int.fdiv_eq_ediv_of_nonneg _ (cr hp)];have e:IntKind.wrap .u64 (IntKind.wrap .u64 (IntKind.wrap .u64 (eG*4294967296)+d)-IntKind.wrap .u64 (uv*Y))=T3:=by
     rw [q8,q8,q8,q8];rw [Int.mul_comm Y]at TZ;generalize uv*Y=P at*;omega
    rw [e,j2,Int.mul_ediv_cancel_left _ ω];rfl
  have Ma:∀r,aU prog w F 135 ((fl jg []).drop 18) (jh Y s v1 v2 X c d ((X*4294967296+c)/Y) r).T (jh Y s v1 v2 X c d ((X*4294967296+c)/Y) r).H (hG prog true f223 (.tuple [cu (kz hi lo y),cu (oq hi lo y)])):=fun r=>by
   obtain⟨n1,n2,n3,sC,T4,T5⟩:=sB.start;have e:IntKind.wrap .u64 (IntKind.wrap .u64 (IntKind.wrap .u64 (X*4294967296)+c)-IntKind.wrap .u64 ((X*4294967296+c)/Y*Y))=(X*4294967296+c)%Y:=by
    rw [q8,q8,q8,q8];rw [Int.mul_comm Y]at agC;generalize (X*4294967296+c)/Y*Y=P at*;omega
   have m1:=fL (x:=((X*4294967296+c)%Y).tdiv v1) ⟨n3,T5⟩;have m2:IntKind.wrap .u64 (((X*4294967296+c)%Y).tdiv v1*v1)=((X*4294967296+c)%Y).tdiv v1*v1:=fL (by have:=fB.v1;have:=Int.mul_nonneg n3 (show 0<=v1 by omega);omega);refine c6 (s:=jh Y s v1 v2 X c d ((X*4294967296+c)/Y) r) hS 3 (agj Y s v1 v2 X c d ((X*4294967296+c)/Y) r ((X*4294967296+c)%Y) (((X*4294967296+c)%Y).tdiv v1) ((X*4294967296+c)%Y-((X*4294967296+c)%Y).tdiv v1*v1) (by have:=fB.v1;omega) e (by rw [e];exact m1) (by rw [e,m1,m2];exact fL ω)) ?_;generalize (X*4294967296+c)%Y=eG at*;refine aU.loop (ι:={p:Int×Int//p.1*v1+p.2=eG/\(eG*4294967296+d)/Y<=p.1/\0<=p.1/\0<=p.2/\p.2<4294967296/\p.1<18446744073709551616}) (id:=2) (b:=cat jg A7) (rest:=(fl jg []).drop 22) (by kernel_rfl) (fun p=>ji Y s v1 v2 d ((X*4294967296+c)/Y) eG p.1.1 p.1.2) (fun p=>p.1.1.toNat) ⟨(eG.tdiv v1,eG-eG.tdiv v1*v1),n1,n2,n3,sC,T4,T5⟩ (fun _=>rfl) ?_;rintro⟨⟨q,r⟩,a1,a2,a3,a4,a5,a6⟩;have a1:q*v1+r=eG:=a1;have a2:(eG*4294967296+d)/Y<=q:=a2;have a3:0<=q:=a3;have a4:0<=r:=a4;have a5:r<4294967296:=a5;have a6:q<18446744073709551616:=a6;have hgo:(4294967296<=q\/4294967296*r+d<q*v2)->(eG*4294967296+d)/Y<=q-1:=fun hg=>by
    have:=sB.y;subst this;exact TR sA sB.x.2 δ gP.2 a1 hg
   have LI:0<=(eG*4294967296+d)/Y:=Int.ediv_nonneg (by have:=sB.x;omega) ω;have hw1:=fL (x:=r+v1) (by have:=fB.v1;omega);have DA:(4294967296<=q\/4294967296*r+d<q*v2)->4294967296<=r+v1->q-1=(eG*4294967296+d)/Y:=fun hg hr=>by
    have g1:=hgo hg;have e1:(q-1)*v1+(r+v1)=eG:=by rw [Int.sub_mul,Int.one_mul];omega
    have hf:=TS (by have:=fB.v1;omega) (by have:=sB.x;have:=sB.y;omega) sB.v2 gP.1 e1 ω hr;have:=sB.y;subst this;exact(GG sA e1 g1 hf).symm
   by_cases fX:q>=4294967296
   .have lV:=fL (x:=q-1) ω;by_cases hrb:r+v1>=4294967296
    .refine bx (s:=ji Y s v1 v2 d ((X*4294967296+c)/Y) eG q r) hS (agk Y s v1 v2 d _ eG q r fX (by rw [hw1];exact hrb) lV hw1) ?_;refine cy (cF ?_);rw [DA (.inl fX) hrb];exact L9 _
    .refine bx (s:=ji Y s v1 v2 d ((X*4294967296+c)/Y) eG q r) hS (agl Y s v1 v2 d _ eG q r fX (by rw [hw1];exact hrb) lV hw1) ?_;exact⟨⟨(q-1,r+v1),by show(q-1)*v1+(r+v1)=eG;rw [Int.sub_mul,Int.one_mul];omega,hgo (.inl fX),by show 0<=q-1;omega,by show 0<=r+v1;have:=fB.v1;omega,by show r+v1<_;omega,by show q-1<_;omega⟩,by show(q-1).toNat<q.toNat;omega,rfl,rfl⟩
   .obtain⟨w1,w2⟩:=sB.lim a3 ω ⟨a4,a5⟩;by_cases hgt:4294967296*r+d<q*v2
    .have hq1:1<=q:=by
      by_cases mN:q=0
      .rw [mN,Int.zero_mul]at hgt;omega
      .omega
     have lV:=fL (x:=q-1) ω;by_cases hrb:r+v1>=4294967296
     .refine bx (s:=ji Y s v1 v2 d ((X*4294967296+c)/Y) eG q r) hS (agm Y s v1 v2 d _ eG q r fX (by rw [w1,w2];exact hgt) (by rw [hw1];exact hrb) lV hw1) ?_;refine cy (cF ?_);rw [DA (.inr hgt) hrb];exact L9 _
     .refine bx (s:=ji Y s v1 v2 d ((X*4294967296+c)/Y) eG q r) hS (agn Y s v1 v2 d _ eG q r fX (by rw [w1,w2];exact hgt) (by rw [hw1];exact hrb) lV hw1) ?_;exact⟨⟨(q-1,r+v1),by show(q-1)*v1+(r+v1)=eG;rw [Int.sub_mul,Int.one_mul];omega,hgo (.inr hgt),by show 0<=q-1;omega,by show 0<=r+v1;have:=fB.v1;omega,by show r+v1<_;omega,by show q-1<_;omega⟩,by show(q-1).toNat<q.toNat;omega,rfl,rfl⟩
    .refine bx (s:=ji Y s v1 v2 d ((X*4294967296+c)/Y) eG q r) hS (ago Y s v1 v2 d _ eG q r fX (by rw [w1,w2];exact hgt)) ?_;refine cy (cF ?_);have e1:(eG*4294967296+d)/Y=q:=by
      have:=sB.y;subst this;exact GG sA a1 a2 ω
     rw [<-e1];exact L9 _
  refine aU.loop (ι:={p:Int×Int//p.1*v1+p.2=X/\(X*4294967296+c)/Y<=p.1/\0<=p.1/\0<=p.2/\p.2<4294967296/\p.1<18446744073709551616}) (id:=0) (b:=cat jg A6) (rest:=(fl jg []).drop 18) (by kernel_rfl) (fun p=>jh Y s v1 v2 X c d p.1.1 p.1.2) (fun p=>p.1.1.toNat) ⟨(X.tdiv v1,X-X.tdiv v1*v1),k1,k2,dN,mC,o7,x7⟩ (fun _=>rfl) ?_;rintro⟨⟨q,r⟩,a1,a2,a3,a4,a5,a6⟩;have a1:q*v1+r=X:=a1;have a2:(X*4294967296+c)/Y<=q:=a2;have a3:0<=q:=a3;have a4:0<=r:=a4;have a5:r<4294967296:=a5;have a6:q<18446744073709551616:=a6;have hgo:(4294967296<=q\/4294967296*r+c<q*v2)->(X*4294967296+c)/Y<=q-1:=fun hg=>by
   have:=fB.y;subst this;exact TR sA fB.x.2 δ fB.c.2 a1 hg
  have LI:0<=(X*4294967296+c)/Y:=Int.ediv_nonneg (by have:=fB.x;have:=fB.c;omega) ω;have hw1:=fL (x:=r+v1) (by have:=fB.v1;omega);have DA:(4294967296<=q\/4294967296*r+c<q*v2)->4294967296<=r+v1->q-1=(X*4294967296+c)/Y:=fun hg hr=>by
   have g1:=hgo hg;have e1:(q-1)*v1+(r+v1)=X:=by rw [Int.sub_mul,Int.one_mul];omega
   have hf:=TS (by have:=fB.v1;omega) (by have:=fB.x;have:=fB.y;omega) fB.v2 fB.c.1 e1 ω hr;have:=fB.y;subst this;exact(GG sA e1 g1 hf).symm
  by_cases fX:q>=4294967296
  .have lV:=fL (x:=q-1) ω;by_cases hrb:r+v1>=4294967296
   .refine bx (s:=jh Y s v1 v2 X c d q r) hS (agd Y s v1 v2 X c d q r fX (by rw [hw1];exact hrb) lV hw1) ?_;refine cy (cF ?_);rw [DA (.inl fX) hrb];exact Ma _
   .refine bx (s:=jh Y s v1 v2 X c d q r) hS (age Y s v1 v2 X c d q r fX (by rw [hw1];exact hrb) lV hw1) ?_;exact⟨⟨(q-1,r+v1),by show(q-1)*v1+(r+v1)=X;rw [Int.sub_mul,Int.one_mul];omega,hgo (.inl fX),by show 0<=q-1;omega,by show 0<=r+v1;have:=fB.v1;omega,by show r+v1<_;omega,by show q-1<_;omega⟩,by show(q-1).toNat<q.toNat;omega,rfl,rfl⟩
  .obtain⟨w1,w2⟩:=fB.lim a3 ω ⟨a4,a5⟩;by_cases hgt:4294967296*r+c<q*v2
   .have hq1:1<=q:=by
     by_cases mN:q=0
     .rw [mN,Int.zero_mul]at hgt;omega
     .omega
    have lV:=fL (x:=q-1) ω;by_cases hrb:r+v1>=4294967296
    .refine bx (s:=jh Y s v1 v2 X c d q r) hS (agf Y s v1 v2 X c d q r fX (by rw [w1,w2];exact hgt) (by rw [hw1];exact hrb) lV hw1) ?_;refine cy (cF ?_);rw [DA (.inr hgt) hrb];exact Ma _
    .refine bx (s:=jh Y s v1 v2 X c d q r) hS (agh Y s v1 v2 X c d q r fX (by rw [w1,w2];exact hgt) (by rw [hw1];exact hrb) lV hw1) ?_;exact⟨⟨(q-1,r+v1),by show(q-1)*v1+(r+v1)=X;rw [Int.sub_mul,Int.one_mul];omega,hgo (.inr hgt),by show 0<=q-1;omega,by show 0<=r+v1;have:=fB.v1;omega,by show r+v1<_;omega,by show q-1<_;omega⟩,by show(q-1).toNat<q.toNat;omega,rfl,rfl⟩
   .refine bx (s:=jh Y s v1 v2 X c d q r) hS (agi Y s v1 v2 X c d q r fX (by rw [w1,w2];exact hgt)) ?_;refine cy (cF ?_);have e1:(X*4294967296+c)/Y=q:=by
     have:=fB.y;subst this;exact GG sA a1 a2 ω
    rw [<-e1];exact Ma _
def T6:L8.Ok prog:=fun⟨hi,lo,y,_⟩ h=>agu hi lo y h
end
end
section
open Go.RowKit Sv Go.Proofs.Tryz
noncomputable section
def fC (x s:Int):Int:=IntKind.wrap .u64 (x*2^min s.toNat 64)
def dG (x s:Int):Int:=Int.fdiv x (2^min s.toNat 64)
def uH:=k_a f225
abbrev GH:List Nat:=[1,1,0,1,0,0]
def nK (w out:List Int) (s:Int) (i:Nat):bD:={n:=40,sl:=[(0,bI w),(1,iv s),(5,qV 64 out),(12,bI w),(13,iv w.length),(14,iv i)],bJ:=[(64,qW out)],next:=65}
def agD (w:List Int) (s:Int) (h1: -9223372036854775808<=(w.length:Int)+1/\(w.length:Int)+1<=9223372036854775807) (h2:((w.length:Int)+1).toNat<=1000000) (h3:(((w.length:Int)+1).toNat)=(cG (w.length+(1:Nat))).length) (h4:(aX.known ((w.length:Int)+1).toNat)=(aX.known (w.length+(1:Nat)))) (h5:(bH (cG (w.length+(1:Nat))).length)=(bH (w.length+(1:Nat)))) (h6:(List.flatten (List.replicate ((w.length:Int)+1).toNat (List.map aa.raw (Array.toList #[Value.int .u64 (0:Int)]))))=(List.flatMap (fun x=>[aa.raw (Value.int .u64 x)]) (cG (w.length+(1:Nat))))) (h7:(w.length+(1:Nat))=(cG (w.length+(1:Nat))).length):
  aD.path (pF prog (bc []) (fl uH []) 3 40 [bI w,iv s]) (dl 1) (ef prog 40 .normal [(64,64,some (w.length+1))] (nK w (cG (w.length+1)) s 0)):=
 mp (adU (eN h1) rt rt (show(decide (((w.length:Int)+1).toNat<=((w.length:Int)+1).toNat))=true from az ω) (og (show(bounded ((w.length:Int)+1).toNat (8:Nat))=true from pH h2 ω) (rr w) (rr s) (an h3 (an h4 h5)) (rr w) (rr (w.length:Int)) (rr (0:Int)) (an h6 h7) trivial))
section
variable (w out:List Int) (s:Int) (i:Nat) (h1:(i:Int)<(w.length:Int)) (h2:i<w.length) (h3:i<out.length) (h4:0<=s)
def agE (h5:s>0) (h6:i6 ((i:Int)+1)) (h7:i6 (64-s)) (h8:0<=64-s) (h9:((i:Int)+1).toNat<out.length) (h10:(bz 167 aE (some (bl.own 167 aE (out.set i (IntKind.wrap IntKind.u64 (↑(BitVec.toNat (BitVec.ofInt 64 (out.getD i 0)|||BitVec.ofInt 64 (IntKind.wrap IntKind.u64 (w.getD i 0*(2:Int)^min s.toNat 64)))):Int))))) ((i:Int)+1).toNat)=true) (h11:out.length=((out.set i (eV (out.getD i 0) (fC (w.getD i 0) s))).set (i+1) (dG (w.getD i 0) (64-s))).length) (h12:(bH out.length)=(bH ((out.set i (eV (out.getD i 0) (fC (w.getD i 0) s))).set (i+1) (dG (w.getD i 0) (64-s))).length)) (dF:((out.set i (IntKind.wrap IntKind.u64 (↑(BitVec.toNat (BitVec.ofInt 64 (out.getD i 0)|||BitVec.ofInt 64 (IntKind.wrap IntKind.u64 (w.getD i 0*(2:Int)^min s.toNat 64)))):Int))).set ((i:Int)+1).toNat (Int.fdiv (w.getD i 0) ((2:Int)^min (64-s).toNat 64)))=((out.set i (eV (out.getD i 0) (fC (w.getD i 0) s))).set (i+1) (dG (w.getD i 0) (64-s)))):
  bt (bc []) (fl uH GH) (nK w out s i) 7 .normal [(64,64,none)] (nK w ((out.set i (eV (out.getD i 0) (fC (w.getD i 0) s))).set (i+1) (dG (w.getD i 0) (64-s))) s (i+1)):=
 wy [ah h1,ah h2,ah h3,jf 167 aE h3,af (aF (v:=aa.raw (Value.int IntKind.u64 ((bN aE (bU 167 aE out)).getD ((0:Nat)+i) (0:Int))))),ah h4,ah h5,yi h6,yi h7,ah h8,ah h9,af (show(bz 167 aE (some (bl.own 167 aE ((bN aE (bU 167 aE out)).set ((0:Nat)+i) (IntKind.wrap IntKind.u64 (↑(BitVec.toNat (BitVec.ofInt (64:Nat) ((bN aE (bU 167 aE out)).getD ((0:Nat)+i) (0:Int))|||BitVec.ofInt (64:Nat) (IntKind.wrap IntKind.u64 (w.getD i (0:Int)*(2:Int)^min s.toNat (64:Nat))))):Int))))) ((0:Nat)+((i:Int)+(1:Int)).toNat))=true from(by simp only [ep,aw]<;>exact h10)),ax h11,ax h12,pG prog 167 aE (show(((bN aE (bU 167 aE out)).set ((0:Nat)+i) (IntKind.wrap IntKind.u64 (↑(BitVec.toNat (BitVec.ofInt (64:Nat) ((bN aE (bU 167 aE out)).getD ((0:Nat)+i) (0:Int))|||BitVec.ofInt (64:Nat) (IntKind.wrap IntKind.u64 (w.getD i (0:Int)*(2:Int)^min s.toNat (64:Nat))))):Int))).set ((0:Nat)+((i:Int)+(1:Int)).toNat) (Int.fdiv (w.getD i (0:Int)) ((2:Int)^min ((64:Int)-s).toNat (64:Nat))))=((out.set i (eV (out.getD i (0:Int)) (fC (w.getD i (0:Int)) s))).set (i+(1:Nat)) (dG (w.getD i (0:Int)) ((64:Int)-s)))from(by simp only [ep,aw]<;>exact dF))] 5612166604090939023885917864117590006026658706890753
def agF (h5:¬s>0) (h6:i6 ((i:Int)+1)) (h7:out.length=(out.set i (eV (out.getD i 0) (fC (w.getD i 0) s))).length) (h8:(bH out.length)=(bH (out.set i (eV (out.getD i 0) (fC (w.getD i 0) s))).length)) (h9:(out.set i (IntKind.wrap IntKind.u64 (↑(BitVec.toNat (BitVec.ofInt 64 (out.getD i 0)|||BitVec.ofInt 64 (IntKind.wrap IntKind.u64 (w.getD i 0*(2:Int)^min s.toNat 64)))):Int)))=(out.set i (eV (out.getD i 0) (fC (w.getD i 0) s)))):
  bt (bc []) (fl uH GH) (nK w out s i) 5 .normal [(64,64,none)] (nK w (out.set i (eV (out.getD i 0) (fC (w.getD i 0) s))) s (i+1)):=
 wy [ah h1,ah h2,ah h3,jf 167 aE h3,af (aF (v:=aa.raw (Value.int IntKind.u64 ((bN aE (bU 167 aE out)).getD ((0:Nat)+i) (0:Int))))),ah h4,aJ h5,yi h6,ax h7,ax h8,pG prog 167 aE (show((bN aE (bU 167 aE out)).set ((0:Nat)+i) (IntKind.wrap IntKind.u64 (↑(BitVec.toNat (BitVec.ofInt (64:Nat) ((bN aE (bU 167 aE out)).getD ((0:Nat)+i) (0:Int))|||BitVec.ofInt (64:Nat) (IntKind.wrap IntKind.u64 (w.getD i (0:Int)*(2:Int)^min s.toNat (64:Nat))))):Int)))=(out.set i (eV (out.getD i (0:Int)) (fC (w.getD i (0:Int)) s)))from(by simp only [ep,aw]<;>exact h9))] 59889699868906130213244270183591081680897
end
def agG (w out:List Int) (s:Int) (i:Nat) (h1:¬(i:Int)<(w.length:Int)):
  bt (bc []) (fl uH GH) (nK w out s i) 2 (.exit 0) [(64,64,none)] (nK w out s i):=
 wy [aJ h1] 1
def agH (w:List Int) (x:Int) (l:List Int) (s:Int) (i:Nat) (h1:(bH (x::l).length)=(aX.full)):
  aD.path (oe prog (bc []) ((fl uH []).drop 4) (nK w (x::l) s i)) (dl 1) (F8 prog f225 167 aE (x::l)):=
 wy [r9 (an (rr (x::l).length) (an h1 (rr (x::l))))] 1
def cH (w:List Int) (s:Int):List Int:=fS 18446744073709551616 (w.length+1) (ak w*2^s.toNat)
def yS (w:List Int) (s:Int):Bool:=gR w&&(decide (w.length<=400000)&&(decide (0<=s)&&decide (s<64)))
noncomputable def GI:qQ:={f:=225,e:=167,t:=aE,ps:=[.list false aE, .int .i64],pre:=fun d=>yS d.1 d.2.1,out:=fun d=>cH d.1 d.2.1}
def T7 {x:Int} {s:Nat} (hs:s<=64) (hx:0<=x/\x<18446744073709551616):fC x s=2^s*(x%2^(64-s)):=by
 unfold fC;rw [Int.toNat_natCast,Nat.min_eq_left hs,q8];exact(L4 hs hx).1
def Mb {x:Int} {s:Nat} (hs:s<=64) (hx:0<=x):dG x s=x/2^s:=by
 unfold dG;rw [Int.toNat_natCast,Nat.min_eq_left hs];exact Int.fdiv_eq_ediv_of_nonneg _ (cr (dR δ _))
def ou {l:List Int} {i:Nat} (j:Nat) {d:Int}:(l.set i d).getD j 0=if i=j/\i<l.length then d else l.getD j 0:=by
 simp only [ao,List.getElem?_set];by_cases h:i=j
 .subst h;by_cases hl:i<l.length
  .simp [hl]
  .simp [hl]
 .simp [h]
def agI {l:List Int} {i:Nat} (h:i<l.length):l.set i (l.getD i 0)=l:=by
 rw [uB h];exact List.set_getElem_self h
structure DB (w:List Int) (s:Nat) (out:List Int) (i:Nat):Prop where
 le:i<=w.length
 len:out.length=w.length+1
 dg:aS 18446744073709551616 out
 low:out.getD i 0<2^s
 zero:∀k,i<k->out.getD k 0=0
 val:ak (out.take i)+18446744073709551616^i*out.getD i 0=ak (w.take i)*2^s
def agJ {w:List Int} (hw:aS 18446744073709551616 w) {s:Nat} (hs:s<=63) {out:List Int} {i:Nat} (I:DB w s out i) (hi:i<w.length):
  DB w s ((out.set i (eV (out.getD i 0) (fC (w.getD i 0) s))).set (i+1) (w.getD i 0/2^(64-s))) (i+1):=by
 have hx:=hw.get δ i;have ho:=I.dg.get δ i;obtain⟨l1,l2,l3,l4⟩:=L4 (s:=s) ω hx;have hlen:=I.len;have hp:(0:Int)<2^s:=dR δ _;have hlt:2^s*(w.getD i 0%2^(64-s))<18446744073709551616:=by rw [<-l1];exact c7 _ δ
 have agK:eV (out.getD i 0) (fC (w.getD i 0) s)=out.getD i 0+2^s*(w.getD i 0%2^(64-s)):=by
  rw [T7 ω hx];exact L3 ω ⟨ho.1,I.low⟩ l4.1 rfl hlt
 have jD:(2:Int)^s*2^(64-s)=18446744073709551616:=by rw [<-Int.pow_add,show s+(64-s)=64 by omega];rfl
 have agL:0<=out.getD i 0+2^s*(w.getD i 0%2^(64-s))/\out.getD i 0+2^s*(w.getD i 0%2^(64-s))<18446744073709551616:=by
  have h1:=Int.mul_nonneg (cr hp) l4.1;have h2:=dn (show w.getD i 0%2^(64-s)+1<=2^(64-s) by omega) (cr hp);rw [jD,Int.mul_add,Int.mul_one]at h2;have:=I.low;omega
 have hh:0<=w.getD i 0/2^(64-s)/\w.getD i 0/2^(64-s)<18446744073709551616:=by
  have:(2:Int)^s<=2^64:=iQ δ ω;have e:(2:Int)^64=18446744073709551616:=rfl;omega
 rw [agK];refine⟨hi,by simp [hlen],(I.dg.set agL).set hh, ?_,fun k hk=> ?_, ?_⟩
 .rw [ou,if_pos ⟨rfl,by rw [b6];omega⟩];exact l3.2
 .rw [ou,if_neg ω,ou,if_neg ω];exact I.zero k ω
 .rw [ou,if_pos ⟨rfl,by rw [b6];omega⟩];have hv:=I.val;unfold ak at hv ⊢;rw [AX,yI ω,lS (l:=w) hi,Int.pow_succ];generalize vl 18446744073709551616 (out.take i)=A at*;generalize vl 18446744073709551616 (w.take i)=auj at*;generalize out.getD i 0=o at*;generalize w.getD i 0/2^(64-s)=h at*;generalize w.getD i 0%2^(64-s)=l at*;generalize w.getD i 0=x at*;generalize (18446744073709551616:Int)^i=P at*;generalize (2:Int)^s=S at*;have e:P*(x*S)=P*(S*l+18446744073709551616*h):=by rw [l2]
  grind
def ST {w:List Int} {s:Nat} {out:List Int} (I:DB w s out w.length):out=cH w s:=by
 have hv:=I.val;have hl:=I.len;have h1:=lS (b:=18446744073709551616) (l:=out) (k:=w.length) ω;rw [eH ω]at h1;rw [dK]at hv;have h2:=LZ (b:=18446744073709551616) δ I.dg;unfold cH;rw [Int.toNat_natCast,<-hv];unfold ak;rw [<-h1,<-hl];exact h2
def agM (w:List Int) (DC:Int) (h:yS w DC=true) (w0:World) (F:Sv.Env):aU prog w0 F 40 (fl uH []) (dq [bI w,iv DC] .nil 0) H0 (Lt prog f225 167 aE (cH w DC)):=by
 unfold yS at h;simp only [ae,bE,hM]at h;obtain⟨hw,hl,h0,h1⟩:=h;obtain⟨s,rfl⟩:∃s:Nat,DC=(s:Int):=⟨DC.toNat,by omega⟩;have e1:((w.length:Int)+1).toNat=w.length+1:=by omega
 refine cJ cC 3 (agD w s ω ω (by rw [gH,e1]) (by rw [e1]) (by rw [gH]) (by rw [e1];exact yJ _) (by rw [gH])) ?_;have hz:∀k,(cG (w.length+1)).getD k 0=0:=fun k=>by
  unfold cG;rw [ao,List.getElem?_replicate];split<;>rfl
 refine aU.loop (ι:={p:List Int×Nat//DB w s p.1 p.2}) (id:=0) (b:=cat uH GH) (rest:=(fl uH []).drop 4) (by kernel_rfl) (fun p=>nK w p.1.1 s p.1.2) (fun p=>w.length-p.1.2)
  ⟨(cG (w.length+1),0),⟨Nat.zero_le _,gH _,A0 _,by show(cG (w.length+1)).getD 0 0<_;rw [hz];exact dR δ _,fun k _=>hz k,by show vl _ ([]:List Int)+_*(cG (w.length+1)).getD 0 0=vl _ ([]:List Int)*_;rw [hz];simp [vl]⟩⟩ (fun _=>rfl) ?_
 rintro⟨⟨out,i⟩,I⟩;have I:DB w s out i:=I;have hlen:=I.len;by_cases hi:i<w.length
 .have hx:=hw.get δ i;have N:=agJ hw ω I hi;have jB:((i:Int)+1).toNat=i+1:=by omega
  by_cases hs0:s=0
  .subst hs0;have e2:(out.set i (eV (out.getD i 0) (fC (w.getD i 0) (0:Nat)))).set (i+1) (w.getD i 0/2^(64-0))=out.set i (eV (out.getD i 0) (fC (w.getD i 0) (0:Nat))):=by
    have e3:w.getD i 0/2^(64-0)=(out.set i (eV (out.getD i 0) (fC (w.getD i 0) (0:Nat)))).getD (i+1) 0:=by
     rw [ou,if_neg ω,I.zero (i+1) ω];exact Int.ediv_eq_zero_of_lt hx.1 hx.2
    rw [e3];exact agI (by rw [b6];omega)
   rw [e2]at N;exact aU.all (s:=nK w out (0:Nat) i) (s':=nK w (out.set i (eV (out.getD i 0) (fC (w.getD i 0) (0:Nat)))) (0:Nat) (i+1)) known mixed cC _ (agF w out _ i ω hi ω ω ω ω (by rw [b6]) (by rw [b6]) rfl) (by kernel_rfl)
    ⟨⟨(_,i+1),N⟩,by simp;omega,rfl,rfl⟩
  .have bV:dG (w.getD i 0) (64-(s:Int))=w.getD i 0/2^(64-s):=by
    rw [show(64-(s:Int))=((64-s:Nat):Int) by omega];exact Mb ω hx.1
   rw [<-bV]at N;exact aU.all (s:=nK w out s i) (s':=nK w ((out.set i (eV (out.getD i 0) (fC (w.getD i 0) s))).set (i+1) (dG (w.getD i 0) (64-s))) s (i+1)) known mixed cC _ (agE w out s i ω hi ω ω ω ω ω ω (by rw [jB];omega) (by rw [jB,gk];exact az (by rw [b6];omega)) τ τ (by rw [jB];rfl)) (by kernel_rfl)
    ⟨⟨(_,i+1),N⟩,by simp;omega,rfl,rfl⟩
 .refine bx (s:=nK w out s i) cC (agG w out s i ω) ?_;refine cy (cF ?_);have hle:=I.le;obtain rfl:i=w.length:=by omega
  rw [<-ST I];cases out with
  |nil=>have:=I.len;simp at this
  |cons x l=>exact aU.adL known mixed cC 8 _ (agH w x l s w.length rfl) fun T H h=>h
def agN:GI.Ok prog:=
 ⟨rfl,_,uH,func225,rfl,by decide,fun⟨w,s,_⟩ h=>⟨by show 1<=(cH w s).length;unfold cH;rw [yP];omega,fun w0 F=>agM w s h w0 F⟩⟩
end
end
end Go.Proofs.YtibikmmdbdlafaaGreatDoor
