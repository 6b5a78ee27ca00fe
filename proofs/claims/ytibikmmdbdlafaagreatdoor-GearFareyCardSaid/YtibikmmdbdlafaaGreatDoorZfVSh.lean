import Derived.Test.YtibikmmdbdlafaaGreatDoorZfNI
set_option linter.defProp false
set_option linter.unusedSimpArgs false
set_option linter.unusedVariables false
set_option maxRecDepth 100000
namespace Go.Proofs.YtibikmmdbdlafaaGreatDoor
open Go.RowKit Sv Go.Proofs.Tryz
noncomputable section
abbrev dF:av:= .pair (.int .i64) (.list true aE)
abbrev aB (a:aC):af:= .agg [iv a.1, .bt true aE a.2]
def wm:=k_a f142
def Gl:=k_a f141
def L5:=k_a f140
def L6:=IN 140 [.int .i64] [aE] true (fun d=>gF d.1) fun d=>(cn d.1,())
def Gm:=a8 [L6]
def aga (n:Int) (h1:n<0) (h2:(IntKind.wrap IntKind.u64 (IntKind.wrap IntKind.i64 (0-n)))=(cn n)):
  bf (a8 []) (fl L5 []) 9 10 [iv n] 3 f140 true (cr (cn n)):=
 wy [ah h1,ax h2] 129
def agb (n:Int) (h1:¬n<0) (h2:(IntKind.wrap IntKind.u64 n)=(cn n)):
  bf (a8 []) (fl L5 []) 9 10 [iv n] 2 f140 true (cr (cn n)):=
 wy [aK h1,ax h2] 129
def agc (a:aC) (h1:a.2.isEmpty=false) (h2:(decide (a.1<0))=(bZ a)) (h3:a.2=(aA a)):
  bf Gm (fl Gl []) 9 24 [aB a] 3 f141 false (.tuple [bv (bZ a),bI (aA a)]):=
 wy [aa (bw (h1)),aa (aF (v:=iv (a.1))),aa (aF (v:=af.bt true aE a.2)),ax h2,ax h3] 84947073
def agd (a:aC) (h1:a.2.isEmpty=true) (h2:a.1=0) (h3:(false)=(bZ a)) (h4:(aA a)=([])):
  bf Gm (fl Gl []) 9 24 [aB a] 6 f141 false (.tuple [bv (bZ a),bI (aA a)]):=
 wy [aa (bw (h1)),cT h2,ax h3,ax h4] 1060993
def age (a:aC) (h1:a.2.isEmpty=true) (h2:¬a.1=0) (h3:(gF a.1)=true) (h4:(decide (a.1<0))=(bZ a)) (h5:([cn a.1])=(aA a)) (h6:(Nat.ble (1*1) (af.raw (Value.int .u64 (cn a.1))::List.append._f [] PUnit.unit (List.flatten._f [] PUnit.unit)).length&&(!false||Nat.ble 1 1))=true):
  bf Gm (fl Gl []) 9 24 [aB a] 4 f141 false (.tuple [bv (bZ a),bI (aA a)]):=
 wy [aa (bw (h1)),yn h2,aa (aF (v:=iv (a.1))),aa h3,ax h4,vP (an h5 (show(Nat.ble ((0:Nat)+(1:Nat)*(1:Nat)) (af.raw (Value.int IntKind.u64 (cn a.1))::List.append._f [] PUnit.unit (List.flatten._f [] PUnit.unit)).length&&(!false||Nat.ble (1:Nat) (1:Nat)))=true from(by simp only [aw]<;>exact h6)))] 1711049540382849
section
variable (neg:Bool) (w:List Int)
def ck:Int:=match neg with |true=> -ak w|false=>ak w
def agf (h1:(w.length:Int)=0) (h2:(0)=(aY (ck neg w)).1) (h3:(aY (ck neg w)).2=([])):
  bf (a8 []) (fl wm []) 9 50 [bv neg,bI w] 3 f142 false (aB (aY (ck neg w))):=
 wy [cT h1,ax h2,ax h3] 12417
def agh (h1:¬(w.length:Int)=0) (h2:(w.length:Int)=1) (h3:Int.toNat 0<w.length) (h4:w.getD (Int.toNat 0) 0<=9223372036854775807) (h5:(neg)=true) (h6:(IntKind.wrap IntKind.i64 (0-IntKind.wrap IntKind.i64 (w.getD (Int.toNat 0) 0)))=(aY (ck neg w)).1) (h7:(aY (ck neg w)).2=([])):
  bf (a8 []) (fl wm []) 9 50 [bv neg,bI w] 1022 f142 false (aB (aY (ck neg w))):=
 wy [yn h1,aa (aL (fP.mpr h2)),ah h3,cT h2,aa (aL (ay h4)),ah h4,aa h5,ax h6,ax h7] 176517344943146498453938305
def agi (h1:¬(w.length:Int)=0) (h2:(w.length:Int)=1) (h3:Int.toNat 0<w.length) (h4:w.getD (Int.toNat 0) 0<=9223372036854775807) (h5:(neg)=false) (h6:(IntKind.wrap IntKind.i64 (w.getD (Int.toNat 0) 0))=(aY (ck neg w)).1) (h7:(aY (ck neg w)).2=([])):
  bf (a8 []) (fl wm []) 9 50 [bv neg,bI w] 65278 f142 false (aB (aY (ck neg w))):=
 wy [yn h1,aa (aL (fP.mpr h2)),ah h3,cT h2,aa (aL (ay h4)),ah h4,aa h5,ax h6,ax h7] 49685215221999092210630363047398624731265
def agj (h1:¬(w.length:Int)=0) (h2:(w.length:Int)=1) (h3:Int.toNat 0<w.length) (h4:¬w.getD (Int.toNat 0) 0<=9223372036854775807) (h5:(neg)=true) (h6:(-1:Int)=(aY (ck neg w)).1) (h7:(w)=(aY (ck neg w)).2) (h8:1<=(aY (ck neg w)).2.length):
  bf (a8 []) (fl wm []) 9 50 [bv neg,bI w] 114238 f142 false (aB (aY (ck neg w))):=
 wy [yn h1,aa (aL (fP.mpr h2)),ah h3,cT h2,aa (aL (ab h4)),aK h4,aa h5,ax h6,ax h7,aa (fA h8)] 55221595208755305796440247856831230124161
def agk (h1:¬(w.length:Int)=0) (h2:(w.length:Int)=1) (h3:Int.toNat 0<w.length) (h4:¬w.getD (Int.toNat 0) 0<=9223372036854775807) (h5:(neg)=false) (h6:(1)=(aY (ck neg w)).1) (h7:(w)=(aY (ck neg w)).2) (h8:1<=(aY (ck neg w)).2.length):
  bf (a8 []) (fl wm []) 9 50 [bv neg,bI w] 81470 f142 false (aB (aY (ck neg w))):=
 wy [yn h1,aa (aL (fP.mpr h2)),ah h3,cT h2,aa (aL (ab h4)),aK h4,aa h5,ax h6,ax h7,aa (fA h8)] 55221595208755305796440247856831230124161
def OF (h1:¬(w.length:Int)=0) (h2:¬(w.length:Int)=1) (h3:(neg)=true) (h4:(-1:Int)=(aY (ck neg w)).1) (h5:(w)=(aY (ck neg w)).2) (h6:1<=(aY (ck neg w)).2.length):
  bf (a8 []) (fl wm []) 9 50 [bv neg,bI w] 98304 f142 false (aB (aY (ck neg w))):=
 wy [yn h1,aa (aL (eN.mpr h2)),yn h2,aa h3,ax h4,ax h5,aa (fA h6)] 2302454583503482069828190673051777
def agl (h1:¬(w.length:Int)=0) (h2:¬(w.length:Int)=1) (h3:(neg)=false) (h4:(1)=(aY (ck neg w)).1) (h5:(w)=(aY (ck neg w)).2) (h6:1<=(aY (ck neg w)).2.length):
  bf (a8 []) (fl wm []) 9 50 [bv neg,bI w] 65536 f142 false (aB (aY (ck neg w))):=
 wy [yn h1,aa (aL (eN.mpr h2)),yn h2,aa h3,ax h4,ax h5,aa (fA h6)] 2302454583503482069828190673051777
end
def Gn:=IN 141 [dF] [.bool, .list false aE] false (fun d=>az d.1) fun d=>(bZ d.1,aA d.1,())
def L7:=IN 142 [.bool, .list false aE] [dF] false (fun d=>gO d.2.1&&jz d.2.1) fun d=>(aY (ck d.1 d.2.1),())
def wo {x:Int} (h: -9223372036854775808<=x/\x<=9223372036854775807):IntKind.wrap .i64 x=x:=R5 (eL h)
def agm (n:Int) (h:gF n=true):Holds prog true 140 [iv n] (cr (cn n)):=by
 have h:=qY.1 h;refine bL (c:=L5) func140 rfl rfl fun w F=> ?_
 by_cases hn:n<0
 .refine bg cz 9 (aga n hn ?_);unfold cn;by_cases hm:n= -9223372036854775808
  .subst hm;rfl
  .rw [wo ω,fG ω];omega
 .refine bg cz 9 (agb n hn ?_);unfold cn;rw [fG ω];omega
def TG:L6.Ok prog:=fun⟨n,_⟩ h=>agm n h
def L8:bD prog (bF Gm):=qK TG
def agn (a:aC) (h:az a=true):Holds prog false 141 [aB a] (.tuple [bv (bZ a),bI (aA a)]):=by
 refine bL (c:=Gl) func141 rfl rfl fun w F=> ?_
 by_cases hs:a.2=[]
 .have h:=(ot hs).symm.trans h;by_cases h0:a.1=0
  .refine bg L8 9 (agd a (dh.2 hs) h0 ?_ ?_)
   .unfold bZ;rw [h0];rfl
   .unfold aA;rw [if_pos hs,if_pos h0]
  .refine bg L8 9 (age a (dh.2 hs) h0 h rfl ?_ rfl);unfold aA;rw [if_pos hs,if_neg h0]
 .refine bg L8 9 (agc a (r9.2 hs) rfl ?_);unfold aA;rw [if_neg hs]
def L9:Gn.Ok prog:=fun⟨a,_⟩ h=>agn a h
def Ma (neg:Bool) {w:List Int} (hw:aS 18446744073709551616 w):((ck neg w).natAbs:Int)=ak w:=by
 have:=gh (b:=18446744073709551616) δ hw;unfold ck ak;cases neg<;>simp only<;>omega
def TH {neg:Bool} {w:List Int} (hw:aS 18446744073709551616 w) (ht:e9 w) (h:9223372036854775807<ak w):aY (ck neg w)=(if neg then-1 else 1,w):=by
 have ha:=Ma neg hw;have hd:cQ 18446744073709551616 ((ck neg w).natAbs:Int)=w:=by rw [ha];exact(fp δ hw ht rfl).symm
 unfold aY;rw [hd];unfold ck at ha ⊢;cases neg
 .simp only at ha ⊢;rw [if_neg ω,if_neg ω];rfl
 .simp only at ha ⊢;rw [if_neg ω,if_pos ω];rfl
def eh {z:Int} (h: -9223372036854775807<=z/\z<=9223372036854775807):aY z=(z,[]):=by unfold aY;rw [if_pos h]
def ago (neg:Bool) (w:List Int) (h1:aS 18446744073709551616 w) (h2:e9 w):Holds prog false 142 [bv neg,bI w] (aB (aY (ck neg w))):=by
 refine bL (c:=wm) func142 rfl rfl fun w0 F=> ?_
 cases w with
 |nil=>
  have e:aY (ck neg [])=(0,[]):=by
   have:ck neg []=0:=by cases neg<;>rfl
   rw [this];exact eh δ
  exact bg cz 9 (agf neg [] rfl (by rw [e]) (by rw [e]))
 |cons x l=>
  have hx:=h1.head;have hne:¬((x::l).length:Int)=0:=by simp;omega
  cases l with
  |nil=>
   have hv:ak [x]=x:=qS x;by_cases hs:x<=9223372036854775807
   .cases neg with
    |true=>
     have e:aY (ck true [x])=(-x,[]):=by
      show aY (-ak [x])=_;rw [hv];exact eh ω
     refine bg cz 9 (agh true [x] hne rfl τ hs rfl ?_ (by rw [e]));rw [e];show IntKind.wrap .i64 (0-IntKind.wrap .i64 x)= -x;rw [wo (x:=x) ω,wo ω];omega
    |false=>
     have e:aY (ck false [x])=(x,[]):=by
      show aY (ak [x])=_;rw [hv];exact eh ω
     refine bg cz 9 (agi false [x] hne rfl τ hs rfl ?_ (by rw [e]));rw [e];exact wo (x:=x) ω
   .have e:=TH (neg:=neg) h1 h2 ω;cases neg with
    |true=>exact bg cz 9 (agj true [x] hne rfl τ hs rfl (by rw [e];rfl) (by rw [e]) (by rw [e];simp))
    |false=>exact bg cz 9 (agk false [x] hne rfl τ hs rfl (by rw [e];rfl) (by rw [e]) (by rw [e];simp))
  |cons y l=>
   have hbig:9223372036854775807<ak (x::y::l):=by
    have h3:=yd (b:=18446744073709551616) δ h1 h2 (k:=l.length+1) τ;have h4:=iN (b:=18446744073709551616) δ (show 1<=l.length+1 by omega);rw [Int.pow_one]at h4;unfold ak;omega
   have e:=TH (neg:=neg) h1 h2 hbig;have nc:¬((x::y::l).length:Int)=1:=by simp;omega
   cases neg with
   |true=>exact bg cz 9 (OF true _ hne nc rfl (by rw [e];rfl) (by rw [e]) (by rw [e];simp))
   |false=>exact bg cz 9 (agl false _ hne nc rfl (by rw [e];rfl) (by rw [e]) (by rw [e];simp))
def TI:L7.Ok prog:=fun⟨neg,w,_⟩ h=>by
 have h:(gO w&&jz w)=true:=h;rw [ae]at h;exact ago neg w (hG.1 h.1) (qU.1 h.2)
def Gp:=k_a f147
def Mb:=k_a f170
def TJ:=k_a f128
def um:=k_a f82
def TK:=k_a f150
def uo:=k_a f81
def AI:=k_a f93
def li:=a8 [Gn,L7,Tp,Tq,LQ,TA,Gc,L6]
abbrev eR (a:aC):fE:= .blk (.cells 83 [iv a.1, .bt true aE a.2] true false false)
abbrev b0:fE:= .blk (.cells 83 [iv 0, .raw (.slice none 0 0)] true false false)
abbrev s3:Sv.Ren:=[(64,64,none),(65,65,none),(66,66,none)]
def j7 (a b:aC) (n:Nat):bH:={n:=n,sl:=[(2, .ptr 64 0),(3, .ptr 65 0),(4, .ptr 66 0)],bJ:=[(64,eR a),(65,eR b),(66,b0)],next:=67}
def agp (a:aC) (h1:a.2.isEmpty=true) (h2:¬a.1= -9223372036854775808) (h3:(IntKind.wrap IntKind.i64 (0-a.1))=(-a.1)):
  bf li (fl Gp []) 9 26 [aB a] 63 f147 false (aB (-a.1,[])):=
 wy [aa (aL (aL (h1))),aa (aL (h1)),aa (gz.mpr h2),ax h3] 4345827393
def agq (a:aC) (h1:a.2.isEmpty=true) (h2:a.1= -9223372036854775808) (h3:(az a)=true) (h4:(gO (aA a)&&jz (aA a))=true):
  bf li (fl Gp []) 9 26 [aB a] 47 f147 false (aB (aY (ck (!bZ a) (aA a)))):=
 wy [aa (aL (aL (h1))),aa (aL (h1)),aa (eF.mpr h2),aa h3,aa h4] 347943211073
def agr (a:aC) (h1:a.2.isEmpty=false) (h2:(az a)=true) (h3:(gO (aA a)&&jz (aA a))=true):
  bf li (fl Gp []) 9 26 [aB a] 32 f147 false (aB (aY (ck (!bZ a) (aA a)))):=
 wy [aa (aL (aL (h1))),aa (aL (h1)),aa h2,aa h3] 278099660865
def ags (a:aC) (h1:(if(if a.1<1 then a.1 else 1)> -1 then if a.1<1 then a.1 else 1 else(-1:Int))=(j6 a.1)):
  bf (a8 []) (fl TJ []) 9 7 [aB a] 1 f128 true (iv (j6 a.1)):=
 wy [ax h1] 1
section
variable (a b:aC)
def agt (h1:a.2.isEmpty=true) (h2:b.2.isEmpty=true) (h3:i6 (a.1+b.1)) (h4:decide (a.1+b.1>a.1)=decide (b.1>0)):
  bf li (fl um []) 3 67 [aB a,aB b] 127 f82 false (aB (a.1+b.1,[])):=
 wy [aa (aL (aL (h1))),aa (aL (h1)),aa (aL (h2)),yi h3,cT h4] 347943211073
def agu (h1:a.2.isEmpty=false):
  dy li (fl um []) 3 67 [aB a,aB b] 32 .normal s3 (j7 a b 67):=
 wy [aa (aL (aL (h1))),aa (aL (h1))] 528449
def agv (h1:a.2.isEmpty=true) (h2:b.2.isEmpty=false):
  dy li (fl um []) 3 67 [aB a,aB b] 47 .normal s3 (j7 a b 67):=
 wy [aa (aL (aL (h1))),aa (aL (h1)),aa (aL (h2))] 50860097
def agw (h1:a.2.isEmpty=true) (h2:b.2.isEmpty=true) (h3:(fits IntKind.i64 (a.1+b.1))=false) (h4:¬decide (IntKind.wrap IntKind.i64 (a.1+b.1)>a.1)=decide (b.1>0)):
  aD.tU (pG prog li (fl um []) 3 67 [aB a,aB b]) (dl 95) (dU prog 67 .normal s3 (j7 a b 67)):=
 adg [aa (aL (aL (h1))),aa (aL (h1)),aa (aL (h2)),aa h3,yn h4] 347943211073
def agx (h1:(az a)=true) (h2:(az b)=true) (h3:bZ a=bZ b) (h4:(kV (aA a) (aA b))=true) (h5:(gO (we (aA a) (aA b))&&jz (we (aA a) (aA b)))=true):
  bW li ((fl um []).drop 3) (j7 a b 67) 3 f82 false (aB (aY (ck (bZ a) (we (aA a) (aA b))))):=
 wy [aa h1,aa h2,cT h3,aa h4,aa h5] 84947073
def agy (h1:(az a)=true) (h2:(az b)=true) (h3:¬bZ a=bZ b) (h4:(mK (aA a) (aA b))=true) (h5:kW (ak (aA a)) (ak (aA b))>=0) (h6:(kV (aA a) (aA b)&&decide (ak (aA b)<=ak (aA a)))=true) (h7:(gO (pJ (aA a) (aA b))&&jz (pJ (aA a) (aA b)))=true):
  bW li ((fl um []).drop 3) (j7 a b 67) 6 f82 false (aB (aY (ck (bZ a) (pJ (aA a) (aA b))))):=
 wy [aa h1,aa h2,yn h3,aa h4,ah h5,aa h6,aa h7] 487563735169
def agz (h1:(az a)=true) (h2:(az b)=true) (h3:¬bZ a=bZ b) (h4:(mK (aA a) (aA b))=true) (h5:¬kW (ak (aA a)) (ak (aA b))>=0) (h6:(kV (aA b) (aA a)&&decide (ak (aA a)<=ak (aA b)))=true) (h7:(gO (pJ (aA b) (aA a))&&jz (pJ (aA b) (aA a)))=true):
  bW li ((fl um []).drop 3) (j7 a b 67) 4 f82 false (aB (aY (ck (bZ b) (pJ (aA b) (aA a))))):=
 wy [aa h1,aa h2,yn h3,aa h4,aK h5,aa h6,aa h7] 487563735169
def SO (h1:a.2.isEmpty=true) (h2:b.2.isEmpty=true) (h3:(gF a.1)=true) (h4:(gF b.1)=true) (h5:(kX (cn a.1) (cn b.1))=true) (h6:fF (cn a.1) (cn b.1)=0) (h7:cH (cn a.1) (cn b.1)<=9223372036854775807) (h8:¬decide (a.1<0)=decide (b.1<0)) (h9:(IntKind.wrap IntKind.i64 (0-IntKind.wrap IntKind.i64 (cH (cn a.1) (cn b.1))))=(-cH (cn a.1) (cn b.1))):
  bf li (fl uo []) 3 66 [aB a,aB b] 2047 f81 false (aB (-(cH (cn a.1) (cn b.1)),[])):=
 wy [aa (aL (aL (h1))),aa (aL (h1)),aa (aL (h2)),aa (aF (v:=iv (a.1))),aa h3,aa (aF (v:=iv (b.1))),aa h4,aa h5,aa (aL (fP.mpr h6)),cT h6,ah h7,aa (bY (eN.mpr h8)),ax h9] 1045037229590394484215400370241
def agA (h1:a.2.isEmpty=true) (h2:b.2.isEmpty=true) (h3:(gF a.1)=true) (h4:(gF b.1)=true) (h5:(kX (cn a.1) (cn b.1))=true) (h6:fF (cn a.1) (cn b.1)=0) (h7:cH (cn a.1) (cn b.1)<=9223372036854775807) (h8:decide (a.1<0)=decide (b.1<0)) (h9:(IntKind.wrap IntKind.i64 (cH (cn a.1) (cn b.1)))=(cH (cn a.1) (cn b.1))):
  bf li (fl uo []) 3 66 [aB a,aB b] 1535 f81 false (aB (cH (cn a.1) (cn b.1),[])):=
 wy [aa (aL (aL (h1))),aa (aL (h1)),aa (aL (h2)),aa (aF (v:=iv (a.1))),aa h3,aa (aF (v:=iv (b.1))),aa h4,aa h5,aa (aL (fP.mpr h6)),cT h6,ah h7,aa (bY (fP.mpr h8)),ax h9] 1045037229590394484215400370241
def agB (h1:a.2.isEmpty=true) (h2:b.2.isEmpty=true) (h3:(gF a.1)=true) (h4:(gF b.1)=true) (h5:(kX (cn a.1) (cn b.1))=true) (h6:fF (cn a.1) (cn b.1)=0) (h7:¬cH (cn a.1) (cn b.1)<=9223372036854775807):
  dy li (fl uo []) 3 66 [aB a,aB b] 767 .normal s3 (j7 a b 66):=
 wy [aa (aL (aL (h1))),aa (aL (h1)),aa (aL (h2)),aa (aF (v:=iv (a.1))),aa h3,aa (aF (v:=iv (b.1))),aa h4,aa h5,aa (aL (fP.mpr h6)),cT h6,aK h7] 215836433533532200539525185
def agC (h1:a.2.isEmpty=true) (h2:b.2.isEmpty=true) (h3:(gF a.1)=true) (h4:(gF b.1)=true) (h5:(kX (cn a.1) (cn b.1))=true) (h6:¬fF (cn a.1) (cn b.1)=0):
  dy li (fl uo []) 3 66 [aB a,aB b] 543 .normal s3 (j7 a b 66):=
 wy [aa (aL (aL (h1))),aa (aL (h1)),aa (aL (h2)),aa (aF (v:=iv (a.1))),aa h3,aa (aF (v:=iv (b.1))),aa h4,aa h5,aa (aL (eN.mpr h6)),yn h6] 3065489281357465791238209
def agD (h1:a.2.isEmpty=true) (h2:b.2.isEmpty=false):
  dy li (fl uo []) 3 66 [aB a,aB b] 47 .normal s3 (j7 a b 66):=
 wy [aa (aL (aL (h1))),aa (aL (h1)),aa (aL (h2))] 50860097
def agE (h1:a.2.isEmpty=false):
  dy li (fl uo []) 3 66 [aB a,aB b] 32 .normal s3 (j7 a b 66):=
 wy [aa (aL (aL (h1))),aa (aL (h1))] 528449
def agF (h1:(az a)=true) (h2:(az b)=true) (h3:(kV (aA a) (aA b))=true) (h4:(gO (pL (aA a) (aA b))&&jz (pL (aA a) (aA b)))=true) (h5:(aY (ck (!bZ a==bZ b) (pL (aA a) (aA b)))).1=(aY (ck (bZ a != bZ b) (pL (aA a) (aA b)))).1) (h6:(aY (ck (!bZ a==bZ b) (pL (aA a) (aA b)))).2=(aY (ck (bZ a != bZ b) (pL (aA a) (aA b)))).2):
  bW li ((fl uo []).drop 3) (j7 a b 66) 1 f81 false (aB (aY (ck (bZ a != bZ b) (pL (aA a) (aA b))))):=
 wy [aa h1,aa h2,aa h3,aa h4,ax h5,ax h6] 6527398017
end
def yp:=IN 147 [dF] [dF] false (fun d=>az d.1) fun d=>(eZ d.1,())
def wq:=IN 128 [dF] [.int .i64] true (fun d=>az d.1) fun d=>(gG d.1,())
def wu:=IN 82 [dF,dF] [dF] false (fun d=>az d.1&&az d.2.1) fun d=>(cu d.1 d.2.1,())
def yq:=IN 81 [dF,dF] [dF] false (fun d=>az d.1&&az d.2.1) fun d=>(ba d.1 d.2.1,())
def k3:bD prog (bF li):=cM (aP L9 (aP TI (aP aeQ (aP aeT (aP Tx (aP afG (aP LS (aP TG dV))))))))
def yt {z:Int} (h:0<=z):(gO (cQ 18446744073709551616 z)&&jz (cQ 18446744073709551616 z))=true:=by
 obtain⟨h1,h2,_⟩:=qN (b:=18446744073709551616) δ h;rw [hG.2 h1,qU.2 h2];rfl
def wz {z:Int} (h:0<=z):ak (cQ 18446744073709551616 z)=z:=(qN (b:=18446744073709551616) δ h).2.2
def TL {a:aC} (h:az a=true):(gO (aA a)&&jz (aA a))=true:=by
 obtain⟨h1,h2,_⟩:=kr h;rw [hG.2 h1,qU.2 h2];rfl
def Gq {a b:aC} (h:az a=true) (g:az b=true):kV (aA a) (aA b)=true:=by
 obtain⟨h1,_,_,_,h5⟩:=kr h;obtain⟨g1,_,_,_,g5⟩:=kr g;unfold kV;rw [hG.2 h1,hG.2 g1,ay (show(aA a).length<=400000 by omega),ay (show(aA b).length<=400000 by omega)];rfl
def Mc {a b:aC} (h:az a=true) (g:az b=true):mK (aA a) (aA b)=true:=by
 obtain⟨h1,h2,_,_,h5⟩:=kr h;obtain⟨g1,g2,_⟩:=kr g;unfold mK;rw [hG.2 h1,qU.2 h2,hG.2 g1,qU.2 g2,ay (show(aA a).length<=1000000 by omega)];rfl
def yu {a:aC} (h:az a=true) (hs:a.2=[]): -9223372036854775808<=a.1/\a.1<=9223372036854775807:=qY.1 ((ot hs).symm.trans h)
def agG (a:aC) (h:az a=true):Holds prog false 147 [aB a] (aB (eZ a)):=by
 obtain⟨h1,h2,h3,h4,_⟩:=kr h;have e2:aY (ck (!bZ a) (aA a))=eZ a:=by
  unfold eZ;congr 1;cases hn:bZ a
  .have:¬aj a<0:=fun hh=>by rw [h4.2 hh]at hn;cases hn
   show-ak (aA a)=_;omega
  .have:=h4.1 hn;show ak (aA a)=_;omega
 refine bL (c:=Gp) func147 rfl rfl fun w F=> ?_
 by_cases hs:a.2=[]
 .have hr:=yu h hs;by_cases hm:a.1= -9223372036854775808
  .rw [<-e2];exact bg k3 9 (agq a (dh.2 hs) hm h (TL h))
  .have e:eZ a=(-a.1,[]):=by unfold eZ;rw [lN hs];exact eh ω
   rw [e];refine bg k3 9 (agp a (dh.2 hs) hm ?_);rw [wo ω];omega
 .rw [<-e2];exact bg k3 9 (agr a (r9.2 hs) h (TL h))
def AJ:yp.Ok prog:=fun⟨a,_⟩ h=>agG a h
def agH {a:aC} (h:az a=true):gG a=j6 a.1:=by
 unfold gG;by_cases hs:a.2=[]
 .rw [lN hs]
 .obtain⟨h1,_,_,h4,_⟩:=(sg hs).1 h;have hv:aj a=a.1*ak a.2:=by unfold aj;rw [if_neg hs]
  rw [hv];rcases h1 with h1|h1<;>rw [h1]
  .rw [L4 ω,L4 ω]
  .rw [Gk ω,Gk ω]
def agI (a:aC) (h:az a=true):Holds prog true 128 [aB a] (iv (gG a)):=by
 rw [agH h];refine bL (c:=TJ) func128 rfl rfl fun w F=> ?_
 refine bg cz 9 (ags a ?_);unfold j6;split<;>split<;>split<;>(try split)<;>omega
def yw:wq.Ok prog:=fun⟨a,_⟩ h=>agI a h
def Md (a b:aC) (h:az a=true) (g:az b=true) (hn:cu a b=aY (aj a+aj b)) (w:World) (F:Sv.Env):
  aW prog w F 67 ((fl um []).drop 3) (j7 a b 67).T (j7 a b 67).H (gZ prog false f82 (aB (cu a b))):=by
 obtain⟨h1,h2,h3,h4,_⟩:=kr h;obtain⟨g1,g2,g3,g4,_⟩:=kr g;rw [hn];by_cases hs:bZ a=bZ b
 .have e:aY (ck (bZ a) (we (aA a) (aA b)))=aY (aj a+aj b):=by
   congr 1;have hv:ak (we (aA a) (aA b))=ak (aA a)+ak (aA b):=wz ω;cases hna:bZ a
   .have:¬aj a<0:=fun hh=>by rw [h4.2 hh]at hna;cases hna
    have:¬aj b<0:=fun hh=>by rw [<-hs,hna]at g4;have:=g4.2 hh;cases this
    show ak _=_;omega
   .have:=h4.1 hna;have:=g4.1 (by rw [<-hs];exact hna);show-ak _=_;omega
  rw [<-e];exact b5 (s:=j7 a b 67) k3 (agx a b h g hs (Gq h g) (yt (show 0<=ak (aA a)+ak (aA b) by omega)))
 .have hab:(aj a<0/\¬aj b<0)\/(¬aj a<0/\aj b<0):=by
   cases hna:bZ a<;>cases hnb:bZ b
   .rw [hna,hnb]at hs;exact absurd rfl hs
   .exact .inr ⟨fun hh=>(by rw [h4.2 hh]at hna;cases hna),g4.1 hnb⟩
   .exact .inl ⟨h4.1 hna,fun hh=>(by rw [g4.2 hh]at hnb;cases hnb)⟩
   .rw [hna,hnb]at hs;exact absurd rfl hs
  by_cases hge:kW (ak (aA a)) (ak (aA b))>=0
  .have hle:ak (aA b)<=ak (aA a):=by
    unfold kW at hge;split at hge
    .omega
    .omega
   have hv:ak (pJ (aA a) (aA b))=ak (aA a)-ak (aA b):=wz ω;have e:aY (ck (bZ a) (pJ (aA a) (aA b)))=aY (aj a+aj b):=by
    congr 1;cases hna:bZ a
    .have:¬aj a<0:=fun hh=>by rw [h4.2 hh]at hna;cases hna
     show ak _=_;omega
    .have:=h4.1 hna;show-ak _=_;omega
   rw [<-e];exact b5 (s:=j7 a b 67) k3 (agy a b h g hs (Mc h g) hge (by rw [show kV _ _=true from Gq h g,Bool.true_and];exact ay hle) (yt (show 0<=ak (aA a)-ak (aA b) by omega)))
  .have hle:ak (aA a)<=ak (aA b):=by
    unfold kW at hge;split at hge
    .omega
    .split at hge<;>omega
   have hv:ak (pJ (aA b) (aA a))=ak (aA b)-ak (aA a):=wz ω;have e:aY (ck (bZ b) (pJ (aA b) (aA a)))=aY (aj a+aj b):=by
    congr 1;cases hnb:bZ b
    .have:¬aj b<0:=fun hh=>by rw [g4.2 hh]at hnb;cases hnb
     show ak _=_;omega
    .have:=g4.1 hnb;show-ak _=_;omega
   rw [<-e];exact b5 (s:=j7 a b 67) k3 (agz a b h g hs (Mc h g) hge (by rw [show kV _ _=true from Gq g h,Bool.true_and];exact ay hle) (yt (show 0<=ak (aA b)-ak (aA a) by omega)))
def Me {a b:aC} (h:¬(iz a&&(iz b&&gF (a.1+b.1)))=true):cu a b=aY (aj a+aj b):=by unfold cu;rw [if_neg h]
def agJ (a b:aC) (h:az a=true) (g:az b=true):Holds prog false 82 [aB a,aB b] (aB (cu a b)):=by
 refine bL (c:=um) func82 rfl rfl fun w F=> ?_
 by_cases ha:a.2=[]
 .have Mf:=yu h ha;by_cases hb:b.2=[]
  .have hrb:=yu g hb;by_cases hf:gF (a.1+b.1)=true
   .have hf':=qY.1 hf;have e:cu a b=(a.1+b.1,[]):=by unfold cu;rw [dh.2 ha,dh.2 hb,hf];rfl
    rw [e];refine bg k3 3 (agt a b (dh.2 ha) (dh.2 hb) hf' ?_);rw [decide_eq_decide];omega
   .have e:=Me (a:=a) (b:=b) fun hh=>by
     simp only [ae]at hh;exact hf hh.2.2
    have hf':¬(-9223372036854775808<=a.1+b.1/\a.1+b.1<=9223372036854775807):=fun hh=>hf (qY.2 hh)
    refine aW.ac9 known mixed k3 3 _ (agw a b (dh.2 ha) (dh.2 hb) ?_ ?_) (by kernel_rfl) (Md a b h g e w F)
    .unfold fits;rw [Bool.and_eq_false_iff];by_cases h0: -9223372036854775808<=a.1+b.1
     .exact .inr (ab fun hh=>hf' ⟨h0,hh⟩)
     .exact .inl (ab h0)
    .rw [decide_eq_decide];have hw:IntKind.wrap .i64 (a.1+b.1)=if a.1+b.1<0 then a.1+b.1+18446744073709551616 else a.1+b.1-18446744073709551616:=by
      have e1:IntKind.signed .i64=true:=rfl;have e2:IntKind.bits .i64=64:=rfl;unfold IntKind.wrap;simp only [e1,e2,Bool.true_and];rw [show(2:Int)^64=18446744073709551616 from rfl];split<;>split<;>simp_all<;>omega
     rw [hw];split<;>omega
  .exact aW.to known mixed k3 3 _ (agv a b (dh.2 ha) (r9.2 hb)) (by kernel_rfl) (Md a b h g (Me fun hh=>by
    simp only [ae]at hh;exact hb (dh.1 hh.2.1)) w F)
 .exact aW.to known mixed k3 3 _ (agu a b (r9.2 ha)) (by kernel_rfl) (Md a b h g (Me fun hh=>by
    simp only [ae]at hh;exact ha (dh.1 hh.1)) w F)
def i8:wu.Ok prog:=fun⟨a,b,_⟩ h=>by
 have h:(az a&&az b)=true:=h;rw [ae]at h;exact agJ a b h.1 h.2
def TM {x y:Int} {n m:Bool} (hn:n=true↔x<0) (hm:m=true↔y<0) {p:Int} (hp:p=x.natAbs*y.natAbs):(match(n != m)with |true=> -p|false=>p)=x*y:=by
 have e:(p:Int)=((x*y).natAbs:Int):=by rw [hp,Int.natAbs_mul];simp
 cases n<;>cases m<;>simp only [Bool.false_eq_true,false_iff,true_iff,Int.not_lt]at hn hm
 .have:=Int.mul_nonneg hn hm;show p=_;omega
 .have:=Int.mul_nonneg hn (show 0<= -y by omega);rw [Int.mul_neg]at this;show-p=_;omega
 .have:=Int.mul_nonneg (show 0<= -x by omega) hm;rw [Int.neg_mul]at this;show-p=_;omega
 .have:=Int.mul_nonneg (show 0<= -x by omega) (show 0<= -y by omega);rw [Int.neg_mul,Int.mul_neg,Int.neg_neg]at this;show p=_;omega
def Gr (a b:aC) (h:az a=true) (g:az b=true) (w:World) (F:Sv.Env):
  aW prog w F 66 ((fl uo []).drop 3) (j7 a b 66).T (j7 a b 66).H (gZ prog false f81 (aB (ba a b))):=by
 obtain⟨h1,h2,h3,h4,_⟩:=kr h;obtain⟨g1,g2,g3,g4,_⟩:=kr g;have hp:0<=ak (aA a)*ak (aA b):=Int.mul_nonneg ω ω;have e:aY (ck (bZ a != bZ b) (pL (aA a) (aA b)))=ba a b:=by
  unfold ba ck;have hv:ak (pL (aA a) (aA b))=ak (aA a)*ak (aA b):=wz hp;rw [hv,h3,g3];exact congrArg aY (TM h4 g4 rfl)
 rw [<-e];exact b5 (s:=j7 a b 66) k3 (agF a b h g (Gq h g) (yt hp) rfl rfl)
def agK (a b:aC) (h:az a=true) (g:az b=true):Holds prog false 81 [aB a,aB b] (aB (ba a b)):=by
 refine bL (c:=uo) func81 rfl rfl fun w F=> ?_
 by_cases ha:a.2=[]
 .have Mf:=yu h ha;by_cases hb:b.2=[]
  .have hrb:=yu g hb;have Gs:=qY.2 Mf;have Gt:=qY.2 hrb;have hm:kX (cn a.1) (cn b.1)=true:=Db.2 (by unfold cn;omega);by_cases hhi:fF (cn a.1) (cn b.1)=0
   .by_cases hlo:cH (cn a.1) (cn b.1)<=9223372036854775807
    .have hlo0:0<=cH (cn a.1) (cn b.1):=dM _ δ;have hp:cH (cn a.1) (cn b.1)=a.1.natAbs*b.1.natAbs:=by
      have:=Int.emod_add_mul_ediv (cn a.1*cn b.1) 18446744073709551616;unfold fF at hhi;rw [hhi]at this;unfold cH;show _=cn a.1*cn b.1;omega
     have kK:=TM (n:=decide (a.1<0)) (m:=decide (b.1<0)) τ τ hp;have hval:ba a b=aY (a.1*b.1):=by unfold ba;rw [lN ha,lN hb]
     by_cases ou:decide (a.1<0)=decide (b.1<0)
     .have e:ba a b=(cH (cn a.1) (cn b.1),[]):=by
       rw [ou,bne_self_eq_false]at kK;have kK:cH (cn a.1) (cn b.1)=a.1*b.1:=kK;rw [hval,<-kK];exact eh ω
      rw [e];exact bg k3 3 (agA a b (dh.2 ha) (dh.2 hb) Gs Gt hm hhi hlo ou (wo ω))
     .have e:ba a b=(-cH (cn a.1) (cn b.1),[]):=by
       rw [show(decide (a.1<0) != decide (b.1<0))=true from gz.2 ou]at kK;have kK: -cH (cn a.1) (cn b.1)=a.1*b.1:=kK;rw [hval,<-kK];exact eh ω
      rw [e];refine bg k3 3 (SO a b (dh.2 ha) (dh.2 hb) Gs Gt hm hhi hlo ou ?_);rw [wo (x:=cH (cn a.1) (cn b.1)) ω,wo ω];omega
    .exact cP k3 3 (agB a b (dh.2 ha) (dh.2 hb) Gs Gt hm hhi hlo) (Gr a b h g w F)
   .exact cP k3 3 (agC a b (dh.2 ha) (dh.2 hb) Gs Gt hm hhi) (Gr a b h g w F)
  .exact cP k3 3 (agD a b (dh.2 ha) (r9.2 hb)) (Gr a b h g w F)
 .exact cP k3 3 (agE a b (r9.2 ha)) (Gr a b h g w F)
def AK:yq.Ok prog:=fun⟨a,b,_⟩ h=>by
 have h:(az a&&az b)=true:=h;rw [ae]at h;exact agK a b h.1 h.2
def Gu:=a8 [wu,yp,wq]
def Dd:=IN 150 [dF,dF] [dF] false (fun d=>az d.1&&az d.2.1) fun d=>(cx d.1 d.2.1,())
def TN:=IN 170 [dF] [dF] false (fun d=>az d.1) fun d=>(sE d.1,())
def AL:=IN 93 [dF,dF] [.int .i64] true (fun d=>aV 50000 d.1&&aV 50000 d.2.1) fun d=>(fH d.1 d.2.1,())
def AM:=a8 [Dd,wq]
def agL (a b:aC) (h1:(az b)=true) (h2:(az a&&az (eZ b))=true):
  bf Gu (fl TK []) 9 (f150.ntmps) [aB a,aB b] 1 f150 false (aB (cu a (eZ b))):=
 wy [aa (aF (v:=aB a)),aa (aF (v:=aB b)),aa h1,aa h2] 67383425
def agM (a:aC) (h1:a.1<0) (h2:(az a)=true):
  bf Gu (fl Mb []) 9 (f170.ntmps) [aB a] 3 f170 false (aB (eZ a)):=
 wy [ah h1,aa h2] 129
def ST (a:aC) (h1:¬a.1<0):
  bf Gu (fl Mb []) 9 (f170.ntmps) [aB a] 2 f170 false (aB a):=
 wy [aK h1] 1
section
variable (a b:aC) (h1:a.2.isEmpty=true) (h2:b.2.isEmpty=true)
def agN (h3:a.1<b.1):
  bf AM (fl AI []) 9 29 [aB a,aB b] 127 f93 true (iv (-1)):=
 wy [aa (aL (aL (h1))),aa (aL (h1)),aa (aL (h2)),ah h3] 4345827393
def agO (h3:¬a.1<b.1) (h4:a.1>b.1):
  bf AM (fl AI []) 9 29 [aB a,aB b] 223 f93 true (iv 1):=
 wy [aa (aL (aL (h1))),aa (aL (h1)),aa (aL (h2)),aK h3,ah h4] 347943211073
def agP (h3:¬a.1<b.1) (h4:¬a.1>b.1):
  bf AM (fl AI []) 9 29 [aB a,aB b] 159 f93 true (iv 0):=
 wy [aa (aL (aL (h1))),aa (aL (h1)),aa (aL (h2)),aK h3,aK h4] 347943211073
end
def agQ (a b:aC) (h1:a.2.isEmpty=true) (h2:b.2.isEmpty=false) (h3:(az a&&az b)=true) (h4:(az (cx a b))=true):
  bf AM (fl AI []) 9 29 [aB a,aB b] 47 f93 true (iv (gG (cx a b))):=
 wy [aa (aL (aL (h1))),aa (aL (h1)),aa (aL (h2)),aa h3,aa h4] 347943211073
def agR (a b:aC) (h1:a.2.isEmpty=false) (h2:(az a&&az b)=true) (h3:(az (cx a b))=true):
  bf AM (fl AI []) 9 29 [aB a,aB b] 32 f93 true (iv (gG (cx a b))):=
 wy [aa (aL (aL (h1))),aa (aL (h1)),aa h2,aa h3] 278099660865
def bc {n m:Nat} {a:aC} (hnm:n<=m) (h:aV n a=true):aV m a=true:=by
 by_cases hs:a.2=[]
 .rw [ot hs]at h ⊢;exact h
 .obtain⟨h1,h2,h3,h4,h5⟩:=(sg hs).1 h;exact(sg hs).2 ⟨h1,h2,h3,h4,by omega⟩
def ov {n:Nat} {a:aC} (h:aV n a=true) (hn:1<=n):aV n (eZ a)=true:=by
 have:=jB h hn;exact(jC ω).1
def nu (a:aC):aj (eZ a)= -aj a:=val_mk _
def val_sub (a b:aC):aj (cx a b)=aj a-aj b:=by unfold cx;rw [si,nu];omega
def lQ (a b:aC):aj (ba a b)=aj a*aj b:=val_mk _
def Gv (a:aC):aj (sE a)=(aj a).natAbs:=val_mk _
def Mg:bD prog (bF Gu):=cM (aP i8 (aP AJ (aP yw dV)))
def agS (a b:aC) (h:az a=true) (g:az b=true):Holds prog false 150 [aB a,aB b] (aB (cx a b)):=by
 refine bL (c:=TK) func150 rfl rfl fun w F=> ?_
 have gn:az (eZ b)=true:=ov g δ;exact bg Mg 9 (agL a b g (by rw [show az (a.1,a.2)=true from h,Bool.true_and];exact gn))
def Gw:Dd.Ok prog:=fun⟨a,b,_⟩ h=>by
 have h:(az a&&az b)=true:=h;rw [ae]at h;exact agS a b h.1 h.2
def TP {n:Nat} {a:aC} (h:aV n a=true):a.1<0↔aj a<0:=by
 obtain⟨_,_,_,h4,_⟩:=kr h;rw [<-h4];unfold bZ;rw [bA]
def HI (a:aC) (h:az a=true):Holds prog false 170 [aB a] (aB (sE a)):=by
 refine bL (c:=Mb) func170 rfl rfl fun w F=> ?_
 by_cases hn:a.1<0
 .have hv:=(TP h).1 hn;have e:eZ a=sE a:=by unfold eZ sE;congr 1;omega
  rw [<-e];exact bg Mg 9 (agM a hn h)
 .have hv:¬aj a<0:=fun hh=>hn ((TP h).2 hh)
  have e:a=sE a:=by
   have:=Gj h ω;unfold sE;rw [show((aj a).natAbs:Int)=aj a by omega];exact this
  have:=aW.ret (P:=prog) (w0:=w) (F:=F) (X:=pE) known mixed Mg 9 _ (ST a hn) fun T H h=>h
  rw [<-e];exact this
def agT:TN.Ok prog:=fun⟨a,_⟩ h=>HI a h
def De:bD prog (bF AM):=cM (aP Gw (aP yw dV))
def agU:(2:Int)*18446744073709551616^50000<=18446744073709551616^100000:=by
 have h:=iN (b:=18446744073709551616) δ (show 50001<=100000 by decide);rw [show 50001=50000+1 from rfl,Int.pow_succ]at h;have:=dD (b:=18446744073709551616) δ 50000;generalize (18446744073709551616:Int)^50000=p at*;generalize (18446744073709551616:Int)^100000=q at*;omega
def agV {a b:aC} (h:aV 50000 a=true) (g:aV 50000 b=true):az (cx a b)=true:=by
 have h1:=jB h δ;have g1:=jB g δ;have h2:=agU;refine uk ?_;rw [nu];generalize (18446744073709551616:Int)^50000=p at*;generalize (18446744073709551616:Int)^100000=q at*;omega
def agW (a b:aC) (h:aV 50000 a=true) (g:aV 50000 b=true):Holds prog true 93 [aB a,aB b] (iv (fH a b)):=by
 have ho:=agV h g;have hs:gG (cx a b)=fH a b:=by unfold gG fH;rw [val_sub]
 have h':=bc (show 50000<=100000 by decide) h;have g':=bc (show 50000<=100000 by decide) g;have hh:(az (a.1,a.2)&&az (b.1,b.2))=true:=by
  rw [show az (a.1,a.2)=true from h',show az (b.1,b.2)=true from g'];rfl
 refine bL (c:=AI) func93 rfl rfl fun w F=> ?_
 by_cases ha:a.2=[]
 .by_cases hb:b.2=[]
  .have e:fH a b=j6 (a.1-b.1):=by unfold fH;rw [lN ha,lN hb]
   rw [e];by_cases h1:a.1<b.1
   .rw [Gk ω];exact bg De 9 (agN a b (dh.2 ha) (dh.2 hb) h1)
   .by_cases h2:a.1>b.1
    .rw [L4 ω];exact bg De 9 (agO a b (dh.2 ha) (dh.2 hb) h1 h2)
    .rw [show a.1-b.1=0 by omega,af9];exact bg De 9 (agP a b (dh.2 ha) (dh.2 hb) h1 h2)
  .rw [<-hs];exact bg De 9 (agQ a b (dh.2 ha) (r9.2 hb) hh ho)
 .rw [<-hs];exact bg De 9 (agR a b (r9.2 ha) hh ho)
def mc:AL.Ok prog:=fun⟨a,b,_⟩ h=>by
 have h:(aV 50000 a&&aV 50000 b)=true:=h;rw [ae]at h;exact agW a b h.1 h.2
end
def eS (a b:Int):Int:=IntKind.wrap .u64 (((BitVec.ofInt 64 a|||BitVec.ofInt 64 b).toNat:Nat):Int)
def Mh {a b:Int} {s:Nat} (hs:s<=64) (ha:0<=a/\a<2^s) {c:Int} (hc:0<=c) (hb:b=2^s*c) (kI:b<18446744073709551616):eS a b=a+b:=by
 obtain⟨A,rfl⟩:∃A:Nat,a=(A:Int):=⟨a.toNat,by omega⟩;obtain⟨C,rfl⟩:∃C:Nat,c=(C:Int):=⟨c.toNat,by omega⟩;have hA:A<2^s:=by have:=ha.2;exact_mod_cast this
 have hb':b=((2^s*C:Nat):Int):=by rw [hb];norm_cast
 subst hb';have qZ:((2^64:Nat):Int)=18446744073709551616:=rfl;have hB:2^s*C<2^64:=by rw [<-qZ]at kI;exact Int.ofNat_lt.1 kI
 have vw:A<2^64:=Nat.lt_of_lt_of_le hA (Nat.pow_le_pow_right δ hs);unfold eS;rw [BitVec.toNat_or,BitVec.ofInt_natCast,BitVec.ofInt_natCast,BitVec.toNat_ofNat,BitVec.toNat_ofNat,Nat.mod_eq_of_lt vw,Nat.mod_eq_of_lt hB];have e:A|||2^s*C=A+2^s*C:=by
  rw [Nat.or_comm,<-Nat.two_pow_add_eq_or_of_lt hA C,Nat.add_comm]
 have hlt:A|||2^s*C<2^64:=Nat.or_lt_two_pow vw hB;rw [e]at hlt ⊢;rw [fG ⟨Int.natCast_nonneg _,by have:(2:Nat)^64=18446744073709551616:=rfl;omega⟩];exact Int.natCast_add _ _
def Mi {x:Int} {s:Nat} (hs:s<=64) (hx:0<=x/\x<18446744073709551616):
  x*2^s%18446744073709551616=2^s*(x%2^(64-s))/\x*2^s=2^s*(x%2^(64-s))+18446744073709551616*(x/2^(64-s))/\(0<=x/2^(64-s)/\x/2^(64-s)<2^s)/\(0<=x%2^(64-s)/\x%2^(64-s)<2^(64-s)):=by
 have hp:(0:Int)<2^(64-s):=dD δ _;have hq:(0:Int)<2^s:=dD δ _;have jx:(2:Int)^s*2^(64-s)=18446744073709551616:=by rw [<-Int.pow_add,show s+(64-s)=64 by omega];rfl
 have hd:=Int.emod_add_mul_ediv x (2^(64-s));have h0:=dM x (show(2:Int)^(64-s)≠0 by omega);have h1:=er x hp;have h2:0<=x/2^(64-s):=Int.ediv_nonneg hx.1 (cq hp);have h3:x/2^(64-s)<2^s:=Int.ediv_lt_of_lt_mul hp (by rw [jx];exact hx.2);have e:x*2^s=2^s*(x%2^(64-s))+18446744073709551616*(x/2^(64-s)):=by
  have:2^s*(x%2^(64-s)+2^(64-s)*(x/2^(64-s)))=2^s*x:=by rw [hd]
  rw [Int.mul_add,<-Int.mul_assoc,jx]at this;rw [Int.mul_comm x];omega
 refine⟨?_,e,⟨h2,h3⟩,h0,h1⟩;rw [e,Int.add_mul_emod_self_left];refine Int.emod_eq_of_lt (Int.mul_nonneg (cq hq) h0) ?_;rw [<-jx];exact Int.mul_lt_mul_of_pos_left h1 hq
end Go.Proofs.YtibikmmdbdlafaaGreatDoor
namespace Go.Proofs.YtibikmmdbdlafaaGreatDoor
def agX {l:List Int} {k:Nat} (h:k<l.length):l.drop k=l.getD k 0::l.drop (k+1):=by
 rw [ue h];exact List.drop_eq_getElem_cons h
def uq {b:Int} {l:List Int} {k:Nat} (h:k<l.length):vl b (l.drop k)=l.getD k 0+b*vl b (l.drop (k+1)):=by
 rw [agX h];rfl
def Mj {b:Int} (hb:1<b) {u:List Int} {j n:Nat} (hu:aS b u) (hj:j+n+1<=u.length) {V:Int} (hV:V<=b^n) (h:vl b (u.drop (j+1))<V):
  vl b (u.drop j)=vl b ((u.drop j).take (n+1))/\vl b (u.drop j)<b*V/\vl b (u.drop (j+n+1))=0:=by
 have hb0:0<b:=by omega
 have h1:=uq (b:=b) (l:=u) (k:=j) ω;have h2:=hu.get hb0 j;have h3:vl b (u.drop j)<b*V:=by
  have:b*vl b (u.drop (j+1))<=b*(V-1):=dZ ω (cq hb0);rw [Int.mul_sub,Int.mul_one]at this;omega
 have h4:vl b (u.drop j)<b^(n+1):=by
  have:b*V<=b*b^n:=dZ hV (cq hb0);rw [Int.pow_succ,Int.mul_comm];omega
 have h5:=C1 hb0 (hu.drop j) h4;refine⟨h5.symm,h3, ?_⟩;have h6:=r4 b (u.drop j) (n+1) (by rw [nQ];omega);rw [h5,List.drop_drop]at h6;have h7:b^(n+1)*vl b (u.drop (j+(n+1)))=0:=by omega
 rcases Int.mul_eq_zero.1 h7 with h8|h8
 .have:=dD hb0 (n+1);omega
 .exact h8
def TQ {b:Int} (hb:1<b) {u:List Int} {j n:Nat} (hu:aS b u) (hj:j+n+1<=u.length) {V:Int} (iA:0<V) (hV:V<=b^n) (h:vl b (u.drop (j+1))<V) {u':List Int}
  (Gx:u'=u.take j++(fL b (n+1) (vl b ((u.drop j).take (n+1))%V)++u.drop (j+(n+1)))):
  u'.length=u.length/\aS b u'/\vl b u'+b^j*(vl b ((u.drop j).take (n+1))/V)*V=vl b u/\vl b (u'.drop j)<V:=by
 have hb0:0<b:=by omega
 obtain⟨h1,h2,h3⟩:=Mj hb hu hj hV h;generalize hW:vl b ((u.drop j).take (n+1))=W at*;have hm0:=dM W (show V≠0 by omega);have pN:=er W iA;have hm2:W%V<b^(n+1):=by
  have:=iN (show 1<=b by omega) (show n<=n+1 by omega);omega
 have hpv:=C3 hb0 (n+1) (W%V) hm0 hm2;have vR:(u.take j).length=j:=by rw [eE];omega
 have hdj:u'.drop j=fL b (n+1) (W%V)++u.drop (j+(n+1)):=by
  rw [Gx,List.drop_append,vR,Nat.sub_self,List.drop_zero,List.drop_eq_nil_of_le ω,List.nil_append]
 have agY:u'.take j=u.take j:=by
  rw [Gx,List.take_append,vR,Nat.sub_self,List.take_zero,List.append_nil,eT ω]
 have Df:vl b (u'.drop j)=W%V:=by rw [hdj,FQ,hpv,<-Nat.add_assoc,h3,Int.mul_zero,Int.add_zero]
 have hlen:u'.length=u.length:=by
  rw [Gx,cW,cW,vR,yf,nQ];omega
 refine⟨hlen, ?_, ?_,by rw [Df];exact pN⟩
 .rw [Gx];exact(hu.take j).app ((C2 hb0 _ _).app (hu.drop _))
 .rw [r4 b u' j ω,r4 b u j ω,agY,Df,h1];have e:=Int.emod_add_mul_ediv W V;have e2:b^j*(W%V+V*(W/V))=b^j*W:=by rw [e]
  rw [Int.mul_add]at e2;have e3:b^j*(W/V)*V=b^j*(V*(W/V)):=by rw [Int.mul_assoc,Int.mul_comm (W/V)]
  omega
def Mk {A b V S U q:Int} (hS:0<S) (hb:0<b) (hV:V=b*S) (h:U+V*q=A*S) (h0:0<=U) (h1:U<V):A/b=q/\U=S*(A%b):=by
 have e:U=S*(A-b*q):=by
  rw [Int.mul_sub,Int.mul_comm S A];have:S*(b*q)=V*q:=by rw [hV,<-Int.mul_assoc,Int.mul_comm S b]
  omega
 have g0:0<=A-q*b:=by
  rw [Int.mul_comm q b];refine Int.not_lt.1 fun hn=> ?_
  have:=Int.mul_lt_mul_of_pos_left hn hS;omega
 have g1:A-q*b<b:=by
  rw [Int.mul_comm q b];refine Int.not_le.1 fun hn=> ?_
  have:=dZ hn (cq hS);rw [<-e,Int.mul_comm S b,<-hV]at this;omega
 obtain⟨k1,k2⟩:=yg hb g0 g1;exact⟨k1,by rw [e,k2,Int.mul_comm b q]⟩
section
open Go.RowKit Sv Go.Proofs.Tryz
noncomputable section
def dQ (x:Int):Int:=64-(Lib.bitLen x.toNat:Int)
def wA (x:Int):Bool:=decide (0<=x)&&decide (x<18446744073709551616)
def Ml:=IN 224 [aE] [.int .i64] true (fun d=>wA d.1) fun d=>(dQ d.1,())
def jb:=k_a f223
def nv:=a8 [Ml]
abbrev AN:List Nat:=[1,1,1,1,1,1,1,1,1,1,1,1,1,1,0,0,0]
abbrev AO:List Nat:=[1,1,1,1,1,1,1,1,1,1,1,1,1,1,1,1,1,1,0,0,0]
def jc (Y s v1 v2 X c d q r:Int):bH:={n:=135,sl:=[(2,cr Y),(8,cr s),(9,cr v1),(10,cr v2),(11,cr X),(13,cr c),(14,cr d),(15,cr q),(16,cr r)],bJ:=[],next:=64}
def jd (Y s v1 v2 d p X q r:Int):bH:={n:=135,sl:=[(2,cr Y),(8,cr s),(9,cr v1),(10,cr v2),(14,cr d),(15,cr p),(17,cr X),(18,cr q),(16,cr r)],bJ:=[],next:=64}
def agZ (hi lo y:Int) (h1:¬y=0) (h2:¬y<=hi) (h3:hi=0) (h4:y≠0) (h5:(IntKind.wrap IntKind.u64 (Int.tdiv lo y))=(lo/y)) (h6:(Int.tmod lo y)=(lo%y)):
  bf nv (fl jb []) 9 135 [cr hi,cr lo,cr y] 12 f223 true (.tuple [cr (lo/y),cr (lo%y)]):=
 wy [yn h1,aK h2,cT h3,ah h4,ax h5,ax h6] 417753739393
def ag0 (hi lo y Y s v1 v2 X c d q r:Int) (h1:¬y=0) (h2:¬y<=hi) (h3:¬hi=0) (h4:(wA y)=true) (h5:0<=IntKind.wrap IntKind.u64 (dQ y)) (h6:0<=IntKind.wrap IntKind.u64 (64-IntKind.wrap IntKind.u64 (dQ y))) (h7:Int.fdiv (IntKind.wrap IntKind.u64 (y*(2:Int)^min (IntKind.wrap IntKind.u64 (dQ y)).toNat 64)) ((2:Int)^min (Int.toNat 32) 64)≠0) (h8:(IntKind.wrap IntKind.u64 (y*(2:Int)^min (IntKind.wrap IntKind.u64 (dQ y)).toNat 64))=(Y)) (h9:(IntKind.wrap IntKind.u64 (dQ y))=(s)) (h10:(Int.fdiv (IntKind.wrap IntKind.u64 (y*(2:Int)^min (IntKind.wrap IntKind.u64 (dQ y)).toNat 64)) ((2:Int)^min (Int.toNat 32) 64))=(v1)) (h11:(IntKind.wrap IntKind.u64 (↑(BitVec.toNat (BitVec.ofInt 64 (IntKind.wrap IntKind.u64 (y*(2:Int)^min (IntKind.wrap IntKind.u64 (dQ y)).toNat 64)) &&& BitVec.ofInt 64 4294967295)):Int))=(v2)) (h12:(IntKind.wrap IntKind.u64 (↑(BitVec.toNat (BitVec.ofInt 64 (IntKind.wrap IntKind.u64 (hi*(2:Int)^min (IntKind.wrap IntKind.u64 (dQ y)).toNat 64))|||BitVec.ofInt 64 (Int.fdiv lo ((2:Int)^min (IntKind.wrap IntKind.u64 (64-IntKind.wrap IntKind.u64 (dQ y))).toNat 64)))):Int))=(X)) (dL:(Int.fdiv (IntKind.wrap IntKind.u64 (lo*(2:Int)^min (IntKind.wrap IntKind.u64 (dQ y)).toNat 64)) ((2:Int)^min (Int.toNat 32) 64))=(c)) (gQ:(IntKind.wrap IntKind.u64 (↑(BitVec.toNat (BitVec.ofInt 64 (IntKind.wrap IntKind.u64 (lo*(2:Int)^min (IntKind.wrap IntKind.u64 (dQ y)).toNat 64)) &&& BitVec.ofInt 64 4294967295)):Int))=(d)) (je:(IntKind.wrap IntKind.u64 (Int.tdiv (IntKind.wrap IntKind.u64 (↑(BitVec.toNat (BitVec.ofInt 64 (IntKind.wrap IntKind.u64 (hi*(2:Int)^min (IntKind.wrap IntKind.u64 (dQ y)).toNat 64))|||BitVec.ofInt 64 (Int.fdiv lo ((2:Int)^min (IntKind.wrap IntKind.u64 (64-IntKind.wrap IntKind.u64 (dQ y))).toNat 64)))):Int)) (Int.fdiv (IntKind.wrap IntKind.u64 (y*(2:Int)^min (IntKind.wrap IntKind.u64 (dQ y)).toNat 64)) ((2:Int)^min (Int.toNat 32) 64))))=(q)) (mL:(IntKind.wrap IntKind.u64 (IntKind.wrap IntKind.u64 (↑(BitVec.toNat (BitVec.ofInt 64 (IntKind.wrap IntKind.u64 (hi*(2:Int)^min (IntKind.wrap IntKind.u64 (dQ y)).toNat 64))|||BitVec.ofInt 64 (Int.fdiv lo ((2:Int)^min (IntKind.wrap IntKind.u64 (64-IntKind.wrap IntKind.u64 (dQ y))).toNat 64)))):Int)-IntKind.wrap IntKind.u64 (IntKind.wrap IntKind.u64 (Int.tdiv (IntKind.wrap IntKind.u64 (↑(BitVec.toNat (BitVec.ofInt 64 (IntKind.wrap IntKind.u64 (hi*(2:Int)^min (IntKind.wrap IntKind.u64 (dQ y)).toNat 64))|||BitVec.ofInt 64 (Int.fdiv lo ((2:Int)^min (IntKind.wrap IntKind.u64 (64-IntKind.wrap IntKind.u64 (dQ y))).toNat 64)))):Int)) (Int.fdiv (IntKind.wrap IntKind.u64 (y*(2:Int)^min (IntKind.wrap IntKind.u64 (dQ y)).toNat 64)) ((2:Int)^min (Int.toNat 32) 64)))*Int.fdiv (IntKind.wrap IntKind.u64 (y*(2:Int)^min (IntKind.wrap IntKind.u64 (dQ y)).toNat 64)) ((2:Int)^min (Int.toNat 32) 64))))=(r)):
  dy nv (fl jb []) 17 135 [cr hi,cr lo,cr y] 8 .normal [] (jc Y s v1 v2 X c d q r):=
 wy [yn h1,aK h2,yn h3,aa h4,ah h5,ah h6,ah h7,ax h8,ax h9,ax h10,ax h11,ax h12,ax dL,ax gQ,ax je,ax mL] 337246810721947665302387067909582977
section
variable (Y s v1 v2 X c d q r:Int)
def ag1 (h1:q>=4294967296) (h2:IntKind.wrap IntKind.u64 (r+v1)>=4294967296) (h3:(IntKind.wrap IntKind.u64 (q-1))=(q-1)) (h4:(IntKind.wrap IntKind.u64 (r+v1))=(r+v1)):
  bB nv (fl jb AN) (jc Y s v1 v2 X c d q r) 3840 (.exit 0) [] (jc Y s v1 v2 X c d (q-1) (r+v1)):=
 wy [aa (bw (ay h1)),ah h1,ah h2,ax h3,ax h4] 105144011385330262937074482297442369
def ag2 (h1:q>=4294967296) (h2:¬IntKind.wrap IntKind.u64 (r+v1)>=4294967296) (h3:(IntKind.wrap IntKind.u64 (q-1))=(q-1)) (h4:(IntKind.wrap IntKind.u64 (r+v1))=(r+v1)):
  bB nv (fl jb AN) (jc Y s v1 v2 X c d q r) 2816 .normal [] (jc Y s v1 v2 X c d (q-1) (r+v1)):=
 wy [aa (bw (ay h1)),ah h1,aK h2,ax h3,ax h4] 105144011385330262937074482297442369
def ag3 (h1:¬q>=4294967296) (h2:IntKind.wrap IntKind.u64 (q*v2)>IntKind.wrap IntKind.u64 (IntKind.wrap IntKind.u64 (4294967296*r)+c)) (h3:IntKind.wrap IntKind.u64 (r+v1)>=4294967296) (h4:(IntKind.wrap IntKind.u64 (q-1))=(q-1)) (h5:(IntKind.wrap IntKind.u64 (r+v1))=(r+v1)):
  bB nv (fl jb AN) (jc Y s v1 v2 X c d q r) 3839 (.exit 0) [] (jc Y s v1 v2 X c d (q-1) (r+v1)):=
 wy [aa (bw (ab h1)),aK h1,ah h2,ah h3,ax h4,ax h5] 126237717373128001384944323770191937
def ag4 (h1:¬q>=4294967296) (h2:IntKind.wrap IntKind.u64 (q*v2)>IntKind.wrap IntKind.u64 (IntKind.wrap IntKind.u64 (4294967296*r)+c)) (h3:¬IntKind.wrap IntKind.u64 (r+v1)>=4294967296) (h4:(IntKind.wrap IntKind.u64 (q-1))=(q-1)) (h5:(IntKind.wrap IntKind.u64 (r+v1))=(r+v1)):
  bB nv (fl jb AN) (jc Y s v1 v2 X c d q r) 2815 .normal [] (jc Y s v1 v2 X c d (q-1) (r+v1)):=
 wy [aa (bw (ab h1)),aK h1,ah h2,aK h3,ax h4,ax h5] 126237717373128001384944323770191937
def ag5 (h1:¬q>=4294967296) (h2:¬IntKind.wrap IntKind.u64 (q*v2)>IntKind.wrap IntKind.u64 (IntKind.wrap IntKind.u64 (4294967296*r)+c)):
  bB nv (fl jb AN) (jc Y s v1 v2 X c d q r) 1279 (.exit 0) [] (jc Y s v1 v2 X c d q r):=
 wy [aa (bw (ab h1)),aK h1,aK h2] 54610613338640449
end
def ag6 (Y s v1 v2 X c d q r eB aQ r2:Int) (h1:v1≠0) (h2:(IntKind.wrap IntKind.u64 (IntKind.wrap IntKind.u64 (IntKind.wrap IntKind.u64 (X*4294967296)+c)-IntKind.wrap IntKind.u64 (q*Y)))=(eB)) (h3:(IntKind.wrap IntKind.u64 (Int.tdiv (IntKind.wrap IntKind.u64 (IntKind.wrap IntKind.u64 (IntKind.wrap IntKind.u64 (X*4294967296)+c)-IntKind.wrap IntKind.u64 (q*Y))) v1))=(aQ)) (h4:(IntKind.wrap IntKind.u64 (IntKind.wrap IntKind.u64 (IntKind.wrap IntKind.u64 (IntKind.wrap IntKind.u64 (X*4294967296)+c)-IntKind.wrap IntKind.u64 (q*Y))-IntKind.wrap IntKind.u64 (IntKind.wrap IntKind.u64 (Int.tdiv (IntKind.wrap IntKind.u64 (IntKind.wrap IntKind.u64 (IntKind.wrap IntKind.u64 (X*4294967296)+c)-IntKind.wrap IntKind.u64 (q*Y))) v1)*v1)))=(r2)):
  cV nv ((fl jb []).drop 18) 3 (jc Y s v1 v2 X c d q r) 1 .normal [] (jd Y s v1 v2 d q eB aQ r2):=
 wy [ah h1,ax h2,ax h3,ax h4] 72910815061082113
section
variable (Y s v1 v2 d p X q r:Int)
def ag7 (h1:q>=4294967296) (h2:IntKind.wrap IntKind.u64 (r+v1)>=4294967296) (h3:(IntKind.wrap IntKind.u64 (q-1))=(q-1)) (h4:(IntKind.wrap IntKind.u64 (r+v1))=(r+v1)):
  bB nv (fl jb AO) (jd Y s v1 v2 d p X q r) 3840 (.exit 2) [] (jd Y s v1 v2 d p X (q-1) (r+v1)):=
 wy [aa (bw (ay h1)),ah h1,ah h2,ax h3,ax h4] 105144011385330262937074482297442369
def ag8 (h1:q>=4294967296) (h2:¬IntKind.wrap IntKind.u64 (r+v1)>=4294967296) (h3:(IntKind.wrap IntKind.u64 (q-1))=(q-1)) (h4:(IntKind.wrap IntKind.u64 (r+v1))=(r+v1)):
  bB nv (fl jb AO) (jd Y s v1 v2 d p X q r) 2816 .normal [] (jd Y s v1 v2 d p X (q-1) (r+v1)):=
 wy [aa (bw (ay h1)),ah h1,aK h2,ax h3,ax h4] 105144011385330262937074482297442369
def ag9 (h1:¬q>=4294967296) (h2:IntKind.wrap IntKind.u64 (q*v2)>IntKind.wrap IntKind.u64 (IntKind.wrap IntKind.u64 (4294967296*r)+d)) (h3:IntKind.wrap IntKind.u64 (r+v1)>=4294967296) (h4:(IntKind.wrap IntKind.u64 (q-1))=(q-1)) (h5:(IntKind.wrap IntKind.u64 (r+v1))=(r+v1)):
  bB nv (fl jb AO) (jd Y s v1 v2 d p X q r) 3839 (.exit 2) [] (jd Y s v1 v2 d p X (q-1) (r+v1)):=
 wy [aa (bw (ab h1)),aK h1,ah h2,ah h3,ax h4,ax h5] 126237717373128001384944323770191937
def aha (h1:¬q>=4294967296) (h2:IntKind.wrap IntKind.u64 (q*v2)>IntKind.wrap IntKind.u64 (IntKind.wrap IntKind.u64 (4294967296*r)+d)) (h3:¬IntKind.wrap IntKind.u64 (r+v1)>=4294967296) (h4:(IntKind.wrap IntKind.u64 (q-1))=(q-1)) (h5:(IntKind.wrap IntKind.u64 (r+v1))=(r+v1)):
  bB nv (fl jb AO) (jd Y s v1 v2 d p X q r) 2815 .normal [] (jd Y s v1 v2 d p X (q-1) (r+v1)):=
 wy [aa (bw (ab h1)),aK h1,ah h2,aK h3,ax h4,ax h5] 126237717373128001384944323770191937
def ahb (h1:¬q>=4294967296) (h2:¬IntKind.wrap IntKind.u64 (q*v2)>IntKind.wrap IntKind.u64 (IntKind.wrap IntKind.u64 (4294967296*r)+d)):
  bB nv (fl jb AO) (jd Y s v1 v2 d p X q r) 1279 (.exit 2) [] (jd Y s v1 v2 d p X q r):=
 wy [aa (bw (ab h1)),aK h1,aK h2] 54610613338640449
end
def ahc (Y s v1 v2 d p X q r a b:Int) (h1:0<=s) (h2:(IntKind.wrap IntKind.u64 (IntKind.wrap IntKind.u64 (p*4294967296)+q))=(a)) (h3:(Int.fdiv (IntKind.wrap IntKind.u64 (IntKind.wrap IntKind.u64 (IntKind.wrap IntKind.u64 (X*4294967296)+d)-IntKind.wrap IntKind.u64 (q*Y))) ((2:Int)^min s.toNat 64))=(b)):
  bW nv ((fl jb []).drop 22) (jd Y s v1 v2 d p X q r) 1 f223 true (.tuple [cr a,cr b]):=
 wy [ah h1,ax h2,ax h3] 12417
def ku (hi lo y:Int):Int:=(hi*18446744073709551616+lo)/y
def ow (hi lo y:Int):Int:=(hi*18446744073709551616+lo)%y
def ur (hi lo y:Int):Bool:=(decide (0<=hi)&&decide (hi<y))&&(wA lo&&wA y)
def Mm:=IN 223 [aE,aE,aE] [aE,aE] true (fun d=>ur d.1 d.2.1 d.2.2.1) fun d=>(ku d.1 d.2.1 d.2.2.1,(ow d.1 d.2.1 d.2.2.1,()))
def sj {x:Int}:wA x=true↔0<=x/\x<18446744073709551616:=by
 unfold wA;rw [ae,bA,bA]
def TR:Ml.Ok prog:=fun⟨x,_⟩ h w F xs hF ct hd=>by
 have h:=sj.1 h;cases hd with
 |cons d1 d2=>
  cases d2;rw [d1.cc];refine(Tryz.bits_LeadingZeros64 x w h.1 ω).mono fun e w' ⟨h1,h2⟩=> ?_
  subst h2;exact⟨_,⟨F.at',fun _=>none⟩,h1, .raw _,⟨hF.pF,hF.all,fun b A h=>by cases h⟩,(fun b A h=>by cases h),Below.refl _ _⟩
def q2 (z:Int):IntKind.wrap .u64 z=z%18446744073709551616:=by
 unfold IntKind.wrap;have e:IntKind.signed .u64=false:=rfl;have e2:IntKind.bits .u64=64:=rfl;simp only [e,e2,Bool.false_and,Bool.false_eq_true,if_false];rfl
def ahd {a:Int} (h:0<=a/\a<18446744073709551616):IntKind.wrap .u64 (((BitVec.ofInt 64 a &&& BitVec.ofInt 64 4294967295).toNat:Nat):Int)=a%4294967296:=by
 obtain⟨A,rfl⟩:∃A:Nat,a=(A:Int):=⟨a.toNat,by omega⟩;have hA:A<2^64:=by have qZ:((2^64:Nat):Int)=18446744073709551616:=rfl;rw [<-qZ]at h;exact Int.ofNat_lt.1 h.2
 rw [BitVec.toNat_and,BitVec.ofInt_natCast,BitVec.toNat_ofNat,Nat.mod_eq_of_lt hA];rw [show(BitVec.ofInt 64 4294967295).toNat=2^32-1 from rfl,Nat.and_two_pow_sub_one_eq_mod];have:A%2^32<2^32:=Nat.mod_lt _ δ;rw [fG (by have e:(2:Nat)^32=4294967296:=rfl;omega)];rfl
def ahe (a b:Int):eS a b=eS b a:=by unfold eS;rw [BitVec.or_comm]
def ahf:∀f:Nat,Lib.bitLenAux f 0=0
 |0=>rfl
 |f+1=>by unfold Lib.bitLenAux;rw [if_pos rfl]
def bitLen_spec:∀(f x:Nat),x<2^f->0<x->2^(Lib.bitLenAux f x-1)<=x/\x<2^Lib.bitLenAux f x/\1<=Lib.bitLenAux f x/\Lib.bitLenAux f x<=f:=by
 intro f;induction f with
 |zero=>intro x h h0;simp at h;omega
 |succ f ih=>
  intro x h h0;unfold Lib.bitLenAux;rw [if_neg ω];by_cases h1:x=1
  .subst h1;rw [show 1/2=0 from rfl,ahf];simp
  .obtain⟨g1,g2,g3,g4⟩:=ih (x/2) (by rw [Nat.pow_succ]at h;omega) ω;generalize Lib.bitLenAux f (x/2)=L at*;obtain⟨l,rfl⟩:∃l,L=l+1:=⟨L-1,by omega⟩;rw [show 1+(l+1)-1=l+1 by omega,show 1+(l+1)=l+1+1 by omega];rw [Nat.add_sub_cancel]at g1;rw [Nat.pow_succ]at g2;rw [Nat.pow_succ,Nat.pow_succ];omega
def TS {x:Int} (h:0<x/\x<18446744073709551616):∃s:Nat,dQ x=s/\s<=63/\9223372036854775808<=x*2^s/\x*2^s<18446744073709551616:=by
 obtain⟨X,rfl⟩:∃X:Nat,x=(X:Int):=⟨x.toNat,by omega⟩;have qZ:((2^64:Nat):Int)=18446744073709551616:=rfl;have hX:X<2^64:=by rw [<-qZ]at h;exact Int.ofNat_lt.1 h.2
 obtain⟨g1,g2,g3,g4⟩:=bitLen_spec 64 X hX ω;refine⟨64-Lib.bitLenAux 64 X, ?_,by omega, ?_, ?_⟩
 .unfold dQ Lib.bitLen;rw [Int.toNat_natCast];omega
 .generalize Lib.bitLenAux 64 X=L at*;have h1:2^(L-1)*2^(64-L)<=X*2^(64-L):=Nat.mul_le_mul_right _ g1;rw [<-Nat.pow_add,show L-1+(64-L)=63 by omega]at h1;have e:((X*2^(64-L):Nat):Int)=(X:Int)*2^(64-L):=by rw [Int.natCast_mul,Int.natCast_pow];rfl
  have TT:((2^63:Nat):Int)=9223372036854775808:=rfl;rw [<-e,<-TT];exact Int.ofNat_le.2 h1
 .generalize Lib.bitLenAux 64 X=L at*;have h1:X*2^(64-L)<2^L*2^(64-L):=Nat.mul_lt_mul_of_pos_right g2 (Nat.pow_pos δ);rw [<-Nat.pow_add,show L+(64-L)=64 by omega]at h1;have e:((X*2^(64-L):Nat):Int)=(X:Int)*2^(64-L):=by rw [Int.natCast_mul,Int.natCast_pow];rfl
  rw [<-e,<-qZ];exact Int.ofNat_lt.2 h1
section
variable {b v1 v2 X c q r:Int}
def TU (h:q*v1+r=X):q*(v1*b+v2)=X*b-r*b+q*v2:=by subst h;grind
def Gy (hY:0<v1*b+v2) (h:q*v1+r=X) (hq:(X*b+c)/(v1*b+v2)<=q) (hle:q*v2<=b*r+c):(X*b+c)/(v1*b+v2)=q:=by
 have h1:q*(v1*b+v2)<=X*b+c:=by rw [TU h,Int.mul_comm r b];omega
 have:=(Int.le_ediv_iff_mul_le hY).2 h1;omega
def TV (hY:0<v1*b+v2) (hX:X<v1*b+v2) (hb:0<b) (hc:c<b) (h:q*v1+r=X) (hgt:b<=q\/b*r+c<q*v2):(X*b+c)/(v1*b+v2)<=q-1:=by
 have h1:X*b+c<q*(v1*b+v2):=by
  rcases hgt with hgt|hgt
  .have a1:=ar hgt (cq hY);have a2:=ar (show X<=v1*b+v2-1 by omega) (cq hb);rw [Int.sub_mul,Int.one_mul,Int.mul_comm (v1*b+v2)]at a2;omega
  .rw [TU h,Int.mul_comm r b];omega
 have:=(Int.ediv_lt_iff_lt_mul hY).2 h1;omega
def TW (yx:0<=v1) (hX:X<v1*b+v2) (iM:0<=v2/\v2<b) (hc:0<=c) (h:q*v1+r=X) (h0:0<=q) (hr:b<=r):q*v2<=b*r+c:=by
 have fS:q<b:=by
  refine Int.not_le.1 fun hn=> ?_
  have:=ar hn yx;rw [Int.mul_comm b v1]at this;omega
 have a1:q*v2<=b*b:=Int.mul_le_mul (cq fS) (cq iM.2) iM.1 ω;have a2:=dZ hr (show 0<=b by omega);omega
end
def ahg {q v:Int} (h0:0<=q) (hq:q<4294967296) (hv:0<=v/\v<4294967296):0<=q*v/\q*v<18446744073709551616:=by
 refine⟨Int.mul_nonneg h0 hv.1, ?_⟩;have:=Int.mul_le_mul (show q<=4294967295 by omega) (show v<=4294967295 by omega) hv.1 δ;omega
structure AP (v1 v2 X c Y:Int):Prop where
 y:Y=v1*4294967296+v2
 v1:2147483648<=v1/\v1<4294967296
 v2:0<=v2/\v2<4294967296
 x:0<=X/\X<Y
 c:0<=c/\c<4294967296
def AP.start {v1 v2 X c Y:Int} (p:AP v1 v2 X c Y):X.tdiv v1*v1+(X-X.tdiv v1*v1)=X/\(X*4294967296+c)/Y<=X.tdiv v1/\0<=X.tdiv v1/\0<=X-X.tdiv v1*v1/\X-X.tdiv v1*v1<4294967296/\X.tdiv v1<18446744073709551616:=by
 have hv:=p.v1;have hx:=p.x;have hy:=p.y;have iM:=p.v2;have e:X.tdiv v1=X/v1:=Int.tdiv_eq_ediv_of_nonneg hx.1;rw [e];have h1:=Int.emod_add_mul_ediv X v1;have h2:=dM X (show v1≠0 by omega);have h3:=er X (show 0<v1 by omega);rw [Int.mul_comm]at h1;have h4:0<=X/v1:=Int.ediv_nonneg hx.1 ω;have h5:X/v1<=X:=Int.ediv_le_self _ hx.1;refine⟨by omega, ?_,h4,by omega,by omega,by omega⟩;have hY:0<Y:=by omega
 have hc:=p.c;have key:X*4294967296+c<(X/v1+1)*Y:=by
  have a1:(X/v1+1)*Y=(X/v1*v1+v1)*4294967296+(X/v1+1)*v2:=by rw [hy];grind
  have a2:=Int.mul_nonneg (show 0<=X/v1+1 by omega) iM.1;omega
 have:=(Int.ediv_lt_iff_lt_mul hY).2 key;omega
def AP.lim {v1 v2 X c Y q r:Int} (p:AP v1 v2 X c Y) (h0:0<=q) (hq:q<4294967296) (hr:0<=r/\r<4294967296):IntKind.wrap .u64 (q*v2)=q*v2/\IntKind.wrap .u64 (IntKind.wrap .u64 (4294967296*r)+c)=4294967296*r+c:=by
 have hc:=p.c;exact⟨fG (ahg h0 hq p.v2),by rw [fG (x:=4294967296*r) ω,fG ω]⟩
def ahh (hi lo y:Int) (h:ur hi lo y=true):Holds prog true 223 [cr hi,cr lo,cr y] (.tuple [cr (ku hi lo y),cr (ow hi lo y)]):=by
 unfold ur at h;simp only [ae,bA,sj]at h;obtain⟨⟨tJ,aug⟩,⟨Dg,ahi⟩,y0,y1⟩:=h;have hS:=qK TR;refine bL (c:=jb) func223 rfl rfl fun w F=> ?_
 by_cases hz:hi=0
 .have e1:ku hi lo y=lo/y:=by unfold ku;rw [hz,Int.zero_mul,Int.zero_add]
  have e2:ow hi lo y=lo%y:=by unfold ow;rw [hz,Int.zero_mul,Int.zero_add]
  rw [e1,e2];refine bg hS 9 (agZ hi lo y ω ω hz ω ?_ (Int.tmod_eq_emod_of_nonneg Dg));rw [Int.tdiv_eq_ediv_of_nonneg Dg];exact fG ⟨Int.ediv_nonneg Dg ω,by have:=Int.ediv_le_self y Dg;omega⟩
 .obtain⟨s,hs,TX,TY,TZ⟩:=TS (x:=y) ω;have AQ:IntKind.wrap .u64 (dQ y)=(s:Int):=by rw [hs];exact fG ω
  have T3:IntKind.wrap .u64 (64-(s:Int))=((64-s:Nat):Int):=by rw [fG ω];omega
  have hp:(0:Int)<2^s:=dD δ _;obtain⟨l1,l2,l3,l4⟩:=Mi (x:=lo) (s:=s) ω ⟨Dg,ahi⟩;generalize T4:y*2^s=Y at*;have hhi:0<=hi*2^s/\hi*2^s+2^s<=Y:=by
   refine⟨Int.mul_nonneg tJ (cq hp), ?_⟩;have:=ar (show hi+1<=y by omega) (cq hp);rw [Int.add_mul,Int.one_mul]at this;omega
  generalize hX:hi*2^s+lo/2^(64-s)=X;generalize hL:lo*2^s%18446744073709551616=L at*;have ahj:0<=L/\L<18446744073709551616:=by rw [<-hL];exact⟨dM _ δ,er _ δ⟩
  have fo:AP (Y/4294967296) (Y%4294967296) X (L/4294967296) Y:=⟨by omega,by omega,by omega,by omega,by omega⟩;obtain⟨k1,k2,dG,mg,o7,xD⟩:=fo.start;have hmin:min s 64=s:=by omega
  have ahk:min (64-s) 64=64-s:=by omega
  have ahl:IntKind.wrap .u64 Y=Y:=fG ω;have mC:∀z:Int,Int.fdiv z (2^min (Int.toNat 32) 64)=z/4294967296:=fun z=>by
   rw [show(2:Int)^min (Int.toNat 32) 64=4294967296 from rfl];exact Int.fdiv_eq_ediv_of_nonneg _ δ
  have ahm:IntKind.wrap .u64 (lo*2^s)=L:=by rw [q2];exact hL
  have ahn:IntKind.wrap .u64 (((BitVec.ofInt 64 (IntKind.wrap .u64 (hi*2^s))|||BitVec.ofInt 64 (Int.fdiv lo (2^(64-s)))).toNat:Nat):Int)=X:=by
   rw [fG (x:=hi*2^s) ω,Int.fdiv_eq_ediv_of_nonneg _ (cq (dD δ _))];show eS _ _=_;rw [ahe,Mh (s:=s) ω l3 tJ (Int.mul_comm _ _) ω,<-hX];omega
  have A:IntKind.wrap .u64 (y*2^min (IntKind.wrap .u64 (dQ y)).toNat 64)=Y:=by rw [AQ,Int.toNat_natCast,hmin,T4];exact ahl
  have B:IntKind.wrap .u64 (lo*2^min (IntKind.wrap .u64 (dQ y)).toNat 64)=L:=by rw [AQ,Int.toNat_natCast,hmin];exact ahm
  have C:IntKind.wrap .u64 (((BitVec.ofInt 64 (IntKind.wrap .u64 (hi*2^min (IntKind.wrap .u64 (dQ y)).toNat 64))|||BitVec.ofInt 64 (Int.fdiv lo (2^min (IntKind.wrap .u64 (64-IntKind.wrap .u64 (dQ y))).toNat 64))).toNat:Nat):Int)=X:=by
   rw [AQ,T3,Int.toNat_natCast,Int.toNat_natCast,hmin,ahk];exact ahn
  have T5:∀z:Int,0<=z/\z<18446744073709551616->IntKind.wrap .u64 (((BitVec.ofInt 64 z &&& BitVec.ofInt 64 4294967295).toNat:Nat):Int)=z%4294967296:=fun z hz=>ahd hz
  have hq1:=fG (x:=X.tdiv (Y/4294967296)) ⟨dG,xD⟩;have aho:IntKind.wrap .u64 (X.tdiv (Y/4294967296)*(Y/4294967296))=X.tdiv (Y/4294967296)*(Y/4294967296):=fG (by have:=fo.v1;have:=Int.mul_nonneg dG (show 0<=Y/4294967296 by omega);omega);have kL:=fG (x:=X-X.tdiv (Y/4294967296)*(Y/4294967296)) ω;refine aW.to known mixed hS 17 _ (ag0 hi lo y Y s (Y/4294967296) (Y%4294967296) X (L/4294967296) (L%4294967296) (X.tdiv (Y/4294967296)) (X-X.tdiv (Y/4294967296)*(Y/4294967296)) ω ω hz (sj.2 ⟨y0,y1⟩)
   (by rw [AQ];omega) (by rw [AQ,T3];omega) (by rw [A,mC];have:=fo.v1;omega) A AQ (by rw [A,mC]) (by rw [A];exact T5 Y ω) C (by rw [B,mC]) (by rw [B];exact T5 L ahj) (by rw [C,A,mC];exact hq1) (by rw [C,A,mC,hq1,aho];exact kL)) (by kernel_rfl) ?_
  have hN:(hi*18446744073709551616+lo)*2^s=(X*4294967296+L/4294967296)*4294967296+L%4294967296:=by
   have e1:L=L/4294967296*4294967296+L%4294967296:=by omega
   rw [Int.add_mul,Int.mul_right_comm,l2,<-l1,<-hX];omega
  generalize yx:Y/4294967296=v1 at*;generalize iM:Y%4294967296=v2 at*;generalize hc:L/4294967296=c at*;generalize hd:L%4294967296=d at*;have gw:0<=d/\d<4294967296:=by omega
  have sr:0<Y:=by omega
  have ahp:=Int.emod_add_mul_ediv (X*4294967296+c) Y;have hx0:=dM (X*4294967296+c) (show Y≠0 by omega);have hx1:=er (X*4294967296+c) sr;have su:AP v1 v2 ((X*4294967296+c)%Y) d Y:=⟨fo.y,fo.v1,fo.v2,⟨hx0,hx1⟩,gw⟩;have Mn:∀r,aW prog w F 135 ((fl jb []).drop 22) (jd Y s v1 v2 d ((X*4294967296+c)/Y) ((X*4294967296+c)%Y) (((X*4294967296+c)%Y*4294967296+d)/Y) r).T (jd Y s v1 v2 d ((X*4294967296+c)/Y) ((X*4294967296+c)%Y) (((X*4294967296+c)%Y*4294967296+d)/Y) r).H (gZ prog true f223 (.tuple [cr (ku hi lo y),cr (ow hi lo y)])):=fun r=>by
   have T6:=Int.emod_add_mul_ediv ((X*4294967296+c)%Y*4294967296+d) Y;have lF:=dM ((X*4294967296+c)%Y*4294967296+d) (show Y≠0 by omega);have Ch:=er ((X*4294967296+c)%Y*4294967296+d) sr;have j4:0<=(X*4294967296+c)/Y:=Int.ediv_nonneg (by have:=fo.x;have:=fo.c;omega) ω;have auh:(X*4294967296+c)/Y<4294967296:=Int.ediv_lt_of_lt_mul sr (by have:=fo.x;have:=fo.c;omega);have LU:0<=((X*4294967296+c)%Y*4294967296+d)/Y:=Int.ediv_nonneg ω ω;have hp1:((X*4294967296+c)%Y*4294967296+d)/Y<4294967296:=Int.ediv_lt_of_lt_mul sr ω;generalize (X*4294967296+c)/Y=ob at*;generalize (X*4294967296+c)%Y=eB at*;generalize aui:(eB*4294967296+d)/Y=ud at*;generalize auj:(eB*4294967296+d)%Y=T7 at*;obtain⟨j1,j2⟩:=Mk (A:=hi*18446744073709551616+lo) (b:=y) (V:=Y) (S:=2^s) (U:=T7) (q:=ob*4294967296+ud) hp ω T4.symm (by rw [hN];grind) lF Ch;refine b5 (s:=jd Y s v1 v2 d ob eB ud r) hS (ahc Y s v1 v2 d ob eB ud r _ _ ω ?_ ?_)
   .rw [fG (x:=ob*4294967296) ω,fG ω];exact j1.symm
   .rw [Int.toNat_natCast,hmin,Int.fdiv_eq_ediv_of_nonneg _ (cq hp)];have e:IntKind.wrap .u64 (IntKind.wrap .u64 (IntKind.wrap .u64 (eB*4294967296)+d)-IntKind.wrap .u64 (ud*Y))=T7:=by
     rw [q2,q2,q2,q2];rw [Int.mul_comm Y]at T6;generalize ud*Y=P at*;omega
    rw [e,j2,Int.mul_ediv_cancel_left _ ω];rfl
  have Mo:∀r,aW prog w F 135 ((fl jb []).drop 18) (jc Y s v1 v2 X c d ((X*4294967296+c)/Y) r).T (jc Y s v1 v2 X c d ((X*4294967296+c)/Y) r).H (gZ prog true f223 (.tuple [cr (ku hi lo y),cr (ow hi lo y)])):=fun r=>by
   obtain⟨n1,n2,n3,sw,T8,T9⟩:=su.start;have e:IntKind.wrap .u64 (IntKind.wrap .u64 (IntKind.wrap .u64 (X*4294967296)+c)-IntKind.wrap .u64 ((X*4294967296+c)/Y*Y))=(X*4294967296+c)%Y:=by
    rw [q2,q2,q2,q2];rw [Int.mul_comm Y]at ahp;generalize (X*4294967296+c)/Y*Y=P at*;omega
   have m1:=fG (x:=((X*4294967296+c)%Y).tdiv v1) ⟨n3,T9⟩;have m2:IntKind.wrap .u64 (((X*4294967296+c)%Y).tdiv v1*v1)=((X*4294967296+c)%Y).tdiv v1*v1:=fG (by have:=fo.v1;have:=Int.mul_nonneg n3 (show 0<=v1 by omega);omega);refine cX (s:=jc Y s v1 v2 X c d ((X*4294967296+c)/Y) r) hS 3 (ag6 Y s v1 v2 X c d ((X*4294967296+c)/Y) r ((X*4294967296+c)%Y) (((X*4294967296+c)%Y).tdiv v1) ((X*4294967296+c)%Y-((X*4294967296+c)%Y).tdiv v1*v1) (by have:=fo.v1;omega) e (by rw [e];exact m1) (by rw [e,m1,m2];exact fG ω)) ?_;generalize (X*4294967296+c)%Y=eB at*;refine aW.loop (ι:={p:Int×Int//p.1*v1+p.2=eB/\(eB*4294967296+d)/Y<=p.1/\0<=p.1/\0<=p.2/\p.2<4294967296/\p.1<18446744073709551616}) (id:=2) (b:=cat jb AO) (rest:=(fl jb []).drop 22) (by kernel_rfl) (fun p=>jd Y s v1 v2 d ((X*4294967296+c)/Y) eB p.1.1 p.1.2) (fun p=>p.1.1.toNat) ⟨(eB.tdiv v1,eB-eB.tdiv v1*v1),n1,n2,n3,sw,T8,T9⟩ (fun _=>rfl) ?_;rintro⟨⟨q,r⟩,a1,a2,a3,a4,a5,a6⟩;have a1:q*v1+r=eB:=a1;have a2:(eB*4294967296+d)/Y<=q:=a2;have a3:0<=q:=a3;have a4:0<=r:=a4;have a5:r<4294967296:=a5;have a6:q<18446744073709551616:=a6;have hgo:(4294967296<=q\/4294967296*r+d<q*v2)->(eB*4294967296+d)/Y<=q-1:=fun hg=>by
    have:=su.y;subst this;exact TV sr su.x.2 δ gw.2 a1 hg
   have LU:0<=(eB*4294967296+d)/Y:=Int.ediv_nonneg (by have:=su.x;omega) ω;have hw1:=fG (x:=r+v1) (by have:=fo.v1;omega);have Dh:(4294967296<=q\/4294967296*r+d<q*v2)->4294967296<=r+v1->q-1=(eB*4294967296+d)/Y:=fun hg hr=>by
    have g1:=hgo hg;have e1:(q-1)*v1+(r+v1)=eB:=by rw [Int.sub_mul,Int.one_mul];omega
    have hf:=TW (by have:=fo.v1;omega) (by have:=su.x;have:=su.y;omega) su.v2 gw.1 e1 ω hr;have:=su.y;subst this;exact(Gy sr e1 g1 hf).symm
   by_cases fS:q>=4294967296
   .have lR:=fG (x:=q-1) ω;by_cases hrb:r+v1>=4294967296
    .refine bE (s:=jd Y s v1 v2 d ((X*4294967296+c)/Y) eB q r) hS (ag7 Y s v1 v2 d _ eB q r fS (by rw [hw1];exact hrb) lR hw1) ?_;refine cG (cO ?_);rw [Dh (.inl fS) hrb];exact Mn _
    .refine bE (s:=jd Y s v1 v2 d ((X*4294967296+c)/Y) eB q r) hS (ag8 Y s v1 v2 d _ eB q r fS (by rw [hw1];exact hrb) lR hw1) ?_;exact⟨⟨(q-1,r+v1),by show(q-1)*v1+(r+v1)=eB;rw [Int.sub_mul,Int.one_mul];omega,hgo (.inl fS),by show 0<=q-1;omega,by show 0<=r+v1;have:=fo.v1;omega,by show r+v1<_;omega,by show q-1<_;omega⟩,by show(q-1).toNat<q.toNat;omega,rfl,rfl⟩
   .obtain⟨w1,w2⟩:=su.lim a3 ω ⟨a4,a5⟩;by_cases hgt:4294967296*r+d<q*v2
    .have hq1:1<=q:=by
      by_cases j4:q=0
      .rw [j4,Int.zero_mul]at hgt;omega
      .omega
     have lR:=fG (x:=q-1) ω;by_cases hrb:r+v1>=4294967296
     .refine bE (s:=jd Y s v1 v2 d ((X*4294967296+c)/Y) eB q r) hS (ag9 Y s v1 v2 d _ eB q r fS (by rw [w1,w2];exact hgt) (by rw [hw1];exact hrb) lR hw1) ?_;refine cG (cO ?_);rw [Dh (.inr hgt) hrb];exact Mn _
     .refine bE (s:=jd Y s v1 v2 d ((X*4294967296+c)/Y) eB q r) hS (aha Y s v1 v2 d _ eB q r fS (by rw [w1,w2];exact hgt) (by rw [hw1];exact hrb) lR hw1) ?_;exact⟨⟨(q-1,r+v1),by show(q-1)*v1+(r+v1)=eB;rw [Int.sub_mul,Int.one_mul];omega,hgo (.inr hgt),by show 0<=q-1;omega,by show 0<=r+v1;have:=fo.v1;omega,by show r+v1<_;omega,by show q-1<_;omega⟩,by show(q-1).toNat<q.toNat;omega,rfl,rfl⟩
    .refine bE (s:=jd Y s v1 v2 d ((X*4294967296+c)/Y) eB q r) hS (ahb Y s v1 v2 d _ eB q r fS (by rw [w1,w2];exact hgt)) ?_;refine cG (cO ?_);have e1:(eB*4294967296+d)/Y=q:=by
      have:=su.y;subst this;exact Gy sr a1 a2 ω
     rw [<-e1];exact Mn _
  refine aW.loop (ι:={p:Int×Int//p.1*v1+p.2=X/\(X*4294967296+c)/Y<=p.1/\0<=p.1/\0<=p.2/\p.2<4294967296/\p.1<18446744073709551616}) (id:=0) (b:=cat jb AN) (rest:=(fl jb []).drop 18) (by kernel_rfl) (fun p=>jc Y s v1 v2 X c d p.1.1 p.1.2) (fun p=>p.1.1.toNat) ⟨(X.tdiv v1,X-X.tdiv v1*v1),k1,k2,dG,mg,o7,xD⟩ (fun _=>rfl) ?_;rintro⟨⟨q,r⟩,a1,a2,a3,a4,a5,a6⟩;have a1:q*v1+r=X:=a1;have a2:(X*4294967296+c)/Y<=q:=a2;have a3:0<=q:=a3;have a4:0<=r:=a4;have a5:r<4294967296:=a5;have a6:q<18446744073709551616:=a6;have hgo:(4294967296<=q\/4294967296*r+c<q*v2)->(X*4294967296+c)/Y<=q-1:=fun hg=>by
   have:=fo.y;subst this;exact TV sr fo.x.2 δ fo.c.2 a1 hg
  have LU:0<=(X*4294967296+c)/Y:=Int.ediv_nonneg (by have:=fo.x;have:=fo.c;omega) ω;have hw1:=fG (x:=r+v1) (by have:=fo.v1;omega);have Dh:(4294967296<=q\/4294967296*r+c<q*v2)->4294967296<=r+v1->q-1=(X*4294967296+c)/Y:=fun hg hr=>by
   have g1:=hgo hg;have e1:(q-1)*v1+(r+v1)=X:=by rw [Int.sub_mul,Int.one_mul];omega
   have hf:=TW (by have:=fo.v1;omega) (by have:=fo.x;have:=fo.y;omega) fo.v2 fo.c.1 e1 ω hr;have:=fo.y;subst this;exact(Gy sr e1 g1 hf).symm
  by_cases fS:q>=4294967296
  .have lR:=fG (x:=q-1) ω;by_cases hrb:r+v1>=4294967296
   .refine bE (s:=jc Y s v1 v2 X c d q r) hS (ag1 Y s v1 v2 X c d q r fS (by rw [hw1];exact hrb) lR hw1) ?_;refine cG (cO ?_);rw [Dh (.inl fS) hrb];exact Mo _
   .refine bE (s:=jc Y s v1 v2 X c d q r) hS (ag2 Y s v1 v2 X c d q r fS (by rw [hw1];exact hrb) lR hw1) ?_;exact⟨⟨(q-1,r+v1),by show(q-1)*v1+(r+v1)=X;rw [Int.sub_mul,Int.one_mul];omega,hgo (.inl fS),by show 0<=q-1;omega,by show 0<=r+v1;have:=fo.v1;omega,by show r+v1<_;omega,by show q-1<_;omega⟩,by show(q-1).toNat<q.toNat;omega,rfl,rfl⟩
  .obtain⟨w1,w2⟩:=fo.lim a3 ω ⟨a4,a5⟩;by_cases hgt:4294967296*r+c<q*v2
   .have hq1:1<=q:=by
     by_cases j4:q=0
     .rw [j4,Int.zero_mul]at hgt;omega
     .omega
    have lR:=fG (x:=q-1) ω;by_cases hrb:r+v1>=4294967296
    .refine bE (s:=jc Y s v1 v2 X c d q r) hS (ag3 Y s v1 v2 X c d q r fS (by rw [w1,w2];exact hgt) (by rw [hw1];exact hrb) lR hw1) ?_;refine cG (cO ?_);rw [Dh (.inr hgt) hrb];exact Mo _
    .refine bE (s:=jc Y s v1 v2 X c d q r) hS (ag4 Y s v1 v2 X c d q r fS (by rw [w1,w2];exact hgt) (by rw [hw1];exact hrb) lR hw1) ?_;exact⟨⟨(q-1,r+v1),by show(q-1)*v1+(r+v1)=X;rw [Int.sub_mul,Int.one_mul];omega,hgo (.inr hgt),by show 0<=q-1;omega,by show 0<=r+v1;have:=fo.v1;omega,by show r+v1<_;omega,by show q-1<_;omega⟩,by show(q-1).toNat<q.toNat;omega,rfl,rfl⟩
   .refine bE (s:=jc Y s v1 v2 X c d q r) hS (ag5 Y s v1 v2 X c d q r fS (by rw [w1,w2];exact hgt)) ?_;refine cG (cO ?_);have e1:(X*4294967296+c)/Y=q:=by
     have:=fo.y;subst this;exact Gy sr a1 a2 ω
    rw [<-e1];exact Mo _
def T':Mm.Ok prog:=fun⟨hi,lo,y,_⟩ h=>ahh hi lo y h
end
end
section
open Go.RowKit Sv Go.Proofs.Tryz
noncomputable section
def fq (x s:Int):Int:=IntKind.wrap .u64 (x*2^min s.toNat 64)
def dp (x s:Int):Int:=Int.fdiv x (2^min s.toNat 64)
def uu:=k_a f225
abbrev Gz:List Nat:=[1,1,0,1,0,0]
def nw (w out:List Int) (s:Int) (i:Nat):bH:={n:=40,sl:=[(0,bI w),(1,iv s),(5,qQ 64 out),(12,bI w),(13,iv w.length),(14,iv i)],bJ:=[(64,qR out)],next:=65}
def ahq (w:List Int) (s:Int) (h1: -9223372036854775808<=(w.length:Int)+1/\(w.length:Int)+1<=9223372036854775807) (h2:((w.length:Int)+1).toNat<=1000000) (h3:(((w.length:Int)+1).toNat)=(cD (w.length+(1:Nat))).length) (h4:(aZ.known ((w.length:Int)+1).toNat)=(aZ.known (w.length+(1:Nat)))) (h5:(bK (cD (w.length+(1:Nat))).length)=(bK (w.length+(1:Nat)))) (h6:(List.flatten (List.replicate ((w.length:Int)+1).toNat (List.map af.raw (Array.toList #[Value.int .u64 (0:Int)]))))=(List.flatMap (fun x=>[af.raw (Value.int .u64 x)]) (cD (w.length+(1:Nat))))) (h7:(w.length+(1:Nat))=(cD (w.length+(1:Nat))).length):
  aD.path (pG prog (a8 []) (fl uu []) 3 40 [bI w,iv s]) (dl 1) (dU prog 40 .normal [(64,64,some (w.length+1))] (nw w (cD (w.length+1)) s 0)):=
 mp (adF (eL h1) rt rt (show(decide (((w.length:Int)+1).toNat<=((w.length:Int)+1).toNat))=true from ay ω) (oc (show(bounded ((w.length:Int)+1).toNat (8:Nat))=true from pI h2 ω) (rr w) (rr s) (an h3 (an h4 h5)) (rr w) (rr (w.length:Int)) (rr (0:Int)) (an h6 h7) trivial))
section
variable (w out:List Int) (s:Int) (i:Nat) (h1:(i:Int)<(w.length:Int)) (h2:i<w.length) (h3:i<out.length) (h4:0<=s)
def ahr (h5:s>0) (h6:i6 ((i:Int)+1)) (h7:i6 (64-s)) (h8:0<=64-s) (h9:((i:Int)+1).toNat<out.length) (h10:(bz 167 aE (some (bq.own 167 aE (out.set i (IntKind.wrap IntKind.u64 (↑(BitVec.toNat (BitVec.ofInt 64 (out.getD i 0)|||BitVec.ofInt 64 (IntKind.wrap IntKind.u64 (w.getD i 0*(2:Int)^min s.toNat 64)))):Int))))) ((i:Int)+1).toNat)=true) (h11:out.length=((out.set i (eS (out.getD i 0) (fq (w.getD i 0) s))).set (i+1) (dp (w.getD i 0) (64-s))).length) (h12:(bK out.length)=(bK ((out.set i (eS (out.getD i 0) (fq (w.getD i 0) s))).set (i+1) (dp (w.getD i 0) (64-s))).length)) (dL:((out.set i (IntKind.wrap IntKind.u64 (↑(BitVec.toNat (BitVec.ofInt 64 (out.getD i 0)|||BitVec.ofInt 64 (IntKind.wrap IntKind.u64 (w.getD i 0*(2:Int)^min s.toNat 64)))):Int))).set ((i:Int)+1).toNat (Int.fdiv (w.getD i 0) ((2:Int)^min (64-s).toNat 64)))=((out.set i (eS (out.getD i 0) (fq (w.getD i 0) s))).set (i+1) (dp (w.getD i 0) (64-s)))):
  bB (a8 []) (fl uu Gz) (nw w out s i) 7 .normal [(64,64,none)] (nw w ((out.set i (eS (out.getD i 0) (fq (w.getD i 0) s))).set (i+1) (dp (w.getD i 0) (64-s))) s (i+1)):=
 wy [ah h1,ah h2,ah h3,ja 167 aE h3,aa (aF (v:=af.raw (Value.int IntKind.u64 ((bQ aE (a7 167 aE out)).getD ((0:Nat)+i) (0:Int))))),ah h4,ah h5,yi h6,yi h7,ah h8,ah h9,aa (show(bz 167 aE (some (bq.own 167 aE ((bQ aE (a7 167 aE out)).set ((0:Nat)+i) (IntKind.wrap IntKind.u64 (↑(BitVec.toNat (BitVec.ofInt (64:Nat) ((bQ aE (a7 167 aE out)).getD ((0:Nat)+i) (0:Int))|||BitVec.ofInt (64:Nat) (IntKind.wrap IntKind.u64 (w.getD i (0:Int)*(2:Int)^min s.toNat (64:Nat))))):Int))))) ((0:Nat)+((i:Int)+(1:Int)).toNat))=true from(by simp only [ey,aw]<;>exact h10)),ax h11,ax h12,pH prog 167 aE (show(((bQ aE (a7 167 aE out)).set ((0:Nat)+i) (IntKind.wrap IntKind.u64 (↑(BitVec.toNat (BitVec.ofInt (64:Nat) ((bQ aE (a7 167 aE out)).getD ((0:Nat)+i) (0:Int))|||BitVec.ofInt (64:Nat) (IntKind.wrap IntKind.u64 (w.getD i (0:Int)*(2:Int)^min s.toNat (64:Nat))))):Int))).set ((0:Nat)+((i:Int)+(1:Int)).toNat) (Int.fdiv (w.getD i (0:Int)) ((2:Int)^min ((64:Int)-s).toNat (64:Nat))))=((out.set i (eS (out.getD i (0:Int)) (fq (w.getD i (0:Int)) s))).set (i+(1:Nat)) (dp (w.getD i (0:Int)) ((64:Int)-s)))from(by simp only [ey,aw]<;>exact dL))] 5612166604090939023885917864117590006026658706890753
def ahs (h5:¬s>0) (h6:i6 ((i:Int)+1)) (h7:out.length=(out.set i (eS (out.getD i 0) (fq (w.getD i 0) s))).length) (h8:(bK out.length)=(bK (out.set i (eS (out.getD i 0) (fq (w.getD i 0) s))).length)) (h9:(out.set i (IntKind.wrap IntKind.u64 (↑(BitVec.toNat (BitVec.ofInt 64 (out.getD i 0)|||BitVec.ofInt 64 (IntKind.wrap IntKind.u64 (w.getD i 0*(2:Int)^min s.toNat 64)))):Int)))=(out.set i (eS (out.getD i 0) (fq (w.getD i 0) s)))):
  bB (a8 []) (fl uu Gz) (nw w out s i) 5 .normal [(64,64,none)] (nw w (out.set i (eS (out.getD i 0) (fq (w.getD i 0) s))) s (i+1)):=
 wy [ah h1,ah h2,ah h3,ja 167 aE h3,aa (aF (v:=af.raw (Value.int IntKind.u64 ((bQ aE (a7 167 aE out)).getD ((0:Nat)+i) (0:Int))))),ah h4,aK h5,yi h6,ax h7,ax h8,pH prog 167 aE (show((bQ aE (a7 167 aE out)).set ((0:Nat)+i) (IntKind.wrap IntKind.u64 (↑(BitVec.toNat (BitVec.ofInt (64:Nat) ((bQ aE (a7 167 aE out)).getD ((0:Nat)+i) (0:Int))|||BitVec.ofInt (64:Nat) (IntKind.wrap IntKind.u64 (w.getD i (0:Int)*(2:Int)^min s.toNat (64:Nat))))):Int)))=(out.set i (eS (out.getD i (0:Int)) (fq (w.getD i (0:Int)) s)))from(by simp only [ey,aw]<;>exact h9))] 59889699868906130213244270183591081680897
end
def aht (w out:List Int) (s:Int) (i:Nat) (h1:¬(i:Int)<(w.length:Int)):
  bB (a8 []) (fl uu Gz) (nw w out s i) 2 (.exit 0) [(64,64,none)] (nw w out s i):=
 wy [aK h1] 1
def ahu (w:List Int) (x:Int) (l:List Int) (s:Int) (i:Nat) (h1:(bK (x::l).length)=(aZ.full)):
  aD.path (oa prog (a8 []) ((fl uu []).drop 4) (nw w (x::l) s i)) (dl 1) (FM prog f225 167 aE (x::l)):=
 wy [vP (an (rr (x::l).length) (an h1 (rr (x::l))))] 1
def cE (w:List Int) (s:Int):List Int:=fL 18446744073709551616 (w.length+1) (ak w*2^s.toNat)
def yy (w:List Int) (s:Int):Bool:=gO w&&(decide (w.length<=400000)&&(decide (0<=s)&&decide (s<64)))
noncomputable def GA:qI:={f:=225,e:=167,t:=aE,ps:=[.list false aE, .int .i64],pre:=fun d=>yy d.1 d.2.1,out:=fun d=>cE d.1 d.2.1}
def Ua {x:Int} {s:Nat} (hs:s<=64) (hx:0<=x/\x<18446744073709551616):fq x s=2^s*(x%2^(64-s)):=by
 unfold fq;rw [Int.toNat_natCast,Nat.min_eq_left hs,q2];exact(Mi hs hx).1
def Mp {x:Int} {s:Nat} (hs:s<=64) (hx:0<=x):dp x s=x/2^s:=by
 unfold dp;rw [Int.toNat_natCast,Nat.min_eq_left hs];exact Int.fdiv_eq_ediv_of_nonneg _ (cq (dD δ _))
def ox {l:List Int} {i:Nat} (j:Nat) {d:Int}:(l.set i d).getD j 0=if i=j/\i<l.length then d else l.getD j 0:=by
 simp only [ao,List.getElem?_set];by_cases h:i=j
 .subst h;by_cases hl:i<l.length
  .simp [hl]
  .simp [hl]
 .simp [h]
def ahv {l:List Int} {i:Nat} (h:i<l.length):l.set i (l.getD i 0)=l:=by
 rw [ue h];exact List.set_getElem_self h
structure Di (w:List Int) (s:Nat) (out:List Int) (i:Nat):Prop where
 le:i<=w.length
 len:out.length=w.length+1
 dg:aS 18446744073709551616 out
 low:out.getD i 0<2^s
 zero:∀k,i<k->out.getD k 0=0
 val:ak (out.take i)+18446744073709551616^i*out.getD i 0=ak (w.take i)*2^s
def ahw {w:List Int} (hw:aS 18446744073709551616 w) {s:Nat} (hs:s<=63) {out:List Int} {i:Nat} (I:Di w s out i) (hi:i<w.length):
  Di w s ((out.set i (eS (out.getD i 0) (fq (w.getD i 0) s))).set (i+1) (w.getD i 0/2^(64-s))) (i+1):=by
 have hx:=hw.get δ i;have ho:=I.dg.get δ i;obtain⟨l1,l2,l3,l4⟩:=Mi (s:=s) ω hx;have hlen:=I.len;have hp:(0:Int)<2^s:=dD δ _;have hlt:2^s*(w.getD i 0%2^(64-s))<18446744073709551616:=by rw [<-l1];exact er _ δ
 have ahx:eS (out.getD i 0) (fq (w.getD i 0) s)=out.getD i 0+2^s*(w.getD i 0%2^(64-s)):=by
  rw [Ua ω hx];exact Mh ω ⟨ho.1,I.low⟩ l4.1 rfl hlt
 have jx:(2:Int)^s*2^(64-s)=18446744073709551616:=by rw [<-Int.pow_add,show s+(64-s)=64 by omega];rfl
 have ahy:0<=out.getD i 0+2^s*(w.getD i 0%2^(64-s))/\out.getD i 0+2^s*(w.getD i 0%2^(64-s))<18446744073709551616:=by
  have h1:=Int.mul_nonneg (cq hp) l4.1;have h2:=dZ (show w.getD i 0%2^(64-s)+1<=2^(64-s) by omega) (cq hp);rw [jx,Int.mul_add,Int.mul_one]at h2;have:=I.low;omega
 have hh:0<=w.getD i 0/2^(64-s)/\w.getD i 0/2^(64-s)<18446744073709551616:=by
  have:(2:Int)^s<=2^64:=iN δ ω;have e:(2:Int)^64=18446744073709551616:=rfl;omega
 rw [ahx];refine⟨hi,by simp [hlen],(I.dg.set ahy).set hh, ?_,fun k hk=> ?_, ?_⟩
 .rw [ox,if_pos ⟨rfl,by rw [b9];omega⟩];exact l3.2
 .rw [ox,if_neg ω,ox,if_neg ω];exact I.zero k ω
 .rw [ox,if_pos ⟨rfl,by rw [b9];omega⟩];have hv:=I.val;unfold ak at hv ⊢;rw [Aw,ye ω,dC (l:=w) hi,Int.pow_succ];generalize vl 18446744073709551616 (out.take i)=A at*;generalize vl 18446744073709551616 (w.take i)=auk at*;generalize out.getD i 0=o at*;generalize w.getD i 0/2^(64-s)=h at*;generalize w.getD i 0%2^(64-s)=l at*;generalize w.getD i 0=x at*;generalize (18446744073709551616:Int)^i=P at*;generalize (2:Int)^s=S at*;have e:P*(x*S)=P*(S*l+18446744073709551616*h):=by rw [l2]
  grind
def ahz {w:List Int} {s:Nat} {out:List Int} (I:Di w s out w.length):out=cE w s:=by
 have hv:=I.val;have hl:=I.len;have h1:=dC (b:=18446744073709551616) (l:=out) (k:=w.length) ω;rw [eT ω]at h1;rw [dI]at hv;have h2:=Lz (b:=18446744073709551616) δ I.dg;unfold cE;rw [Int.toNat_natCast,<-hv];unfold ak;rw [<-h1,<-hl];exact h2
def ahA (w:List Int) (Dj:Int) (h:yy w Dj=true) (w0:World) (F:Sv.Env):aW prog w0 F 40 (fl uu []) (dt [bI w,iv Dj] .nil 0) H0 (Lq prog f225 167 aE (cE w Dj)):=by
 unfold yy at h;simp only [ae,bA,hG]at h;obtain⟨hw,hl,h0,h1⟩:=h;obtain⟨s,rfl⟩:∃s:Nat,Dj=(s:Int):=⟨Dj.toNat,by omega⟩;have e1:((w.length:Int)+1).toNat=w.length+1:=by omega
 refine cP cz 3 (ahq w s ω ω (by rw [cf,e1]) (by rw [e1]) (by rw [cf]) (by rw [e1];exact ym _) (by rw [cf])) ?_;have hz:∀k,(cD (w.length+1)).getD k 0=0:=fun k=>by
  unfold cD;rw [ao,List.getElem?_replicate];split<;>rfl
 refine aW.loop (ι:={p:List Int×Nat//Di w s p.1 p.2}) (id:=0) (b:=cat uu Gz) (rest:=(fl uu []).drop 4) (by kernel_rfl) (fun p=>nw w p.1.1 s p.1.2) (fun p=>w.length-p.1.2)
  ⟨(cD (w.length+1),0),⟨Nat.zero_le _,cf _,AF _,by show(cD (w.length+1)).getD 0 0<_;rw [hz];exact dD δ _,fun k _=>hz k,by show vl _ ([]:List Int)+_*(cD (w.length+1)).getD 0 0=vl _ ([]:List Int)*_;rw [hz];simp [vl]⟩⟩ (fun _=>rfl) ?_
 rintro⟨⟨out,i⟩,I⟩;have I:Di w s out i:=I;have hlen:=I.len;by_cases hi:i<w.length
 .have hx:=hw.get δ i;have N:=ahw hw ω I hi;have kN:((i:Int)+1).toNat=i+1:=by omega
  by_cases hs0:s=0
  .subst hs0;have e2:(out.set i (eS (out.getD i 0) (fq (w.getD i 0) (0:Nat)))).set (i+1) (w.getD i 0/2^(64-0))=out.set i (eS (out.getD i 0) (fq (w.getD i 0) (0:Nat))):=by
    have e3:w.getD i 0/2^(64-0)=(out.set i (eS (out.getD i 0) (fq (w.getD i 0) (0:Nat)))).getD (i+1) 0:=by
     rw [ox,if_neg ω,I.zero (i+1) ω];exact Int.ediv_eq_zero_of_lt hx.1 hx.2
    rw [e3];exact ahv (by rw [b9];omega)
   rw [e2]at N;exact aW.all (s:=nw w out (0:Nat) i) (s':=nw w (out.set i (eS (out.getD i 0) (fq (w.getD i 0) (0:Nat)))) (0:Nat) (i+1)) known mixed cz _ (ahs w out _ i ω hi ω ω ω ω (by rw [b9]) (by rw [b9]) rfl) (by kernel_rfl)
    ⟨⟨(_,i+1),N⟩,by simp;omega,rfl,rfl⟩
  .have bV:dp (w.getD i 0) (64-(s:Int))=w.getD i 0/2^(64-s):=by
    rw [show(64-(s:Int))=((64-s:Nat):Int) by omega];exact Mp ω hx.1
   rw [<-bV]at N;exact aW.all (s:=nw w out s i) (s':=nw w ((out.set i (eS (out.getD i 0) (fq (w.getD i 0) s))).set (i+1) (dp (w.getD i 0) (64-s))) s (i+1)) known mixed cz _ (ahr w out s i ω hi ω ω ω ω ω ω (by rw [kN];omega) (by rw [kN,gg];exact ay (by rw [b9];omega)) τ τ (by rw [kN];rfl)) (by kernel_rfl)
    ⟨⟨(_,i+1),N⟩,by simp;omega,rfl,rfl⟩
 .refine bE (s:=nw w out s i) cz (aht w out s i ω) ?_;refine cG (cO ?_);have hle:=I.le;obtain rfl:i=w.length:=by omega
  rw [<-ahz I];cases out with
  |nil=>have:=I.len;simp at this
  |cons x l=>exact aW.adv known mixed cz 8 _ (ahu w x l s w.length rfl) fun T H h=>h
def ahB:GA.Ok prog:=
 ⟨rfl,_,uu,func225,rfl,by decide,fun⟨w,s,_⟩ h=>⟨by show 1<=(cE w s).length;unfold cE;rw [yf];omega,fun w0 F=>ahA w s h w0 F⟩⟩
end
end
end Go.Proofs.YtibikmmdbdlafaaGreatDoor
