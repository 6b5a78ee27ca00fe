import Derived.Test.YtibikmmdbdlafaaGreatDoorZnNI
set_option linter.defProp false
set_option linter.unusedSimpArgs false
set_option linter.unusedVariables false
set_option maxRecDepth 100000
namespace Go.Proofs.YtibikmmdbdlafaaGreatDoor
open Go.RowKit Sv Go.Proofs.Tryz
noncomputable section
abbrev dL:av:= .pair (.int .i64) (.list true aG)
abbrev aB (a:aC):af:= .agg [iv a.1, .bu true aG a.2]
def sb:=k_a f142
def Gl:=k_a f141
def LZ:=k_a f140
def L0:=IN 140 [.int .i64] [aG] true (fun d=>ii d.1) fun d=>(cr d.1,())
def Gm:=a7 [L0]
def af4 (n:Int) (h1:n<0) (h2:(IntKind.wrap IntKind.u64 (IntKind.wrap IntKind.i64 (0-n)))=(cr n)):
  aV (a7 []) (fl LZ []) 9 10 [iv n] 3 f140 true (cu (cr n)):=
 wy [ah h1,ax h2] 129
def af5 (n:Int) (h1:¬n<0) (h2:(IntKind.wrap IntKind.u64 n)=(cr n)):
  aV (a7 []) (fl LZ []) 9 10 [iv n] 2 f140 true (cu (cr n)):=
 wy [aF h1,ax h2] 129
def af6 (a:aC) (h1:a.2.isEmpty=false) (h2:(decide (a.1<0))=(b5 a)) (h3:a.2=(aA a)):
  aV Gm (fl Gl []) 9 24 [aB a] 3 f141 false (.tuple [bv (b5 a),bJ (aA a)]):=
 wy [aa (bg (h1)),aa (aD (v:=iv (a.1))),aa (aD (v:=af.bu true aG a.2)),ax h2,ax h3] 84947073
def af7 (a:aC) (h1:a.2.isEmpty=true) (h2:a.1=0) (h3:(false)=(b5 a)) (h4:(aA a)=([])):
  aV Gm (fl Gl []) 9 24 [aB a] 6 f141 false (.tuple [bv (b5 a),bJ (aA a)]):=
 wy [aa (bg (h1)),cM h2,ax h3,ax h4] 1060993
def af8 (a:aC) (h1:a.2.isEmpty=true) (h2:¬a.1=0) (h3:(ii a.1)=true) (h4:(decide (a.1<0))=(b5 a)) (h5:([cr a.1])=(aA a)) (h6:(Nat.ble (1*1) (af.raw (Value.int .u64 (cr a.1))::List.append._f [] PUnit.unit (List.flatten._f [] PUnit.unit)).length&&(!false||Nat.ble 1 1))=true):
  aV Gm (fl Gl []) 9 24 [aB a] 4 f141 false (.tuple [bv (b5 a),bJ (aA a)]):=
 wy [aa (bg (h1)),yn h2,aa (aD (v:=iv (a.1))),aa h3,ax h4,vO (an h5 (show(Nat.ble ((0:Nat)+(1:Nat)*(1:Nat)) (af.raw (Value.int IntKind.u64 (cr a.1))::List.append._f [] PUnit.unit (List.flatten._f [] PUnit.unit)).length&&(!false||Nat.ble (1:Nat) (1:Nat)))=true from(by simp only [aw]<;>exact h6)))] 1711049540382849
section
variable (neg:Bool) (w:List Int)
def cl:Int:=match neg with |true=> -ak w|false=>ak w
def SO (h1:(w.length:Int)=0) (h2:(0)=(bf (cl neg w)).1) (h3:(bf (cl neg w)).2=([])):
  aV (a7 []) (fl sb []) 9 50 [bv neg,bJ w] 3 f142 false (aB (bf (cl neg w))):=
 wy [cM h1,ax h2,ax h3] 12417
def OF (h1:¬(w.length:Int)=0) (h2:(w.length:Int)=1) (h3:Int.toNat 0<w.length) (h4:w.getD (Int.toNat 0) 0<=9223372036854775807) (h5:(neg)=true) (h6:(IntKind.wrap IntKind.i64 (0-IntKind.wrap IntKind.i64 (w.getD (Int.toNat 0) 0)))=(bf (cl neg w)).1) (h7:(bf (cl neg w)).2=([])):
  aV (a7 []) (fl sb []) 9 50 [bv neg,bJ w] 1022 f142 false (aB (bf (cl neg w))):=
 wy [yn h1,aa (aL (fW.mpr h2)),ah h3,cM h2,aa (aL (az h4)),ah h4,aa h5,ax h6,ax h7] 176517344943146498453938305
def af9 (h1:¬(w.length:Int)=0) (h2:(w.length:Int)=1) (h3:Int.toNat 0<w.length) (h4:w.getD (Int.toNat 0) 0<=9223372036854775807) (h5:(neg)=false) (h6:(IntKind.wrap IntKind.i64 (w.getD (Int.toNat 0) 0))=(bf (cl neg w)).1) (h7:(bf (cl neg w)).2=([])):
  aV (a7 []) (fl sb []) 9 50 [bv neg,bJ w] 65278 f142 false (aB (bf (cl neg w))):=
 wy [yn h1,aa (aL (fW.mpr h2)),ah h3,cM h2,aa (aL (az h4)),ah h4,aa h5,ax h6,ax h7] 49685215221999092210630363047398624731265
def aga (h1:¬(w.length:Int)=0) (h2:(w.length:Int)=1) (h3:Int.toNat 0<w.length) (h4:¬w.getD (Int.toNat 0) 0<=9223372036854775807) (h5:(neg)=true) (h6:(-1:Int)=(bf (cl neg w)).1) (h7:(w)=(bf (cl neg w)).2) (h8:1<=(bf (cl neg w)).2.length):
  aV (a7 []) (fl sb []) 9 50 [bv neg,bJ w] 114238 f142 false (aB (bf (cl neg w))):=
 wy [yn h1,aa (aL (fW.mpr h2)),ah h3,cM h2,aa (aL (ab h4)),aF h4,aa h5,ax h6,ax h7,aa (fK h8)] 55221595208755305796440247856831230124161
def agb (h1:¬(w.length:Int)=0) (h2:(w.length:Int)=1) (h3:Int.toNat 0<w.length) (h4:¬w.getD (Int.toNat 0) 0<=9223372036854775807) (h5:(neg)=false) (h6:(1)=(bf (cl neg w)).1) (h7:(w)=(bf (cl neg w)).2) (h8:1<=(bf (cl neg w)).2.length):
  aV (a7 []) (fl sb []) 9 50 [bv neg,bJ w] 81470 f142 false (aB (bf (cl neg w))):=
 wy [yn h1,aa (aL (fW.mpr h2)),ah h3,cM h2,aa (aL (ab h4)),aF h4,aa h5,ax h6,ax h7,aa (fK h8)] 55221595208755305796440247856831230124161
def agc (h1:¬(w.length:Int)=0) (h2:¬(w.length:Int)=1) (h3:(neg)=true) (h4:(-1:Int)=(bf (cl neg w)).1) (h5:(w)=(bf (cl neg w)).2) (h6:1<=(bf (cl neg w)).2.length):
  aV (a7 []) (fl sb []) 9 50 [bv neg,bJ w] 98304 f142 false (aB (bf (cl neg w))):=
 wy [yn h1,aa (aL (eB.mpr h2)),yn h2,aa h3,ax h4,ax h5,aa (fK h6)] 2302454583503482069828190673051777
def agd (h1:¬(w.length:Int)=0) (h2:¬(w.length:Int)=1) (h3:(neg)=false) (h4:(1)=(bf (cl neg w)).1) (h5:(w)=(bf (cl neg w)).2) (h6:1<=(bf (cl neg w)).2.length):
  aV (a7 []) (fl sb []) 9 50 [bv neg,bJ w] 65536 f142 false (aB (bf (cl neg w))):=
 wy [yn h1,aa (aL (eB.mpr h2)),yn h2,aa h3,ax h4,ax h5,aa (fK h6)] 2302454583503482069828190673051777
end
def Gn:=IN 141 [dL] [.bool, .list false aG] false (fun d=>ay d.1) fun d=>(b5 d.1,aA d.1,())
def L1:=IN 142 [.bool, .list false aG] [dL] false (fun d=>gY d.2.1&&jG d.2.1) fun d=>(bf (cl d.1 d.2.1),())
def sc {x:Int} (h: -9223372036854775808<=x/\x<=9223372036854775807):IntKind.wrap .i64 x=x:=RT (eP h)
def age (n:Int) (h:ii n=true):Holds prog true 140 [iv n] (cu (cr n)):=by
 have h:=qV.1 h;refine bL (c:=LZ) func140 rfl rfl fun w F=> ?_
 by_cases hn:n<0
 .refine aY cC 9 (af4 n hn ?_);unfold cr;by_cases hm:n= -9223372036854775808
  .subst hm;rfl
  .rw [sc (by omega),fP (by omega)];omega
 .refine aY cC 9 (af5 n hn ?_);unfold cr;rw [fP (by omega)];omega
def Tu:L0.Ok prog:=fun⟨n,_⟩ h=>age n h
def rc:bD prog (bF Gm):=qJ Tu
def agf (a:aC) (h:ay a=true):Holds prog false 141 [aB a] (.tuple [bv (b5 a),bJ (aA a)]):=by
 refine bL (c:=Gl) func141 rfl rfl fun w F=> ?_
 by_cases hs:a.2=[]
 .have h:=(oA hs).symm.trans h;by_cases h0:a.1=0
  .refine aY rc 9 (af7 a (dr.2 hs) h0 ?_ ?_)
   .unfold b5;rw [h0];rfl
   .unfold aA;rw [if_pos hs,if_pos h0]
  .refine aY rc 9 (af8 a (dr.2 hs) h0 h rfl ?_ rfl);unfold aA;rw [if_pos hs,if_neg h0]
 .refine aY rc 9 (af6 a (r8.2 hs) rfl ?_);unfold aA;rw [if_neg hs]
def rf:Gn.Ok prog:=fun⟨a,_⟩ h=>agf a h
def rh (neg:Bool) {w:List Int} (hw:aS 18446744073709551616 w):((cl neg w).natAbs:Int)=ak w:=by
 have:=gv (b:=18446744073709551616) (by decide) hw;unfold cl ak;cases neg<;>simp only<;>omega
def Tv {neg:Bool} {w:List Int} (hw:aS 18446744073709551616 w) (ht:fk w) (h:9223372036854775807<ak w):bf (cl neg w)=(if neg then-1 else 1,w):=by
 have ha:=rh neg hw;have hd:cV 18446744073709551616 ((cl neg w).natAbs:Int)=w:=by rw [ha];exact(r4 (by decide) hw ht rfl).symm
 unfold bf;rw [hd];unfold cl at ha ⊢;cases neg
 .simp only at ha ⊢;rw [if_neg (by omega),if_neg (by omega)];rfl
 .simp only at ha ⊢;rw [if_neg (by omega),if_pos (by omega)];rfl
def eK {z:Int} (h: -9223372036854775807<=z/\z<=9223372036854775807):bf z=(z,[]):=by unfold bf;rw [if_pos h]
def agh (neg:Bool) (w:List Int) (h1:aS 18446744073709551616 w) (h2:fk w):Holds prog false 142 [bv neg,bJ w] (aB (bf (cl neg w))):=by
 refine bL (c:=sb) func142 rfl rfl fun w0 F=> ?_
 cases w with
 |nil=>
  have e:bf (cl neg [])=(0,[]):=by
   have:cl neg []=0:=by cases neg<;>rfl
   rw [this];exact eK (by decide)
  exact aY cC 9 (SO neg [] rfl (by rw [e]) (by rw [e]))
 |cons x l=>
  have hx:=h1.head;have hne:¬((x::l).length:Int)=0:=by simp;omega
  cases l with
  |nil=>
   have hv:ak [x]=x:=AF x;by_cases hs:x<=9223372036854775807
   .cases neg with
    |true=>
     have e:bf (cl true [x])=(-x,[]):=by
      show bf (-ak [x])=_;rw [hv];exact eK (by omega)
     refine aY cC 9 (OF true [x] hne rfl (by simp) hs rfl ?_ (by rw [e]));rw [e];show IntKind.wrap .i64 (0-IntKind.wrap .i64 x)= -x;rw [sc (x:=x) (by omega),sc (by omega)];omega
    |false=>
     have e:bf (cl false [x])=(x,[]):=by
      show bf (ak [x])=_;rw [hv];exact eK (by omega)
     refine aY cC 9 (af9 false [x] hne rfl (by simp) hs rfl ?_ (by rw [e]));rw [e];exact sc (x:=x) (by omega)
   .have e:=Tv (neg:=neg) h1 h2 (by omega);cases neg with
    |true=>exact aY cC 9 (aga true [x] hne rfl (by simp) hs rfl (by rw [e];rfl) (by rw [e]) (by rw [e];simp))
    |false=>exact aY cC 9 (agb false [x] hne rfl (by simp) hs rfl (by rw [e];rfl) (by rw [e]) (by rw [e];simp))
  |cons y l=>
   have hbig:9223372036854775807<ak (x::y::l):=by
    have h3:=ya (b:=18446744073709551616) (by decide) h1 h2 (k:=l.length+1) (by simp);have h4:=iW (b:=18446744073709551616) (by decide) (show 1<=l.length+1 by omega);rw [Int.pow_one]at h4;unfold ak;omega
   have e:=Tv (neg:=neg) h1 h2 hbig;have nw:¬((x::y::l).length:Int)=1:=by simp;omega
   cases neg with
   |true=>exact aY cC 9 (agc true _ hne nw rfl (by rw [e];rfl) (by rw [e]) (by rw [e];simp))
   |false=>exact aY cC 9 (agd false _ hne nw rfl (by rw [e];rfl) (by rw [e]) (by rw [e];simp))
def Tw:L1.Ok prog:=fun⟨neg,w,_⟩ h=>by
 have h:(gY w&&jG w)=true:=h;rw [ae]at h;exact agh neg w (ij.1 h.1) (gd.1 h.2)
def Gp:=k_a f147
def L2:=k_a f170
def Tx:=k_a f128
def ur:=k_a f82
def Ty:=k_a f150
def pc:=k_a f81
def xf:=k_a f93
def kD:=a7 [Gn,L1,Tc,Td,LJ,Tn,Gc,L0]
abbrev eW (a:aC):fS:= .blk (.cells 83 [iv a.1, .bu true aG a.2] true false false)
abbrev b0:fS:= .blk (.cells 83 [iv 0, .raw (.slice none 0 0)] true false false)
abbrev s3:Sv.Ren:=[(64,64,none),(65,65,none),(66,66,none)]
def j9 (a b:aC) (n:Nat):bI:={n:=n,sl:=[(2, .ptr 64 0),(3, .ptr 65 0),(4, .ptr 66 0)],bH:=[(64,eW a),(65,eW b),(66,b0)],next:=67}
def agi (a:aC) (h1:a.2.isEmpty=true) (h2:¬a.1= -9223372036854775808) (h3:(IntKind.wrap IntKind.i64 (0-a.1))=(-a.1)):
  aV kD (fl Gp []) 9 26 [aB a] 63 f147 false (aB (-a.1,[])):=
 wy [aa (aL (aL (h1))),aa (aL (h1)),aa (fA.mpr h2),ax h3] 4345827393
def agj (a:aC) (h1:a.2.isEmpty=true) (h2:a.1= -9223372036854775808) (h3:(ay a)=true) (h4:(gY (aA a)&&jG (aA a))=true):
  aV kD (fl Gp []) 9 26 [aB a] 47 f147 false (aB (bf (cl (!b5 a) (aA a)))):=
 wy [aa (aL (aL (h1))),aa (aL (h1)),aa (ef.mpr h2),aa h3,aa h4] 347943211073
def agk (a:aC) (h1:a.2.isEmpty=false) (h2:(ay a)=true) (h3:(gY (aA a)&&jG (aA a))=true):
  aV kD (fl Gp []) 9 26 [aB a] 32 f147 false (aB (bf (cl (!b5 a) (aA a)))):=
 wy [aa (aL (aL (h1))),aa (aL (h1)),aa h2,aa h3] 278099660865
def agl (a:aC) (h1:(if(if a.1<1 then a.1 else 1)> -1 then if a.1<1 then a.1 else 1 else(-1:Int))=(jI a.1)):
  aV (a7 []) (fl Tx []) 9 7 [aB a] 1 f128 true (iv (jI a.1)):=
 wy [ax h1] 1
section
variable (a b:aC)
def agm (h1:a.2.isEmpty=true) (h2:b.2.isEmpty=true) (h3:i6 (a.1+b.1)) (h4:decide (a.1+b.1>a.1)=decide (b.1>0)):
  aV kD (fl ur []) 3 67 [aB a,aB b] 127 f82 false (aB (a.1+b.1,[])):=
 wy [aa (aL (aL (h1))),aa (aL (h1)),aa (aL (h2)),yi h3,cM h4] 347943211073
def agn (h1:a.2.isEmpty=false):
  c7 kD (fl ur []) 3 67 [aB a,aB b] 32 .normal s3 (j9 a b 67):=
 wy [aa (aL (aL (h1))),aa (aL (h1))] 528449
def ON (h1:a.2.isEmpty=true) (h2:b.2.isEmpty=false):
  c7 kD (fl ur []) 3 67 [aB a,aB b] 47 .normal s3 (j9 a b 67):=
 wy [aa (aL (aL (h1))),aa (aL (h1)),aa (aL (h2))] 50860097
def HI (h1:a.2.isEmpty=true) (h2:b.2.isEmpty=true) (h3:(fits IntKind.i64 (a.1+b.1))=false) (h4:¬decide (IntKind.wrap IntKind.i64 (a.1+b.1)>a.1)=decide (b.1>0)):
  aE.tW (om prog kD (fl ur []) 3 67 [aB a,aB b]) (dl 95) (ep prog 67 .normal s3 (j9 a b 67)):=
 ada [aa (aL (aL (h1))),aa (aL (h1)),aa (aL (h2)),aa h3,yn h4] 347943211073
def ago (h1:(ay a)=true) (h2:(ay b)=true) (h3:b5 a=b5 b) (h4:(k6 (aA a) (aA b))=true) (h5:(gY (vX (aA a) (aA b))&&jG (vX (aA a) (aA b)))=true):
  bS kD ((fl ur []).drop 3) (j9 a b 67) 3 f82 false (aB (bf (cl (b5 a) (vX (aA a) (aA b))))):=
 wy [aa h1,aa h2,cM h3,aa h4,aa h5] 84947073
def agp (h1:(ay a)=true) (h2:(ay b)=true) (h3:¬b5 a=b5 b) (h4:(mU (aA a) (aA b))=true) (h5:k7 (ak (aA a)) (ak (aA b))>=0) (h6:(k6 (aA a) (aA b)&&decide (ak (aA b)<=ak (aA a)))=true) (h7:(gY (pM (aA a) (aA b))&&jG (pM (aA a) (aA b)))=true):
  bS kD ((fl ur []).drop 3) (j9 a b 67) 6 f82 false (aB (bf (cl (b5 a) (pM (aA a) (aA b))))):=
 wy [aa h1,aa h2,yn h3,aa h4,ah h5,aa h6,aa h7] 487563735169
def agq (h1:(ay a)=true) (h2:(ay b)=true) (h3:¬b5 a=b5 b) (h4:(mU (aA a) (aA b))=true) (h5:¬k7 (ak (aA a)) (ak (aA b))>=0) (h6:(k6 (aA b) (aA a)&&decide (ak (aA a)<=ak (aA b)))=true) (h7:(gY (pM (aA b) (aA a))&&jG (pM (aA b) (aA a)))=true):
  bS kD ((fl ur []).drop 3) (j9 a b 67) 4 f82 false (aB (bf (cl (b5 b) (pM (aA b) (aA a))))):=
 wy [aa h1,aa h2,yn h3,aa h4,aF h5,aa h6,aa h7] 487563735169
def agr (h1:a.2.isEmpty=true) (h2:b.2.isEmpty=true) (h3:(ii a.1)=true) (h4:(ii b.1)=true) (h5:(k8 (cr a.1) (cr b.1))=true) (h6:fO (cr a.1) (cr b.1)=0) (h7:cO (cr a.1) (cr b.1)<=9223372036854775807) (h8:¬decide (a.1<0)=decide (b.1<0)) (h9:(IntKind.wrap IntKind.i64 (0-IntKind.wrap IntKind.i64 (cO (cr a.1) (cr b.1))))=(-cO (cr a.1) (cr b.1))):
  aV kD (fl pc []) 3 66 [aB a,aB b] 2047 f81 false (aB (-(cO (cr a.1) (cr b.1)),[])):=
 wy [aa (aL (aL (h1))),aa (aL (h1)),aa (aL (h2)),aa (aD (v:=iv (a.1))),aa h3,aa (aD (v:=iv (b.1))),aa h4,aa h5,aa (aL (fW.mpr h6)),cM h6,ah h7,aa (cj (eB.mpr h8)),ax h9] 1045037229590394484215400370241
def ST (h1:a.2.isEmpty=true) (h2:b.2.isEmpty=true) (h3:(ii a.1)=true) (h4:(ii b.1)=true) (h5:(k8 (cr a.1) (cr b.1))=true) (h6:fO (cr a.1) (cr b.1)=0) (h7:cO (cr a.1) (cr b.1)<=9223372036854775807) (h8:decide (a.1<0)=decide (b.1<0)) (h9:(IntKind.wrap IntKind.i64 (cO (cr a.1) (cr b.1)))=(cO (cr a.1) (cr b.1))):
  aV kD (fl pc []) 3 66 [aB a,aB b] 1535 f81 false (aB (cO (cr a.1) (cr b.1),[])):=
 wy [aa (aL (aL (h1))),aa (aL (h1)),aa (aL (h2)),aa (aD (v:=iv (a.1))),aa h3,aa (aD (v:=iv (b.1))),aa h4,aa h5,aa (aL (fW.mpr h6)),cM h6,ah h7,aa (cj (fW.mpr h8)),ax h9] 1045037229590394484215400370241
def ags (h1:a.2.isEmpty=true) (h2:b.2.isEmpty=true) (h3:(ii a.1)=true) (h4:(ii b.1)=true) (h5:(k8 (cr a.1) (cr b.1))=true) (h6:fO (cr a.1) (cr b.1)=0) (h7:¬cO (cr a.1) (cr b.1)<=9223372036854775807):
  c7 kD (fl pc []) 3 66 [aB a,aB b] 767 .normal s3 (j9 a b 66):=
 wy [aa (aL (aL (h1))),aa (aL (h1)),aa (aL (h2)),aa (aD (v:=iv (a.1))),aa h3,aa (aD (v:=iv (b.1))),aa h4,aa h5,aa (aL (fW.mpr h6)),cM h6,aF h7] 215836433533532200539525185
def agt (h1:a.2.isEmpty=true) (h2:b.2.isEmpty=true) (h3:(ii a.1)=true) (h4:(ii b.1)=true) (h5:(k8 (cr a.1) (cr b.1))=true) (h6:¬fO (cr a.1) (cr b.1)=0):
  c7 kD (fl pc []) 3 66 [aB a,aB b] 543 .normal s3 (j9 a b 66):=
 wy [aa (aL (aL (h1))),aa (aL (h1)),aa (aL (h2)),aa (aD (v:=iv (a.1))),aa h3,aa (aD (v:=iv (b.1))),aa h4,aa h5,aa (aL (eB.mpr h6)),yn h6] 3065489281357465791238209
def agu (h1:a.2.isEmpty=true) (h2:b.2.isEmpty=false):
  c7 kD (fl pc []) 3 66 [aB a,aB b] 47 .normal s3 (j9 a b 66):=
 wy [aa (aL (aL (h1))),aa (aL (h1)),aa (aL (h2))] 50860097
def agv (h1:a.2.isEmpty=false):
  c7 kD (fl pc []) 3 66 [aB a,aB b] 32 .normal s3 (j9 a b 66):=
 wy [aa (aL (aL (h1))),aa (aL (h1))] 528449
def agw (h1:(ay a)=true) (h2:(ay b)=true) (h3:(k6 (aA a) (aA b))=true) (h4:(gY (pO (aA a) (aA b))&&jG (pO (aA a) (aA b)))=true) (h5:(bf (cl (!b5 a==b5 b) (pO (aA a) (aA b)))).1=(bf (cl (b5 a != b5 b) (pO (aA a) (aA b)))).1) (h6:(bf (cl (!b5 a==b5 b) (pO (aA a) (aA b)))).2=(bf (cl (b5 a != b5 b) (pO (aA a) (aA b)))).2):
  bS kD ((fl pc []).drop 3) (j9 a b 66) 1 f81 false (aB (bf (cl (b5 a != b5 b) (pO (aA a) (aA b))))):=
 wy [aa h1,aa h2,aa h3,aa h4,ax h5,ax h6] 6527398017
end
def yl:=IN 147 [dL] [dL] false (fun d=>ay d.1) fun d=>(e8 d.1,())
def we:=IN 128 [dL] [.int .i64] true (fun d=>ay d.1) fun d=>(gP d.1,())
def wg:=IN 82 [dL,dL] [dL] false (fun d=>ay d.1&&ay d.2.1) fun d=>(cw d.1 d.2.1,())
def ym:=IN 81 [dL,dL] [dL] false (fun d=>ay d.1&&ay d.2.1) fun d=>(ba d.1 d.2.1,())
def ld:bD prog (bF kD):=cN (aQ rf (aQ Tw (aQ aeJ (aQ aeM (aQ Tk (aQ afA (aQ LL (aQ Tu dW))))))))
def yo {z:Int} (h:0<=z):(gY (cV 18446744073709551616 z)&&jG (cV 18446744073709551616 z))=true:=by
 obtain⟨h1,h2,_⟩:=qM (b:=18446744073709551616) (by decide) h;rw [ij.2 h1,gd.2 h2];rfl
def mn {z:Int} (h:0<=z):ak (cV 18446744073709551616 z)=z:=(qM (b:=18446744073709551616) (by decide) h).2.2
def Tz {a:aC} (h:ay a=true):(gY (aA a)&&jG (aA a))=true:=by
 obtain⟨h1,h2,_⟩:=kC h;rw [ij.2 h1,gd.2 h2];rfl
def Gq {a b:aC} (h:ay a=true) (g:ay b=true):k6 (aA a) (aA b)=true:=by
 obtain⟨h1,_,_,_,h5⟩:=kC h;obtain⟨g1,_,_,_,g5⟩:=kC g;unfold k6;rw [ij.2 h1,ij.2 g1,az (show(aA a).length<=400000 by omega),az (show(aA b).length<=400000 by omega)];rfl
def L3 {a b:aC} (h:ay a=true) (g:ay b=true):mU (aA a) (aA b)=true:=by
 obtain⟨h1,h2,_,_,h5⟩:=kC h;obtain⟨g1,g2,_⟩:=kC g;unfold mU;rw [ij.2 h1,gd.2 h2,ij.2 g1,gd.2 g2,az (show(aA a).length<=1000000 by omega)];rfl
def yp {a:aC} (h:ay a=true) (hs:a.2=[]): -9223372036854775808<=a.1/\a.1<=9223372036854775807:=qV.1 ((oA hs).symm.trans h)
def agx (a:aC) (h:ay a=true):Holds prog false 147 [aB a] (aB (e8 a)):=by
 obtain⟨h1,h2,h3,h4,_⟩:=kC h;have e2:bf (cl (!b5 a) (aA a))=e8 a:=by
  unfold e8;congr 1;cases hn:b5 a
  .have:¬aj a<0:=fun hh=>by rw [h4.2 hh]at hn;cases hn
   show-ak (aA a)=_;omega
  .have:=h4.1 hn;show ak (aA a)=_;omega
 refine bL (c:=Gp) func147 rfl rfl fun w F=> ?_
 by_cases hs:a.2=[]
 .have hr:=yp h hs;by_cases hm:a.1= -9223372036854775808
  .rw [<-e2];exact aY ld 9 (agj a (dr.2 hs) hm h (Tz h))
  .have e:e8 a=(-a.1,[]):=by unfold e8;rw [lX hs];exact eK (by omega)
   rw [e];refine aY ld 9 (agi a (dr.2 hs) hm ?_);rw [sc (by omega)];omega
 .rw [<-e2];exact aY ld 9 (agk a (r8.2 hs) h (Tz h))
def AH:yl.Ok prog:=fun⟨a,_⟩ h=>agx a h
def agy {a:aC} (h:ay a=true):gP a=jI a.1:=by
 unfold gP;by_cases hs:a.2=[]
 .rw [lX hs]
 .obtain⟨h1,_,_,h4,_⟩:=(r9 hs).1 h;have hv:aj a=a.1*ak a.2:=by unfold aj;rw [if_neg hs]
  rw [hv];rcases h1 with h1|h1<;>rw [h1]
  .rw [LY (by omega),LY (by omega)]
  .rw [Gk (by omega),Gk (by omega)]
def agz (a:aC) (h:ay a=true):Holds prog true 128 [aB a] (iv (gP a)):=by
 rw [agy h];refine bL (c:=Tx) func128 rfl rfl fun w F=> ?_
 refine aY cC 9 (agl a ?_);unfold jI;split<;>split<;>split<;>(try split)<;>omega
def yq:we.Ok prog:=fun⟨a,_⟩ h=>agz a h
def L4 (a b:aC) (h:ay a=true) (g:ay b=true) (hn:cw a b=bf (aj a+aj b)) (w:World) (F:Sv.Env):
  aW prog w F 67 ((fl ur []).drop 3) (j9 a b 67).T (j9 a b 67).H (hJ prog false f82 (aB (cw a b))):=by
 obtain⟨h1,h2,h3,h4,_⟩:=kC h;obtain⟨g1,g2,g3,g4,_⟩:=kC g;rw [hn];by_cases hs:b5 a=b5 b
 .have e:bf (cl (b5 a) (vX (aA a) (aA b)))=bf (aj a+aj b):=by
   congr 1;have hv:ak (vX (aA a) (aA b))=ak (aA a)+ak (aA b):=mn (by omega);cases hna:b5 a
   .have:¬aj a<0:=fun hh=>by rw [h4.2 hh]at hna;cases hna
    have:¬aj b<0:=fun hh=>by rw [<-hs,hna]at g4;have:=g4.2 hh;cases this
    show ak _=_;omega
   .have:=h4.1 hna;have:=g4.1 (by rw [<-hs];exact hna);show-ak _=_;omega
  rw [<-e];exact bY (s:=j9 a b 67) ld (ago a b h g hs (Gq h g) (yo (show 0<=ak (aA a)+ak (aA b) by omega)))
 .have hab:(aj a<0/\¬aj b<0)\/(¬aj a<0/\aj b<0):=by
   cases hna:b5 a<;>cases hnb:b5 b
   .rw [hna,hnb]at hs;exact absurd rfl hs
   .exact .inr ⟨fun hh=>(by rw [h4.2 hh]at hna;cases hna),g4.1 hnb⟩
   .exact .inl ⟨h4.1 hna,fun hh=>(by rw [g4.2 hh]at hnb;cases hnb)⟩
   .rw [hna,hnb]at hs;exact absurd rfl hs
  by_cases hge:k7 (ak (aA a)) (ak (aA b))>=0
  .have hle:ak (aA b)<=ak (aA a):=by
    unfold k7 at hge;split at hge
    .omega
    .omega
   have hv:ak (pM (aA a) (aA b))=ak (aA a)-ak (aA b):=mn (by omega);have e:bf (cl (b5 a) (pM (aA a) (aA b)))=bf (aj a+aj b):=by
    congr 1;cases hna:b5 a
    .have:¬aj a<0:=fun hh=>by rw [h4.2 hh]at hna;cases hna
     show ak _=_;omega
    .have:=h4.1 hna;show-ak _=_;omega
   rw [<-e];exact bY (s:=j9 a b 67) ld (agp a b h g hs (L3 h g) hge (by rw [show k6 _ _=true from Gq h g,Bool.true_and];exact az hle) (yo (show 0<=ak (aA a)-ak (aA b) by omega)))
  .have hle:ak (aA a)<=ak (aA b):=by
    unfold k7 at hge;split at hge
    .omega
    .split at hge<;>omega
   have hv:ak (pM (aA b) (aA a))=ak (aA b)-ak (aA a):=mn (by omega);have e:bf (cl (b5 b) (pM (aA b) (aA a)))=bf (aj a+aj b):=by
    congr 1;cases hnb:b5 b
    .have:¬aj b<0:=fun hh=>by rw [g4.2 hh]at hnb;cases hnb
     show ak _=_;omega
    .have:=g4.1 hnb;show-ak _=_;omega
   rw [<-e];exact bY (s:=j9 a b 67) ld (agq a b h g hs (L3 h g) hge (by rw [show k6 _ _=true from Gq g h,Bool.true_and];exact az hle) (yo (show 0<=ak (aA b)-ak (aA a) by omega)))
def rk {a b:aC} (h:¬(iF a&&(iF b&&ii (a.1+b.1)))=true):cw a b=bf (aj a+aj b):=by unfold cw;rw [if_neg h]
def agA (a b:aC) (h:ay a=true) (g:ay b=true):Holds prog false 82 [aB a,aB b] (aB (cw a b)):=by
 refine bL (c:=ur) func82 rfl rfl fun w F=> ?_
 by_cases ha:a.2=[]
 .have L5:=yp h ha;by_cases hb:b.2=[]
  .have hrb:=yp g hb;by_cases hf:ii (a.1+b.1)=true
   .have hf':=qV.1 hf;have e:cw a b=(a.1+b.1,[]):=by unfold cw;rw [dr.2 ha,dr.2 hb,hf];rfl
    rw [e];refine aY ld 3 (agm a b (dr.2 ha) (dr.2 hb) hf' ?_);rw [decide_eq_decide];omega
   .have e:=rk (a:=a) (b:=b) fun hh=>by
     simp only [ae]at hh;exact hf hh.2.2
    have hf':¬(-9223372036854775808<=a.1+b.1/\a.1+b.1<=9223372036854775807):=fun hh=>hf (qV.2 hh)
    refine aW.ac4 known mixed ld 3 _ (HI a b (dr.2 ha) (dr.2 hb) ?_ ?_) (by kernel_rfl) (L4 a b h g e w F)
    .unfold fits;rw [Bool.and_eq_false_iff];by_cases h0: -9223372036854775808<=a.1+b.1
     .exact .inr (ab fun hh=>hf' ⟨h0,hh⟩)
     .exact .inl (ab h0)
    .rw [decide_eq_decide];have hw:IntKind.wrap .i64 (a.1+b.1)=if a.1+b.1<0 then a.1+b.1+18446744073709551616 else a.1+b.1-18446744073709551616:=by
      have e1:IntKind.signed .i64=true:=rfl;have e2:IntKind.bits .i64=64:=rfl;unfold IntKind.wrap;simp only [e1,e2,Bool.true_and];rw [show(2:Int)^64=18446744073709551616 from rfl];split<;>split<;>simp_all<;>omega
     rw [hw];split<;>omega
  .exact aW.to known mixed ld 3 _ (ON a b (dr.2 ha) (r8.2 hb)) (by kernel_rfl) (L4 a b h g (rk fun hh=>by
    simp only [ae]at hh;exact hb (dr.1 hh.2.1)) w F)
 .exact aW.to known mixed ld 3 _ (agn a b (r8.2 ha)) (by kernel_rfl) (L4 a b h g (rk fun hh=>by
    simp only [ae]at hh;exact ha (dr.1 hh.1)) w F)
def yt:wg.Ok prog:=fun⟨a,b,_⟩ h=>by
 have h:(ay a&&ay b)=true:=h;rw [ae]at h;exact agA a b h.1 h.2
def TA {x y:Int} {n m:Bool} (hn:n=true↔x<0) (hm:m=true↔y<0) {p:Int} (hp:p=x.natAbs*y.natAbs):(match(n != m)with |true=> -p|false=>p)=x*y:=by
 have e:(p:Int)=((x*y).natAbs:Int):=by rw [hp,Int.natAbs_mul];simp
 cases n<;>cases m<;>simp only [Bool.false_eq_true,false_iff,true_iff,Int.not_lt]at hn hm
 .have:=Int.mul_nonneg hn hm;show p=_;omega
 .have:=Int.mul_nonneg hn (show 0<= -y by omega);rw [Int.mul_neg]at this;show-p=_;omega
 .have:=Int.mul_nonneg (show 0<= -x by omega) hm;rw [Int.neg_mul]at this;show-p=_;omega
 .have:=Int.mul_nonneg (show 0<= -x by omega) (show 0<= -y by omega);rw [Int.neg_mul,Int.mul_neg,Int.neg_neg]at this;show p=_;omega
def pe (a b:aC) (h:ay a=true) (g:ay b=true) (w:World) (F:Sv.Env):
  aW prog w F 66 ((fl pc []).drop 3) (j9 a b 66).T (j9 a b 66).H (hJ prog false f81 (aB (ba a b))):=by
 obtain⟨h1,h2,h3,h4,_⟩:=kC h;obtain⟨g1,g2,g3,g4,_⟩:=kC g;have hp:0<=ak (aA a)*ak (aA b):=Int.mul_nonneg (by omega) (by omega);have e:bf (cl (b5 a != b5 b) (pO (aA a) (aA b)))=ba a b:=by
  unfold ba cl;have hv:ak (pO (aA a) (aA b))=ak (aA a)*ak (aA b):=mn hp;rw [hv,h3,g3];exact congrArg bf (TA h4 g4 rfl)
 rw [<-e];exact bY (s:=j9 a b 66) ld (agw a b h g (Gq h g) (yo hp) rfl rfl)
def agB (a b:aC) (h:ay a=true) (g:ay b=true):Holds prog false 81 [aB a,aB b] (aB (ba a b)):=by
 refine bL (c:=pc) func81 rfl rfl fun w F=> ?_
 by_cases ha:a.2=[]
 .have L5:=yp h ha;by_cases hb:b.2=[]
  .have hrb:=yp g hb;have Gr:=qV.2 L5;have Gs:=qV.2 hrb;have hm:k8 (cr a.1) (cr b.1)=true:=C9.2 (by unfold cr;omega);by_cases hhi:fO (cr a.1) (cr b.1)=0
   .by_cases hlo:cO (cr a.1) (cr b.1)<=9223372036854775807
    .have hlo0:0<=cO (cr a.1) (cr b.1):=ec _ (by decide);have hp:cO (cr a.1) (cr b.1)=a.1.natAbs*b.1.natAbs:=by
      have:=Int.emod_add_mul_ediv (cr a.1*cr b.1) 18446744073709551616;unfold fO at hhi;rw [hhi]at this;unfold cO;show _=cr a.1*cr b.1;omega
     have kT:=TA (n:=decide (a.1<0)) (m:=decide (b.1<0)) (by simp) (by simp) hp;have hval:ba a b=bf (a.1*b.1):=by unfold ba;rw [lX ha,lX hb]
     by_cases oB:decide (a.1<0)=decide (b.1<0)
     .have e:ba a b=(cO (cr a.1) (cr b.1),[]):=by
       rw [oB,bne_self_eq_false]at kT;have kT:cO (cr a.1) (cr b.1)=a.1*b.1:=kT;rw [hval,<-kT];exact eK (by omega)
      rw [e];exact aY ld 3 (ST a b (dr.2 ha) (dr.2 hb) Gr Gs hm hhi hlo oB (sc (by omega)))
     .have e:ba a b=(-cO (cr a.1) (cr b.1),[]):=by
       rw [show(decide (a.1<0) != decide (b.1<0))=true from fA.2 oB]at kT;have kT: -cO (cr a.1) (cr b.1)=a.1*b.1:=kT;rw [hval,<-kT];exact eK (by omega)
      rw [e];refine aY ld 3 (agr a b (dr.2 ha) (dr.2 hb) Gr Gs hm hhi hlo oB ?_);rw [sc (x:=cO (cr a.1) (cr b.1)) (by omega),sc (by omega)];omega
    .exact cR ld 3 (ags a b (dr.2 ha) (dr.2 hb) Gr Gs hm hhi hlo) (pe a b h g w F)
   .exact cR ld 3 (agt a b (dr.2 ha) (dr.2 hb) Gr Gs hm hhi) (pe a b h g w F)
  .exact cR ld 3 (agu a b (dr.2 ha) (r8.2 hb)) (pe a b h g w F)
 .exact cR ld 3 (agv a b (r8.2 ha)) (pe a b h g w F)
def kd:ym.Ok prog:=fun⟨a,b,_⟩ h=>by
 have h:(ay a&&ay b)=true:=h;rw [ae]at h;exact agB a b h.1 h.2
def Gt:=a7 [wg,yl,we]
def Dc:=IN 150 [dL,dL] [dL] false (fun d=>ay d.1&&ay d.2.1) fun d=>(cA d.1 d.2.1,())
def TB:=IN 170 [dL] [dL] false (fun d=>ay d.1) fun d=>(pQ d.1,())
def AI:=IN 93 [dL,dL] [.int .i64] true (fun d=>aZ 50000 d.1&&aZ 50000 d.2.1) fun d=>(fp d.1 d.2.1,())
def AJ:=a7 [Dc,we]
def agC (a b:aC) (h1:(ay b)=true) (h2:(ay a&&ay (e8 b))=true):
  aV Gt (fl Ty []) 9 (f150.ntmps) [aB a,aB b] 1 f150 false (aB (cw a (e8 b))):=
 wy [aa (aD (v:=aB a)),aa (aD (v:=aB b)),aa h1,aa h2] 67383425
def agD (a:aC) (h1:a.1<0) (h2:(ay a)=true):
  aV Gt (fl L2 []) 9 (f170.ntmps) [aB a] 3 f170 false (aB (e8 a)):=
 wy [ah h1,aa h2] 129
def agE (a:aC) (h1:¬a.1<0):
  aV Gt (fl L2 []) 9 (f170.ntmps) [aB a] 2 f170 false (aB a):=
 wy [aF h1] 1
section
variable (a b:aC) (h1:a.2.isEmpty=true) (h2:b.2.isEmpty=true)
def agF (h3:a.1<b.1):
  aV AJ (fl xf []) 9 29 [aB a,aB b] 127 f93 true (iv (-1)):=
 wy [aa (aL (aL (h1))),aa (aL (h1)),aa (aL (h2)),ah h3] 4345827393
def agG (h3:¬a.1<b.1) (h4:a.1>b.1):
  aV AJ (fl xf []) 9 29 [aB a,aB b] 223 f93 true (iv 1):=
 wy [aa (aL (aL (h1))),aa (aL (h1)),aa (aL (h2)),aF h3,ah h4] 347943211073
def agH (h3:¬a.1<b.1) (h4:¬a.1>b.1):
  aV AJ (fl xf []) 9 29 [aB a,aB b] 159 f93 true (iv 0):=
 wy [aa (aL (aL (h1))),aa (aL (h1)),aa (aL (h2)),aF h3,aF h4] 347943211073
end
def agI (a b:aC) (h1:a.2.isEmpty=true) (h2:b.2.isEmpty=false) (h3:(ay a&&ay b)=true) (h4:(ay (cA a b))=true):
  aV AJ (fl xf []) 9 29 [aB a,aB b] 47 f93 true (iv (gP (cA a b))):=
 wy [aa (aL (aL (h1))),aa (aL (h1)),aa (aL (h2)),aa h3,aa h4] 347943211073
def agJ (a b:aC) (h1:a.2.isEmpty=false) (h2:(ay a&&ay b)=true) (h3:(ay (cA a b))=true):
  aV AJ (fl xf []) 9 29 [aB a,aB b] 32 f93 true (iv (gP (cA a b))):=
 wy [aa (aL (aL (h1))),aa (aL (h1)),aa h2,aa h3] 278099660865
def bc {n m:Nat} {a:aC} (hnm:n<=m) (h:aZ n a=true):aZ m a=true:=by
 by_cases hs:a.2=[]
 .rw [oA hs]at h ⊢;exact h
 .obtain⟨h1,h2,h3,h4,h5⟩:=(r9 hs).1 h;exact(r9 hs).2 ⟨h1,h2,h3,h4,by omega⟩
def oC {n:Nat} {a:aC} (h:aZ n a=true) (hn:1<=n):aZ n (e8 a)=true:=by
 have:=iY h hn;exact(jJ (by omega)).1
def nG (a:aC):aj (e8 a)= -aj a:=val_mk _
def val_sub (a b:aC):aj (cA a b)=aj a-aj b:=by unfold cA;rw [sg,nG];omega
def lY (a b:aC):aj (ba a b)=aj a*aj b:=val_mk _
def Gu (a:aC):aj (pQ a)=(aj a).natAbs:=val_mk _
def L6:bD prog (bF Gt):=cN (aQ yt (aQ AH (aQ yq dW)))
def agK (a b:aC) (h:ay a=true) (g:ay b=true):Holds prog false 150 [aB a,aB b] (aB (cA a b)):=by
 refine bL (c:=Ty) func150 rfl rfl fun w F=> ?_
 have gn:ay (e8 b)=true:=oC g (by decide);exact aY L6 9 (agC a b g (by rw [show ay (a.1,a.2)=true from h,Bool.true_and];exact gn))
def pf:Dc.Ok prog:=fun⟨a,b,_⟩ h=>by
 have h:(ay a&&ay b)=true:=h;rw [ae]at h;exact agK a b h.1 h.2
def TC {n:Nat} {a:aC} (h:aZ n a=true):a.1<0↔aj a<0:=by
 obtain⟨_,_,_,h4,_⟩:=kC h;rw [<-h4];unfold b5;rw [bE]
def agL (a:aC) (h:ay a=true):Holds prog false 170 [aB a] (aB (pQ a)):=by
 refine bL (c:=L2) func170 rfl rfl fun w F=> ?_
 by_cases hn:a.1<0
 .have hv:=(TC h).1 hn;have e:e8 a=pQ a:=by unfold e8 pQ;congr 1;omega
  rw [<-e];exact aY L6 9 (agD a hn h)
 .have hv:¬aj a<0:=fun hh=>hn ((TC h).2 hh)
  have e:a=pQ a:=by
   have:=Gj h (by omega);unfold pQ;rw [show((aj a).natAbs:Int)=aj a by omega];exact this
  have:=aW.ret (P:=prog) (w0:=w) (F:=F) (X:=pI) known mixed L6 9 _ (agE a hn) fun T H h=>h
  rw [<-e];exact this
def agM:TB.Ok prog:=fun⟨a,_⟩ h=>agL a h
def Dd:bD prog (bF AJ):=cN (aQ pf (aQ yq dW))
def agN:(2:Int)*18446744073709551616^50000<=18446744073709551616^100000:=by
 have h:=iW (b:=18446744073709551616) (by decide) (show 50001<=100000 by decide);rw [show 50001=50000+1 from rfl,Int.pow_succ]at h;have:=dK (b:=18446744073709551616) (by decide) 50000;generalize (18446744073709551616:Int)^50000=p at*;generalize (18446744073709551616:Int)^100000=q at*;omega
def agO {a b:aC} (h:aZ 50000 a=true) (g:aZ 50000 b=true):ay (cA a b)=true:=by
 have h1:=iY h (by decide);have g1:=iY g (by decide);have h2:=agN;refine uq ?_;rw [nG];generalize (18446744073709551616:Int)^50000=p at*;generalize (18446744073709551616:Int)^100000=q at*;omega
def agP (a b:aC) (h:aZ 50000 a=true) (g:aZ 50000 b=true):Holds prog true 93 [aB a,aB b] (iv (fp a b)):=by
 have ho:=agO h g;have hs:gP (cA a b)=fp a b:=by unfold gP fp;rw [val_sub]
 have h':=bc (show 50000<=100000 by decide) h;have g':=bc (show 50000<=100000 by decide) g;have hh:(ay (a.1,a.2)&&ay (b.1,b.2))=true:=by
  rw [show ay (a.1,a.2)=true from h',show ay (b.1,b.2)=true from g'];rfl
 refine bL (c:=xf) func93 rfl rfl fun w F=> ?_
 by_cases ha:a.2=[]
 .by_cases hb:b.2=[]
  .have e:fp a b=jI (a.1-b.1):=by unfold fp;rw [lX ha,lX hb]
   rw [e];by_cases h1:a.1<b.1
   .rw [Gk (by omega)];exact aY Dd 9 (agF a b (dr.2 ha) (dr.2 hb) h1)
   .by_cases h2:a.1>b.1
    .rw [LY (by omega)];exact aY Dd 9 (agG a b (dr.2 ha) (dr.2 hb) h1 h2)
    .rw [show a.1-b.1=0 by omega,af3];exact aY Dd 9 (agH a b (dr.2 ha) (dr.2 hb) h1 h2)
  .rw [<-hs];exact aY Dd 9 (agI a b (dr.2 ha) (r8.2 hb) hh ho)
 .rw [<-hs];exact aY Dd 9 (agJ a b (r8.2 ha) hh ho)
def De:AI.Ok prog:=fun⟨a,b,_⟩ h=>by
 have h:(aZ 50000 a&&aZ 50000 b)=true:=h;rw [ae]at h;exact agP a b h.1 h.2
end
def eX (a b:Int):Int:=IntKind.wrap .u64 (((BitVec.ofInt 64 a|||BitVec.ofInt 64 b).toNat:Nat):Int)
def L7 {a b:Int} {s:Nat} (hs:s<=64) (ha:0<=a/\a<2^s) {c:Int} (hc:0<=c) (hb:b=2^s*c) (kS:b<18446744073709551616):eX a b=a+b:=by
 obtain⟨A,rfl⟩:∃A:Nat,a=(A:Int):=⟨a.toNat,by omega⟩;obtain⟨C,rfl⟩:∃C:Nat,c=(C:Int):=⟨c.toNat,by omega⟩;have hA:A<2^s:=by have:=ha.2;exact_mod_cast this
 have hb':b=((2^s*C:Nat):Int):=by rw [hb];norm_cast
 subst hb';have qW:((2^64:Nat):Int)=18446744073709551616:=rfl;have hB:2^s*C<2^64:=by rw [<-qW]at kS;exact Int.ofNat_lt.1 kS
 have vA:A<2^64:=Nat.lt_of_lt_of_le hA (Nat.pow_le_pow_right (by decide) hs);unfold eX;rw [BitVec.toNat_or,BitVec.ofInt_natCast,BitVec.ofInt_natCast,BitVec.toNat_ofNat,BitVec.toNat_ofNat,Nat.mod_eq_of_lt vA,Nat.mod_eq_of_lt hB];have e:A|||2^s*C=A+2^s*C:=by
  rw [Nat.or_comm,<-Nat.two_pow_add_eq_or_of_lt hA C,Nat.add_comm]
 have hlt:A|||2^s*C<2^64:=Nat.or_lt_two_pow vA hB;rw [e]at hlt ⊢;rw [fP ⟨Int.natCast_nonneg _,by have:(2:Nat)^64=18446744073709551616:=rfl;omega⟩];exact Int.natCast_add _ _
def ol {x:Int} {s:Nat} (hs:s<=64) (hx:0<=x/\x<18446744073709551616):
  x*2^s%18446744073709551616=2^s*(x%2^(64-s))/\x*2^s=2^s*(x%2^(64-s))+18446744073709551616*(x/2^(64-s))/\(0<=x/2^(64-s)/\x/2^(64-s)<2^s)/\(0<=x%2^(64-s)/\x%2^(64-s)<2^(64-s)):=by
 have hp:(0:Int)<2^(64-s):=dK (by decide) _;have hq:(0:Int)<2^s:=dK (by decide) _;have jE:(2:Int)^s*2^(64-s)=18446744073709551616:=by rw [<-Int.pow_add,show s+(64-s)=64 by omega];rfl
 have hd:=Int.emod_add_mul_ediv x (2^(64-s));have h0:=ec x (show(2:Int)^(64-s)≠0 by omega);have h1:=eL x hp;have h2:0<=x/2^(64-s):=Int.ediv_nonneg hx.1 (ct hp);have h3:x/2^(64-s)<2^s:=Int.ediv_lt_of_lt_mul hp (by rw [jE];exact hx.2);have e:x*2^s=2^s*(x%2^(64-s))+18446744073709551616*(x/2^(64-s)):=by
  have:2^s*(x%2^(64-s)+2^(64-s)*(x/2^(64-s)))=2^s*x:=by rw [hd]
  rw [Int.mul_add,<-Int.mul_assoc,jE]at this;rw [Int.mul_comm x];omega
 refine⟨?_,e,⟨h2,h3⟩,h0,h1⟩;rw [e,Int.add_mul_emod_self_left];refine Int.emod_eq_of_lt (Int.mul_nonneg (ct hq) h0) ?_;rw [<-jE];exact Int.mul_lt_mul_of_pos_left h1 hq
end Go.Proofs.YtibikmmdbdlafaaGreatDoor
namespace Go.Proofs.YtibikmmdbdlafaaGreatDoor
def agQ {l:List Int} {k:Nat} (h:k<l.length):l.drop k=l.getD k 0::l.drop (k+1):=by
 rw [uh h];exact List.drop_eq_getElem_cons h
def uu {b:Int} {l:List Int} {k:Nat} (h:k<l.length):vl b (l.drop k)=l.getD k 0+b*vl b (l.drop (k+1)):=by
 rw [agQ h];rfl
def L8 {b:Int} (hb:1<b) {u:List Int} {j n:Nat} (hu:aS b u) (hj:j+n+1<=u.length) {V:Int} (hV:V<=b^n) (h:vl b (u.drop (j+1))<V):
  vl b (u.drop j)=vl b ((u.drop j).take (n+1))/\vl b (u.drop j)<b*V/\vl b (u.drop (j+n+1))=0:=by
 have hb0:0<b:=by omega
 have h1:=uu (b:=b) (l:=u) (k:=j) (by omega);have h2:=hu.get hb0 j;have h3:vl b (u.drop j)<b*V:=by
  have:b*vl b (u.drop (j+1))<=b*(V-1):=eu (by omega) (ct hb0);rw [Int.mul_sub,Int.mul_one]at this;omega
 have h4:vl b (u.drop j)<b^(n+1):=by
  have:b*V<=b*b^n:=eu hV (ct hb0);rw [Int.pow_succ,Int.mul_comm];omega
 have h5:=CZ hb0 (hu.drop j) h4;refine⟨h5.symm,h3, ?_⟩;have h6:=r0 b (u.drop j) (n+1) (by rw [nU];omega);rw [h5,List.drop_drop]at h6;have h7:b^(n+1)*vl b (u.drop (j+(n+1)))=0:=by omega
 rcases Int.mul_eq_zero.1 h7 with h8|h8
 .have:=dK hb0 (n+1);omega
 .exact h8
def TD {b:Int} (hb:1<b) {u:List Int} {j n:Nat} (hu:aS b u) (hj:j+n+1<=u.length) {V:Int} (iG:0<V) (hV:V<=b^n) (h:vl b (u.drop (j+1))<V) {u':List Int}
  (Gv:u'=u.take j++(fT b (n+1) (vl b ((u.drop j).take (n+1))%V)++u.drop (j+(n+1)))):
  u'.length=u.length/\aS b u'/\vl b u'+b^j*(vl b ((u.drop j).take (n+1))/V)*V=vl b u/\vl b (u'.drop j)<V:=by
 have hb0:0<b:=by omega
 obtain⟨h1,h2,h3⟩:=L8 hb hu hj hV h;generalize hW:vl b ((u.drop j).take (n+1))=W at*;have hm0:=ec W (show V≠0 by omega);have pR:=eL W iG;have hm2:W%V<b^(n+1):=by
  have:=iW (show 1<=b by omega) (show n<=n+1 by omega);omega
 have hpv:=C1 hb0 (n+1) (W%V) hm0 hm2;have vQ:(u.take j).length=j:=by rw [eM];omega
 have hdj:u'.drop j=fT b (n+1) (W%V)++u.drop (j+(n+1)):=by
  rw [Gv,List.drop_append,vQ,Nat.sub_self,List.drop_zero,List.drop_eq_nil_of_le (by omega),List.nil_append]
 have agR:u'.take j=u.take j:=by
  rw [Gv,List.take_append,vQ,Nat.sub_self,List.take_zero,List.append_nil,eZ (by omega)]
 have Df:vl b (u'.drop j)=W%V:=by rw [hdj,FQ,hpv,<-Nat.add_assoc,h3,Int.mul_zero,Int.add_zero]
 have hlen:u'.length=u.length:=by
  rw [Gv,dy,dy,vQ,yc,nU];omega
 refine⟨hlen, ?_, ?_,by rw [Df];exact pR⟩
 .rw [Gv];exact(hu.take j).app ((C0 hb0 _ _).app (hu.drop _))
 .rw [r0 b u' j (by omega),r0 b u j (by omega),agR,Df,h1];have e:=Int.emod_add_mul_ediv W V;have e2:b^j*(W%V+V*(W/V))=b^j*W:=by rw [e]
  rw [Int.mul_add]at e2;have e3:b^j*(W/V)*V=b^j*(V*(W/V)):=by rw [Int.mul_assoc,Int.mul_comm (W/V)]
  omega
def L9 {A b V S U q:Int} (hS:0<S) (hb:0<b) (hV:V=b*S) (h:U+V*q=A*S) (h0:0<=U) (h1:U<V):A/b=q/\U=S*(A%b):=by
 have e:U=S*(A-b*q):=by
  rw [Int.mul_sub,Int.mul_comm S A];have:S*(b*q)=V*q:=by rw [hV,<-Int.mul_assoc,Int.mul_comm S b]
  omega
 have g0:0<=A-q*b:=by
  rw [Int.mul_comm q b];refine Int.not_lt.1 fun hn=> ?_
  have:=Int.mul_lt_mul_of_pos_left hn hS;omega
 have g1:A-q*b<b:=by
  rw [Int.mul_comm q b];refine Int.not_le.1 fun hn=> ?_
  have:=eu hn (ct hS);rw [<-e,Int.mul_comm S b,<-hV]at this;omega
 obtain⟨k1,k2⟩:=yd hb g0 g1;exact⟨k1,by rw [e,k2,Int.mul_comm b q]⟩
section
open Go.RowKit Sv Go.Proofs.Tryz
noncomputable section
def dY (x:Int):Int:=64-(Lib.bitLen x.toNat:Int)
def wh (x:Int):Bool:=decide (0<=x)&&decide (x<18446744073709551616)
def Ma:=IN 224 [aG] [.int .i64] true (fun d=>wh d.1) fun d=>(dY d.1,())
def jm:=k_a f223
def ph:=a7 [Ma]
abbrev AK:List Nat:=[1,1,1,1,1,1,1,1,1,1,1,1,1,1,0,0,0]
abbrev AL:List Nat:=[1,1,1,1,1,1,1,1,1,1,1,1,1,1,1,1,1,1,0,0,0]
def jo (Y s v1 v2 X c d q r:Int):bI:={n:=135,sl:=[(2,cu Y),(8,cu s),(9,cu v1),(10,cu v2),(11,cu X),(13,cu c),(14,cu d),(15,cu q),(16,cu r)],bH:=[],next:=64}
def jq (Y s v1 v2 d p X q r:Int):bI:={n:=135,sl:=[(2,cu Y),(8,cu s),(9,cu v1),(10,cu v2),(14,cu d),(15,cu p),(17,cu X),(18,cu q),(16,cu r)],bH:=[],next:=64}
def agS (hi lo y:Int) (h1:¬y=0) (h2:¬y<=hi) (h3:hi=0) (h4:y≠0) (h5:(IntKind.wrap IntKind.u64 (Int.tdiv lo y))=(lo/y)) (h6:(Int.tmod lo y)=(lo%y)):
  aV ph (fl jm []) 9 135 [cu hi,cu lo,cu y] 12 f223 true (.tuple [cu (lo/y),cu (lo%y)]):=
 wy [yn h1,aF h2,cM h3,ah h4,ax h5,ax h6] 417753739393
def agT (hi lo y Y s v1 v2 X c d q r:Int) (h1:¬y=0) (h2:¬y<=hi) (h3:¬hi=0) (h4:(wh y)=true) (h5:0<=IntKind.wrap IntKind.u64 (dY y)) (h6:0<=IntKind.wrap IntKind.u64 (64-IntKind.wrap IntKind.u64 (dY y))) (h7:Int.fdiv (IntKind.wrap IntKind.u64 (y*(2:Int)^min (IntKind.wrap IntKind.u64 (dY y)).toNat 64)) ((2:Int)^min (Int.toNat 32) 64)≠0) (h8:(IntKind.wrap IntKind.u64 (y*(2:Int)^min (IntKind.wrap IntKind.u64 (dY y)).toNat 64))=(Y)) (h9:(IntKind.wrap IntKind.u64 (dY y))=(s)) (h10:(Int.fdiv (IntKind.wrap IntKind.u64 (y*(2:Int)^min (IntKind.wrap IntKind.u64 (dY y)).toNat 64)) ((2:Int)^min (Int.toNat 32) 64))=(v1)) (h11:(IntKind.wrap IntKind.u64 (↑(BitVec.toNat (BitVec.ofInt 64 (IntKind.wrap IntKind.u64 (y*(2:Int)^min (IntKind.wrap IntKind.u64 (dY y)).toNat 64)) &&& BitVec.ofInt 64 4294967295)):Int))=(v2)) (h12:(IntKind.wrap IntKind.u64 (↑(BitVec.toNat (BitVec.ofInt 64 (IntKind.wrap IntKind.u64 (hi*(2:Int)^min (IntKind.wrap IntKind.u64 (dY y)).toNat 64))|||BitVec.ofInt 64 (Int.fdiv lo ((2:Int)^min (IntKind.wrap IntKind.u64 (64-IntKind.wrap IntKind.u64 (dY y))).toNat 64)))):Int))=(X)) (dZ:(Int.fdiv (IntKind.wrap IntKind.u64 (lo*(2:Int)^min (IntKind.wrap IntKind.u64 (dY y)).toNat 64)) ((2:Int)^min (Int.toNat 32) 64))=(c)) (iH:(IntKind.wrap IntKind.u64 (↑(BitVec.toNat (BitVec.ofInt 64 (IntKind.wrap IntKind.u64 (lo*(2:Int)^min (IntKind.wrap IntKind.u64 (dY y)).toNat 64)) &&& BitVec.ofInt 64 4294967295)):Int))=(d)) (ke:(IntKind.wrap IntKind.u64 (Int.tdiv (IntKind.wrap IntKind.u64 (↑(BitVec.toNat (BitVec.ofInt 64 (IntKind.wrap IntKind.u64 (hi*(2:Int)^min (IntKind.wrap IntKind.u64 (dY y)).toNat 64))|||BitVec.ofInt 64 (Int.fdiv lo ((2:Int)^min (IntKind.wrap IntKind.u64 (64-IntKind.wrap IntKind.u64 (dY y))).toNat 64)))):Int)) (Int.fdiv (IntKind.wrap IntKind.u64 (y*(2:Int)^min (IntKind.wrap IntKind.u64 (dY y)).toNat 64)) ((2:Int)^min (Int.toNat 32) 64))))=(q)) (mV:(IntKind.wrap IntKind.u64 (IntKind.wrap IntKind.u64 (↑(BitVec.toNat (BitVec.ofInt 64 (IntKind.wrap IntKind.u64 (hi*(2:Int)^min (IntKind.wrap IntKind.u64 (dY y)).toNat 64))|||BitVec.ofInt 64 (Int.fdiv lo ((2:Int)^min (IntKind.wrap IntKind.u64 (64-IntKind.wrap IntKind.u64 (dY y))).toNat 64)))):Int)-IntKind.wrap IntKind.u64 (IntKind.wrap IntKind.u64 (Int.tdiv (IntKind.wrap IntKind.u64 (↑(BitVec.toNat (BitVec.ofInt 64 (IntKind.wrap IntKind.u64 (hi*(2:Int)^min (IntKind.wrap IntKind.u64 (dY y)).toNat 64))|||BitVec.ofInt 64 (Int.fdiv lo ((2:Int)^min (IntKind.wrap IntKind.u64 (64-IntKind.wrap IntKind.u64 (dY y))).toNat 64)))):Int)) (Int.fdiv (IntKind.wrap IntKind.u64 (y*(2:Int)^min (IntKind.wrap IntKind.u64 (dY y)).toNat 64)) ((2:Int)^min (Int.toNat 32) 64)))*Int.fdiv (IntKind.wrap IntKind.u64 (y*(2:Int)^min (IntKind.wrap IntKind.u64 (dY y)).toNat 64)) ((2:Int)^min (Int.toNat 32) 64))))=(r)):
  c7 ph (fl jm []) 17 135 [cu hi,cu lo,cu y] 8 .normal [] (jo Y s v1 v2 X c d q r):=
 wy [yn h1,aF h2,yn h3,aa h4,ah h5,ah h6,ah h7,ax h8,ax h9,ax h10,ax h11,ax h12,ax dZ,ax iH,ax ke,ax mV] 337246810721947665302387067909582977
section
variable (Y s v1 v2 X c d q r:Int)
def agU (h1:q>=4294967296) (h2:IntKind.wrap IntKind.u64 (r+v1)>=4294967296) (h3:(IntKind.wrap IntKind.u64 (q-1))=(q-1)) (h4:(IntKind.wrap IntKind.u64 (r+v1))=(r+v1)):
  bz ph (fl jm AK) (jo Y s v1 v2 X c d q r) 3840 (.exit 0) [] (jo Y s v1 v2 X c d (q-1) (r+v1)):=
 wy [aa (bg (az h1)),ah h1,ah h2,ax h3,ax h4] 105144011385330262937074482297442369
def agV (h1:q>=4294967296) (h2:¬IntKind.wrap IntKind.u64 (r+v1)>=4294967296) (h3:(IntKind.wrap IntKind.u64 (q-1))=(q-1)) (h4:(IntKind.wrap IntKind.u64 (r+v1))=(r+v1)):
  bz ph (fl jm AK) (jo Y s v1 v2 X c d q r) 2816 .normal [] (jo Y s v1 v2 X c d (q-1) (r+v1)):=
 wy [aa (bg (az h1)),ah h1,aF h2,ax h3,ax h4] 105144011385330262937074482297442369
def agW (h1:¬q>=4294967296) (h2:IntKind.wrap IntKind.u64 (q*v2)>IntKind.wrap IntKind.u64 (IntKind.wrap IntKind.u64 (4294967296*r)+c)) (h3:IntKind.wrap IntKind.u64 (r+v1)>=4294967296) (h4:(IntKind.wrap IntKind.u64 (q-1))=(q-1)) (h5:(IntKind.wrap IntKind.u64 (r+v1))=(r+v1)):
  bz ph (fl jm AK) (jo Y s v1 v2 X c d q r) 3839 (.exit 0) [] (jo Y s v1 v2 X c d (q-1) (r+v1)):=
 wy [aa (bg (ab h1)),aF h1,ah h2,ah h3,ax h4,ax h5] 126237717373128001384944323770191937
def agX (h1:¬q>=4294967296) (h2:IntKind.wrap IntKind.u64 (q*v2)>IntKind.wrap IntKind.u64 (IntKind.wrap IntKind.u64 (4294967296*r)+c)) (h3:¬IntKind.wrap IntKind.u64 (r+v1)>=4294967296) (h4:(IntKind.wrap IntKind.u64 (q-1))=(q-1)) (h5:(IntKind.wrap IntKind.u64 (r+v1))=(r+v1)):
  bz ph (fl jm AK) (jo Y s v1 v2 X c d q r) 2815 .normal [] (jo Y s v1 v2 X c d (q-1) (r+v1)):=
 wy [aa (bg (ab h1)),aF h1,ah h2,aF h3,ax h4,ax h5] 126237717373128001384944323770191937
def agY (h1:¬q>=4294967296) (h2:¬IntKind.wrap IntKind.u64 (q*v2)>IntKind.wrap IntKind.u64 (IntKind.wrap IntKind.u64 (4294967296*r)+c)):
  bz ph (fl jm AK) (jo Y s v1 v2 X c d q r) 1279 (.exit 0) [] (jo Y s v1 v2 X c d q r):=
 wy [aa (bg (ab h1)),aF h1,aF h2] 54610613338640449
end
def agZ (Y s v1 v2 X c d q r eG aP r2:Int) (h1:v1≠0) (h2:(IntKind.wrap IntKind.u64 (IntKind.wrap IntKind.u64 (IntKind.wrap IntKind.u64 (X*4294967296)+c)-IntKind.wrap IntKind.u64 (q*Y)))=(eG)) (h3:(IntKind.wrap IntKind.u64 (Int.tdiv (IntKind.wrap IntKind.u64 (IntKind.wrap IntKind.u64 (IntKind.wrap IntKind.u64 (X*4294967296)+c)-IntKind.wrap IntKind.u64 (q*Y))) v1))=(aP)) (h4:(IntKind.wrap IntKind.u64 (IntKind.wrap IntKind.u64 (IntKind.wrap IntKind.u64 (IntKind.wrap IntKind.u64 (X*4294967296)+c)-IntKind.wrap IntKind.u64 (q*Y))-IntKind.wrap IntKind.u64 (IntKind.wrap IntKind.u64 (Int.tdiv (IntKind.wrap IntKind.u64 (IntKind.wrap IntKind.u64 (IntKind.wrap IntKind.u64 (X*4294967296)+c)-IntKind.wrap IntKind.u64 (q*Y))) v1)*v1)))=(r2)):
  dV ph ((fl jm []).drop 18) 3 (jo Y s v1 v2 X c d q r) 1 .normal [] (jq Y s v1 v2 d q eG aP r2):=
 wy [ah h1,ax h2,ax h3,ax h4] 72910815061082113
section
variable (Y s v1 v2 d p X q r:Int)
def ag0 (h1:q>=4294967296) (h2:IntKind.wrap IntKind.u64 (r+v1)>=4294967296) (h3:(IntKind.wrap IntKind.u64 (q-1))=(q-1)) (h4:(IntKind.wrap IntKind.u64 (r+v1))=(r+v1)):
  bz ph (fl jm AL) (jq Y s v1 v2 d p X q r) 3840 (.exit 2) [] (jq Y s v1 v2 d p X (q-1) (r+v1)):=
 wy [aa (bg (az h1)),ah h1,ah h2,ax h3,ax h4] 105144011385330262937074482297442369
def ag1 (h1:q>=4294967296) (h2:¬IntKind.wrap IntKind.u64 (r+v1)>=4294967296) (h3:(IntKind.wrap IntKind.u64 (q-1))=(q-1)) (h4:(IntKind.wrap IntKind.u64 (r+v1))=(r+v1)):
  bz ph (fl jm AL) (jq Y s v1 v2 d p X q r) 2816 .normal [] (jq Y s v1 v2 d p X (q-1) (r+v1)):=
 wy [aa (bg (az h1)),ah h1,aF h2,ax h3,ax h4] 105144011385330262937074482297442369
def ag2 (h1:¬q>=4294967296) (h2:IntKind.wrap IntKind.u64 (q*v2)>IntKind.wrap IntKind.u64 (IntKind.wrap IntKind.u64 (4294967296*r)+d)) (h3:IntKind.wrap IntKind.u64 (r+v1)>=4294967296) (h4:(IntKind.wrap IntKind.u64 (q-1))=(q-1)) (h5:(IntKind.wrap IntKind.u64 (r+v1))=(r+v1)):
  bz ph (fl jm AL) (jq Y s v1 v2 d p X q r) 3839 (.exit 2) [] (jq Y s v1 v2 d p X (q-1) (r+v1)):=
 wy [aa (bg (ab h1)),aF h1,ah h2,ah h3,ax h4,ax h5] 126237717373128001384944323770191937
def ag3 (h1:¬q>=4294967296) (h2:IntKind.wrap IntKind.u64 (q*v2)>IntKind.wrap IntKind.u64 (IntKind.wrap IntKind.u64 (4294967296*r)+d)) (h3:¬IntKind.wrap IntKind.u64 (r+v1)>=4294967296) (h4:(IntKind.wrap IntKind.u64 (q-1))=(q-1)) (h5:(IntKind.wrap IntKind.u64 (r+v1))=(r+v1)):
  bz ph (fl jm AL) (jq Y s v1 v2 d p X q r) 2815 .normal [] (jq Y s v1 v2 d p X (q-1) (r+v1)):=
 wy [aa (bg (ab h1)),aF h1,ah h2,aF h3,ax h4,ax h5] 126237717373128001384944323770191937
def ag4 (h1:¬q>=4294967296) (h2:¬IntKind.wrap IntKind.u64 (q*v2)>IntKind.wrap IntKind.u64 (IntKind.wrap IntKind.u64 (4294967296*r)+d)):
  bz ph (fl jm AL) (jq Y s v1 v2 d p X q r) 1279 (.exit 2) [] (jq Y s v1 v2 d p X q r):=
 wy [aa (bg (ab h1)),aF h1,aF h2] 54610613338640449
end
def ag5 (Y s v1 v2 d p X q r a b:Int) (h1:0<=s) (h2:(IntKind.wrap IntKind.u64 (IntKind.wrap IntKind.u64 (p*4294967296)+q))=(a)) (h3:(Int.fdiv (IntKind.wrap IntKind.u64 (IntKind.wrap IntKind.u64 (IntKind.wrap IntKind.u64 (X*4294967296)+d)-IntKind.wrap IntKind.u64 (q*Y))) ((2:Int)^min s.toNat 64))=(b)):
  bS ph ((fl jm []).drop 22) (jq Y s v1 v2 d p X q r) 1 f223 true (.tuple [cu a,cu b]):=
 wy [ah h1,ax h2,ax h3] 12417
def kE (hi lo y:Int):Int:=(hi*18446744073709551616+lo)/y
def oD (hi lo y:Int):Int:=(hi*18446744073709551616+lo)%y
def uv (hi lo y:Int):Bool:=(decide (0<=hi)&&decide (hi<y))&&(wh lo&&wh y)
def Mb:=IN 223 [aG,aG,aG] [aG,aG] true (fun d=>uv d.1 d.2.1 d.2.2.1) fun d=>(kE d.1 d.2.1 d.2.2.1,(oD d.1 d.2.1 d.2.2.1,()))
def si {x:Int}:wh x=true↔0<=x/\x<18446744073709551616:=by
 unfold wh;rw [ae,bE,bE]
def TE:Ma.Ok prog:=fun⟨x,_⟩ h w F xs hF cv hd=>by
 have h:=si.1 h;cases hd with
 |cons d1 d2=>
  cases d2;rw [d1.cc];refine(Tryz.bits_LeadingZeros64 x w h.1 (by omega)).mono fun e w' ⟨h1,h2⟩=> ?_
  subst h2;exact⟨_,⟨F.at',fun _=>none⟩,h1, .raw _,⟨hF.pJ,hF.all,fun b A h=>by cases h⟩,(fun b A h=>by cases h),Below.refl _ _⟩
def qX (z:Int):IntKind.wrap .u64 z=z%18446744073709551616:=by
 unfold IntKind.wrap;have e:IntKind.signed .u64=false:=rfl;have e2:IntKind.bits .u64=64:=rfl;simp only [e,e2,Bool.false_and,Bool.false_eq_true,if_false];rfl
def ag6 {a:Int} (h:0<=a/\a<18446744073709551616):IntKind.wrap .u64 (((BitVec.ofInt 64 a &&& BitVec.ofInt 64 4294967295).toNat:Nat):Int)=a%4294967296:=by
 obtain⟨A,rfl⟩:∃A:Nat,a=(A:Int):=⟨a.toNat,by omega⟩;have hA:A<2^64:=by have qW:((2^64:Nat):Int)=18446744073709551616:=rfl;rw [<-qW]at h;exact Int.ofNat_lt.1 h.2
 rw [BitVec.toNat_and,BitVec.ofInt_natCast,BitVec.toNat_ofNat,Nat.mod_eq_of_lt hA];rw [show(BitVec.ofInt 64 4294967295).toNat=2^32-1 from rfl,Nat.and_two_pow_sub_one_eq_mod];have:A%2^32<2^32:=Nat.mod_lt _ (by decide);rw [fP (by have e:(2:Nat)^32=4294967296:=rfl;omega)];rfl
def ag7 (a b:Int):eX a b=eX b a:=by unfold eX;rw [BitVec.or_comm]
def ag8:∀f:Nat,Lib.bitLenAux f 0=0
 |0=>rfl
 |f+1=>by unfold Lib.bitLenAux;rw [if_pos rfl]
def bitLen_spec:∀(f x:Nat),x<2^f->0<x->2^(Lib.bitLenAux f x-1)<=x/\x<2^Lib.bitLenAux f x/\1<=Lib.bitLenAux f x/\Lib.bitLenAux f x<=f:=by
 intro f;induction f with
 |zero=>intro x h h0;simp at h;omega
 |succ f ih=>
  intro x h h0;unfold Lib.bitLenAux;rw [if_neg (by omega)];by_cases h1:x=1
  .subst h1;rw [show 1/2=0 from rfl,ag8];simp
  .obtain⟨g1,g2,g3,g4⟩:=ih (x/2) (by rw [Nat.pow_succ]at h;omega) (by omega);generalize Lib.bitLenAux f (x/2)=L at*;obtain⟨l,rfl⟩:∃l,L=l+1:=⟨L-1,by omega⟩;rw [show 1+(l+1)-1=l+1 by omega,show 1+(l+1)=l+1+1 by omega];rw [Nat.add_sub_cancel]at g1;rw [Nat.pow_succ]at g2;rw [Nat.pow_succ,Nat.pow_succ];omega
def TF {x:Int} (h:0<x/\x<18446744073709551616):∃s:Nat,dY x=s/\s<=63/\9223372036854775808<=x*2^s/\x*2^s<18446744073709551616:=by
 obtain⟨X,rfl⟩:∃X:Nat,x=(X:Int):=⟨x.toNat,by omega⟩;have qW:((2^64:Nat):Int)=18446744073709551616:=rfl;have hX:X<2^64:=by rw [<-qW]at h;exact Int.ofNat_lt.1 h.2
 obtain⟨g1,g2,g3,g4⟩:=bitLen_spec 64 X hX (by omega);refine⟨64-Lib.bitLenAux 64 X, ?_,by omega, ?_, ?_⟩
 .unfold dY Lib.bitLen;rw [Int.toNat_natCast];omega
 .generalize Lib.bitLenAux 64 X=L at*;have h1:2^(L-1)*2^(64-L)<=X*2^(64-L):=Nat.mul_le_mul_right _ g1;rw [<-Nat.pow_add,show L-1+(64-L)=63 by omega]at h1;have e:((X*2^(64-L):Nat):Int)=(X:Int)*2^(64-L):=by rw [Int.natCast_mul,Int.natCast_pow];rfl
  have TG:((2^63:Nat):Int)=9223372036854775808:=rfl;rw [<-e,<-TG];exact Int.ofNat_le.2 h1
 .generalize Lib.bitLenAux 64 X=L at*;have h1:X*2^(64-L)<2^L*2^(64-L):=Nat.mul_lt_mul_of_pos_right g2 (Nat.pow_pos (by decide));rw [<-Nat.pow_add,show L+(64-L)=64 by omega]at h1;have e:((X*2^(64-L):Nat):Int)=(X:Int)*2^(64-L):=by rw [Int.natCast_mul,Int.natCast_pow];rfl
  rw [<-e,<-qW];exact Int.ofNat_lt.2 h1
section
variable {b v1 v2 X c q r:Int}
def TH (h:q*v1+r=X):q*(v1*b+v2)=X*b-r*b+q*v2:=by subst h;grind
def Gw (hY:0<v1*b+v2) (h:q*v1+r=X) (hq:(X*b+c)/(v1*b+v2)<=q) (hle:q*v2<=b*r+c):(X*b+c)/(v1*b+v2)=q:=by
 have h1:q*(v1*b+v2)<=X*b+c:=by rw [TH h,Int.mul_comm r b];omega
 have:=(Int.le_ediv_iff_mul_le hY).2 h1;omega
def TI (hY:0<v1*b+v2) (hX:X<v1*b+v2) (hb:0<b) (hc:c<b) (h:q*v1+r=X) (hgt:b<=q\/b*r+c<q*v2):(X*b+c)/(v1*b+v2)<=q-1:=by
 have h1:X*b+c<q*(v1*b+v2):=by
  rcases hgt with hgt|hgt
  .have a1:=ar hgt (ct hY);have a2:=ar (show X<=v1*b+v2-1 by omega) (ct hb);rw [Int.sub_mul,Int.one_mul,Int.mul_comm (v1*b+v2)]at a2;omega
  .rw [TH h,Int.mul_comm r b];omega
 have:=(Int.ediv_lt_iff_lt_mul hY).2 h1;omega
def TJ (yu:0<=v1) (hX:X<v1*b+v2) (iV:0<=v2/\v2<b) (hc:0<=c) (h:q*v1+r=X) (h0:0<=q) (hr:b<=r):q*v2<=b*r+c:=by
 have gb:q<b:=by
  refine Int.not_le.1 fun hn=> ?_
  have:=ar hn yu;rw [Int.mul_comm b v1]at this;omega
 have a1:q*v2<=b*b:=Int.mul_le_mul (ct gb) (ct iV.2) iV.1 (by omega);have a2:=eu hr (show 0<=b by omega);omega
end
def ag9 {q v:Int} (h0:0<=q) (hq:q<4294967296) (hv:0<=v/\v<4294967296):0<=q*v/\q*v<18446744073709551616:=by
 refine⟨Int.mul_nonneg h0 hv.1, ?_⟩;have:=Int.mul_le_mul (show q<=4294967295 by omega) (show v<=4294967295 by omega) hv.1 (by decide);omega
structure AM (v1 v2 X c Y:Int):Prop where
 y:Y=v1*4294967296+v2
 v1:2147483648<=v1/\v1<4294967296
 v2:0<=v2/\v2<4294967296
 x:0<=X/\X<Y
 c:0<=c/\c<4294967296
def AM.start {v1 v2 X c Y:Int} (p:AM v1 v2 X c Y):X.tdiv v1*v1+(X-X.tdiv v1*v1)=X/\(X*4294967296+c)/Y<=X.tdiv v1/\0<=X.tdiv v1/\0<=X-X.tdiv v1*v1/\X-X.tdiv v1*v1<4294967296/\X.tdiv v1<18446744073709551616:=by
 have hv:=p.v1;have hx:=p.x;have hy:=p.y;have iV:=p.v2;have e:X.tdiv v1=X/v1:=Int.tdiv_eq_ediv_of_nonneg hx.1;rw [e];have h1:=Int.emod_add_mul_ediv X v1;have h2:=ec X (show v1≠0 by omega);have h3:=eL X (show 0<v1 by omega);rw [Int.mul_comm]at h1;have h4:0<=X/v1:=Int.ediv_nonneg hx.1 (by omega);have h5:X/v1<=X:=Int.ediv_le_self _ hx.1;refine⟨by omega, ?_,h4,by omega,by omega,by omega⟩;have hY:0<Y:=by omega
 have hc:=p.c;have key:X*4294967296+c<(X/v1+1)*Y:=by
  have a1:(X/v1+1)*Y=(X/v1*v1+v1)*4294967296+(X/v1+1)*v2:=by rw [hy];grind
  have a2:=Int.mul_nonneg (show 0<=X/v1+1 by omega) iV.1;omega
 have:=(Int.ediv_lt_iff_lt_mul hY).2 key;omega
def AM.lim {v1 v2 X c Y q r:Int} (p:AM v1 v2 X c Y) (h0:0<=q) (hq:q<4294967296) (hr:0<=r/\r<4294967296):IntKind.wrap .u64 (q*v2)=q*v2/\IntKind.wrap .u64 (IntKind.wrap .u64 (4294967296*r)+c)=4294967296*r+c:=by
 have hc:=p.c;exact⟨fP (ag9 h0 hq p.v2),by rw [fP (x:=4294967296*r) (by omega),fP (by omega)]⟩
def aha (hi lo y:Int) (h:uv hi lo y=true):Holds prog true 223 [cu hi,cu lo,cu y] (.tuple [cu (kE hi lo y),cu (oD hi lo y)]):=by
 unfold uv at h;simp only [ae,bE,si]at h;obtain⟨⟨tL,aur⟩,⟨Dg,ahb⟩,y0,y1⟩:=h;have hS:=qJ TE;refine bL (c:=jm) func223 rfl rfl fun w F=> ?_
 by_cases hz:hi=0
 .have e1:kE hi lo y=lo/y:=by unfold kE;rw [hz,Int.zero_mul,Int.zero_add]
  have e2:oD hi lo y=lo%y:=by unfold oD;rw [hz,Int.zero_mul,Int.zero_add]
  rw [e1,e2];refine aY hS 9 (agS hi lo y (by omega) (by omega) hz (by omega) ?_ (Int.tmod_eq_emod_of_nonneg Dg));rw [Int.tdiv_eq_ediv_of_nonneg Dg];exact fP ⟨Int.ediv_nonneg Dg (by omega),by have:=Int.ediv_le_self y Dg;omega⟩
 .obtain⟨s,hs,TK,TL,TM⟩:=TF (x:=y) (by omega);have AN:IntKind.wrap .u64 (dY y)=(s:Int):=by rw [hs];exact fP (by omega)
  have TN:IntKind.wrap .u64 (64-(s:Int))=((64-s:Nat):Int):=by rw [fP (by omega)];omega
  have hp:(0:Int)<2^s:=dK (by decide) _;obtain⟨l1,l2,l3,l4⟩:=ol (x:=lo) (s:=s) (by omega) ⟨Dg,ahb⟩;generalize TP:y*2^s=Y at*;have hhi:0<=hi*2^s/\hi*2^s+2^s<=Y:=by
   refine⟨Int.mul_nonneg tL (ct hp), ?_⟩;have:=ar (show hi+1<=y by omega) (ct hp);rw [Int.add_mul,Int.one_mul]at this;omega
  generalize hX:hi*2^s+lo/2^(64-s)=X;generalize hL:lo*2^s%18446744073709551616=L at*;have ahc:0<=L/\L<18446744073709551616:=by rw [<-hL];exact⟨ec _ (by decide),eL _ (by decide)⟩
  have fE:AM (Y/4294967296) (Y%4294967296) X (L/4294967296) Y:=⟨by omega,by omega,by omega,by omega,by omega⟩;obtain⟨k1,k2,c8,jh,pn,xB⟩:=fE.start;have hmin:min s 64=s:=by omega
  have ahd:min (64-s) 64=64-s:=by omega
  have ahe:IntKind.wrap .u64 Y=Y:=fP (by omega);have mL:∀z:Int,Int.fdiv z (2^min (Int.toNat 32) 64)=z/4294967296:=fun z=>by
   rw [show(2:Int)^min (Int.toNat 32) 64=4294967296 from rfl];exact Int.fdiv_eq_ediv_of_nonneg _ (by decide)
  have ahf:IntKind.wrap .u64 (lo*2^s)=L:=by rw [qX];exact hL
  have ahg:IntKind.wrap .u64 (((BitVec.ofInt 64 (IntKind.wrap .u64 (hi*2^s))|||BitVec.ofInt 64 (Int.fdiv lo (2^(64-s)))).toNat:Nat):Int)=X:=by
   rw [fP (x:=hi*2^s) (by omega),Int.fdiv_eq_ediv_of_nonneg _ (ct (dK (by decide) _))];show eX _ _=_;rw [ag7,L7 (s:=s) (by omega) l3 tL (Int.mul_comm _ _) (by omega),<-hX];omega
  have A:IntKind.wrap .u64 (y*2^min (IntKind.wrap .u64 (dY y)).toNat 64)=Y:=by rw [AN,Int.toNat_natCast,hmin,TP];exact ahe
  have B:IntKind.wrap .u64 (lo*2^min (IntKind.wrap .u64 (dY y)).toNat 64)=L:=by rw [AN,Int.toNat_natCast,hmin];exact ahf
  have C:IntKind.wrap .u64 (((BitVec.ofInt 64 (IntKind.wrap .u64 (hi*2^min (IntKind.wrap .u64 (dY y)).toNat 64))|||BitVec.ofInt 64 (Int.fdiv lo (2^min (IntKind.wrap .u64 (64-IntKind.wrap .u64 (dY y))).toNat 64))).toNat:Nat):Int)=X:=by
   rw [AN,TN,Int.toNat_natCast,Int.toNat_natCast,hmin,ahd];exact ahg
  have TQ:∀z:Int,0<=z/\z<18446744073709551616->IntKind.wrap .u64 (((BitVec.ofInt 64 z &&& BitVec.ofInt 64 4294967295).toNat:Nat):Int)=z%4294967296:=fun z hz=>ag6 hz
  have hq1:=fP (x:=X.tdiv (Y/4294967296)) ⟨c8,xB⟩;have ahh:IntKind.wrap .u64 (X.tdiv (Y/4294967296)*(Y/4294967296))=X.tdiv (Y/4294967296)*(Y/4294967296):=fP (by have:=fE.v1;have:=Int.mul_nonneg c8 (show 0<=Y/4294967296 by omega);omega);have kU:=fP (x:=X-X.tdiv (Y/4294967296)*(Y/4294967296)) (by omega);refine aW.to known mixed hS 17 _ (agT hi lo y Y s (Y/4294967296) (Y%4294967296) X (L/4294967296) (L%4294967296) (X.tdiv (Y/4294967296)) (X-X.tdiv (Y/4294967296)*(Y/4294967296)) (by omega) (by omega) hz (si.2 ⟨y0,y1⟩)
   (by rw [AN];omega) (by rw [AN,TN];omega) (by rw [A,mL];have:=fE.v1;omega) A AN (by rw [A,mL]) (by rw [A];exact TQ Y (by omega)) C (by rw [B,mL]) (by rw [B];exact TQ L ahc) (by rw [C,A,mL];exact hq1) (by rw [C,A,mL,hq1,ahh];exact kU)) (by kernel_rfl) ?_
  have hN:(hi*18446744073709551616+lo)*2^s=(X*4294967296+L/4294967296)*4294967296+L%4294967296:=by
   have e1:L=L/4294967296*4294967296+L%4294967296:=by omega
   rw [Int.add_mul,Int.mul_right_comm,l2,<-l1,<-hX];omega
  generalize yu:Y/4294967296=v1 at*;generalize iV:Y%4294967296=v2 at*;generalize hc:L/4294967296=c at*;generalize hd:L%4294967296=d at*;have gH:0<=d/\d<4294967296:=by omega
  have sj:0<Y:=by omega
  have ahi:=Int.emod_add_mul_ediv (X*4294967296+c) Y;have hx0:=ec (X*4294967296+c) (show Y≠0 by omega);have hx1:=eL (X*4294967296+c) sj;have sr:AM v1 v2 ((X*4294967296+c)%Y) d Y:=⟨fE.y,fE.v1,fE.v2,⟨hx0,hx1⟩,gH⟩;have Mc:∀r,aW prog w F 135 ((fl jm []).drop 22) (jq Y s v1 v2 d ((X*4294967296+c)/Y) ((X*4294967296+c)%Y) (((X*4294967296+c)%Y*4294967296+d)/Y) r).T (jq Y s v1 v2 d ((X*4294967296+c)/Y) ((X*4294967296+c)%Y) (((X*4294967296+c)%Y*4294967296+d)/Y) r).H (hJ prog true f223 (.tuple [cu (kE hi lo y),cu (oD hi lo y)])):=fun r=>by
   have TR:=Int.emod_add_mul_ediv ((X*4294967296+c)%Y*4294967296+d) Y;have lM:=ec ((X*4294967296+c)%Y*4294967296+d) (show Y≠0 by omega);have Cd:=eL ((X*4294967296+c)%Y*4294967296+d) sj;have j7:0<=(X*4294967296+c)/Y:=Int.ediv_nonneg (by have:=fE.x;have:=fE.c;omega) (by omega);have aus:(X*4294967296+c)/Y<4294967296:=Int.ediv_lt_of_lt_mul sj (by have:=fE.x;have:=fE.c;omega);have LM:0<=((X*4294967296+c)%Y*4294967296+d)/Y:=Int.ediv_nonneg (by omega) (by omega);have hp1:((X*4294967296+c)%Y*4294967296+d)/Y<4294967296:=Int.ediv_lt_of_lt_mul sj (by omega);generalize (X*4294967296+c)/Y=oo at*;generalize (X*4294967296+c)%Y=eG at*;generalize aut:(eG*4294967296+d)/Y=ug at*;generalize auu:(eG*4294967296+d)%Y=TS at*;obtain⟨j1,j2⟩:=L9 (A:=hi*18446744073709551616+lo) (b:=y) (V:=Y) (S:=2^s) (U:=TS) (q:=oo*4294967296+ug) hp (by omega) TP.symm (by rw [hN];grind) lM Cd;refine bY (s:=jq Y s v1 v2 d oo eG ug r) hS (ag5 Y s v1 v2 d oo eG ug r _ _ (by omega) ?_ ?_)
   .rw [fP (x:=oo*4294967296) (by omega),fP (by omega)];exact j1.symm
   .rw [Int.toNat_natCast,hmin,Int.fdiv_eq_ediv_of_nonneg _ (ct hp)];have e:IntKind.wrap .u64 (IntKind.wrap .u64 (IntKind.wrap .u64 (eG*4294967296)+d)-IntKind.wrap .u64 (ug*Y))=TS:=by
     rw [qX,qX,qX,qX];rw [Int.mul_comm Y]at TR;generalize ug*Y=P at*;omega
    rw [e,j2,Int.mul_ediv_cancel_left _ (by omega)];rfl
  have Md:∀r,aW prog w F 135 ((fl jm []).drop 18) (jo Y s v1 v2 X c d ((X*4294967296+c)/Y) r).T (jo Y s v1 v2 X c d ((X*4294967296+c)/Y) r).H (hJ prog true f223 (.tuple [cu (kE hi lo y),cu (oD hi lo y)])):=fun r=>by
   obtain⟨n1,n2,n3,su,TT,TU⟩:=sr.start;have e:IntKind.wrap .u64 (IntKind.wrap .u64 (IntKind.wrap .u64 (X*4294967296)+c)-IntKind.wrap .u64 ((X*4294967296+c)/Y*Y))=(X*4294967296+c)%Y:=by
    rw [qX,qX,qX,qX];rw [Int.mul_comm Y]at ahi;generalize (X*4294967296+c)/Y*Y=P at*;omega
   have m1:=fP (x:=((X*4294967296+c)%Y).tdiv v1) ⟨n3,TU⟩;have m2:IntKind.wrap .u64 (((X*4294967296+c)%Y).tdiv v1*v1)=((X*4294967296+c)%Y).tdiv v1*v1:=fP (by have:=fE.v1;have:=Int.mul_nonneg n3 (show 0<=v1 by omega);omega);refine dP (s:=jo Y s v1 v2 X c d ((X*4294967296+c)/Y) r) hS 3 (agZ Y s v1 v2 X c d ((X*4294967296+c)/Y) r ((X*4294967296+c)%Y) (((X*4294967296+c)%Y).tdiv v1) ((X*4294967296+c)%Y-((X*4294967296+c)%Y).tdiv v1*v1) (by have:=fE.v1;omega) e (by rw [e];exact m1) (by rw [e,m1,m2];exact fP (by omega))) ?_;generalize (X*4294967296+c)%Y=eG at*;refine aW.loop (ι:={p:Int×Int//p.1*v1+p.2=eG/\(eG*4294967296+d)/Y<=p.1/\0<=p.1/\0<=p.2/\p.2<4294967296/\p.1<18446744073709551616}) (id:=2) (b:=cat jm AL) (rest:=(fl jm []).drop 22) (by kernel_rfl) (fun p=>jq Y s v1 v2 d ((X*4294967296+c)/Y) eG p.1.1 p.1.2) (fun p=>p.1.1.toNat) ⟨(eG.tdiv v1,eG-eG.tdiv v1*v1),n1,n2,n3,su,TT,TU⟩ (fun _=>rfl) ?_;rintro⟨⟨q,r⟩,a1,a2,a3,a4,a5,a6⟩;have a1:q*v1+r=eG:=a1;have a2:(eG*4294967296+d)/Y<=q:=a2;have a3:0<=q:=a3;have a4:0<=r:=a4;have a5:r<4294967296:=a5;have a6:q<18446744073709551616:=a6;have hgo:(4294967296<=q\/4294967296*r+d<q*v2)->(eG*4294967296+d)/Y<=q-1:=fun hg=>by
    have:=sr.y;subst this;exact TI sj sr.x.2 (by decide) gH.2 a1 hg
   have LM:0<=(eG*4294967296+d)/Y:=Int.ediv_nonneg (by have:=sr.x;omega) (by omega);have hw1:=fP (x:=r+v1) (by have:=fE.v1;omega);have Dh:(4294967296<=q\/4294967296*r+d<q*v2)->4294967296<=r+v1->q-1=(eG*4294967296+d)/Y:=fun hg hr=>by
    have g1:=hgo hg;have e1:(q-1)*v1+(r+v1)=eG:=by rw [Int.sub_mul,Int.one_mul];omega
    have hf:=TJ (by have:=fE.v1;omega) (by have:=sr.x;have:=sr.y;omega) sr.v2 gH.1 e1 (by omega) hr;have:=sr.y;subst this;exact(Gw sj e1 g1 hf).symm
   by_cases gb:q>=4294967296
   .have lZ:=fP (x:=q-1) (by omega);by_cases hrb:r+v1>=4294967296
    .refine bC (s:=jq Y s v1 v2 d ((X*4294967296+c)/Y) eG q r) hS (ag0 Y s v1 v2 d _ eG q r gb (by rw [hw1];exact hrb) lZ hw1) ?_;refine cI (cQ ?_);rw [Dh (.inl gb) hrb];exact Mc _
    .refine bC (s:=jq Y s v1 v2 d ((X*4294967296+c)/Y) eG q r) hS (ag1 Y s v1 v2 d _ eG q r gb (by rw [hw1];exact hrb) lZ hw1) ?_;exact⟨⟨(q-1,r+v1),by show(q-1)*v1+(r+v1)=eG;rw [Int.sub_mul,Int.one_mul];omega,hgo (.inl gb),by show 0<=q-1;omega,by show 0<=r+v1;have:=fE.v1;omega,by show r+v1<_;omega,by show q-1<_;omega⟩,by show(q-1).toNat<q.toNat;omega,rfl,rfl⟩
   .obtain⟨w1,w2⟩:=sr.lim a3 (by omega) ⟨a4,a5⟩;by_cases hgt:4294967296*r+d<q*v2
    .have hq1:1<=q:=by
      by_cases j7:q=0
      .rw [j7,Int.zero_mul]at hgt;omega
      .omega
     have lZ:=fP (x:=q-1) (by omega);by_cases hrb:r+v1>=4294967296
     .refine bC (s:=jq Y s v1 v2 d ((X*4294967296+c)/Y) eG q r) hS (ag2 Y s v1 v2 d _ eG q r gb (by rw [w1,w2];exact hgt) (by rw [hw1];exact hrb) lZ hw1) ?_;refine cI (cQ ?_);rw [Dh (.inr hgt) hrb];exact Mc _
     .refine bC (s:=jq Y s v1 v2 d ((X*4294967296+c)/Y) eG q r) hS (ag3 Y s v1 v2 d _ eG q r gb (by rw [w1,w2];exact hgt) (by rw [hw1];exact hrb) lZ hw1) ?_;exact⟨⟨(q-1,r+v1),by show(q-1)*v1+(r+v1)=eG;rw [Int.sub_mul,Int.one_mul];omega,hgo (.inr hgt),by show 0<=q-1;omega,by show 0<=r+v1;have:=fE.v1;omega,by show r+v1<_;omega,by show q-1<_;omega⟩,by show(q-1).toNat<q.toNat;omega,rfl,rfl⟩
    .refine bC (s:=jq Y s v1 v2 d ((X*4294967296+c)/Y) eG q r) hS (ag4 Y s v1 v2 d _ eG q r gb (by rw [w1,w2];exact hgt)) ?_;refine cI (cQ ?_);have e1:(eG*4294967296+d)/Y=q:=by
      have:=sr.y;subst this;exact Gw sj a1 a2 (by omega)
     rw [<-e1];exact Mc _
  refine aW.loop (ι:={p:Int×Int//p.1*v1+p.2=X/\(X*4294967296+c)/Y<=p.1/\0<=p.1/\0<=p.2/\p.2<4294967296/\p.1<18446744073709551616}) (id:=0) (b:=cat jm AK) (rest:=(fl jm []).drop 18) (by kernel_rfl) (fun p=>jo Y s v1 v2 X c d p.1.1 p.1.2) (fun p=>p.1.1.toNat) ⟨(X.tdiv v1,X-X.tdiv v1*v1),k1,k2,c8,jh,pn,xB⟩ (fun _=>rfl) ?_;rintro⟨⟨q,r⟩,a1,a2,a3,a4,a5,a6⟩;have a1:q*v1+r=X:=a1;have a2:(X*4294967296+c)/Y<=q:=a2;have a3:0<=q:=a3;have a4:0<=r:=a4;have a5:r<4294967296:=a5;have a6:q<18446744073709551616:=a6;have hgo:(4294967296<=q\/4294967296*r+c<q*v2)->(X*4294967296+c)/Y<=q-1:=fun hg=>by
   have:=fE.y;subst this;exact TI sj fE.x.2 (by decide) fE.c.2 a1 hg
  have LM:0<=(X*4294967296+c)/Y:=Int.ediv_nonneg (by have:=fE.x;have:=fE.c;omega) (by omega);have hw1:=fP (x:=r+v1) (by have:=fE.v1;omega);have Dh:(4294967296<=q\/4294967296*r+c<q*v2)->4294967296<=r+v1->q-1=(X*4294967296+c)/Y:=fun hg hr=>by
   have g1:=hgo hg;have e1:(q-1)*v1+(r+v1)=X:=by rw [Int.sub_mul,Int.one_mul];omega
   have hf:=TJ (by have:=fE.v1;omega) (by have:=fE.x;have:=fE.y;omega) fE.v2 fE.c.1 e1 (by omega) hr;have:=fE.y;subst this;exact(Gw sj e1 g1 hf).symm
  by_cases gb:q>=4294967296
  .have lZ:=fP (x:=q-1) (by omega);by_cases hrb:r+v1>=4294967296
   .refine bC (s:=jo Y s v1 v2 X c d q r) hS (agU Y s v1 v2 X c d q r gb (by rw [hw1];exact hrb) lZ hw1) ?_;refine cI (cQ ?_);rw [Dh (.inl gb) hrb];exact Md _
   .refine bC (s:=jo Y s v1 v2 X c d q r) hS (agV Y s v1 v2 X c d q r gb (by rw [hw1];exact hrb) lZ hw1) ?_;exact⟨⟨(q-1,r+v1),by show(q-1)*v1+(r+v1)=X;rw [Int.sub_mul,Int.one_mul];omega,hgo (.inl gb),by show 0<=q-1;omega,by show 0<=r+v1;have:=fE.v1;omega,by show r+v1<_;omega,by show q-1<_;omega⟩,by show(q-1).toNat<q.toNat;omega,rfl,rfl⟩
  .obtain⟨w1,w2⟩:=fE.lim a3 (by omega) ⟨a4,a5⟩;by_cases hgt:4294967296*r+c<q*v2
   .have hq1:1<=q:=by
     by_cases j7:q=0
     .rw [j7,Int.zero_mul]at hgt;omega
     .omega
    have lZ:=fP (x:=q-1) (by omega);by_cases hrb:r+v1>=4294967296
    .refine bC (s:=jo Y s v1 v2 X c d q r) hS (agW Y s v1 v2 X c d q r gb (by rw [w1,w2];exact hgt) (by rw [hw1];exact hrb) lZ hw1) ?_;refine cI (cQ ?_);rw [Dh (.inr hgt) hrb];exact Md _
    .refine bC (s:=jo Y s v1 v2 X c d q r) hS (agX Y s v1 v2 X c d q r gb (by rw [w1,w2];exact hgt) (by rw [hw1];exact hrb) lZ hw1) ?_;exact⟨⟨(q-1,r+v1),by show(q-1)*v1+(r+v1)=X;rw [Int.sub_mul,Int.one_mul];omega,hgo (.inr hgt),by show 0<=q-1;omega,by show 0<=r+v1;have:=fE.v1;omega,by show r+v1<_;omega,by show q-1<_;omega⟩,by show(q-1).toNat<q.toNat;omega,rfl,rfl⟩
   .refine bC (s:=jo Y s v1 v2 X c d q r) hS (agY Y s v1 v2 X c d q r gb (by rw [w1,w2];exact hgt)) ?_;refine cI (cQ ?_);have e1:(X*4294967296+c)/Y=q:=by
     have:=fE.y;subst this;exact Gw sj a1 a2 (by omega)
    rw [<-e1];exact Md _
def TV:Mb.Ok prog:=fun⟨hi,lo,y,_⟩ h=>aha hi lo y h
end
end
section
open Go.RowKit Sv Go.Proofs.Tryz
noncomputable section
def fF (x s:Int):Int:=IntKind.wrap .u64 (x*2^min s.toNat 64)
def dD (x s:Int):Int:=Int.fdiv x (2^min s.toNat 64)
def pi:=k_a f225
abbrev Gx:List Nat:=[1,1,0,1,0,0]
def nH (w out:List Int) (s:Int) (i:Nat):bI:={n:=40,sl:=[(0,bJ w),(1,iv s),(5,qO 64 out),(12,bJ w),(13,iv w.length),(14,iv i)],bH:=[(64,qP out)],next:=65}
def ahj (w:List Int) (s:Int) (h1: -9223372036854775808<=(w.length:Int)+1/\(w.length:Int)+1<=9223372036854775807) (h2:((w.length:Int)+1).toNat<=1000000) (h3:(((w.length:Int)+1).toNat)=(cJ (w.length+(1:Nat))).length) (h4:(bh.known ((w.length:Int)+1).toNat)=(bh.known (w.length+(1:Nat)))) (h5:(bM (cJ (w.length+(1:Nat))).length)=(bM (w.length+(1:Nat)))) (h6:(List.flatten (List.replicate ((w.length:Int)+1).toNat (List.map af.raw (Array.toList #[Value.int .u64 (0:Int)]))))=(List.flatMap (fun x=>[af.raw (Value.int .u64 x)]) (cJ (w.length+(1:Nat))))) (h7:(w.length+(1:Nat))=(cJ (w.length+(1:Nat))).length):
  aE.path (om prog (a7 []) (fl pi []) 3 40 [bJ w,iv s]) (dl 1) (ep prog 40 .normal [(64,64,some (w.length+1))] (nH w (cJ (w.length+1)) s 0)):=
 mp (adA (eP h1) rt rt (show(decide (((w.length:Int)+1).toNat<=((w.length:Int)+1).toNat))=true from az (by omega)) (oq (show(bounded ((w.length:Int)+1).toNat (8:Nat))=true from pL h2 (by omega)) (rr w) (rr s) (an h3 (an h4 h5)) (rr w) (rr (w.length:Int)) (rr (0:Int)) (an h6 h7) trivial))
section
variable (w out:List Int) (s:Int) (i:Nat) (h1:(i:Int)<(w.length:Int)) (h2:i<w.length) (h3:i<out.length) (h4:0<=s)
def ahk (h5:s>0) (h6:i6 ((i:Int)+1)) (h7:i6 (64-s)) (h8:0<=64-s) (h9:((i:Int)+1).toNat<out.length) (h10:(bA 167 aG (some (bq.own 167 aG (out.set i (IntKind.wrap IntKind.u64 (↑(BitVec.toNat (BitVec.ofInt 64 (out.getD i 0)|||BitVec.ofInt 64 (IntKind.wrap IntKind.u64 (w.getD i 0*(2:Int)^min s.toNat 64)))):Int))))) ((i:Int)+1).toNat)=true) (h11:out.length=((out.set i (eX (out.getD i 0) (fF (w.getD i 0) s))).set (i+1) (dD (w.getD i 0) (64-s))).length) (h12:(bM out.length)=(bM ((out.set i (eX (out.getD i 0) (fF (w.getD i 0) s))).set (i+1) (dD (w.getD i 0) (64-s))).length)) (dZ:((out.set i (IntKind.wrap IntKind.u64 (↑(BitVec.toNat (BitVec.ofInt 64 (out.getD i 0)|||BitVec.ofInt 64 (IntKind.wrap IntKind.u64 (w.getD i 0*(2:Int)^min s.toNat 64)))):Int))).set ((i:Int)+1).toNat (Int.fdiv (w.getD i 0) ((2:Int)^min (64-s).toNat 64)))=((out.set i (eX (out.getD i 0) (fF (w.getD i 0) s))).set (i+1) (dD (w.getD i 0) (64-s)))):
  bz (a7 []) (fl pi Gx) (nH w out s i) 7 .normal [(64,64,none)] (nH w ((out.set i (eX (out.getD i 0) (fF (w.getD i 0) s))).set (i+1) (dD (w.getD i 0) (64-s))) s (i+1)):=
 wy [ah h1,ah h2,ah h3,jl 167 aG h3,aa (aD (v:=af.raw (Value.int IntKind.u64 ((bP aG (a8 167 aG out)).getD ((0:Nat)+i) (0:Int))))),ah h4,ah h5,yi h6,yi h7,ah h8,ah h9,aa (show(bA 167 aG (some (bq.own 167 aG ((bP aG (a8 167 aG out)).set ((0:Nat)+i) (IntKind.wrap IntKind.u64 (↑(BitVec.toNat (BitVec.ofInt (64:Nat) ((bP aG (a8 167 aG out)).getD ((0:Nat)+i) (0:Int))|||BitVec.ofInt (64:Nat) (IntKind.wrap IntKind.u64 (w.getD i (0:Int)*(2:Int)^min s.toNat (64:Nat))))):Int))))) ((0:Nat)+((i:Int)+(1:Int)).toNat))=true from(by simp only [eD,aw]<;>exact h10)),ax h11,ax h12,pK prog 167 aG (show(((bP aG (a8 167 aG out)).set ((0:Nat)+i) (IntKind.wrap IntKind.u64 (↑(BitVec.toNat (BitVec.ofInt (64:Nat) ((bP aG (a8 167 aG out)).getD ((0:Nat)+i) (0:Int))|||BitVec.ofInt (64:Nat) (IntKind.wrap IntKind.u64 (w.getD i (0:Int)*(2:Int)^min s.toNat (64:Nat))))):Int))).set ((0:Nat)+((i:Int)+(1:Int)).toNat) (Int.fdiv (w.getD i (0:Int)) ((2:Int)^min ((64:Int)-s).toNat (64:Nat))))=((out.set i (eX (out.getD i (0:Int)) (fF (w.getD i (0:Int)) s))).set (i+(1:Nat)) (dD (w.getD i (0:Int)) ((64:Int)-s)))from(by simp only [eD,aw]<;>exact dZ))] 5612166604090939023885917864117590006026658706890753
def ahl (h5:¬s>0) (h6:i6 ((i:Int)+1)) (h7:out.length=(out.set i (eX (out.getD i 0) (fF (w.getD i 0) s))).length) (h8:(bM out.length)=(bM (out.set i (eX (out.getD i 0) (fF (w.getD i 0) s))).length)) (h9:(out.set i (IntKind.wrap IntKind.u64 (↑(BitVec.toNat (BitVec.ofInt 64 (out.getD i 0)|||BitVec.ofInt 64 (IntKind.wrap IntKind.u64 (w.getD i 0*(2:Int)^min s.toNat 64)))):Int)))=(out.set i (eX (out.getD i 0) (fF (w.getD i 0) s)))):
  bz (a7 []) (fl pi Gx) (nH w out s i) 5 .normal [(64,64,none)] (nH w (out.set i (eX (out.getD i 0) (fF (w.getD i 0) s))) s (i+1)):=
 wy [ah h1,ah h2,ah h3,jl 167 aG h3,aa (aD (v:=af.raw (Value.int IntKind.u64 ((bP aG (a8 167 aG out)).getD ((0:Nat)+i) (0:Int))))),ah h4,aF h5,yi h6,ax h7,ax h8,pK prog 167 aG (show((bP aG (a8 167 aG out)).set ((0:Nat)+i) (IntKind.wrap IntKind.u64 (↑(BitVec.toNat (BitVec.ofInt (64:Nat) ((bP aG (a8 167 aG out)).getD ((0:Nat)+i) (0:Int))|||BitVec.ofInt (64:Nat) (IntKind.wrap IntKind.u64 (w.getD i (0:Int)*(2:Int)^min s.toNat (64:Nat))))):Int)))=(out.set i (eX (out.getD i (0:Int)) (fF (w.getD i (0:Int)) s)))from(by simp only [eD,aw]<;>exact h9))] 59889699868906130213244270183591081680897
end
def ahm (w out:List Int) (s:Int) (i:Nat) (h1:¬(i:Int)<(w.length:Int)):
  bz (a7 []) (fl pi Gx) (nH w out s i) 2 (.exit 0) [(64,64,none)] (nH w out s i):=
 wy [aF h1] 1
def ahn (w:List Int) (x:Int) (l:List Int) (s:Int) (i:Nat) (h1:(bM (x::l).length)=(bh.full)):
  aE.path (oh prog (a7 []) ((fl pi []).drop 4) (nH w (x::l) s i)) (dl 1) (FN prog f225 167 aG (x::l)):=
 wy [vO (an (rr (x::l).length) (an h1 (rr (x::l))))] 1
def cK (w:List Int) (s:Int):List Int:=fT 18446744073709551616 (w.length+1) (ak w*2^s.toNat)
def yw (w:List Int) (s:Int):Bool:=gY w&&(decide (w.length<=400000)&&(decide (0<=s)&&decide (s<64)))
noncomputable def Gy:qH:={f:=225,e:=167,t:=aG,ps:=[.list false aG, .int .i64],pre:=fun d=>yw d.1 d.2.1,out:=fun d=>cK d.1 d.2.1}
def TW {x:Int} {s:Nat} (hs:s<=64) (hx:0<=x/\x<18446744073709551616):fF x s=2^s*(x%2^(64-s)):=by
 unfold fF;rw [Int.toNat_natCast,Nat.min_eq_left hs,qX];exact(ol hs hx).1
def Me {x:Int} {s:Nat} (hs:s<=64) (hx:0<=x):dD x s=x/2^s:=by
 unfold dD;rw [Int.toNat_natCast,Nat.min_eq_left hs];exact Int.fdiv_eq_ediv_of_nonneg _ (ct (dK (by decide) _))
def fg {l:List Int} {i:Nat} (j:Nat) {d:Int}:(l.set i d).getD j 0=if i=j/\i<l.length then d else l.getD j 0:=by
 simp only [ao,List.getElem?_set];by_cases h:i=j
 .subst h;by_cases hl:i<l.length
  .simp [hl]
  .simp [hl]
 .simp [h]
def aho {l:List Int} {i:Nat} (h:i<l.length):l.set i (l.getD i 0)=l:=by
 rw [uh h];exact List.set_getElem_self h
structure Di (w:List Int) (s:Nat) (out:List Int) (i:Nat):Prop where
 le:i<=w.length
 len:out.length=w.length+1
 dg:aS 18446744073709551616 out
 low:out.getD i 0<2^s
 zero:∀k,i<k->out.getD k 0=0
 val:ak (out.take i)+18446744073709551616^i*out.getD i 0=ak (w.take i)*2^s
def ahp {w:List Int} (hw:aS 18446744073709551616 w) {s:Nat} (hs:s<=63) {out:List Int} {i:Nat} (I:Di w s out i) (hi:i<w.length):
  Di w s ((out.set i (eX (out.getD i 0) (fF (w.getD i 0) s))).set (i+1) (w.getD i 0/2^(64-s))) (i+1):=by
 have hx:=hw.get (by decide) i;have ho:=I.dg.get (by decide) i;obtain⟨l1,l2,l3,l4⟩:=ol (s:=s) (by omega) hx;have hlen:=I.len;have hp:(0:Int)<2^s:=dK (by decide) _;have hlt:2^s*(w.getD i 0%2^(64-s))<18446744073709551616:=by rw [<-l1];exact eL _ (by decide)
 have ahq:eX (out.getD i 0) (fF (w.getD i 0) s)=out.getD i 0+2^s*(w.getD i 0%2^(64-s)):=by
  rw [TW (by omega) hx];exact L7 (by omega) ⟨ho.1,I.low⟩ l4.1 rfl hlt
 have jE:(2:Int)^s*2^(64-s)=18446744073709551616:=by rw [<-Int.pow_add,show s+(64-s)=64 by omega];rfl
 have ahr:0<=out.getD i 0+2^s*(w.getD i 0%2^(64-s))/\out.getD i 0+2^s*(w.getD i 0%2^(64-s))<18446744073709551616:=by
  have h1:=Int.mul_nonneg (ct hp) l4.1;have h2:=eu (show w.getD i 0%2^(64-s)+1<=2^(64-s) by omega) (ct hp);rw [jE,Int.mul_add,Int.mul_one]at h2;have:=I.low;omega
 have hh:0<=w.getD i 0/2^(64-s)/\w.getD i 0/2^(64-s)<18446744073709551616:=by
  have:(2:Int)^s<=2^64:=iW (by decide) (by omega);have e:(2:Int)^64=18446744073709551616:=rfl;omega
 rw [ahq];refine⟨hi,by simp [hlen],(I.dg.set ahr).set hh, ?_,fun k hk=> ?_, ?_⟩
 .rw [fg,if_pos ⟨rfl,by rw [b9];omega⟩];exact l3.2
 .rw [fg,if_neg (by omega),fg,if_neg (by omega)];exact I.zero k (by omega)
 .rw [fg,if_pos ⟨rfl,by rw [b9];omega⟩];have hv:=I.val;unfold ak at hv ⊢;rw [Av,yb (by omega),lU (l:=w) hi,Int.pow_succ];generalize vl 18446744073709551616 (out.take i)=A at*;generalize vl 18446744073709551616 (w.take i)=auv at*;generalize out.getD i 0=o at*;generalize w.getD i 0/2^(64-s)=h at*;generalize w.getD i 0%2^(64-s)=l at*;generalize w.getD i 0=x at*;generalize (18446744073709551616:Int)^i=P at*;generalize (2:Int)^s=S at*;have e:P*(x*S)=P*(S*l+18446744073709551616*h):=by rw [l2]
  grind
def ahs {w:List Int} {s:Nat} {out:List Int} (I:Di w s out w.length):out=cK w s:=by
 have hv:=I.val;have hl:=I.len;have h1:=lU (b:=18446744073709551616) (l:=out) (k:=w.length) (by omega);rw [eZ (by omega)]at h1;rw [dR]at hv;have h2:=Ls (b:=18446744073709551616) (by decide) I.dg;unfold cK;rw [Int.toNat_natCast,<-hv];unfold ak;rw [<-h1,<-hl];exact h2
def aht (w:List Int) (Dj:Int) (h:yw w Dj=true) (w0:World) (F:Sv.Env):aW prog w0 F 40 (fl pi []) (fX [bJ w,iv Dj] .nil 0) H0 (Ll prog f225 167 aG (cK w Dj)):=by
 unfold yw at h;simp only [ae,bE,ij]at h;obtain⟨hw,hl,h0,h1⟩:=h;obtain⟨s,rfl⟩:∃s:Nat,Dj=(s:Int):=⟨Dj.toNat,by omega⟩;have e1:((w.length:Int)+1).toNat=w.length+1:=by omega
 refine cR cC 3 (ahj w s (by omega) (by omega) (by rw [gO,e1]) (by rw [e1]) (by rw [gO]) (by rw [e1];exact yh _) (by rw [gO])) ?_;have hz:∀k,(cJ (w.length+1)).getD k 0=0:=fun k=>by
  unfold cJ;rw [ao,List.getElem?_replicate];split<;>rfl
 refine aW.loop (ι:={p:List Int×Nat//Di w s p.1 p.2}) (id:=0) (b:=cat pi Gx) (rest:=(fl pi []).drop 4) (by kernel_rfl) (fun p=>nH w p.1.1 s p.1.2) (fun p=>w.length-p.1.2)
  ⟨(cJ (w.length+1),0),⟨Nat.zero_le _,gO _,qS _,by show(cJ (w.length+1)).getD 0 0<_;rw [hz];exact dK (by decide) _,fun k _=>hz k,by show vl _ ([]:List Int)+_*(cJ (w.length+1)).getD 0 0=vl _ ([]:List Int)*_;rw [hz];simp [vl]⟩⟩ (fun _=>rfl) ?_
 rintro⟨⟨out,i⟩,I⟩;have I:Di w s out i:=I;have hlen:=I.len;by_cases hi:i<w.length
 .have hx:=hw.get (by decide) i;have N:=ahp hw (by omega) I hi;have kW:((i:Int)+1).toNat=i+1:=by omega
  by_cases hs0:s=0
  .subst hs0;have e2:(out.set i (eX (out.getD i 0) (fF (w.getD i 0) (0:Nat)))).set (i+1) (w.getD i 0/2^(64-0))=out.set i (eX (out.getD i 0) (fF (w.getD i 0) (0:Nat))):=by
    have e3:w.getD i 0/2^(64-0)=(out.set i (eX (out.getD i 0) (fF (w.getD i 0) (0:Nat)))).getD (i+1) 0:=by
     rw [fg,if_neg (by omega),I.zero (i+1) (by omega)];exact Int.ediv_eq_zero_of_lt hx.1 hx.2
    rw [e3];exact aho (by rw [b9];omega)
   rw [e2]at N;exact aW.all (s:=nH w out (0:Nat) i) (s':=nH w (out.set i (eX (out.getD i 0) (fF (w.getD i 0) (0:Nat)))) (0:Nat) (i+1)) known mixed cC _ (ahl w out _ i (by omega) hi (by omega) (by omega) (by omega) (by omega) (by rw [b9]) (by rw [b9]) rfl) (by kernel_rfl)
    ⟨⟨(_,i+1),N⟩,by simp;omega,rfl,rfl⟩
  .have bW:dD (w.getD i 0) (64-(s:Int))=w.getD i 0/2^(64-s):=by
    rw [show(64-(s:Int))=((64-s:Nat):Int) by omega];exact Me (by omega) hx.1
   rw [<-bW]at N;exact aW.all (s:=nH w out s i) (s':=nH w ((out.set i (eX (out.getD i 0) (fF (w.getD i 0) s))).set (i+1) (dD (w.getD i 0) (64-s))) s (i+1)) known mixed cC _ (ahk w out s i (by omega) hi (by omega) (by omega) (by omega) (by omega) (by omega) (by omega) (by rw [kW];omega) (by rw [kW,zK];exact az (by rw [b9];omega)) (by simp) (by simp) (by rw [kW];rfl)) (by kernel_rfl)
    ⟨⟨(_,i+1),N⟩,by simp;omega,rfl,rfl⟩
 .refine bC (s:=nH w out s i) cC (ahm w out s i (by omega)) ?_;refine cI (cQ ?_);have hle:=I.le;obtain rfl:i=w.length:=by omega
  rw [<-ahs I];cases out with
  |nil=>have:=I.len;simp at this
  |cons x l=>exact aW.adr known mixed cC 8 _ (ahn w x l s w.length rfl) fun T H h=>h
def ahu:Gy.Ok prog:=
 ⟨rfl,_,pi,func225,rfl,by decide,fun⟨w,s,_⟩ h=>⟨by show 1<=(cK w s).length;unfold cK;rw [yc];omega,fun w0 F=>aht w s h w0 F⟩⟩
end
end
end Go.Proofs.YtibikmmdbdlafaaGreatDoor
