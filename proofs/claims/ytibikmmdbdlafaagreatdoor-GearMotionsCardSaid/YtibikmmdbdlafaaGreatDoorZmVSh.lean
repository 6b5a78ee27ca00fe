import Derived.Test.YtibikmmdbdlafaaGreatDoorZmNI
set_option linter.defProp false
set_option linter.unusedVariables false
set_option maxRecDepth 100000
set_option linter.unusedSimpArgs false
namespace Go.Proofs.YtibikmmdbdlafaaGreatDoor
open Go.RowKit Sv Go.Proofs.Tryz
noncomputable section
abbrev dR:av:= .pair (.int .i64) (.list true aD)
abbrev aJ (a:aW):aa:= .agg [iv a.1, .bh true aD a.2]
noncomputable def vY:Code:=(f142.body).getD .skip
noncomputable def Fz:Code:=(f141.body).getD .skip
noncomputable def KK:Code:=(f140.body).getD .skip
noncomputable def KL:bp:={f:=140,ps:=[.int .i64],rs:=[aD],fresh:=true,pre:=fun d=>gA d.1,fn:=fun d=>(cl d.1,())}
noncomputable def FA:bI:=aR [KL]
def adE (n:Int) (h1:n<0) (h2:(IntKind.wrap IntKind.u64 (IntKind.wrap IntKind.i64 (0-n)))=(cl n)):
  bu (aR []) (fl KK []) 9 10 [iv n] 3 f140 true (cr (cl n)):=
 wy [ah h1,az h2] 129
def adF (n:Int) (h1:¬n<0) (h2:(IntKind.wrap IntKind.u64 n)=(cl n)):
  bu (aR []) (fl KK []) 9 10 [iv n] 2 f140 true (cr (cl n)):=
 wy [aA h1,az h2] 129
def adG (a:aW) (h1:a.2.isEmpty=false) (h2:(decide (a.1<0))=(bW a)) (h3:a.2=(ay a)):
  bu FA (fl Fz []) 9 24 [aJ a] 3 f141 false (.tuple [bv (bW a),bE (ay a)]):=
 wy [af (aS (h1)),af (aV (v:=iv (a.1))),af (aV (v:=aa.bh true aD a.2)),az h2,az h3] 84947073
def adH (a:aW) (h1:a.2.isEmpty=true) (h2:a.1=0) (h3:(false)=(bW a)) (h4:(ay a)=([])):
  bu FA (fl Fz []) 9 24 [aJ a] 6 f141 false (.tuple [bv (bW a),bE (ay a)]):=
 wy [af (aS (h1)),cW h2,az h3,az h4] 1060993
def adI (a:aW) (h1:a.2.isEmpty=true) (h2:¬a.1=0) (h3:(gA a.1)=true) (h4:(decide (a.1<0))=(bW a)) (h5:([cl a.1])=(ay a)) (h6:(Nat.ble (1*1) (aa.raw (Value.int .u64 (cl a.1))::List.append._f [] PUnit.unit (List.flatten._f [] PUnit.unit)).length&&(!false||Nat.ble 1 1))=true):
  bu FA (fl Fz []) 9 24 [aJ a] 4 f141 false (.tuple [bv (bW a),bE (ay a)]):=
 wy [af (aS (h1)),yn h2,af (aV (v:=iv (a.1))),af h3,az h4,vN (an h5 (show(Nat.ble ((0:Nat)+(1:Nat)*(1:Nat)) (aa.raw (Value.int IntKind.u64 (cl a.1))::List.append._f [] PUnit.unit (List.flatten._f [] PUnit.unit)).length&&(!false||Nat.ble (1:Nat) (1:Nat)))=true from(by simp only [aw]<;>exact h6)))] 1711049540382849
def b9 (neg:Bool) (w:List Int):Int:=match neg with |true=> -aj w|false=>aj w
def adJ (neg:Bool) (w:List Int) (h1:(w.length:Int)=0) (h2:(0)=(aY (b9 neg w)).1) (h3:(aY (b9 neg w)).2=([])):
  bu (aR []) (fl vY []) 9 50 [bv neg,bE w] 3 f142 false (aJ (aY (b9 neg w))):=
 wy [cW h1,az h2,az h3] 12417
def adK (neg:Bool) (w:List Int) (h1:¬(w.length:Int)=0) (h2:(w.length:Int)=1) (h3:Int.toNat 0<w.length) (h4:w.getD (Int.toNat 0) 0<=9223372036854775807) (h5:(neg)=true) (h6:(IntKind.wrap IntKind.i64 (0-IntKind.wrap IntKind.i64 (w.getD (Int.toNat 0) 0)))=(aY (b9 neg w)).1) (h7:(aY (b9 neg w)).2=([])):
  bu (aR []) (fl vY []) 9 50 [bv neg,bE w] 1022 f142 false (aJ (aY (b9 neg w))):=
 wy [yn h1,af (aN (gT.mpr h2)),ah h3,cW h2,af (aN (ax h4)),ah h4,af h5,az h6,az h7] 176517344943146498453938305
def adL (neg:Bool) (w:List Int) (h1:¬(w.length:Int)=0) (h2:(w.length:Int)=1) (h3:Int.toNat 0<w.length) (h4:w.getD (Int.toNat 0) 0<=9223372036854775807) (h5:(neg)=false) (h6:(IntKind.wrap IntKind.i64 (w.getD (Int.toNat 0) 0))=(aY (b9 neg w)).1) (h7:(aY (b9 neg w)).2=([])):
  bu (aR []) (fl vY []) 9 50 [bv neg,bE w] 65278 f142 false (aJ (aY (b9 neg w))):=
 wy [yn h1,af (aN (gT.mpr h2)),ah h3,cW h2,af (aN (ax h4)),ah h4,af h5,az h6,az h7] 49685215221999092210630363047398624731265
def M1 (neg:Bool) (w:List Int) (h1:¬(w.length:Int)=0) (h2:(w.length:Int)=1) (h3:Int.toNat 0<w.length) (h4:¬w.getD (Int.toNat 0) 0<=9223372036854775807) (h5:(neg)=true) (h6:(-1:Int)=(aY (b9 neg w)).1) (h7:(w)=(aY (b9 neg w)).2) (h8:1<=(aY (b9 neg w)).2.length):
  bu (aR []) (fl vY []) 9 50 [bv neg,bE w] 114238 f142 false (aJ (aY (b9 neg w))):=
 wy [yn h1,af (aN (gT.mpr h2)),ah h3,cW h2,af (aN (ab h4)),aA h4,af h5,az h6,az h7,af (fo h8)] 55221595208755305796440247856831230124161
def M2 (neg:Bool) (w:List Int) (h1:¬(w.length:Int)=0) (h2:(w.length:Int)=1) (h3:Int.toNat 0<w.length) (h4:¬w.getD (Int.toNat 0) 0<=9223372036854775807) (h5:(neg)=false) (h6:(1)=(aY (b9 neg w)).1) (h7:(w)=(aY (b9 neg w)).2) (h8:1<=(aY (b9 neg w)).2.length):
  bu (aR []) (fl vY []) 9 50 [bv neg,bE w] 81470 f142 false (aJ (aY (b9 neg w))):=
 wy [yn h1,af (aN (gT.mpr h2)),ah h3,cW h2,af (aN (ab h4)),aA h4,af h5,az h6,az h7,af (fo h8)] 55221595208755305796440247856831230124161
def adM (neg:Bool) (w:List Int) (h1:¬(w.length:Int)=0) (h2:¬(w.length:Int)=1) (h3:(neg)=true) (h4:(-1:Int)=(aY (b9 neg w)).1) (h5:(w)=(aY (b9 neg w)).2) (h6:1<=(aY (b9 neg w)).2.length):
  bu (aR []) (fl vY []) 9 50 [bv neg,bE w] 98304 f142 false (aJ (aY (b9 neg w))):=
 wy [yn h1,af (aN (fF.mpr h2)),yn h2,af h3,az h4,az h5,af (fo h6)] 2302454583503482069828190673051777
def adN (neg:Bool) (w:List Int) (h1:¬(w.length:Int)=0) (h2:¬(w.length:Int)=1) (h3:(neg)=false) (h4:(1)=(aY (b9 neg w)).1) (h5:(w)=(aY (b9 neg w)).2) (h6:1<=(aY (b9 neg w)).2.length):
  bu (aR []) (fl vY []) 9 50 [bv neg,bE w] 65536 f142 false (aJ (aY (b9 neg w))):=
 wy [yn h1,af (aN (fF.mpr h2)),yn h2,af h3,az h4,az h5,af (fo h6)] 2302454583503482069828190673051777
noncomputable def CE:bp:={f:=141,ps:=[dR],rs:=[.bool, .list false aD],fresh:=false,pre:=fun d=>aH d.1,fn:=fun d=>(bW d.1,ay d.1,())}
noncomputable def KM:bp:={f:=142,ps:=[.bool, .list false aD],rs:=[dR],fresh:=false,pre:=fun d=>gL d.2.1&&jC d.2.1,fn:=fun d=>(aY (b9 d.1 d.2.1),())}
def v7 {x:Int} (h: -9223372036854775808<=x/\x<=9223372036854775807):IntKind.wrap .i64 x=x:=QI (br h)
def adO (n:Int) (h:gA n=true):Holds prog true 140 [iv n] (cr (cl n)):=by
 have h:=qJ.1 h;refine bL (c:=KK) func140 rfl rfl fun w F=> ?_
 by_cases hn:n<0
 .refine bx bc 9 (adE n hn ?_);unfold cl;by_cases hm:n= -9223372036854775808
  .subst hm;rfl
  .rw [v7 (by omega),fC (by omega)];omega
 .refine bx bc 9 (adF n hn ?_);unfold cl;rw [fC (by omega)];omega
def RW:KL.Ok prog:=fun⟨n,_⟩ h=>adO n h
def KN:bD prog (bG FA):=tV RW
def adP (a:aW) (h:aH a=true):Holds prog false 141 [aJ a] (.tuple [bv (bW a),bE (ay a)]):=by
 refine bL (c:=Fz) func141 rfl rfl fun w F=> ?_
 by_cases hs:a.2=[]
 .have h:=(nC hs).symm.trans h;by_cases h0:a.1=0
  .refine bx KN 9 (adH a (dm.2 hs) h0 ?_ ?_)
   .unfold bW;rw [h0];rfl
   .unfold ay;rw [if_pos hs,if_pos h0]
  .refine bx KN 9 (adI a (dm.2 hs) h0 h rfl ?_ rfl);unfold ay;rw [if_pos hs,if_neg h0]
 .refine bx KN 9 (adG a (rS.2 hs) rfl ?_);unfold ay;rw [if_neg hs]
def FB:CE.Ok prog:=fun⟨a,_⟩ h=>adP a h
def KO (neg:Bool) {w:List Int} (hw:aT 18446744073709551616 w):((b9 neg w).natAbs:Int)=aj w:=by
 have:=fO (b:=18446744073709551616) (by decide) hw;unfold b9 aj;cases neg<;>simp only<;>omega
def RX {neg:Bool} {w:List Int} (hw:aT 18446744073709551616 w) (ht:eX w) (h:9223372036854775807<aj w):aY (b9 neg w)=(if neg then-1 else 1,w):=by
 have ha:=KO neg hw;have hd:cM 18446744073709551616 ((b9 neg w).natAbs:Int)=w:=by rw [ha];exact(qE (by decide) hw ht rfl).symm
 unfold aY;rw [hd];unfold b9 at ha ⊢;cases neg
 .simp only at ha ⊢;rw [if_neg (by omega),if_neg (by omega)];rfl
 .simp only at ha ⊢;rw [if_neg (by omega),if_pos (by omega)];rfl
def rT {z:Int} (h: -9223372036854775807<=z/\z<=9223372036854775807):aY z=(z,[]):=by unfold aY;rw [if_pos h]
def adQ (neg:Bool) (w:List Int) (h1:aT 18446744073709551616 w) (h2:eX w):Holds prog false 142 [bv neg,bE w] (aJ (aY (b9 neg w))):=by
 refine bL (c:=vY) func142 rfl rfl fun w0 F=> ?_
 cases w with
 |nil=>
  have e:aY (b9 neg [])=(0,[]):=by
   have:b9 neg []=0:=by cases neg<;>rfl
   rw [this];exact rT (by decide)
  exact bx bc 9 (adJ neg [] rfl (by rw [e]) (by rw [e]))
 |cons x l=>
  have hx:=h1.head;have hne:¬((x::l).length:Int)=0:=by simp;omega
  cases l with
  |nil=>
   have hv:aj [x]=x:=Ae x;by_cases hs:x<=9223372036854775807
   .cases neg with
    |true=>
     have e:aY (b9 true [x])=(-x,[]):=by
      show aY (-aj [x])=_;rw [hv];exact rT (by omega)
     refine bx bc 9 (adK true [x] hne rfl (by simp) hs rfl ?_ (by rw [e]));rw [e];show IntKind.wrap .i64 (0-IntKind.wrap .i64 x)= -x;rw [v7 (x:=x) (by omega),v7 (by omega)];omega
    |false=>
     have e:aY (b9 false [x])=(x,[]):=by
      show aY (aj [x])=_;rw [hv];exact rT (by omega)
     refine bx bc 9 (adL false [x] hne rfl (by simp) hs rfl ?_ (by rw [e]));rw [e];exact v7 (x:=x) (by omega)
   .have e:=RX (neg:=neg) h1 h2 (by omega);cases neg with
    |true=>exact bx bc 9 (M1 true [x] hne rfl (by simp) hs rfl (by rw [e];rfl) (by rw [e]) (by rw [e];simp))
    |false=>exact bx bc 9 (M2 false [x] hne rfl (by simp) hs rfl (by rw [e];rfl) (by rw [e]) (by rw [e];simp))
  |cons y l=>
   have hbig:9223372036854775807<aj (x::y::l):=by
    have h3:=tl (b:=18446744073709551616) (by decide) h1 h2 (k:=l.length+1) (by simp);have h4:=iQ (b:=18446744073709551616) (by decide) (show 1<=l.length+1 by omega);rw [Int.pow_one]at h4;unfold aj;omega
   have e:=RX (neg:=neg) h1 h2 hbig;have nr:¬((x::y::l).length:Int)=1:=by simp;omega
   cases neg with
   |true=>exact bx bc 9 (adM true _ hne nr rfl (by rw [e];rfl) (by rw [e]) (by rw [e];simp))
   |false=>exact bx bc 9 (adN false _ hne nr rfl (by rw [e];rfl) (by rw [e]) (by rw [e];simp))
def RY:KM.Ok prog:=fun⟨neg,w,_⟩ h=>by
 have h:(gL w&&jC w)=true:=h;rw [ae]at h;exact adQ neg w (cp.1 h.1) (qG.1 h.2)
noncomputable def FC:Code:=(f147.body).getD .skip
noncomputable def KP:Code:=(f170.body).getD .skip
noncomputable def RZ:Code:=(f128.body).getD .skip
noncomputable def tY:Code:=(f82.body).getD .skip
noncomputable def R1:Code:=(f150.body).getD .skip
noncomputable def tZ:Code:=(f81.body).getD .skip
noncomputable def Ah:Code:=(f93.body).getD .skip
noncomputable def kr:bI:=aR [CE,KM,RJ,RL,KE,RS,Ft,KL]
abbrev qK (a:aW):fG:= .blk (.cells 83 [iv a.1, .bh true aD a.2] true false false)
abbrev b0:fG:= .blk (.cells 83 [iv 0, .raw (.slice none 0 0)] true false false)
abbrev s3:Sv.Ren:=[(64,64,none),(65,65,none),(66,66,none)]
def j0 (a b:aW) (n:Nat):bC:={n:=n,sl:=[(2, .ptr 64 0),(3, .ptr 65 0),(4, .ptr 66 0)],bF:=[(64,qK a),(65,qK b),(66,b0)],next:=67}
def adR (a:aW) (h1:a.2.isEmpty=true) (h2:¬a.1= -9223372036854775808) (h3:(IntKind.wrap IntKind.i64 (0-a.1))=(-a.1)):
  bu kr (fl FC []) 9 26 [aJ a] 63 f147 false (aJ (-a.1,[])):=
 wy [af (aN (aN (h1))),af (aN (h1)),af (e7.mpr h2),az h3] 4345827393
def adS (a:aW) (h1:a.2.isEmpty=true) (h2:a.1= -9223372036854775808) (h3:(aH a)=true) (h4:(gL (ay a)&&jC (ay a))=true):
  bu kr (fl FC []) 9 26 [aJ a] 47 f147 false (aJ (aY (b9 (!bW a) (ay a)))):=
 wy [af (aN (aN (h1))),af (aN (h1)),af (gu.mpr h2),af h3,af h4] 347943211073
def adT (a:aW) (h1:a.2.isEmpty=false) (h2:(aH a)=true) (h3:(gL (ay a)&&jC (ay a))=true):
  bu kr (fl FC []) 9 26 [aJ a] 32 f147 false (aJ (aY (b9 (!bW a) (ay a)))):=
 wy [af (aN (aN (h1))),af (aN (h1)),af h2,af h3] 278099660865
def adU (a:aW) (h1:(if(if a.1<1 then a.1 else 1)> -1 then if a.1<1 then a.1 else 1 else(-1:Int))=(kY a.1)):
  bu (aR []) (fl RZ []) 9 7 [aJ a] 1 f128 true (iv (kY a.1)):=
 wy [az h1] 1
def adV (a b:aW) (h1:a.2.isEmpty=true) (h2:b.2.isEmpty=true) (h3:i6 (a.1+b.1)) (h4:decide (a.1+b.1>a.1)=decide (b.1>0)):
  bu kr (fl tY []) 3 67 [aJ a,aJ b] 127 f82 false (aJ (a.1+b.1,[])):=
 wy [af (aN (aN (h1))),af (aN (h1)),af (aN (h2)),yi h3,cW h4] 347943211073
def adW (a b:aW) (h1:a.2.isEmpty=false):
  cO kr (fl tY []) 3 67 [aJ a,aJ b] 32 .normal s3 (j0 a b 67):=
 wy [af (aN (aN (h1))),af (aN (h1))] 528449
def adX (a b:aW) (h1:a.2.isEmpty=true) (h2:b.2.isEmpty=false):
  cO kr (fl tY []) 3 67 [aJ a,aJ b] 47 .normal s3 (j0 a b 67):=
 wy [af (aN (aN (h1))),af (aN (h1)),af (aN (h2))] 50860097
def adY (a b:aW) (h1:a.2.isEmpty=true) (h2:b.2.isEmpty=true) (h3:(fits IntKind.i64 (a.1+b.1))=false) (h4:¬decide (IntKind.wrap IntKind.i64 (a.1+b.1)>a.1)=decide (b.1>0)):
  aC.tI (o4 prog kr (fl tY []) 3 67 [aJ a,aJ b]) (dl 95) (dP prog 67 .normal s3 (j0 a b 67)):=
 aby [af (aN (aN (h1))),af (aN (h1)),af (aN (h2)),af h3,yn h4] 347943211073
def adZ (a b:aW) (h1:(aH a)=true) (h2:(aH b)=true) (h3:bW a=bW b) (h4:(ls (ay a) (ay b))=true) (h5:(gL (vW (ay a) (ay b))&&jC (vW (ay a) (ay b)))=true):
  bH kr ((fl tY []).drop 3) (j0 a b 67) 3 f82 false (aJ (aY (b9 (bW a) (vW (ay a) (ay b))))):=
 wy [af h1,af h2,cW h3,af h4,af h5] 84947073
def ad0 (a b:aW) (h1:(aH a)=true) (h2:(aH b)=true) (h3:¬bW a=bW b) (h4:(mO (ay a) (ay b))=true) (h5:kV (aj (ay a)) (aj (ay b))>=0) (h6:(ls (ay a) (ay b)&&decide (aj (ay b)<=aj (ay a)))=true) (h7:(gL (o8 (ay a) (ay b))&&jC (o8 (ay a) (ay b)))=true):
  bH kr ((fl tY []).drop 3) (j0 a b 67) 6 f82 false (aJ (aY (b9 (bW a) (o8 (ay a) (ay b))))):=
 wy [af h1,af h2,yn h3,af h4,ah h5,af h6,af h7] 487563735169
def ad1 (a b:aW) (h1:(aH a)=true) (h2:(aH b)=true) (h3:¬bW a=bW b) (h4:(mO (ay a) (ay b))=true) (h5:¬kV (aj (ay a)) (aj (ay b))>=0) (h6:(ls (ay b) (ay a)&&decide (aj (ay a)<=aj (ay b)))=true) (h7:(gL (o8 (ay b) (ay a))&&jC (o8 (ay b) (ay a)))=true):
  bH kr ((fl tY []).drop 3) (j0 a b 67) 4 f82 false (aJ (aY (b9 (bW b) (o8 (ay b) (ay a))))):=
 wy [af h1,af h2,yn h3,af h4,aA h5,af h6,af h7] 487563735169
def ad2 (a b:aW) (h1:a.2.isEmpty=true) (h2:b.2.isEmpty=true) (h3:(gA a.1)=true) (h4:(gA b.1)=true) (h5:(kW (cl a.1) (cl b.1))=true) (h6:fA (cl a.1) (cl b.1)=0) (h7:cJ (cl a.1) (cl b.1)<=9223372036854775807) (h8:¬decide (a.1<0)=decide (b.1<0)) (h9:(IntKind.wrap IntKind.i64 (0-IntKind.wrap IntKind.i64 (cJ (cl a.1) (cl b.1))))=(-cJ (cl a.1) (cl b.1))):
  bu kr (fl tZ []) 3 66 [aJ a,aJ b] 2047 f81 false (aJ (-(cJ (cl a.1) (cl b.1)),[])):=
 wy [af (aN (aN (h1))),af (aN (h1)),af (aN (h2)),af (aV (v:=iv (a.1))),af h3,af (aV (v:=iv (b.1))),af h4,af h5,af (aN (gT.mpr h6)),cW h6,ah h7,af (cn (fF.mpr h8)),az h9] 1045037229590394484215400370241
def ad3 (a b:aW) (h1:a.2.isEmpty=true) (h2:b.2.isEmpty=true) (h3:(gA a.1)=true) (h4:(gA b.1)=true) (h5:(kW (cl a.1) (cl b.1))=true) (h6:fA (cl a.1) (cl b.1)=0) (h7:cJ (cl a.1) (cl b.1)<=9223372036854775807) (h8:decide (a.1<0)=decide (b.1<0)) (h9:(IntKind.wrap IntKind.i64 (cJ (cl a.1) (cl b.1)))=(cJ (cl a.1) (cl b.1))):
  bu kr (fl tZ []) 3 66 [aJ a,aJ b] 1535 f81 false (aJ (cJ (cl a.1) (cl b.1),[])):=
 wy [af (aN (aN (h1))),af (aN (h1)),af (aN (h2)),af (aV (v:=iv (a.1))),af h3,af (aV (v:=iv (b.1))),af h4,af h5,af (aN (gT.mpr h6)),cW h6,ah h7,af (cn (gT.mpr h8)),az h9] 1045037229590394484215400370241
def ad4 (a b:aW) (h1:a.2.isEmpty=true) (h2:b.2.isEmpty=true) (h3:(gA a.1)=true) (h4:(gA b.1)=true) (h5:(kW (cl a.1) (cl b.1))=true) (h6:fA (cl a.1) (cl b.1)=0) (h7:¬cJ (cl a.1) (cl b.1)<=9223372036854775807):
  cO kr (fl tZ []) 3 66 [aJ a,aJ b] 767 .normal s3 (j0 a b 66):=
 wy [af (aN (aN (h1))),af (aN (h1)),af (aN (h2)),af (aV (v:=iv (a.1))),af h3,af (aV (v:=iv (b.1))),af h4,af h5,af (aN (gT.mpr h6)),cW h6,aA h7] 215836433533532200539525185
def ad5 (a b:aW) (h1:a.2.isEmpty=true) (h2:b.2.isEmpty=true) (h3:(gA a.1)=true) (h4:(gA b.1)=true) (h5:(kW (cl a.1) (cl b.1))=true) (h6:¬fA (cl a.1) (cl b.1)=0):
  cO kr (fl tZ []) 3 66 [aJ a,aJ b] 543 .normal s3 (j0 a b 66):=
 wy [af (aN (aN (h1))),af (aN (h1)),af (aN (h2)),af (aV (v:=iv (a.1))),af h3,af (aV (v:=iv (b.1))),af h4,af h5,af (aN (fF.mpr h6)),yn h6] 3065489281357465791238209
def ad6 (a b:aW) (h1:a.2.isEmpty=true) (h2:b.2.isEmpty=false):
  cO kr (fl tZ []) 3 66 [aJ a,aJ b] 47 .normal s3 (j0 a b 66):=
 wy [af (aN (aN (h1))),af (aN (h1)),af (aN (h2))] 50860097
def ad7 (a b:aW) (h1:a.2.isEmpty=false):
  cO kr (fl tZ []) 3 66 [aJ a,aJ b] 32 .normal s3 (j0 a b 66):=
 wy [af (aN (aN (h1))),af (aN (h1))] 528449
def ad8 (a b:aW) (h1:(aH a)=true) (h2:(aH b)=true) (h3:(ls (ay a) (ay b))=true) (h4:(gL (pg (ay a) (ay b))&&jC (pg (ay a) (ay b)))=true) (h5:(aY (b9 (!bW a==bW b) (pg (ay a) (ay b)))).1=(aY (b9 (bW a != bW b) (pg (ay a) (ay b)))).1) (h6:(aY (b9 (!bW a==bW b) (pg (ay a) (ay b)))).2=(aY (b9 (bW a != bW b) (pg (ay a) (ay b)))).2):
  bH kr ((fl tZ []).drop 3) (j0 a b 66) 1 f81 false (aJ (aY (b9 (bW a != bW b) (pg (ay a) (ay b))))):=
 wy [af h1,af h2,af h3,af h4,az h5,az h6] 6527398017
noncomputable def x9:bp:={f:=147,ps:=[dR],rs:=[dR],fresh:=false,pre:=fun d=>aH d.1,fn:=fun d=>(eY d.1,())}
noncomputable def v8:bp:={f:=128,ps:=[dR],rs:=[.int .i64],fresh:=true,pre:=fun d=>aH d.1,fn:=fun d=>(fe d.1,())}
noncomputable def ya:bp:={f:=82,ps:=[dR,dR],rs:=[dR],fresh:=false,pre:=fun d=>aH d.1&&aH d.2.1,fn:=fun d=>(dx d.1 d.2.1,())}
noncomputable def Ai:bp:={f:=81,ps:=[dR,dR],rs:=[dR],fresh:=false,pre:=fun d=>aH d.1&&aH d.2.1,fn:=fun d=>(ct d.1 d.2.1,())}
def k3:bD prog (bG kr):=cY (aX FB (aX RY (aX acH (aX acK (aX Ax (aX adC (aX KG (aX RW eA))))))))
def tz {z:Int} (h:0<=z):(gL (cM 18446744073709551616 z)&&jC (cM 18446744073709551616 z))=true:=by
 obtain⟨h1,h2,_⟩:=qD (b:=18446744073709551616) (by decide) h;rw [cp.2 h1,qG.2 h2];rfl
def lA {z:Int} (h:0<=z):aj (cM 18446744073709551616 z)=z:=(qD (b:=18446744073709551616) (by decide) h).2.2
def R2 {a:aW} (h:aH a=true):(gL (ay a)&&jC (ay a))=true:=by
 obtain⟨h1,h2,_⟩:=jD h;rw [cp.2 h1,qG.2 h2];rfl
def FD {a b:aW} (h:aH a=true) (g:aH b=true):ls (ay a) (ay b)=true:=by
 obtain⟨h1,_,_,_,h5⟩:=jD h;obtain⟨g1,_,_,_,g5⟩:=jD g;unfold ls;rw [cp.2 h1,cp.2 g1,ax (show(ay a).length<=400000 by omega),ax (show(ay b).length<=400000 by omega)];rfl
def KQ {a b:aW} (h:aH a=true) (g:aH b=true):mO (ay a) (ay b)=true:=by
 obtain⟨h1,h2,_,_,h5⟩:=jD h;obtain⟨g1,g2,_⟩:=jD g;unfold mO;rw [cp.2 h1,qG.2 h2,cp.2 g1,qG.2 g2,ax (show(ay a).length<=1000000 by omega)];rfl
def yb {a:aW} (h:aH a=true) (hs:a.2=[]): -9223372036854775808<=a.1/\a.1<=9223372036854775807:=qJ.1 ((nC hs).symm.trans h)
def ad9 (a:aW) (h:aH a=true):Holds prog false 147 [aJ a] (aJ (eY a)):=by
 obtain⟨h1,h2,h3,h4,_⟩:=jD h;have e2:aY (b9 (!bW a) (ay a))=eY a:=by
  unfold eY;congr 1;cases hn:bW a
  .have:¬au a<0:=fun hh=>by rw [h4.2 hh]at hn;cases hn
   show-aj (ay a)=_;omega
  .have:=h4.1 hn;show aj (ay a)=_;omega
 refine bL (c:=FC) func147 rfl rfl fun w F=> ?_
 by_cases hs:a.2=[]
 .have hr:=yb h hs;by_cases hm:a.1= -9223372036854775808
  .rw [<-e2];exact bx k3 9 (adS a (dm.2 hs) hm h (R2 h))
  .have e:eY a=(-a.1,[]):=by unfold eY;rw [lN hs];exact rT (by omega)
   rw [e];refine bx k3 9 (adR a (dm.2 hs) hm ?_);rw [v7 (by omega)];omega
 .rw [<-e2];exact bx k3 9 (adT a (rS.2 hs) h (R2 h))
def Aj:x9.Ok prog:=fun⟨a,_⟩ h=>ad9 a h
def aea {a:aW} (h:aH a=true):fe a=kY a.1:=by
 unfold fe;by_cases hs:a.2=[]
 .rw [lN hs]
 .obtain⟨h1,_,_,h4,_⟩:=(pq hs).1 h;have hv:au a=a.1*aj a.2:=by unfold au;rw [if_neg hs]
  rw [hv];rcases h1 with h1|h1<;>rw [h1]
  .rw [KJ (by omega),KJ (by omega)]
  .rw [Fy (by omega),Fy (by omega)]
def aeb (a:aW) (h:aH a=true):Holds prog true 128 [aJ a] (iv (fe a)):=by
 rw [aea h];refine bL (c:=RZ) func128 rfl rfl fun w F=> ?_
 refine bx bc 9 (adU a ?_);unfold kY;split<;>split<;>split<;>(try split)<;>omega
def gd:v8.Ok prog:=fun⟨a,_⟩ h=>aeb a h
def KR (a b:aW) (h:aH a=true) (g:aH b=true) (hn:dx a b=aY (au a+au b)) (w:World) (F:Sv.Env):
  aP prog w F 67 ((fl tY []).drop 3) (j0 a b 67).T (j0 a b 67).H (fy prog false f82 (aJ (dx a b))):=by
 obtain⟨h1,h2,h3,h4,_⟩:=jD h;obtain⟨g1,g2,g3,g4,_⟩:=jD g;rw [hn];by_cases hs:bW a=bW b
 .have e:aY (b9 (bW a) (vW (ay a) (ay b)))=aY (au a+au b):=by
   congr 1;have hv:aj (vW (ay a) (ay b))=aj (ay a)+aj (ay b):=lA (by omega);cases hna:bW a
   .have:¬au a<0:=fun hh=>by rw [h4.2 hh]at hna;cases hna
    have:¬au b<0:=fun hh=>by rw [<-hs,hna]at g4;have:=g4.2 hh;cases this
    show aj _=_;omega
   .have:=h4.1 hna;have:=g4.1 (by rw [<-hs];exact hna);show-aj _=_;omega
  rw [<-e];exact bP (s:=j0 a b 67) k3 (adZ a b h g hs (FD h g) (tz (show 0<=aj (ay a)+aj (ay b) by omega)))
 .have hab:(au a<0/\¬au b<0)\/(¬au a<0/\au b<0):=by
   cases hna:bW a<;>cases hnb:bW b
   .rw [hna,hnb]at hs;exact absurd rfl hs
   .exact .inr ⟨fun hh=>(by rw [h4.2 hh]at hna;cases hna),g4.1 hnb⟩
   .exact .inl ⟨h4.1 hna,fun hh=>(by rw [g4.2 hh]at hnb;cases hnb)⟩
   .rw [hna,hnb]at hs;exact absurd rfl hs
  by_cases hge:kV (aj (ay a)) (aj (ay b))>=0
  .have hle:aj (ay b)<=aj (ay a):=by
    unfold kV at hge;split at hge
    .omega
    .omega
   have hv:aj (o8 (ay a) (ay b))=aj (ay a)-aj (ay b):=lA (by omega);have e:aY (b9 (bW a) (o8 (ay a) (ay b)))=aY (au a+au b):=by
    congr 1;cases hna:bW a
    .have:¬au a<0:=fun hh=>by rw [h4.2 hh]at hna;cases hna
     show aj _=_;omega
    .have:=h4.1 hna;show-aj _=_;omega
   rw [<-e];exact bP (s:=j0 a b 67) k3 (ad0 a b h g hs (KQ h g) hge (by rw [show ls _ _=true from FD h g,Bool.true_and];exact ax hle) (tz (show 0<=aj (ay a)-aj (ay b) by omega)))
  .have hle:aj (ay a)<=aj (ay b):=by
    unfold kV at hge;split at hge
    .omega
    .split at hge<;>omega
   have hv:aj (o8 (ay b) (ay a))=aj (ay b)-aj (ay a):=lA (by omega);have e:aY (b9 (bW b) (o8 (ay b) (ay a)))=aY (au a+au b):=by
    congr 1;cases hnb:bW b
    .have:¬au b<0:=fun hh=>by rw [g4.2 hh]at hnb;cases hnb
     show aj _=_;omega
    .have:=g4.1 hnb;show-aj _=_;omega
   rw [<-e];exact bP (s:=j0 a b 67) k3 (ad1 a b h g hs (KQ h g) hge (by rw [show ls _ _=true from FD g h,Bool.true_and];exact ax hle) (tz (show 0<=aj (ay b)-aj (ay a) by omega)))
def KS {a b:aW} (h:¬(iy a&&(iy b&&gA (a.1+b.1)))=true):dx a b=aY (au a+au b):=by unfold dx;rw [if_neg h]
def aec (a b:aW) (h:aH a=true) (g:aH b=true):Holds prog false 82 [aJ a,aJ b] (aJ (dx a b)):=by
 refine bL (c:=tY) func82 rfl rfl fun w F=> ?_
 by_cases ha:a.2=[]
 .have KT:=yb h ha;by_cases hb:b.2=[]
  .have hrb:=yb g hb;by_cases hf:gA (a.1+b.1)=true
   .have hf':=qJ.1 hf;have e:dx a b=(a.1+b.1,[]):=by unfold dx;rw [dm.2 ha,dm.2 hb,hf];rfl
    rw [e];refine bx k3 3 (adV a b (dm.2 ha) (dm.2 hb) hf' ?_);rw [decide_eq_decide];omega
   .have e:=KS (a:=a) (b:=b) fun hh=>by
     simp only [ae]at hh;exact hf hh.2.2
    have hf':¬(-9223372036854775808<=a.1+b.1/\a.1+b.1<=9223372036854775807):=fun hh=>hf (qJ.2 hh)
    refine aP.abr known mixed k3 3 _ (adY a b (dm.2 ha) (dm.2 hb) ?_ ?_) (by kernel_rfl) (KR a b h g e w F)
    .unfold fits;rw [Bool.and_eq_false_iff];by_cases h0: -9223372036854775808<=a.1+b.1
     .exact .inr (ab fun hh=>hf' ⟨h0,hh⟩)
     .exact .inl (ab h0)
    .rw [decide_eq_decide];have hw:IntKind.wrap .i64 (a.1+b.1)=if a.1+b.1<0 then a.1+b.1+18446744073709551616 else a.1+b.1-18446744073709551616:=by
      have e1:IntKind.signed .i64=true:=rfl;have e2:IntKind.bits .i64=64:=rfl;unfold IntKind.wrap;simp only [e1,e2,Bool.true_and];rw [show(2:Int)^64=18446744073709551616 from rfl];split<;>split<;>simp_all<;>omega
     rw [hw];split<;>omega
  .exact aP.to known mixed k3 3 _ (adX a b (dm.2 ha) (rS.2 hb)) (by kernel_rfl) (KR a b h g (KS fun hh=>by
    simp only [ae]at hh;exact hb (dm.1 hh.2.1)) w F)
 .exact aP.to known mixed k3 3 _ (adW a b (rS.2 ha)) (by kernel_rfl) (KR a b h g (KS fun hh=>by
    simp only [ae]at hh;exact ha (dm.1 hh.1)) w F)
def Ak:ya.Ok prog:=fun⟨a,b,_⟩ h=>by
 have h:(aH a&&aH b)=true:=h;rw [ae]at h;exact aec a b h.1 h.2
def R3 {x y:Int} {n m:Bool} (hn:n=true↔x<0) (hm:m=true↔y<0) {p:Int} (hp:p=x.natAbs*y.natAbs):(match(n != m)with |true=> -p|false=>p)=x*y:=by
 have e:(p:Int)=((x*y).natAbs:Int):=by rw [hp,Int.natAbs_mul];simp
 cases n<;>cases m<;>simp only [Bool.false_eq_true,false_iff,true_iff,Int.not_lt]at hn hm
 .have:=Int.mul_nonneg hn hm;show p=_;omega
 .have:=Int.mul_nonneg hn (show 0<= -y by omega);rw [Int.mul_neg]at this;show-p=_;omega
 .have:=Int.mul_nonneg (show 0<= -x by omega) hm;rw [Int.neg_mul]at this;show-p=_;omega
 .have:=Int.mul_nonneg (show 0<= -x by omega) (show 0<= -y by omega);rw [Int.neg_mul,Int.mul_neg,Int.neg_neg]at this;show p=_;omega
def FE (a b:aW) (h:aH a=true) (g:aH b=true) (w:World) (F:Sv.Env):
  aP prog w F 66 ((fl tZ []).drop 3) (j0 a b 66).T (j0 a b 66).H (fy prog false f81 (aJ (ct a b))):=by
 obtain⟨h1,h2,h3,h4,_⟩:=jD h;obtain⟨g1,g2,g3,g4,_⟩:=jD g;have hp:0<=aj (ay a)*aj (ay b):=Int.mul_nonneg (by omega) (by omega);have e:aY (b9 (bW a != bW b) (pg (ay a) (ay b)))=ct a b:=by
  unfold ct b9;have hv:aj (pg (ay a) (ay b))=aj (ay a)*aj (ay b):=lA hp;rw [hv,h3,g3];exact congrArg aY (R3 h4 g4 rfl)
 rw [<-e];exact bP (s:=j0 a b 66) k3 (ad8 a b h g (FD h g) (tz hp) rfl rfl)
def aed (a b:aW) (h:aH a=true) (g:aH b=true):Holds prog false 81 [aJ a,aJ b] (aJ (ct a b)):=by
 refine bL (c:=tZ) func81 rfl rfl fun w F=> ?_
 by_cases ha:a.2=[]
 .have KT:=yb h ha;by_cases hb:b.2=[]
  .have hrb:=yb g hb;have FF:=qJ.2 KT;have FG:=qJ.2 hrb;have hm:kW (cl a.1) (cl b.1)=true:=CC.2 (by unfold cl;omega);by_cases hhi:fA (cl a.1) (cl b.1)=0
   .by_cases hlo:cJ (cl a.1) (cl b.1)<=9223372036854775807
    .have hlo0:0<=cJ (cl a.1) (cl b.1):=eG _ (by decide);have hp:cJ (cl a.1) (cl b.1)=a.1.natAbs*b.1.natAbs:=by
      have:=Int.emod_add_mul_ediv (cl a.1*cl b.1) 18446744073709551616;unfold fA at hhi;rw [hhi]at this;unfold cJ;show _=cl a.1*cl b.1;omega
     have kP:=R3 (n:=decide (a.1<0)) (m:=decide (b.1<0)) (by simp) (by simp) hp;have hval:ct a b=aY (a.1*b.1):=by unfold ct;rw [lN ha,lN hb]
     by_cases oq:decide (a.1<0)=decide (b.1<0)
     .have e:ct a b=(cJ (cl a.1) (cl b.1),[]):=by
       rw [oq,bne_self_eq_false]at kP;have kP:cJ (cl a.1) (cl b.1)=a.1*b.1:=kP;rw [hval,<-kP];exact rT (by omega)
      rw [e];exact bx k3 3 (ad3 a b (dm.2 ha) (dm.2 hb) FF FG hm hhi hlo oq (v7 (by omega)))
     .have e:ct a b=(-cJ (cl a.1) (cl b.1),[]):=by
       rw [show(decide (a.1<0) != decide (b.1<0))=true from e7.2 oq]at kP;have kP: -cJ (cl a.1) (cl b.1)=a.1*b.1:=kP;rw [hval,<-kP];exact rT (by omega)
      rw [e];refine bx k3 3 (ad2 a b (dm.2 ha) (dm.2 hb) FF FG hm hhi hlo oq ?_);rw [v7 (x:=cJ (cl a.1) (cl b.1)) (by omega),v7 (by omega)];omega
    .exact cC k3 3 (ad4 a b (dm.2 ha) (dm.2 hb) FF FG hm hhi hlo) (FE a b h g w F)
   .exact cC k3 3 (ad5 a b (dm.2 ha) (dm.2 hb) FF FG hm hhi) (FE a b h g w F)
  .exact cC k3 3 (ad6 a b (dm.2 ha) (rS.2 hb)) (FE a b h g w F)
 .exact cC k3 3 (ad7 a b (rS.2 ha)) (FE a b h g w F)
def CF:Ai.Ok prog:=fun⟨a,b,_⟩ h=>by
 have h:(aH a&&aH b)=true:=h;rw [ae]at h;exact aed a b h.1 h.2
noncomputable def FH:bI:=aR [ya,x9,v8]
noncomputable def FI:bp:={f:=150,ps:=[dR,dR],rs:=[dR],fresh:=false,pre:=fun d=>aH d.1&&aH d.2.1,fn:=fun d=>(kq d.1 d.2.1,())}
noncomputable def R4:bp:={f:=170,ps:=[dR],rs:=[dR],fresh:=false,pre:=fun d=>aH d.1,fn:=fun d=>(pn d.1,())}
noncomputable def KU:bp:={f:=93,ps:=[dR,dR],rs:=[.int .i64],fresh:=true,pre:=fun d=>bK 50000 d.1&&bK 50000 d.2.1,fn:=fun d=>(AC d.1 d.2.1,())}
noncomputable def Al:bI:=aR [FI,v8]
def aee (a b:aW) (h1:(aH b)=true) (h2:(aH a&&aH (eY b))=true):
  bu FH (fl R1 []) 9 (f150.ntmps) [aJ a,aJ b] 1 f150 false (aJ (dx a (eY b))):=
 wy [af (aV (v:=aJ a)),af (aV (v:=aJ b)),af h1,af h2] 67383425
def Rd (a:aW) (h1:a.1<0) (h2:(aH a)=true):
  bu FH (fl KP []) 9 (f170.ntmps) [aJ a] 3 f170 false (aJ (eY a)):=
 wy [ah h1,af h2] 129
def aef (a:aW) (h1:¬a.1<0):
  bu FH (fl KP []) 9 (f170.ntmps) [aJ a] 2 f170 false (aJ a):=
 wy [aA h1] 1
def aeg (a b:aW) (h1:a.2.isEmpty=true) (h2:b.2.isEmpty=true) (h3:a.1<b.1):
  bu Al (fl Ah []) 9 29 [aJ a,aJ b] 127 f93 true (iv (-1)):=
 wy [af (aN (aN (h1))),af (aN (h1)),af (aN (h2)),ah h3] 4345827393
def aeh (a b:aW) (h1:a.2.isEmpty=true) (h2:b.2.isEmpty=true) (h3:¬a.1<b.1) (h4:a.1>b.1):
  bu Al (fl Ah []) 9 29 [aJ a,aJ b] 223 f93 true (iv 1):=
 wy [af (aN (aN (h1))),af (aN (h1)),af (aN (h2)),aA h3,ah h4] 347943211073
def aei (a b:aW) (h1:a.2.isEmpty=true) (h2:b.2.isEmpty=true) (h3:¬a.1<b.1) (h4:¬a.1>b.1):
  bu Al (fl Ah []) 9 29 [aJ a,aJ b] 159 f93 true (iv 0):=
 wy [af (aN (aN (h1))),af (aN (h1)),af (aN (h2)),aA h3,aA h4] 347943211073
def aej (a b:aW) (h1:a.2.isEmpty=true) (h2:b.2.isEmpty=false) (h3:(aH a&&aH b)=true) (h4:(aH (kq a b))=true):
  bu Al (fl Ah []) 9 29 [aJ a,aJ b] 47 f93 true (iv (fe (kq a b))):=
 wy [af (aN (aN (h1))),af (aN (h1)),af (aN (h2)),af h3,af h4] 347943211073
def aek (a b:aW) (h1:a.2.isEmpty=false) (h2:(aH a&&aH b)=true) (h3:(aH (kq a b))=true):
  bu Al (fl Ah []) 9 29 [aJ a,aJ b] 32 f93 true (iv (fe (kq a b))):=
 wy [af (aN (aN (h1))),af (aN (h1)),af h2,af h3] 278099660865
def iz {n m:Nat} {a:aW} (hnm:n<=m) (h:bK n a=true):bK m a=true:=by
 by_cases hs:a.2=[]
 .rw [nC hs]at h ⊢;exact h
 .obtain⟨h1,h2,h3,h4,h5⟩:=(pq hs).1 h;exact(pq hs).2 ⟨h1,h2,h3,h4,by omega⟩
def pz {n:Nat} {a:aW} (h:bK n a=true) (hn:1<=n):bK n (eY a)=true:=by
 have:=d8 h hn;exact(kZ (by omega)).1
def fg (a:aW):au (eY a)= -au a:=val_mk _
def val_sub (a b:aW):au (kq a b)=au a-au b:=by unfold kq;rw [Ag,fg];omega
def ku (a b:aW):au (ct a b)=au a*au b:=val_mk _
def FJ (a:aW):au (pn a)=(au a).natAbs:=val_mk _
def KV:bD prog (bG FH):=cY (aX Ak (aX Aj (aX gd eA)))
def ael (a b:aW) (h:aH a=true) (g:aH b=true):Holds prog false 150 [aJ a,aJ b] (aJ (kq a b)):=by
 refine bL (c:=R1) func150 rfl rfl fun w F=> ?_
 have gn:aH (eY b)=true:=pz g (by decide);exact bx KV 9 (aee a b g (by rw [show aH (a.1,a.2)=true from h,Bool.true_and];exact gn))
def KW:FI.Ok prog:=fun⟨a,b,_⟩ h=>by
 have h:(aH a&&aH b)=true:=h;rw [ae]at h;exact ael a b h.1 h.2
def R5 {n:Nat} {a:aW} (h:bK n a=true):a.1<0↔au a<0:=by
 obtain⟨_,_,_,h4,_⟩:=jD h;rw [<-h4];unfold bW;rw [bB]
def aem (a:aW) (h:aH a=true):Holds prog false 170 [aJ a] (aJ (pn a)):=by
 refine bL (c:=KP) func170 rfl rfl fun w F=> ?_
 by_cases hn:a.1<0
 .have hv:=(R5 h).1 hn;have e:eY a=pn a:=by unfold eY pn;congr 1;omega
  rw [<-e];exact bx KV 9 (Rd a hn h)
 .have hv:¬au a<0:=fun hh=>hn ((R5 h).2 hh)
  have e:a=pn a:=by
   have:=Fx h (by omega);unfold pn;rw [show((au a).natAbs:Int)=au a by omega];exact this
  have:=aP.ret (P:=prog) (w0:=w) (F:=F) (X:=oZ) known mixed KV 9 _ (aef a hn) fun T H h=>h
  rw [<-e];exact this
def aen:R4.Ok prog:=fun⟨a,_⟩ h=>aem a h
def CG:bD prog (bG Al):=cY (aX KW (aX gd eA))
def aeo:(2:Int)*18446744073709551616^50000<=18446744073709551616^100000:=by
 have h:=iQ (b:=18446744073709551616) (by decide) (show 50001<=100000 by decide);rw [show 50001=50000+1 from rfl,Int.pow_succ]at h;have:=dK (b:=18446744073709551616) (by decide) 50000;generalize (18446744073709551616:Int)^50000=p at*;generalize (18446744073709551616:Int)^100000=q at*;omega
def aep {a b:aW} (h:bK 50000 a=true) (g:bK 50000 b=true):aH (kq a b)=true:=by
 have h1:=d8 h (by decide);have g1:=d8 g (by decide);have h2:=aeo;refine CD ?_;rw [fg];generalize (18446744073709551616:Int)^50000=p at*;generalize (18446744073709551616:Int)^100000=q at*;omega
def aeq (a b:aW) (h:bK 50000 a=true) (g:bK 50000 b=true):Holds prog true 93 [aJ a,aJ b] (iv (AC a b)):=by
 have ho:=aep h g;have hs:fe (kq a b)=AC a b:=by unfold fe AC;rw [val_sub]
 have h':=iz (show 50000<=100000 by decide) h;have g':=iz (show 50000<=100000 by decide) g;have hh:(aH (a.1,a.2)&&aH (b.1,b.2))=true:=by
  rw [show aH (a.1,a.2)=true from h',show aH (b.1,b.2)=true from g'];rfl
 refine bL (c:=Ah) func93 rfl rfl fun w F=> ?_
 by_cases ha:a.2=[]
 .by_cases hb:b.2=[]
  .have e:AC a b=kY (a.1-b.1):=by unfold AC;rw [lN ha,lN hb]
   rw [e];by_cases h1:a.1<b.1
   .rw [Fy (by omega)];exact bx CG 9 (aeg a b (dm.2 ha) (dm.2 hb) h1)
   .by_cases h2:a.1>b.1
    .rw [KJ (by omega)];exact bx CG 9 (aeh a b (dm.2 ha) (dm.2 hb) h1 h2)
    .rw [show a.1-b.1=0 by omega,adD];exact bx CG 9 (aei a b (dm.2 ha) (dm.2 hb) h1 h2)
  .rw [<-hs];exact bx CG 9 (aej a b (dm.2 ha) (rS.2 hb) hh ho)
 .rw [<-hs];exact bx CG 9 (aek a b (rS.2 ha) hh ho)
def R6:KU.Ok prog:=fun⟨a,b,_⟩ h=>by
 have h:(bK 50000 a&&bK 50000 b)=true:=h;rw [ae]at h;exact aeq a b h.1 h.2
end
end Go.Proofs.YtibikmmdbdlafaaGreatDoor
namespace Go.Proofs.YtibikmmdbdlafaaGreatDoor
def fI (b:Int):Nat->Int->List Int
 |0,_=>[]
 |m+1,z=>z%b::fI b m (z/b)
def yc (b:Int):∀(m:Nat) (z:Int),(fI b m z).length=m
 |0,_=>rfl
 |m+1,z=>by rw [fI,List.length_cons,yc b m]
def CI {b:Int} (hb:0<b):∀(m:Nat) (z:Int),aT b (fI b m z)
 |0,_=> .nil
 |m+1,z=> .cons ⟨eG _ (by omega),e6 _ hb⟩ (CI hb m _)
def CJ {b:Int} (hb:0<b):∀(m:Nat) (z:Int),0<=z->z<b^m->vl b (fI b m z)=z
 |0,z,h0,h1=>by simp at h1;simp [fI,vl];omega
 |m+1,z,h0,h1=>by
  have h2:z/b<b^m:=Int.ediv_lt_of_lt_mul hb (by rw [Int.pow_succ]at h1;exact h1);have h3:=CJ hb m (z/b) (Int.ediv_nonneg h0 (cm hb)) h2;show z%b+b*vl b (fI b m (z/b))=z;rw [h3];exact Int.emod_add_mul_ediv z b
def KX {b:Int} (hb:1<b) {l:List Int} (h:aT b l):l=fI b l.length (vl b l):=by
 have hb0:0<b:=by omega
 exact KA hb h (CI hb0 _ _) (yc b _ _).symm (CJ hb0 _ _ (fO hb0 h) (fP hb0 h)).symm
def KY {b:Int} {u v:List Int} {n:Nat} (hb:2<=b) (hu:aT b u) (hv:aT b v) (bE:u.length=n+3) (lv:v.length=n+2) (h1:1<=v.getD (n+1) 0):
  z8 b (v.getD (n+1) 0) (v.getD n 0) (vl b (v.take n)) (u.getD (n+2) 0) (u.getD (n+1) 0) (u.getD n 0) (vl b (u.take n)) (b^n):=by
 have hb0:0<b:=by omega
 have hp:=dK hb0 n;have l1:=fP hb0 (hv.take n);have l2:=fP hb0 (hu.take n);rw [ei,Nat.min_eq_left (by omega)]at l1 l2;exact⟨hb,hp,⟨h1,(hv.get hb0 _).2⟩,hv.get hb0 _,⟨fO hb0 (hv.take n),l1⟩,hu.get hb0 _,hu.get hb0 _,hu.get hb0 _,⟨fO hb0 (hu.take n),l2⟩⟩
def KZ {b:Int} {v:List Int} {n:Nat} (lv:v.length=n+2):gy b (v.getD (n+1) 0) (v.getD n 0) (vl b (v.take n)) (b^n)=vl b v:=by
 have h1:=dq (b:=b) (l:=v) (k:=n+1) (by omega);have h2:=dq (b:=b) (l:=v) (k:=n) (by omega);rw [eF (by omega)]at h1;rw [h1,h2];unfold gy;rw [Int.add_mul,Int.pow_succ,Int.mul_comm (v.getD (n+1) 0) b,Int.mul_assoc,Int.mul_comm (v.getD (n+1) 0),Int.mul_comm (v.getD n 0),<-Int.mul_assoc,Int.mul_comm b];omega
def K0 {b:Int} {u:List Int} {n:Nat} (bE:u.length=n+3):ny b (u.getD (n+2) 0) (u.getD (n+1) 0) (u.getD n 0) (vl b (u.take n)) (b^n)=vl b u:=by
 have h0:=dq (b:=b) (l:=u) (k:=n+2) (by omega);have h1:=dq (b:=b) (l:=u) (k:=n+1) (by omega);have h2:=dq (b:=b) (l:=u) (k:=n) (by omega);rw [eF (by omega)]at h0;rw [h0,h1,h2];unfold ny;simp only [Int.pow_succ];generalize u.getD (n+2) 0=x;generalize u.getD (n+1) 0=y;generalize u.getD n 0=z;generalize b^n=P;clear h0 h1 h2 bE;generalize vl b (u.take n)=V;grind
def kd {U V t:Int} (hV:0<V) (h1:0<=U-t*V) (h2:U-t*V<V):U/V=t/\U%V=U-t*V:=by
 have h3:U=(U-t*V)+t*V:=by omega
 have hq:U/V=t:=by
  rw [h3,Int.add_mul_ediv_right _ _ (by omega),Int.ediv_eq_zero_of_lt h1 h2];omega
 refine⟨hq, ?_⟩;have:=Int.emod_add_mul_ediv U V;rw [hq,Int.mul_comm]at this;omega
def aer {B P lo c' c t v u u' rU bo X O W:Int} (h1:c'*B+lo=t*v+c) (h2:u'-B*rU=u-lo-bo) (hi:O-P*bo=X-t*W+P*c):
  O+P*u'-P*B*rU=X+P*u-t*(W+P*v)+P*B*c':=by
 grind
section
open Go.RowKit Sv Go.Proofs.Tryz
def eN (a b:Int):Int:=IntKind.wrap .u64 (((BitVec.ofInt 64 a|||BitVec.ofInt 64 b).toNat:Nat):Int)
def K1 {a b:Int} {s:Nat} (hs:s<=64) (ha:0<=a/\a<2^s) {c:Int} (hc:0<=c) (hb:b=2^s*c) (kO:b<18446744073709551616):eN a b=a+b:=by
 obtain⟨A,rfl⟩:∃A:Nat,a=(A:Int):=⟨a.toNat,by omega⟩;obtain⟨C,rfl⟩:∃C:Nat,c=(C:Int):=⟨c.toNat,by omega⟩;have hA:A<2^s:=by have:=ha.2;exact_mod_cast this
 have hb':b=((2^s*C:Nat):Int):=by rw [hb];norm_cast
 subst hb';have qL:((2^64:Nat):Int)=18446744073709551616:=rfl;have hB:2^s*C<2^64:=by rw [<-qL]at kO;exact Int.ofNat_lt.1 kO
 have vz:A<2^64:=Nat.lt_of_lt_of_le hA (Nat.pow_le_pow_right (by decide) hs);unfold eN;rw [BitVec.toNat_or,BitVec.ofInt_natCast,BitVec.ofInt_natCast,BitVec.toNat_ofNat,BitVec.toNat_ofNat,Nat.mod_eq_of_lt vz,Nat.mod_eq_of_lt hB];have e:A|||2^s*C=A+2^s*C:=by
  rw [Nat.or_comm,<-Nat.two_pow_add_eq_or_of_lt hA C,Nat.add_comm]
 have hlt:A|||2^s*C<2^64:=Nat.or_lt_two_pow vz hB;rw [e]at hlt ⊢;rw [fC ⟨Int.natCast_nonneg _,by have:(2:Nat)^64=18446744073709551616:=rfl;omega⟩];exact Int.natCast_add _ _
def K2 {x:Int} {s:Nat} (hs:s<=64) (hx:0<=x/\x<18446744073709551616):
  x*2^s%18446744073709551616=2^s*(x%2^(64-s))/\x*2^s=2^s*(x%2^(64-s))+18446744073709551616*(x/2^(64-s))/\(0<=x/2^(64-s)/\x/2^(64-s)<2^s)/\(0<=x%2^(64-s)/\x%2^(64-s)<2^(64-s)):=by
 have hp:(0:Int)<2^(64-s):=dK (by decide) _;have hq:(0:Int)<2^s:=dK (by decide) _;have jz:(2:Int)^s*2^(64-s)=18446744073709551616:=by rw [<-Int.pow_add,show s+(64-s)=64 by omega];rfl
 have hd:=Int.emod_add_mul_ediv x (2^(64-s));have h0:=eG x (show(2:Int)^(64-s)≠0 by omega);have h1:=e6 x hp;have h2:0<=x/2^(64-s):=Int.ediv_nonneg hx.1 (cm hp);have h3:x/2^(64-s)<2^s:=Int.ediv_lt_of_lt_mul hp (by rw [jz];exact hx.2);have e:x*2^s=2^s*(x%2^(64-s))+18446744073709551616*(x/2^(64-s)):=by
  have:2^s*(x%2^(64-s)+2^(64-s)*(x/2^(64-s)))=2^s*x:=by rw [hd]
  rw [Int.mul_add,<-Int.mul_assoc,jz]at this;rw [Int.mul_comm x];omega
 refine⟨?_,e,⟨h2,h3⟩,h0,h1⟩;rw [e,Int.add_mul_emod_self_left];refine Int.emod_eq_of_lt (Int.mul_nonneg (cm hq) h0) ?_;rw [<-jz];exact Int.mul_lt_mul_of_pos_left h1 hq
end
def GE {l:List Int} {k:Nat} (h:k<l.length):l.drop k=l.getD k 0::l.drop (k+1):=by
 rw [hJ h];exact List.drop_eq_getElem_cons h
def ua {b:Int} {l:List Int} {k:Nat} (h:k<l.length):vl b (l.drop k)=l.getD k 0+b*vl b (l.drop (k+1)):=by
 rw [GE h];rfl
def K3 {b:Int} (hb:1<b) {u:List Int} {j n:Nat} (hu:aT b u) (hj:j+n+1<=u.length) {V:Int} (hV:V<=b^n) (h:vl b (u.drop (j+1))<V):
  vl b (u.drop j)=vl b ((u.drop j).take (n+1))/\vl b (u.drop j)<b*V/\vl b (u.drop (j+n+1))=0:=by
 have hb0:0<b:=by omega
 have h1:=ua (b:=b) (l:=u) (k:=j) (by omega);have h2:=hu.get hb0 j;have h3:vl b (u.drop j)<b*V:=by
  have:b*vl b (u.drop (j+1))<=b*(V-1):=eU (by omega) (cm hb0);rw [Int.mul_sub,Int.mul_one]at this;omega
 have h4:vl b (u.drop j)<b^(n+1):=by
  have:b*V<=b*b^n:=eU hV (cm hb0);rw [Int.pow_succ,Int.mul_comm];omega
 have h5:=tp hb0 (hu.drop j) h4;refine⟨h5.symm,h3, ?_⟩;have h6:=rP b (u.drop j) (n+1) (by rw [mW];omega);rw [h5,List.drop_drop]at h6;have h7:b^(n+1)*vl b (u.drop (j+(n+1)))=0:=by omega
 rcases Int.mul_eq_zero.1 h7 with h8|h8
 .have:=dK hb0 (n+1);omega
 .exact h8
def R7 {b:Int} (hb:1<b) {u:List Int} {j n:Nat} (hu:aT b u) (hj:j+n+1<=u.length) {V:Int} (iA:0<V) (hV:V<=b^n) (h:vl b (u.drop (j+1))<V) {u':List Int}
  (FK:u'=u.take j++(fI b (n+1) (vl b ((u.drop j).take (n+1))%V)++u.drop (j+(n+1)))):
  u'.length=u.length/\aT b u'/\vl b u'+b^j*(vl b ((u.drop j).take (n+1))/V)*V=vl b u/\vl b (u'.drop j)<V:=by
 have hb0:0<b:=by omega
 obtain⟨h1,h2,h3⟩:=K3 hb hu hj hV h;generalize hW:vl b ((u.drop j).take (n+1))=W at*;have hm0:=eG W (show V≠0 by omega);have pE:=e6 W iA;have hm2:W%V<b^(n+1):=by
  have:=iQ (show 1<=b by omega) (show n<=n+1 by omega);omega
 have hpv:=CJ hb0 (n+1) (W%V) hm0 hm2;have vP:(u.take j).length=j:=by rw [ei];omega
 have hdj:u'.drop j=fI b (n+1) (W%V)++u.drop (j+(n+1)):=by
  rw [FK,List.drop_append,vP,Nat.sub_self,List.drop_zero,List.drop_eq_nil_of_le (by omega),List.nil_append]
 have aes:u'.take j=u.take j:=by
  rw [FK,List.take_append,vP,Nat.sub_self,List.take_zero,List.append_nil,eF (by omega)]
 have CK:vl b (u'.drop j)=W%V:=by rw [hdj,Ff,hpv,<-Nat.add_assoc,h3,Int.mul_zero,Int.add_zero]
 have hlen:u'.length=u.length:=by
  rw [FK,dU,dU,vP,yc,mW];omega
 refine⟨hlen, ?_, ?_,by rw [CK];exact pE⟩
 .rw [FK];exact(hu.take j).app ((CI hb0 _ _).app (hu.drop _))
 .rw [rP b u' j (by omega),rP b u j (by omega),aes,CK,h1];have e:=Int.emod_add_mul_ediv W V;have e2:b^j*(W%V+V*(W/V))=b^j*W:=by rw [e]
  rw [Int.mul_add]at e2;have e3:b^j*(W/V)*V=b^j*(V*(W/V)):=by rw [Int.mul_assoc,Int.mul_comm (W/V)]
  omega
def K4 {A b V S U q:Int} (hS:0<S) (hb:0<b) (hV:V=b*S) (h:U+V*q=A*S) (h0:0<=U) (h1:U<V):A/b=q/\U=S*(A%b):=by
 have e:U=S*(A-b*q):=by
  rw [Int.mul_sub,Int.mul_comm S A];have:S*(b*q)=V*q:=by rw [hV,<-Int.mul_assoc,Int.mul_comm S b]
  omega
 have g0:0<=A-q*b:=by
  rw [Int.mul_comm q b];refine Int.not_lt.1 fun hn=> ?_
  have:=Int.mul_lt_mul_of_pos_left hn hS;omega
 have g1:A-q*b<b:=by
  rw [Int.mul_comm q b];refine Int.not_le.1 fun hn=> ?_
  have:=eU hn (cm hS);rw [<-e,Int.mul_comm S b,<-hV]at this;omega
 obtain⟨k1,k2⟩:=kd hb g0 g1;exact⟨k1,by rw [e,k2,Int.mul_comm b q]⟩
section
open Go.RowKit Sv Go.Proofs.Tryz
noncomputable section
def dM (x:Int):Int:=64-(Lib.bitLen x.toNat:Int)
def rV (x:Int):Bool:=decide (0<=x)&&decide (x<18446744073709551616)
noncomputable def K5:bp:={f:=224,ps:=[aD],rs:=[.int .i64],fresh:=true,pre:=fun d=>rV d.1,fn:=fun d=>(dM d.1,())}
noncomputable def je:Code:=(f223.body).getD .skip
noncomputable def nD:bI:=aR [K5]
abbrev Am:List Nat:=[1,1,1,1,1,1,1,1,1,1,1,1,1,1,0,0,0]
abbrev An:List Nat:=[1,1,1,1,1,1,1,1,1,1,1,1,1,1,1,1,1,1,0,0,0]
def jf (Y s v1 v2 X c d q r:Int):bC:={n:=135,sl:=[(2,cr Y),(8,cr s),(9,cr v1),(10,cr v2),(11,cr X),(13,cr c),(14,cr d),(15,cr q),(16,cr r)],bF:=[],next:=64}
def jg (Y s v1 v2 d p X q r:Int):bC:={n:=135,sl:=[(2,cr Y),(8,cr s),(9,cr v1),(10,cr v2),(14,cr d),(15,cr p),(17,cr X),(18,cr q),(16,cr r)],bF:=[],next:=64}
theorem aet (hi lo y:Int) (h1:¬y=0) (h2:¬y<=hi) (h3:hi=0) (h4:y≠0) (h5:(IntKind.wrap IntKind.u64 (Int.tdiv lo y))=(lo/y)) (h6:(Int.tmod lo y)=(lo%y)):
  bu nD (fl je []) 9 135 [cr hi,cr lo,cr y] 12 f223 true (.tuple [cr (lo/y),cr (lo%y)]):=
 wy [yn h1,aA h2,cW h3,ah h4,az h5,az h6] 417753739393
theorem aeu (hi lo y Y s v1 v2 X c d q r:Int) (h1:¬y=0) (h2:¬y<=hi) (h3:¬hi=0) (h4:(rV y)=true) (h5:0<=IntKind.wrap IntKind.u64 (dM y)) (h6:0<=IntKind.wrap IntKind.u64 (64-IntKind.wrap IntKind.u64 (dM y))) (h7:Int.fdiv (IntKind.wrap IntKind.u64 (y*(2:Int)^min (IntKind.wrap IntKind.u64 (dM y)).toNat 64)) ((2:Int)^min (Int.toNat 32) 64)≠0) (h8:(IntKind.wrap IntKind.u64 (y*(2:Int)^min (IntKind.wrap IntKind.u64 (dM y)).toNat 64))=(Y)) (h9:(IntKind.wrap IntKind.u64 (dM y))=(s)) (h10:(Int.fdiv (IntKind.wrap IntKind.u64 (y*(2:Int)^min (IntKind.wrap IntKind.u64 (dM y)).toNat 64)) ((2:Int)^min (Int.toNat 32) 64))=(v1)) (h11:(IntKind.wrap IntKind.u64 (↑(BitVec.toNat (BitVec.ofInt 64 (IntKind.wrap IntKind.u64 (y*(2:Int)^min (IntKind.wrap IntKind.u64 (dM y)).toNat 64)) &&& BitVec.ofInt 64 4294967295)):Int))=(v2)) (h12:(IntKind.wrap IntKind.u64 (↑(BitVec.toNat (BitVec.ofInt 64 (IntKind.wrap IntKind.u64 (hi*(2:Int)^min (IntKind.wrap IntKind.u64 (dM y)).toNat 64))|||BitVec.ofInt 64 (Int.fdiv lo ((2:Int)^min (IntKind.wrap IntKind.u64 (64-IntKind.wrap IntKind.u64 (dM y))).toNat 64)))):Int))=(X)) (dG:(Int.fdiv (IntKind.wrap IntKind.u64 (lo*(2:Int)^min (IntKind.wrap IntKind.u64 (dM y)).toNat 64)) ((2:Int)^min (Int.toNat 32) 64))=(c)) (gq:(IntKind.wrap IntKind.u64 (↑(BitVec.toNat (BitVec.ofInt 64 (IntKind.wrap IntKind.u64 (lo*(2:Int)^min (IntKind.wrap IntKind.u64 (dM y)).toNat 64)) &&& BitVec.ofInt 64 4294967295)):Int))=(d)) (iB:(IntKind.wrap IntKind.u64 (Int.tdiv (IntKind.wrap IntKind.u64 (↑(BitVec.toNat (BitVec.ofInt 64 (IntKind.wrap IntKind.u64 (hi*(2:Int)^min (IntKind.wrap IntKind.u64 (dM y)).toNat 64))|||BitVec.ofInt 64 (Int.fdiv lo ((2:Int)^min (IntKind.wrap IntKind.u64 (64-IntKind.wrap IntKind.u64 (dM y))).toNat 64)))):Int)) (Int.fdiv (IntKind.wrap IntKind.u64 (y*(2:Int)^min (IntKind.wrap IntKind.u64 (dM y)).toNat 64)) ((2:Int)^min (Int.toNat 32) 64))))=(q)) (j3:(IntKind.wrap IntKind.u64 (IntKind.wrap IntKind.u64 (↑(BitVec.toNat (BitVec.ofInt 64 (IntKind.wrap IntKind.u64 (hi*(2:Int)^min (IntKind.wrap IntKind.u64 (dM y)).toNat 64))|||BitVec.ofInt 64 (Int.fdiv lo ((2:Int)^min (IntKind.wrap IntKind.u64 (64-IntKind.wrap IntKind.u64 (dM y))).toNat 64)))):Int)-IntKind.wrap IntKind.u64 (IntKind.wrap IntKind.u64 (Int.tdiv (IntKind.wrap IntKind.u64 (↑(BitVec.toNat (BitVec.ofInt 64 (IntKind.wrap IntKind.u64 (hi*(2:Int)^min (IntKind.wrap IntKind.u64 (dM y)).toNat 64))|||BitVec.ofInt 64 (Int.fdiv lo ((2:Int)^min (IntKind.wrap IntKind.u64 (64-IntKind.wrap IntKind.u64 (dM y))).toNat 64)))):Int)) (Int.fdiv (IntKind.wrap IntKind.u64 (y*(2:Int)^min (IntKind.wrap IntKind.u64 (dM y)).toNat 64)) ((2:Int)^min (Int.toNat 32) 64)))*Int.fdiv (IntKind.wrap IntKind.u64 (y*(2:Int)^min (IntKind.wrap IntKind.u64 (dM y)).toNat 64)) ((2:Int)^min (Int.toNat 32) 64))))=(r)):
  cO nD (fl je []) 17 135 [cr hi,cr lo,cr y] 8 .normal [] (jf Y s v1 v2 X c d q r):=
 wy [yn h1,aA h2,yn h3,af h4,ah h5,ah h6,ah h7,az h8,az h9,az h10,az h11,az h12,az dG,az gq,az iB,az j3] 337246810721947665302387067909582977
theorem aev (Y s v1 v2 X c d q r:Int) (h1:q>=4294967296) (h2:IntKind.wrap IntKind.u64 (r+v1)>=4294967296) (h3:(IntKind.wrap IntKind.u64 (q-1))=(q-1)) (h4:(IntKind.wrap IntKind.u64 (r+v1))=(r+v1)):
  bg nD (fl je Am) (jf Y s v1 v2 X c d q r) 3840 (.exit 0) [] (jf Y s v1 v2 X c d (q-1) (r+v1)):=
 wy [af (aS (ax h1)),ah h1,ah h2,az h3,az h4] 105144011385330262937074482297442369
theorem aew (Y s v1 v2 X c d q r:Int) (h1:q>=4294967296) (h2:¬IntKind.wrap IntKind.u64 (r+v1)>=4294967296) (h3:(IntKind.wrap IntKind.u64 (q-1))=(q-1)) (h4:(IntKind.wrap IntKind.u64 (r+v1))=(r+v1)):
  bg nD (fl je Am) (jf Y s v1 v2 X c d q r) 2816 .normal [] (jf Y s v1 v2 X c d (q-1) (r+v1)):=
 wy [af (aS (ax h1)),ah h1,aA h2,az h3,az h4] 105144011385330262937074482297442369
theorem aex (Y s v1 v2 X c d q r:Int) (h1:¬q>=4294967296) (h2:IntKind.wrap IntKind.u64 (q*v2)>IntKind.wrap IntKind.u64 (IntKind.wrap IntKind.u64 (4294967296*r)+c)) (h3:IntKind.wrap IntKind.u64 (r+v1)>=4294967296) (h4:(IntKind.wrap IntKind.u64 (q-1))=(q-1)) (h5:(IntKind.wrap IntKind.u64 (r+v1))=(r+v1)):
  bg nD (fl je Am) (jf Y s v1 v2 X c d q r) 3839 (.exit 0) [] (jf Y s v1 v2 X c d (q-1) (r+v1)):=
 wy [af (aS (ab h1)),aA h1,ah h2,ah h3,az h4,az h5] 126237717373128001384944323770191937
theorem aey (Y s v1 v2 X c d q r:Int) (h1:¬q>=4294967296) (h2:IntKind.wrap IntKind.u64 (q*v2)>IntKind.wrap IntKind.u64 (IntKind.wrap IntKind.u64 (4294967296*r)+c)) (h3:¬IntKind.wrap IntKind.u64 (r+v1)>=4294967296) (h4:(IntKind.wrap IntKind.u64 (q-1))=(q-1)) (h5:(IntKind.wrap IntKind.u64 (r+v1))=(r+v1)):
  bg nD (fl je Am) (jf Y s v1 v2 X c d q r) 2815 .normal [] (jf Y s v1 v2 X c d (q-1) (r+v1)):=
 wy [af (aS (ab h1)),aA h1,ah h2,aA h3,az h4,az h5] 126237717373128001384944323770191937
theorem aez (Y s v1 v2 X c d q r:Int) (h1:¬q>=4294967296) (h2:¬IntKind.wrap IntKind.u64 (q*v2)>IntKind.wrap IntKind.u64 (IntKind.wrap IntKind.u64 (4294967296*r)+c)):
  bg nD (fl je Am) (jf Y s v1 v2 X c d q r) 1279 (.exit 0) [] (jf Y s v1 v2 X c d q r):=
 wy [af (aS (ab h1)),aA h1,aA h2] 54610613338640449
theorem aeA (Y s v1 v2 X c d q r eB aO r2:Int) (h1:v1≠0) (h2:(IntKind.wrap IntKind.u64 (IntKind.wrap IntKind.u64 (IntKind.wrap IntKind.u64 (X*4294967296)+c)-IntKind.wrap IntKind.u64 (q*Y)))=(eB)) (h3:(IntKind.wrap IntKind.u64 (Int.tdiv (IntKind.wrap IntKind.u64 (IntKind.wrap IntKind.u64 (IntKind.wrap IntKind.u64 (X*4294967296)+c)-IntKind.wrap IntKind.u64 (q*Y))) v1))=(aO)) (h4:(IntKind.wrap IntKind.u64 (IntKind.wrap IntKind.u64 (IntKind.wrap IntKind.u64 (IntKind.wrap IntKind.u64 (X*4294967296)+c)-IntKind.wrap IntKind.u64 (q*Y))-IntKind.wrap IntKind.u64 (IntKind.wrap IntKind.u64 (Int.tdiv (IntKind.wrap IntKind.u64 (IntKind.wrap IntKind.u64 (IntKind.wrap IntKind.u64 (X*4294967296)+c)-IntKind.wrap IntKind.u64 (q*Y))) v1)*v1)))=(r2)):
  dD nD ((fl je []).drop 18) 3 (jf Y s v1 v2 X c d q r) 1 .normal [] (jg Y s v1 v2 d q eB aO r2):=
 wy [ah h1,az h2,az h3,az h4] 72910815061082113
theorem aeB (Y s v1 v2 d p X q r:Int) (h1:q>=4294967296) (h2:IntKind.wrap IntKind.u64 (r+v1)>=4294967296) (h3:(IntKind.wrap IntKind.u64 (q-1))=(q-1)) (h4:(IntKind.wrap IntKind.u64 (r+v1))=(r+v1)):
  bg nD (fl je An) (jg Y s v1 v2 d p X q r) 3840 (.exit 2) [] (jg Y s v1 v2 d p X (q-1) (r+v1)):=
 wy [af (aS (ax h1)),ah h1,ah h2,az h3,az h4] 105144011385330262937074482297442369
theorem aeC (Y s v1 v2 d p X q r:Int) (h1:q>=4294967296) (h2:¬IntKind.wrap IntKind.u64 (r+v1)>=4294967296) (h3:(IntKind.wrap IntKind.u64 (q-1))=(q-1)) (h4:(IntKind.wrap IntKind.u64 (r+v1))=(r+v1)):
  bg nD (fl je An) (jg Y s v1 v2 d p X q r) 2816 .normal [] (jg Y s v1 v2 d p X (q-1) (r+v1)):=
 wy [af (aS (ax h1)),ah h1,aA h2,az h3,az h4] 105144011385330262937074482297442369
theorem aeD (Y s v1 v2 d p X q r:Int) (h1:¬q>=4294967296) (h2:IntKind.wrap IntKind.u64 (q*v2)>IntKind.wrap IntKind.u64 (IntKind.wrap IntKind.u64 (4294967296*r)+d)) (h3:IntKind.wrap IntKind.u64 (r+v1)>=4294967296) (h4:(IntKind.wrap IntKind.u64 (q-1))=(q-1)) (h5:(IntKind.wrap IntKind.u64 (r+v1))=(r+v1)):
  bg nD (fl je An) (jg Y s v1 v2 d p X q r) 3839 (.exit 2) [] (jg Y s v1 v2 d p X (q-1) (r+v1)):=
 wy [af (aS (ab h1)),aA h1,ah h2,ah h3,az h4,az h5] 126237717373128001384944323770191937
theorem aeE (Y s v1 v2 d p X q r:Int) (h1:¬q>=4294967296) (h2:IntKind.wrap IntKind.u64 (q*v2)>IntKind.wrap IntKind.u64 (IntKind.wrap IntKind.u64 (4294967296*r)+d)) (h3:¬IntKind.wrap IntKind.u64 (r+v1)>=4294967296) (h4:(IntKind.wrap IntKind.u64 (q-1))=(q-1)) (h5:(IntKind.wrap IntKind.u64 (r+v1))=(r+v1)):
  bg nD (fl je An) (jg Y s v1 v2 d p X q r) 2815 .normal [] (jg Y s v1 v2 d p X (q-1) (r+v1)):=
 wy [af (aS (ab h1)),aA h1,ah h2,aA h3,az h4,az h5] 126237717373128001384944323770191937
theorem aeF (Y s v1 v2 d p X q r:Int) (h1:¬q>=4294967296) (h2:¬IntKind.wrap IntKind.u64 (q*v2)>IntKind.wrap IntKind.u64 (IntKind.wrap IntKind.u64 (4294967296*r)+d)):
  bg nD (fl je An) (jg Y s v1 v2 d p X q r) 1279 (.exit 2) [] (jg Y s v1 v2 d p X q r):=
 wy [af (aS (ab h1)),aA h1,aA h2] 54610613338640449
theorem aeG (Y s v1 v2 d p X q r a b:Int) (h1:0<=s) (h2:(IntKind.wrap IntKind.u64 (IntKind.wrap IntKind.u64 (p*4294967296)+q))=(a)) (h3:(Int.fdiv (IntKind.wrap IntKind.u64 (IntKind.wrap IntKind.u64 (IntKind.wrap IntKind.u64 (X*4294967296)+d)-IntKind.wrap IntKind.u64 (q*Y))) ((2:Int)^min s.toNat 64))=(b)):
  bH nD ((fl je []).drop 22) (jg Y s v1 v2 d p X q r) 1 f223 true (.tuple [cr a,cr b]):=
 wy [ah h1,az h2,az h3] 12417
def d9 (hi lo y:Int):Int:=(hi*18446744073709551616+lo)/y
def ge (hi lo y:Int):Int:=(hi*18446744073709551616+lo)%y
def ud (hi lo y:Int):Bool:=(decide (0<=hi)&&decide (hi<y))&&(rV lo&&rV y)
noncomputable def K6:bp:={f:=223,ps:=[aD,aD,aD],rs:=[aD,aD],fresh:=true,pre:=fun d=>ud d.1 d.2.1 d.2.2.1,fn:=fun d=>(d9 d.1 d.2.1 d.2.2.1,(ge d.1 d.2.1 d.2.2.1,()))}
theorem pF {x:Int}:rV x=true↔0<=x/\x<18446744073709551616:=by
 unfold rV;rw [ae,bB,bB]
theorem R8:K5.Ok prog:=fun⟨x,_⟩ h w F xs hF cu hd=>by
 have h:=pF.1 h;cases hd with
 |cons d1 d2=>
  cases d2;rw [d1.b8];refine(Tryz.bits_LeadingZeros64 x w h.1 (by omega)).mono fun e w' ⟨h1,h2⟩=> ?_
  subst h2;exact⟨_,⟨F.at',fun _=>none⟩,h1, .raw _,⟨hF.ob,hF.all,fun b A h=>by cases h⟩,(fun b A h=>by cases h),Below.refl _ _⟩
theorem dE (z:Int):IntKind.wrap .u64 z=z%18446744073709551616:=by
 unfold IntKind.wrap;have e:IntKind.signed .u64=false:=rfl;have e2:IntKind.bits .u64=64:=rfl;simp only [e,e2,Bool.false_and,Bool.false_eq_true,if_false];rfl
theorem aeH {a:Int} (h:0<=a/\a<18446744073709551616):IntKind.wrap .u64 (((BitVec.ofInt 64 a &&& BitVec.ofInt 64 4294967295).toNat:Nat):Int)=a%4294967296:=by
 obtain⟨A,rfl⟩:∃A:Nat,a=(A:Int):=⟨a.toNat,by omega⟩;have hA:A<2^64:=by have qL:((2^64:Nat):Int)=18446744073709551616:=rfl;rw [<-qL]at h;exact Int.ofNat_lt.1 h.2
 rw [BitVec.toNat_and,BitVec.ofInt_natCast,BitVec.toNat_ofNat,Nat.mod_eq_of_lt hA];rw [show(BitVec.ofInt 64 4294967295).toNat=2^32-1 from rfl,Nat.and_two_pow_sub_one_eq_mod];have:A%2^32<2^32:=Nat.mod_lt _ (by decide);rw [fC (by have e:(2:Nat)^32=4294967296:=rfl;omega)];rfl
theorem aeI (a b:Int):eN a b=eN b a:=by unfold eN;rw [BitVec.or_comm]
theorem aeJ:∀f:Nat,Lib.bitLenAux f 0=0
 |0=>rfl
 |f+1=>by unfold Lib.bitLenAux;rw [if_pos rfl]
theorem bitLen_spec:∀(f x:Nat),x<2^f->0<x->2^(Lib.bitLenAux f x-1)<=x/\x<2^Lib.bitLenAux f x/\1<=Lib.bitLenAux f x/\Lib.bitLenAux f x<=f:=by
 intro f;induction f with
 |zero=>intro x h h0;simp at h;omega
 |succ f ih=>
  intro x h h0;unfold Lib.bitLenAux;rw [if_neg (by omega)];by_cases h1:x=1
  .subst h1;rw [show 1/2=0 from rfl,aeJ];simp
  .obtain⟨g1,g2,g3,g4⟩:=ih (x/2) (by rw [Nat.pow_succ]at h;omega) (by omega);generalize Lib.bitLenAux f (x/2)=L at*;obtain⟨l,rfl⟩:∃l,L=l+1:=⟨L-1,by omega⟩;rw [show 1+(l+1)-1=l+1 by omega,show 1+(l+1)=l+1+1 by omega];rw [Nat.add_sub_cancel]at g1;rw [Nat.pow_succ]at g2;rw [Nat.pow_succ,Nat.pow_succ];omega
theorem K7 {x:Int} (h:0<x/\x<18446744073709551616):∃s:Nat,dM x=s/\s<=63/\9223372036854775808<=x*2^s/\x*2^s<18446744073709551616:=by
 obtain⟨X,rfl⟩:∃X:Nat,x=(X:Int):=⟨x.toNat,by omega⟩;have qL:((2^64:Nat):Int)=18446744073709551616:=rfl;have hX:X<2^64:=by rw [<-qL]at h;exact Int.ofNat_lt.1 h.2
 obtain⟨g1,g2,g3,g4⟩:=bitLen_spec 64 X hX (by omega);refine⟨64-Lib.bitLenAux 64 X, ?_,by omega, ?_, ?_⟩
 .unfold dM Lib.bitLen;rw [Int.toNat_natCast];omega
 .generalize Lib.bitLenAux 64 X=L at*;have h1:2^(L-1)*2^(64-L)<=X*2^(64-L):=Nat.mul_le_mul_right _ g1;rw [<-Nat.pow_add,show L-1+(64-L)=63 by omega]at h1;have e:((X*2^(64-L):Nat):Int)=(X:Int)*2^(64-L):=by rw [Int.natCast_mul,Int.natCast_pow];rfl
  have R9:((2^63:Nat):Int)=9223372036854775808:=rfl;rw [<-e,<-R9];exact Int.ofNat_le.2 h1
 .generalize Lib.bitLenAux 64 X=L at*;have h1:X*2^(64-L)<2^L*2^(64-L):=Nat.mul_lt_mul_of_pos_right g2 (Nat.pow_pos (by decide));rw [<-Nat.pow_add,show L+(64-L)=64 by omega]at h1;have e:((X*2^(64-L):Nat):Int)=(X:Int)*2^(64-L):=by rw [Int.natCast_mul,Int.natCast_pow];rfl
  rw [<-e,<-qL];exact Int.ofNat_lt.2 h1
section
variable {b v1 v2 X c q r:Int}
theorem Sa (h:q*v1+r=X):q*(v1*b+v2)=X*b-r*b+q*v2:=by subst h;grind
theorem FL (hY:0<v1*b+v2) (h:q*v1+r=X) (hq:(X*b+c)/(v1*b+v2)<=q) (hle:q*v2<=b*r+c):(X*b+c)/(v1*b+v2)=q:=by
 have h1:q*(v1*b+v2)<=X*b+c:=by rw [Sa h,Int.mul_comm r b];omega
 have:=(Int.le_ediv_iff_mul_le hY).2 h1;omega
theorem Sb (hY:0<v1*b+v2) (hX:X<v1*b+v2) (hb:0<b) (hc:c<b) (h:q*v1+r=X) (hgt:b<=q\/b*r+c<q*v2):(X*b+c)/(v1*b+v2)<=q-1:=by
 have h1:X*b+c<q*(v1*b+v2):=by
  rcases hgt with hgt|hgt
  .have a1:=ar hgt (cm hY);have a2:=ar (show X<=v1*b+v2-1 by omega) (cm hb);rw [Int.sub_mul,Int.one_mul,Int.mul_comm (v1*b+v2)]at a2;omega
  .rw [Sa h,Int.mul_comm r b];omega
 have:=(Int.ediv_lt_iff_lt_mul hY).2 h1;omega
theorem Sc (yd:0<=v1) (hX:X<v1*b+v2) (iO:0<=v2/\v2<b) (hc:0<=c) (h:q*v1+r=X) (h0:0<=q) (hr:b<=r):q*v2<=b*r+c:=by
 have fN:q<b:=by
  refine Int.not_le.1 fun hn=> ?_
  have:=ar hn yd;rw [Int.mul_comm b v1]at this;omega
 have a1:q*v2<=b*b:=Int.mul_le_mul (cm fN) (cm iO.2) iO.1 (by omega);have a2:=eU hr (show 0<=b by omega);omega
end
theorem aeK {q v:Int} (h0:0<=q) (hq:q<4294967296) (hv:0<=v/\v<4294967296):0<=q*v/\q*v<18446744073709551616:=by
 refine⟨Int.mul_nonneg h0 hv.1, ?_⟩;have:=Int.mul_le_mul (show q<=4294967295 by omega) (show v<=4294967295 by omega) hv.1 (by decide);omega
structure Ao (v1 v2 X c Y:Int):Prop where
 y:Y=v1*4294967296+v2
 v1:2147483648<=v1/\v1<4294967296
 v2:0<=v2/\v2<4294967296
 x:0<=X/\X<Y
 c:0<=c/\c<4294967296
theorem Ao.start {v1 v2 X c Y:Int} (p:Ao v1 v2 X c Y):X.tdiv v1*v1+(X-X.tdiv v1*v1)=X/\(X*4294967296+c)/Y<=X.tdiv v1/\0<=X.tdiv v1/\0<=X-X.tdiv v1*v1/\X-X.tdiv v1*v1<4294967296/\X.tdiv v1<18446744073709551616:=by
 have hv:=p.v1;have hx:=p.x;have hy:=p.y;have iO:=p.v2;have e:X.tdiv v1=X/v1:=Int.tdiv_eq_ediv_of_nonneg hx.1;rw [e];have h1:=Int.emod_add_mul_ediv X v1;have h2:=eG X (show v1≠0 by omega);have h3:=e6 X (show 0<v1 by omega);rw [Int.mul_comm]at h1;have h4:0<=X/v1:=Int.ediv_nonneg hx.1 (by omega);have h5:X/v1<=X:=Int.ediv_le_self _ hx.1;refine⟨by omega, ?_,h4,by omega,by omega,by omega⟩;have hY:0<Y:=by omega
 have hc:=p.c;have key:X*4294967296+c<(X/v1+1)*Y:=by
  have a1:(X/v1+1)*Y=(X/v1*v1+v1)*4294967296+(X/v1+1)*v2:=by rw [hy];grind
  have a2:=Int.mul_nonneg (show 0<=X/v1+1 by omega) iO.1;omega
 have:=(Int.ediv_lt_iff_lt_mul hY).2 key;omega
theorem Ao.lim {v1 v2 X c Y q r:Int} (p:Ao v1 v2 X c Y) (h0:0<=q) (hq:q<4294967296) (hr:0<=r/\r<4294967296):IntKind.wrap .u64 (q*v2)=q*v2/\IntKind.wrap .u64 (IntKind.wrap .u64 (4294967296*r)+c)=4294967296*r+c:=by
 have hc:=p.c;exact⟨fC (aeK h0 hq p.v2),by rw [fC (x:=4294967296*r) (by omega),fC (by omega)]⟩
theorem aeL (hi lo y:Int) (h:ud hi lo y=true):Holds prog true 223 [cr hi,cr lo,cr y] (.tuple [cr (d9 hi lo y),cr (ge hi lo y)]):=by
 unfold ud at h;simp only [ae,bB,pF]at h;obtain⟨⟨tv,ass⟩,⟨CL,aeM⟩,y0,y1⟩:=h;have hS:=tV R8;refine bL (c:=je) func223 rfl rfl fun w F=> ?_
 by_cases hz:hi=0
 .have e1:d9 hi lo y=lo/y:=by unfold d9;rw [hz,Int.zero_mul,Int.zero_add]
  have e2:ge hi lo y=lo%y:=by unfold ge;rw [hz,Int.zero_mul,Int.zero_add]
  rw [e1,e2];refine bx hS 9 (aet hi lo y (by omega) (by omega) hz (by omega) ?_ (Int.tmod_eq_emod_of_nonneg CL));rw [Int.tdiv_eq_ediv_of_nonneg CL];exact fC ⟨Int.ediv_nonneg CL (by omega),by have:=Int.ediv_le_self y CL;omega⟩
 .obtain⟨s,hs,Sd,Se,Sf⟩:=K7 (x:=y) (by omega);have Ap:IntKind.wrap .u64 (dM y)=(s:Int):=by rw [hs];exact fC (by omega)
  have Sg:IntKind.wrap .u64 (64-(s:Int))=((64-s:Nat):Int):=by rw [fC (by omega)];omega
  have hp:(0:Int)<2^s:=dK (by decide) _;obtain⟨l1,l2,l3,l4⟩:=K2 (x:=lo) (s:=s) (by omega) ⟨CL,aeM⟩;generalize Sh:y*2^s=Y at*;have hhi:0<=hi*2^s/\hi*2^s+2^s<=Y:=by
   refine⟨Int.mul_nonneg tv (cm hp), ?_⟩;have:=ar (show hi+1<=y by omega) (cm hp);rw [Int.add_mul,Int.one_mul]at this;omega
  generalize hX:hi*2^s+lo/2^(64-s)=X;generalize hL:lo*2^s%18446744073709551616=L at*;have aeN:0<=L/\L<18446744073709551616:=by rw [<-hL];exact⟨eG _ (by decide),e6 _ (by decide)⟩
  have ff:Ao (Y/4294967296) (Y%4294967296) X (L/4294967296) Y:=⟨by omega,by omega,by omega,by omega,by omega⟩;obtain⟨k1,k2,dF,mA,oS,xD⟩:=ff.start;have hmin:min s 64=s:=by omega
  have aeO:min (64-s) 64=64-s:=by omega
  have aeP:IntKind.wrap .u64 Y=Y:=fC (by omega);have mI:∀z:Int,Int.fdiv z (2^min (Int.toNat 32) 64)=z/4294967296:=fun z=>by
   rw [show(2:Int)^min (Int.toNat 32) 64=4294967296 from rfl];exact Int.fdiv_eq_ediv_of_nonneg _ (by decide)
  have aeQ:IntKind.wrap .u64 (lo*2^s)=L:=by rw [dE];exact hL
  have aeR:IntKind.wrap .u64 (((BitVec.ofInt 64 (IntKind.wrap .u64 (hi*2^s))|||BitVec.ofInt 64 (Int.fdiv lo (2^(64-s)))).toNat:Nat):Int)=X:=by
   rw [fC (x:=hi*2^s) (by omega),Int.fdiv_eq_ediv_of_nonneg _ (cm (dK (by decide) _))];show eN _ _=_;rw [aeI,K1 (s:=s) (by omega) l3 tv (Int.mul_comm _ _) (by omega),<-hX];omega
  have A:IntKind.wrap .u64 (y*2^min (IntKind.wrap .u64 (dM y)).toNat 64)=Y:=by rw [Ap,Int.toNat_natCast,hmin,Sh];exact aeP
  have B:IntKind.wrap .u64 (lo*2^min (IntKind.wrap .u64 (dM y)).toNat 64)=L:=by rw [Ap,Int.toNat_natCast,hmin];exact aeQ
  have C:IntKind.wrap .u64 (((BitVec.ofInt 64 (IntKind.wrap .u64 (hi*2^min (IntKind.wrap .u64 (dM y)).toNat 64))|||BitVec.ofInt 64 (Int.fdiv lo (2^min (IntKind.wrap .u64 (64-IntKind.wrap .u64 (dM y))).toNat 64))).toNat:Nat):Int)=X:=by
   rw [Ap,Sg,Int.toNat_natCast,Int.toNat_natCast,hmin,aeO];exact aeR
  have Si:∀z:Int,0<=z/\z<18446744073709551616->IntKind.wrap .u64 (((BitVec.ofInt 64 z &&& BitVec.ofInt 64 4294967295).toNat:Nat):Int)=z%4294967296:=fun z hz=>aeH hz
  have hq1:=fC (x:=X.tdiv (Y/4294967296)) ⟨dF,xD⟩;have aeS:IntKind.wrap .u64 (X.tdiv (Y/4294967296)*(Y/4294967296))=X.tdiv (Y/4294967296)*(Y/4294967296):=fC (by have:=ff.v1;have:=Int.mul_nonneg dF (show 0<=Y/4294967296 by omega);omega);have kQ:=fC (x:=X-X.tdiv (Y/4294967296)*(Y/4294967296)) (by omega);refine aP.to known mixed hS 17 _ (aeu hi lo y Y s (Y/4294967296) (Y%4294967296) X (L/4294967296) (L%4294967296) (X.tdiv (Y/4294967296)) (X-X.tdiv (Y/4294967296)*(Y/4294967296)) (by omega) (by omega) hz (pF.2 ⟨y0,y1⟩)
   (by rw [Ap];omega) (by rw [Ap,Sg];omega) (by rw [A,mI];have:=ff.v1;omega) A Ap (by rw [A,mI]) (by rw [A];exact Si Y (by omega)) C (by rw [B,mI]) (by rw [B];exact Si L aeN) (by rw [C,A,mI];exact hq1) (by rw [C,A,mI,hq1,aeS];exact kQ)) (by kernel_rfl) ?_
  have hN:(hi*18446744073709551616+lo)*2^s=(X*4294967296+L/4294967296)*4294967296+L%4294967296:=by
   have e1:L=L/4294967296*4294967296+L%4294967296:=by omega
   rw [Int.add_mul,Int.mul_right_comm,l2,<-l1,<-hX];omega
  generalize yd:Y/4294967296=v1 at*;generalize iO:Y%4294967296=v2 at*;generalize hc:L/4294967296=c at*;generalize hd:L%4294967296=d at*;have gJ:0<=d/\d<4294967296:=by omega
  have rW:0<Y:=by omega
  have aeT:=Int.emod_add_mul_ediv (X*4294967296+c) Y;have hx0:=eG (X*4294967296+c) (show Y≠0 by omega);have hx1:=e6 (X*4294967296+c) rW;have rX:Ao v1 v2 ((X*4294967296+c)%Y) d Y:=⟨ff.y,ff.v1,ff.v2,⟨hx0,hx1⟩,gJ⟩;have K8:∀r,aP prog w F 135 ((fl je []).drop 22) (jg Y s v1 v2 d ((X*4294967296+c)/Y) ((X*4294967296+c)%Y) (((X*4294967296+c)%Y*4294967296+d)/Y) r).T (jg Y s v1 v2 d ((X*4294967296+c)/Y) ((X*4294967296+c)%Y) (((X*4294967296+c)%Y*4294967296+d)/Y) r).H (fy prog true f223 (.tuple [cr (d9 hi lo y),cr (ge hi lo y)])):=fun r=>by
   have Sj:=Int.emod_add_mul_ediv ((X*4294967296+c)%Y*4294967296+d) Y;have lG:=eG ((X*4294967296+c)%Y*4294967296+d) (show Y≠0 by omega);have BN:=e6 ((X*4294967296+c)%Y*4294967296+d) rW;have mK:0<=(X*4294967296+c)/Y:=Int.ediv_nonneg (by have:=ff.x;have:=ff.c;omega) (by omega);have ast:(X*4294967296+c)/Y<4294967296:=Int.ediv_lt_of_lt_mul rW (by have:=ff.x;have:=ff.c;omega);have KH:0<=((X*4294967296+c)%Y*4294967296+d)/Y:=Int.ediv_nonneg (by omega) (by omega);have hp1:((X*4294967296+c)%Y*4294967296+d)/Y<4294967296:=Int.ediv_lt_of_lt_mul rW (by omega);generalize (X*4294967296+c)/Y=oe at*;generalize (X*4294967296+c)%Y=eB at*;generalize asu:(eB*4294967296+d)/Y=tR at*;generalize asv:(eB*4294967296+d)%Y=Sk at*;obtain⟨j1,j2⟩:=K4 (A:=hi*18446744073709551616+lo) (b:=y) (V:=Y) (S:=2^s) (U:=Sk) (q:=oe*4294967296+tR) hp (by omega) Sh.symm (by rw [hN];grind) lG BN;refine bP (s:=jg Y s v1 v2 d oe eB tR r) hS (aeG Y s v1 v2 d oe eB tR r _ _ (by omega) ?_ ?_)
   .rw [fC (x:=oe*4294967296) (by omega),fC (by omega)];exact j1.symm
   .rw [Int.toNat_natCast,hmin,Int.fdiv_eq_ediv_of_nonneg _ (cm hp)];have e:IntKind.wrap .u64 (IntKind.wrap .u64 (IntKind.wrap .u64 (eB*4294967296)+d)-IntKind.wrap .u64 (tR*Y))=Sk:=by
     rw [dE,dE,dE,dE];rw [Int.mul_comm Y]at Sj;generalize tR*Y=P at*;omega
    rw [e,j2,Int.mul_ediv_cancel_left _ (by omega)];rfl
  have K9:∀r,aP prog w F 135 ((fl je []).drop 18) (jf Y s v1 v2 X c d ((X*4294967296+c)/Y) r).T (jf Y s v1 v2 X c d ((X*4294967296+c)/Y) r).H (fy prog true f223 (.tuple [cr (d9 hi lo y),cr (ge hi lo y)])):=fun r=>by
   obtain⟨n1,n2,n3,Aq,Sl,Sm⟩:=rX.start;have e:IntKind.wrap .u64 (IntKind.wrap .u64 (IntKind.wrap .u64 (X*4294967296)+c)-IntKind.wrap .u64 ((X*4294967296+c)/Y*Y))=(X*4294967296+c)%Y:=by
    rw [dE,dE,dE,dE];rw [Int.mul_comm Y]at aeT;generalize (X*4294967296+c)/Y*Y=P at*;omega
   have m1:=fC (x:=((X*4294967296+c)%Y).tdiv v1) ⟨n3,Sm⟩;have m2:IntKind.wrap .u64 (((X*4294967296+c)%Y).tdiv v1*v1)=((X*4294967296+c)%Y).tdiv v1*v1:=fC (by have:=ff.v1;have:=Int.mul_nonneg n3 (show 0<=v1 by omega);omega);refine dZ (s:=jf Y s v1 v2 X c d ((X*4294967296+c)/Y) r) hS 3 (aeA Y s v1 v2 X c d ((X*4294967296+c)/Y) r ((X*4294967296+c)%Y) (((X*4294967296+c)%Y).tdiv v1) ((X*4294967296+c)%Y-((X*4294967296+c)%Y).tdiv v1*v1) (by have:=ff.v1;omega) e (by rw [e];exact m1) (by rw [e,m1,m2];exact fC (by omega))) ?_;generalize (X*4294967296+c)%Y=eB at*;refine aP.loop (ι:={p:Int×Int//p.1*v1+p.2=eB/\(eB*4294967296+d)/Y<=p.1/\0<=p.1/\0<=p.2/\p.2<4294967296/\p.1<18446744073709551616}) (id:=2) (b:=cat je An) (rest:=(fl je []).drop 22) (by kernel_rfl) (fun p=>jg Y s v1 v2 d ((X*4294967296+c)/Y) eB p.1.1 p.1.2) (fun p=>p.1.1.toNat) ⟨(eB.tdiv v1,eB-eB.tdiv v1*v1),n1,n2,n3,Aq,Sl,Sm⟩ (fun _=>rfl) ?_;rintro⟨⟨q,r⟩,a1,a2,a3,a4,a5,a6⟩;have a1:q*v1+r=eB:=a1;have a2:(eB*4294967296+d)/Y<=q:=a2;have a3:0<=q:=a3;have a4:0<=r:=a4;have a5:r<4294967296:=a5;have a6:q<18446744073709551616:=a6;have hgo:(4294967296<=q\/4294967296*r+d<q*v2)->(eB*4294967296+d)/Y<=q-1:=fun hg=>by
    have:=rX.y;subst this;exact Sb rW rX.x.2 (by decide) gJ.2 a1 hg
   have KH:0<=(eB*4294967296+d)/Y:=Int.ediv_nonneg (by have:=rX.x;omega) (by omega);have hw1:=fC (x:=r+v1) (by have:=ff.v1;omega);have CN:(4294967296<=q\/4294967296*r+d<q*v2)->4294967296<=r+v1->q-1=(eB*4294967296+d)/Y:=fun hg hr=>by
    have g1:=hgo hg;have e1:(q-1)*v1+(r+v1)=eB:=by rw [Int.sub_mul,Int.one_mul];omega
    have hf:=Sc (by have:=ff.v1;omega) (by have:=rX.x;have:=rX.y;omega) rX.v2 gJ.1 e1 (by omega) hr;have:=rX.y;subst this;exact(FL rW e1 g1 hf).symm
   by_cases fN:q>=4294967296
   .have lQ:=fC (x:=q-1) (by omega);by_cases hrb:r+v1>=4294967296
    .refine bl (s:=jg Y s v1 v2 d ((X*4294967296+c)/Y) eB q r) hS (aeB Y s v1 v2 d _ eB q r fN (by rw [hw1];exact hrb) lQ hw1) ?_;refine cw (cz ?_);rw [CN (.inl fN) hrb];exact K8 _
    .refine bl (s:=jg Y s v1 v2 d ((X*4294967296+c)/Y) eB q r) hS (aeC Y s v1 v2 d _ eB q r fN (by rw [hw1];exact hrb) lQ hw1) ?_;exact⟨⟨(q-1,r+v1),by show(q-1)*v1+(r+v1)=eB;rw [Int.sub_mul,Int.one_mul];omega,hgo (.inl fN),by show 0<=q-1;omega,by show 0<=r+v1;have:=ff.v1;omega,by show r+v1<_;omega,by show q-1<_;omega⟩,by show(q-1).toNat<q.toNat;omega,rfl,rfl⟩
   .obtain⟨w1,w2⟩:=rX.lim a3 (by omega) ⟨a4,a5⟩;by_cases hgt:4294967296*r+d<q*v2
    .have hq1:1<=q:=by
      by_cases mK:q=0
      .rw [mK,Int.zero_mul]at hgt;omega
      .omega
     have lQ:=fC (x:=q-1) (by omega);by_cases hrb:r+v1>=4294967296
     .refine bl (s:=jg Y s v1 v2 d ((X*4294967296+c)/Y) eB q r) hS (aeD Y s v1 v2 d _ eB q r fN (by rw [w1,w2];exact hgt) (by rw [hw1];exact hrb) lQ hw1) ?_;refine cw (cz ?_);rw [CN (.inr hgt) hrb];exact K8 _
     .refine bl (s:=jg Y s v1 v2 d ((X*4294967296+c)/Y) eB q r) hS (aeE Y s v1 v2 d _ eB q r fN (by rw [w1,w2];exact hgt) (by rw [hw1];exact hrb) lQ hw1) ?_;exact⟨⟨(q-1,r+v1),by show(q-1)*v1+(r+v1)=eB;rw [Int.sub_mul,Int.one_mul];omega,hgo (.inr hgt),by show 0<=q-1;omega,by show 0<=r+v1;have:=ff.v1;omega,by show r+v1<_;omega,by show q-1<_;omega⟩,by show(q-1).toNat<q.toNat;omega,rfl,rfl⟩
    .refine bl (s:=jg Y s v1 v2 d ((X*4294967296+c)/Y) eB q r) hS (aeF Y s v1 v2 d _ eB q r fN (by rw [w1,w2];exact hgt)) ?_;refine cw (cz ?_);have e1:(eB*4294967296+d)/Y=q:=by
      have:=rX.y;subst this;exact FL rW a1 a2 (by omega)
     rw [<-e1];exact K8 _
  refine aP.loop (ι:={p:Int×Int//p.1*v1+p.2=X/\(X*4294967296+c)/Y<=p.1/\0<=p.1/\0<=p.2/\p.2<4294967296/\p.1<18446744073709551616}) (id:=0) (b:=cat je Am) (rest:=(fl je []).drop 18) (by kernel_rfl) (fun p=>jf Y s v1 v2 X c d p.1.1 p.1.2) (fun p=>p.1.1.toNat) ⟨(X.tdiv v1,X-X.tdiv v1*v1),k1,k2,dF,mA,oS,xD⟩ (fun _=>rfl) ?_;rintro⟨⟨q,r⟩,a1,a2,a3,a4,a5,a6⟩;have a1:q*v1+r=X:=a1;have a2:(X*4294967296+c)/Y<=q:=a2;have a3:0<=q:=a3;have a4:0<=r:=a4;have a5:r<4294967296:=a5;have a6:q<18446744073709551616:=a6;have hgo:(4294967296<=q\/4294967296*r+c<q*v2)->(X*4294967296+c)/Y<=q-1:=fun hg=>by
   have:=ff.y;subst this;exact Sb rW ff.x.2 (by decide) ff.c.2 a1 hg
  have KH:0<=(X*4294967296+c)/Y:=Int.ediv_nonneg (by have:=ff.x;have:=ff.c;omega) (by omega);have hw1:=fC (x:=r+v1) (by have:=ff.v1;omega);have CN:(4294967296<=q\/4294967296*r+c<q*v2)->4294967296<=r+v1->q-1=(X*4294967296+c)/Y:=fun hg hr=>by
   have g1:=hgo hg;have e1:(q-1)*v1+(r+v1)=X:=by rw [Int.sub_mul,Int.one_mul];omega
   have hf:=Sc (by have:=ff.v1;omega) (by have:=ff.x;have:=ff.y;omega) ff.v2 ff.c.1 e1 (by omega) hr;have:=ff.y;subst this;exact(FL rW e1 g1 hf).symm
  by_cases fN:q>=4294967296
  .have lQ:=fC (x:=q-1) (by omega);by_cases hrb:r+v1>=4294967296
   .refine bl (s:=jf Y s v1 v2 X c d q r) hS (aev Y s v1 v2 X c d q r fN (by rw [hw1];exact hrb) lQ hw1) ?_;refine cw (cz ?_);rw [CN (.inl fN) hrb];exact K9 _
   .refine bl (s:=jf Y s v1 v2 X c d q r) hS (aew Y s v1 v2 X c d q r fN (by rw [hw1];exact hrb) lQ hw1) ?_;exact⟨⟨(q-1,r+v1),by show(q-1)*v1+(r+v1)=X;rw [Int.sub_mul,Int.one_mul];omega,hgo (.inl fN),by show 0<=q-1;omega,by show 0<=r+v1;have:=ff.v1;omega,by show r+v1<_;omega,by show q-1<_;omega⟩,by show(q-1).toNat<q.toNat;omega,rfl,rfl⟩
  .obtain⟨w1,w2⟩:=ff.lim a3 (by omega) ⟨a4,a5⟩;by_cases hgt:4294967296*r+c<q*v2
   .have hq1:1<=q:=by
     by_cases mK:q=0
     .rw [mK,Int.zero_mul]at hgt;omega
     .omega
    have lQ:=fC (x:=q-1) (by omega);by_cases hrb:r+v1>=4294967296
    .refine bl (s:=jf Y s v1 v2 X c d q r) hS (aex Y s v1 v2 X c d q r fN (by rw [w1,w2];exact hgt) (by rw [hw1];exact hrb) lQ hw1) ?_;refine cw (cz ?_);rw [CN (.inr hgt) hrb];exact K9 _
    .refine bl (s:=jf Y s v1 v2 X c d q r) hS (aey Y s v1 v2 X c d q r fN (by rw [w1,w2];exact hgt) (by rw [hw1];exact hrb) lQ hw1) ?_;exact⟨⟨(q-1,r+v1),by show(q-1)*v1+(r+v1)=X;rw [Int.sub_mul,Int.one_mul];omega,hgo (.inr hgt),by show 0<=q-1;omega,by show 0<=r+v1;have:=ff.v1;omega,by show r+v1<_;omega,by show q-1<_;omega⟩,by show(q-1).toNat<q.toNat;omega,rfl,rfl⟩
   .refine bl (s:=jf Y s v1 v2 X c d q r) hS (aez Y s v1 v2 X c d q r fN (by rw [w1,w2];exact hgt)) ?_;refine cw (cz ?_);have e1:(X*4294967296+c)/Y=q:=by
     have:=ff.y;subst this;exact FL rW a1 a2 (by omega)
    rw [<-e1];exact K9 _
theorem Sn:K6.Ok prog:=fun⟨hi,lo,y,_⟩ h=>aeL hi lo y h
end
end
section
open Go.RowKit Sv Go.Proofs.Tryz
noncomputable section
def fh (x s:Int):Int:=IntKind.wrap .u64 (x*2^min s.toNat 64)
def dy (x s:Int):Int:=Int.fdiv x (2^min s.toNat 64)
noncomputable def ue:Code:=(f225.body).getD .skip
abbrev FM:List Nat:=[1,1,0,1,0,0]
def nE (w out:List Int) (s:Int) (i:Nat):bC:={n:=40,sl:=[(0,bE w),(1,iv s),(5,qA 64 out),(12,bE w),(13,iv w.length),(14,iv i)],bF:=[(64,qC out)],next:=65}
def aeU (w:List Int) (s:Int) (h1: -9223372036854775808<=(w.length:Int)+1/\(w.length:Int)+1<=9223372036854775807) (h2:((w.length:Int)+1).toNat<=1000000) (h3:(((w.length:Int)+1).toNat)=(cG (w.length+(1:Nat))).length) (h4:(aZ.known ((w.length:Int)+1).toNat)=(aZ.known (w.length+(1:Nat)))) (h5:(bJ (cG (w.length+(1:Nat))).length)=(bJ (w.length+(1:Nat)))) (h6:(List.flatten (List.replicate ((w.length:Int)+1).toNat (List.map aa.raw (Array.toList #[Value.int .u64 (0:Int)]))))=(List.flatMap (fun x=>[aa.raw (Value.int .u64 x)]) (cG (w.length+(1:Nat))))) (h7:(w.length+(1:Nat))=(cG (w.length+(1:Nat))).length):
  aC.path (o4 prog (aR []) (fl ue []) 3 40 [bE w,iv s]) (dl 1) (dP prog 40 .normal [(64,64,some (w.length+1))] (nE w (cG (w.length+1)) s 0)):=
 mp (abW (br h1) rt rt (show(decide (((w.length:Int)+1).toNat<=((w.length:Int)+1).toNat))=true from ax (by omega)) (og (show(bounded ((w.length:Int)+1).toNat (8:Nat))=true from o6 h2 (by omega)) (rr w) (rr s) (an h3 (an h4 h5)) (rr w) (rr (w.length:Int)) (rr (0:Int)) (an h6 h7) trivial))
def aeV (w out:List Int) (s:Int) (i:Nat) (h1:(i:Int)<(w.length:Int)) (h2:i<w.length) (h3:i<out.length) (h4:0<=s) (h5:s>0) (h6:i6 ((i:Int)+1)) (h7:i6 (64-s)) (h8:0<=64-s) (h9:((i:Int)+1).toNat<out.length) (h10:(bz 167 aD (some (bq.own 167 aD (out.set i (IntKind.wrap IntKind.u64 (↑(BitVec.toNat (BitVec.ofInt 64 (out.getD i 0)|||BitVec.ofInt 64 (IntKind.wrap IntKind.u64 (w.getD i 0*(2:Int)^min s.toNat 64)))):Int))))) ((i:Int)+1).toNat)=true) (h11:out.length=((out.set i (eN (out.getD i 0) (fh (w.getD i 0) s))).set (i+1) (dy (w.getD i 0) (64-s))).length) (h12:(bJ out.length)=(bJ ((out.set i (eN (out.getD i 0) (fh (w.getD i 0) s))).set (i+1) (dy (w.getD i 0) (64-s))).length)) (dG:((out.set i (IntKind.wrap IntKind.u64 (↑(BitVec.toNat (BitVec.ofInt 64 (out.getD i 0)|||BitVec.ofInt 64 (IntKind.wrap IntKind.u64 (w.getD i 0*(2:Int)^min s.toNat 64)))):Int))).set ((i:Int)+1).toNat (Int.fdiv (w.getD i 0) ((2:Int)^min (64-s).toNat 64)))=((out.set i (eN (out.getD i 0) (fh (w.getD i 0) s))).set (i+1) (dy (w.getD i 0) (64-s)))):
  bg (aR []) (fl ue FM) (nE w out s i) 7 .normal [(64,64,none)] (nE w ((out.set i (eN (out.getD i 0) (fh (w.getD i 0) s))).set (i+1) (dy (w.getD i 0) (64-s))) s (i+1)):=
 wy [ah h1,ah h2,ah h3,jd 167 aD h3,af (aV (v:=aa.raw (Value.int IntKind.u64 ((bM aD (ba 167 aD out)).getD ((0:Nat)+i) (0:Int))))),ah h4,ah h5,yi h6,yi h7,ah h8,ah h9,af (show(bz 167 aD (some (bq.own 167 aD ((bM aD (ba 167 aD out)).set ((0:Nat)+i) (IntKind.wrap IntKind.u64 (↑(BitVec.toNat (BitVec.ofInt (64:Nat) ((bM aD (ba 167 aD out)).getD ((0:Nat)+i) (0:Int))|||BitVec.ofInt (64:Nat) (IntKind.wrap IntKind.u64 (w.getD i (0:Int)*(2:Int)^min s.toNat (64:Nat))))):Int))))) ((0:Nat)+((i:Int)+(1:Int)).toNat))=true from(by simp only [ew,aw]<;>exact h10)),az h11,az h12,o5 prog 167 aD (show(((bM aD (ba 167 aD out)).set ((0:Nat)+i) (IntKind.wrap IntKind.u64 (↑(BitVec.toNat (BitVec.ofInt (64:Nat) ((bM aD (ba 167 aD out)).getD ((0:Nat)+i) (0:Int))|||BitVec.ofInt (64:Nat) (IntKind.wrap IntKind.u64 (w.getD i (0:Int)*(2:Int)^min s.toNat (64:Nat))))):Int))).set ((0:Nat)+((i:Int)+(1:Int)).toNat) (Int.fdiv (w.getD i (0:Int)) ((2:Int)^min ((64:Int)-s).toNat (64:Nat))))=((out.set i (eN (out.getD i (0:Int)) (fh (w.getD i (0:Int)) s))).set (i+(1:Nat)) (dy (w.getD i (0:Int)) ((64:Int)-s)))from(by simp only [ew,aw]<;>exact dG))] 5612166604090939023885917864117590006026658706890753
def aeW (w out:List Int) (s:Int) (i:Nat) (h1:(i:Int)<(w.length:Int)) (h2:i<w.length) (h3:i<out.length) (h4:0<=s) (h5:¬s>0) (h6:i6 ((i:Int)+1)) (h7:out.length=(out.set i (eN (out.getD i 0) (fh (w.getD i 0) s))).length) (h8:(bJ out.length)=(bJ (out.set i (eN (out.getD i 0) (fh (w.getD i 0) s))).length)) (h9:(out.set i (IntKind.wrap IntKind.u64 (↑(BitVec.toNat (BitVec.ofInt 64 (out.getD i 0)|||BitVec.ofInt 64 (IntKind.wrap IntKind.u64 (w.getD i 0*(2:Int)^min s.toNat 64)))):Int)))=(out.set i (eN (out.getD i 0) (fh (w.getD i 0) s)))):
  bg (aR []) (fl ue FM) (nE w out s i) 5 .normal [(64,64,none)] (nE w (out.set i (eN (out.getD i 0) (fh (w.getD i 0) s))) s (i+1)):=
 wy [ah h1,ah h2,ah h3,jd 167 aD h3,af (aV (v:=aa.raw (Value.int IntKind.u64 ((bM aD (ba 167 aD out)).getD ((0:Nat)+i) (0:Int))))),ah h4,aA h5,yi h6,az h7,az h8,o5 prog 167 aD (show((bM aD (ba 167 aD out)).set ((0:Nat)+i) (IntKind.wrap IntKind.u64 (↑(BitVec.toNat (BitVec.ofInt (64:Nat) ((bM aD (ba 167 aD out)).getD ((0:Nat)+i) (0:Int))|||BitVec.ofInt (64:Nat) (IntKind.wrap IntKind.u64 (w.getD i (0:Int)*(2:Int)^min s.toNat (64:Nat))))):Int)))=(out.set i (eN (out.getD i (0:Int)) (fh (w.getD i (0:Int)) s)))from(by simp only [ew,aw]<;>exact h9))] 59889699868906130213244270183591081680897
def aeX (w out:List Int) (s:Int) (i:Nat) (h1:¬(i:Int)<(w.length:Int)):
  bg (aR []) (fl ue FM) (nE w out s i) 2 (.exit 0) [(64,64,none)] (nE w out s i):=
 wy [aA h1] 1
def aeY (w:List Int) (x:Int) (l:List Int) (s:Int) (i:Nat) (h1:(bJ (x::l).length)=(aZ.full)):
  aC.path (od prog (aR []) ((fl ue []).drop 4) (nE w (x::l) s i)) (dl 1) (Fb prog f225 167 aD (x::l)):=
 wy [vN (an (rr (x::l).length) (an h1 (rr (x::l))))] 1
def cH (w:List Int) (s:Int):List Int:=fI 18446744073709551616 (w.length+1) (aj w*2^s.toNat)
def ye (w:List Int) (s:Int):Bool:=gL w&&(decide (w.length<=400000)&&(decide (0<=s)&&decide (s<64)))
noncomputable def FN:qw:={f:=225,e:=167,t:=aD,ps:=[.list false aD, .int .i64],pre:=fun d=>ye d.1 d.2.1,out:=fun d=>cH d.1 d.2.1}
def Sq {x:Int} {s:Nat} (hs:s<=64) (hx:0<=x/\x<18446744073709551616):fh x s=2^s*(x%2^(64-s)):=by
 unfold fh;rw [Int.toNat_natCast,Nat.min_eq_left hs,dE];exact(K2 hs hx).1
def La {x:Int} {s:Nat} (hs:s<=64) (hx:0<=x):dy x s=x/2^s:=by
 unfold dy;rw [Int.toNat_natCast,Nat.min_eq_left hs];exact Int.fdiv_eq_ediv_of_nonneg _ (cm (dK (by decide) _))
def eK {l:List Int} {i:Nat} (j:Nat) {d:Int}:(l.set i d).getD j 0=if i=j/\i<l.length then d else l.getD j 0:=by
 simp only [ao,List.getElem?_set];by_cases h:i=j
 .subst h;by_cases hl:i<l.length
  .simp [hl]
  .simp [hl]
 .simp [h]
def aeZ {l:List Int} {i:Nat} (h:i<l.length):l.set i (l.getD i 0)=l:=by
 rw [hJ h];exact List.set_getElem_self h
structure CO (w:List Int) (s:Nat) (out:List Int) (i:Nat):Prop where
 le:i<=w.length
 len:out.length=w.length+1
 dg:aT 18446744073709551616 out
 low:out.getD i 0<2^s
 zero:∀k,i<k->out.getD k 0=0
 val:aj (out.take i)+18446744073709551616^i*out.getD i 0=aj (w.take i)*2^s
def ae0 {w:List Int} (hw:aT 18446744073709551616 w) {s:Nat} (hs:s<=63) {out:List Int} {i:Nat} (I:CO w s out i) (hi:i<w.length):
  CO w s ((out.set i (eN (out.getD i 0) (fh (w.getD i 0) s))).set (i+1) (w.getD i 0/2^(64-s))) (i+1):=by
 have hx:=hw.get (by decide) i;have ho:=I.dg.get (by decide) i;obtain⟨l1,l2,l3,l4⟩:=K2 (s:=s) (by omega) hx;have hlen:=I.len;have hp:(0:Int)<2^s:=dK (by decide) _;have hlt:2^s*(w.getD i 0%2^(64-s))<18446744073709551616:=by rw [<-l1];exact e6 _ (by decide)
 have ae1:eN (out.getD i 0) (fh (w.getD i 0) s)=out.getD i 0+2^s*(w.getD i 0%2^(64-s)):=by
  rw [Sq (by omega) hx];exact K1 (by omega) ⟨ho.1,I.low⟩ l4.1 rfl hlt
 have jz:(2:Int)^s*2^(64-s)=18446744073709551616:=by rw [<-Int.pow_add,show s+(64-s)=64 by omega];rfl
 have ae2:0<=out.getD i 0+2^s*(w.getD i 0%2^(64-s))/\out.getD i 0+2^s*(w.getD i 0%2^(64-s))<18446744073709551616:=by
  have h1:=Int.mul_nonneg (cm hp) l4.1;have h2:=eU (show w.getD i 0%2^(64-s)+1<=2^(64-s) by omega) (cm hp);rw [jz,Int.mul_add,Int.mul_one]at h2;have:=I.low;omega
 have hh:0<=w.getD i 0/2^(64-s)/\w.getD i 0/2^(64-s)<18446744073709551616:=by
  have:(2:Int)^s<=2^64:=iQ (by decide) (by omega);have e:(2:Int)^64=18446744073709551616:=rfl;omega
 rw [ae1];refine⟨hi,by simp [hlen],(I.dg.set ae2).set hh, ?_,fun k hk=> ?_, ?_⟩
 .rw [eK,if_pos ⟨rfl,by rw [b6];omega⟩];exact l3.2
 .rw [eK,if_neg (by omega),eK,if_neg (by omega)];exact I.zero k (by omega)
 .rw [eK,if_pos ⟨rfl,by rw [b6];omega⟩];have hv:=I.val;unfold aj at hv ⊢;rw [Aa,x7 (by omega),dq (l:=w) hi,Int.pow_succ];generalize vl 18446744073709551616 (out.take i)=A at*;generalize vl 18446744073709551616 (w.take i)=asw at*;generalize out.getD i 0=o at*;generalize w.getD i 0/2^(64-s)=h at*;generalize w.getD i 0%2^(64-s)=l at*;generalize w.getD i 0=x at*;generalize (18446744073709551616:Int)^i=P at*;generalize (2:Int)^s=S at*;have e:P*(x*S)=P*(S*l+18446744073709551616*h):=by rw [l2]
  grind
def ae3 {w:List Int} {s:Nat} {out:List Int} (I:CO w s out w.length):out=cH w s:=by
 have hv:=I.val;have hl:=I.len;have h1:=dq (b:=18446744073709551616) (l:=out) (k:=w.length) (by omega);rw [eF (by omega)]at h1;rw [dI]at hv;have h2:=KX (b:=18446744073709551616) (by decide) I.dg;unfold cH;rw [Int.toNat_natCast,<-hv];unfold aj;rw [<-h1,<-hl];exact h2
def ae4 (w:List Int) (CP:Int) (h:ye w CP=true) (w0:World) (F:Sv.Env):aP prog w0 F 40 (fl ue []) (de [bE w,iv CP] .nil 0) H0 (Kr prog f225 167 aD (cH w CP)):=by
 unfold ye at h;simp only [ae,bB,cp]at h;obtain⟨hw,hl,h0,h1⟩:=h;obtain⟨s,rfl⟩:∃s:Nat,CP=(s:Int):=⟨CP.toNat,by omega⟩;have e1:((w.length:Int)+1).toNat=w.length+1:=by omega
 refine cC bc 3 (aeU w s (by omega) (by omega) (by rw [gz,e1]) (by rw [e1]) (by rw [gz]) (by rw [e1];exact x8 _) (by rw [gz])) ?_;have hz:∀k,(cG (w.length+1)).getD k 0=0:=fun k=>by
  unfold cG;rw [ao,List.getElem?_replicate];split<;>rfl
 refine aP.loop (ι:={p:List Int×Nat//CO w s p.1 p.2}) (id:=0) (b:=cat ue FM) (rest:=(fl ue []).drop 4) (by kernel_rfl) (fun p=>nE w p.1.1 s p.1.2) (fun p=>w.length-p.1.2)
  ⟨(cG (w.length+1),0),⟨Nat.zero_le _,gz _,Ad _,by show(cG (w.length+1)).getD 0 0<_;rw [hz];exact dK (by decide) _,fun k _=>hz k,by show vl _ ([]:List Int)+_*(cG (w.length+1)).getD 0 0=vl _ ([]:List Int)*_;rw [hz];simp [vl]⟩⟩ (fun _=>rfl) ?_
 rintro⟨⟨out,i⟩,I⟩;have I:CO w s out i:=I;have hlen:=I.len;by_cases hi:i<w.length
 .have hx:=hw.get (by decide) i;have N:=ae0 hw (by omega) I hi;have kS:((i:Int)+1).toNat=i+1:=by omega
  by_cases hs0:s=0
  .subst hs0;have e2:(out.set i (eN (out.getD i 0) (fh (w.getD i 0) (0:Nat)))).set (i+1) (w.getD i 0/2^(64-0))=out.set i (eN (out.getD i 0) (fh (w.getD i 0) (0:Nat))):=by
    have e3:w.getD i 0/2^(64-0)=(out.set i (eN (out.getD i 0) (fh (w.getD i 0) (0:Nat)))).getD (i+1) 0:=by
     rw [eK,if_neg (by omega),I.zero (i+1) (by omega)];exact Int.ediv_eq_zero_of_lt hx.1 hx.2
    rw [e3];exact aeZ (by rw [b6];omega)
   rw [e2]at N;exact aP.all (s:=nE w out (0:Nat) i) (s':=nE w (out.set i (eN (out.getD i 0) (fh (w.getD i 0) (0:Nat)))) (0:Nat) (i+1)) known mixed bc _ (aeW w out _ i (by omega) hi (by omega) (by omega) (by omega) (by omega) (by rw [b6]) (by rw [b6]) rfl) (by kernel_rfl)
    ⟨⟨(_,i+1),N⟩,by simp;omega,rfl,rfl⟩
  .have bU:dy (w.getD i 0) (64-(s:Int))=w.getD i 0/2^(64-s):=by
    rw [show(64-(s:Int))=((64-s:Nat):Int) by omega];exact La (by omega) hx.1
   rw [<-bU]at N;exact aP.all (s:=nE w out s i) (s':=nE w ((out.set i (eN (out.getD i 0) (fh (w.getD i 0) s))).set (i+1) (dy (w.getD i 0) (64-s))) s (i+1)) known mixed bc _ (aeV w out s i (by omega) hi (by omega) (by omega) (by omega) (by omega) (by omega) (by omega) (by rw [kS];omega) (by rw [kS,zv];exact ax (by rw [b6];omega)) (by simp) (by simp) (by rw [kS];rfl)) (by kernel_rfl)
    ⟨⟨(_,i+1),N⟩,by simp;omega,rfl,rfl⟩
 .refine bl (s:=nE w out s i) bc (aeX w out s i (by omega)) ?_;refine cw (cz ?_);have hle:=I.le;obtain rfl:i=w.length:=by omega
  rw [<-ae3 I];cases out with
  |nil=>have:=I.len;simp at this
  |cons x l=>exact aP.abO known mixed bc 8 _ (aeY w x l s w.length rfl) fun T H h=>h
def ae5:FN.Ok prog:=
 ⟨rfl,_,ue,func225,rfl,by decide,fun⟨w,s,_⟩ h=>⟨by show 1<=(cH w s).length;unfold cH;rw [yc];omega,fun w0 F=>ae4 w s h w0 F⟩⟩
end
end
end Go.Proofs.YtibikmmdbdlafaaGreatDoor
