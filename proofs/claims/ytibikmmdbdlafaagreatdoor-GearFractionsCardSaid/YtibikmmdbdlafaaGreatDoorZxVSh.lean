/- Package num: integers. -/
import Derived.Test.YtibikmmdbdlafaaGreatDoorZxNI
import Derived.Test.YtibikmmdbdlafaaGreatDoorZxSvGive
set_option linter.unusedVariables false
set_option maxRecDepth 100000
set_option linter.unusedSimpArgs false
namespace Go.Proofs.YtibikmmdbdlafaaGreatDoor
open Go.RowKit Sv Go.Proofs.Tryz
noncomputable section
abbrev cV:au:= .pair (.int .i64) (.list true aB)
abbrev aH (a:aM):aa:= .agg [iv a.1, .bk true aB a.2]
noncomputable def vB:Code:=(f142.body).getD .skip
noncomputable def xf:Code:=(f141.body).getD .skip
noncomputable def Kt:Code:=(f140.body).getD .skip
noncomputable def Ku:bn:={f:=140,ps:=[.int .i64],rs:=[aB],fresh:=true,pre:=fun d=>gd d.1,fn:=fun d=>(cg d.1,())}
noncomputable def Fc:bF:=a7 [Ku]
theorem adO (n:Int) (h1:n<0) (h2:(IntKind.wrap IntKind.u64 (IntKind.wrap IntKind.i64 (0-n)))=(cg n)):
  bq (a7 []) (fl Kt []) 9 10 [iv n] 3 f140 true (cl (cg n)):=
 wy [ah h1,ax h2] 129
theorem adP (n:Int) (h1:¬n<0) (h2:(IntKind.wrap IntKind.u64 n)=(cg n)):
  bq (a7 []) (fl Kt []) 9 10 [iv n] 2 f140 true (cl (cg n)):=
 wy [aJ h1,ax h2] 129
theorem adQ (a:aM) (h1:a.2.isEmpty=false) (h2:(decide (a.1<0))=(bV a)) (h3:a.2=(ay a)):
  bq Fc (fl xf []) 9 24 [aH a] 3 f141 false (.tuple [bv (bV a),bE (ay a)]):=
 wy [af (bx (h1)),af (aW (v:=iv (a.1)) (by kernel_rfl)),af (aW (v:=aa.bk true aB a.2) (by kernel_rfl)),ax h2,ax h3] 84947073
theorem adR (a:aM) (h1:a.2.isEmpty=true) (h2:a.1=0) (h3:(false)=(bV a)) (h4:(ay a)=([])):
  bq Fc (fl xf []) 9 24 [aH a] 6 f141 false (.tuple [bv (bV a),bE (ay a)]):=
 wy [af (bx (h1)),c8 h2,ax h3,ax h4] 1060993
theorem adS (a:aM) (h1:a.2.isEmpty=true) (h2:¬a.1=0) (h3:(gd a.1)=true) (h4:(decide (a.1<0))=(bV a)) (h5:([cg a.1])=(ay a)) (h6:(Nat.ble (1*1) (aa.raw (Value.int .u64 (cg a.1))::List.append._f [] PUnit.unit (List.flatten._f [] PUnit.unit)).length&&(!false||Nat.ble 1 1))=true):
  bq Fc (fl xf []) 9 24 [aH a] 4 f141 false (.tuple [bv (bV a),bE (ay a)]):=
 wy [af (bx (h1)),yn h2,af (aW (v:=iv (a.1)) (by kernel_rfl)),af h3,ax h4,oT (an h5 (show(Nat.ble ((0:Nat)+(1:Nat)*(1:Nat)) (aa.raw (Value.int IntKind.u64 (cg a.1))::List.append._f [] PUnit.unit (List.flatten._f [] PUnit.unit)).length&&(!false||Nat.ble (1:Nat) (1:Nat)))=true from(by simp only [aw]<;>exact h6)))] 1711049540382849
def b6 (neg:Bool) (w:List Int):Int:=match neg with |true=> -aj w|false=>aj w
theorem adT (neg:Bool) (w:List Int) (h1:(w.length:Int)=0) (h2:(0)=(aV (b6 neg w)).1) (h3:(aV (b6 neg w)).2=([])):
  bq (a7 []) (fl vB []) 9 50 [bv neg,bE w] 3 f142 false (aH (aV (b6 neg w))):=
 wy [c8 h1,ax h2,ax h3] 12417
theorem adU (neg:Bool) (w:List Int) (h1:¬(w.length:Int)=0) (h2:(w.length:Int)=1) (h3:Int.toNat 0<w.length) (h4:w.getD (Int.toNat 0) 0<=9223372036854775807) (h5:(neg)=true) (h6:(IntKind.wrap IntKind.i64 (0-IntKind.wrap IntKind.i64 (w.getD (Int.toNat 0) 0)))=(aV (b6 neg w)).1) (h7:(aV (b6 neg w)).2=([])):
  bq (a7 []) (fl vB []) 9 50 [bv neg,bE w] 1022 f142 false (aH (aV (b6 neg w))):=
 wy [yn h1,af (aQ (fU.mpr h2)),ah h3,c8 h2,af (aQ (az h4)),ah h4,af h5,ax h6,ax h7] 176517344943146498453938305
theorem adV (neg:Bool) (w:List Int) (h1:¬(w.length:Int)=0) (h2:(w.length:Int)=1) (h3:Int.toNat 0<w.length) (h4:w.getD (Int.toNat 0) 0<=9223372036854775807) (h5:(neg)=false) (h6:(IntKind.wrap IntKind.i64 (w.getD (Int.toNat 0) 0))=(aV (b6 neg w)).1) (h7:(aV (b6 neg w)).2=([])):
  bq (a7 []) (fl vB []) 9 50 [bv neg,bE w] 65278 f142 false (aH (aV (b6 neg w))):=
 wy [yn h1,af (aQ (fU.mpr h2)),ah h3,c8 h2,af (aQ (az h4)),ah h4,af h5,ax h6,ax h7] 49685215221999092210630363047398624731265
theorem adW (neg:Bool) (w:List Int) (h1:¬(w.length:Int)=0) (h2:(w.length:Int)=1) (h3:Int.toNat 0<w.length) (h4:¬w.getD (Int.toNat 0) 0<=9223372036854775807) (h5:(neg)=true) (h6:(-1:Int)=(aV (b6 neg w)).1) (h7:(w)=(aV (b6 neg w)).2) (h8:1<=(aV (b6 neg w)).2.length):
  bq (a7 []) (fl vB []) 9 50 [bv neg,bE w] 114238 f142 false (aH (aV (b6 neg w))):=
 wy [yn h1,af (aQ (fU.mpr h2)),ah h3,c8 h2,af (aQ (ab h4)),aJ h4,af h5,ax h6,ax h7,af (fo h8)] 55221595208755305796440247856831230124161
theorem adX (neg:Bool) (w:List Int) (h1:¬(w.length:Int)=0) (h2:(w.length:Int)=1) (h3:Int.toNat 0<w.length) (h4:¬w.getD (Int.toNat 0) 0<=9223372036854775807) (h5:(neg)=false) (h6:(1)=(aV (b6 neg w)).1) (h7:(w)=(aV (b6 neg w)).2) (h8:1<=(aV (b6 neg w)).2.length):
  bq (a7 []) (fl vB []) 9 50 [bv neg,bE w] 81470 f142 false (aH (aV (b6 neg w))):=
 wy [yn h1,af (aQ (fU.mpr h2)),ah h3,c8 h2,af (aQ (ab h4)),aJ h4,af h5,ax h6,ax h7,af (fo h8)] 55221595208755305796440247856831230124161
theorem adY (neg:Bool) (w:List Int) (h1:¬(w.length:Int)=0) (h2:¬(w.length:Int)=1) (h3:(neg)=true) (h4:(-1:Int)=(aV (b6 neg w)).1) (h5:(w)=(aV (b6 neg w)).2) (h6:1<=(aV (b6 neg w)).2.length):
  bq (a7 []) (fl vB []) 9 50 [bv neg,bE w] 98304 f142 false (aH (aV (b6 neg w))):=
 wy [yn h1,af (aQ (fP.mpr h2)),yn h2,af h3,ax h4,ax h5,af (fo h6)] 2302454583503482069828190673051777
theorem adZ (neg:Bool) (w:List Int) (h1:¬(w.length:Int)=0) (h2:¬(w.length:Int)=1) (h3:(neg)=false) (h4:(1)=(aV (b6 neg w)).1) (h5:(w)=(aV (b6 neg w)).2) (h6:1<=(aV (b6 neg w)).2.length):
  bq (a7 []) (fl vB []) 9 50 [bv neg,bE w] 65536 f142 false (aH (aV (b6 neg w))):=
 wy [yn h1,af (aQ (fP.mpr h2)),yn h2,af h3,ax h4,ax h5,af (fo h6)] 2302454583503482069828190673051777
noncomputable def Fe:bn:={f:=141,ps:=[cV],rs:=[.bool, .list false aB],fresh:=false,pre:=fun d=>aD d.1,fn:=fun d=>(bV d.1,ay d.1,())}
noncomputable def Kv:bn:={f:=142,ps:=[.bool, .list false aB],rs:=[cV],fresh:=false,pre:=fun d=>gA d.2.1&&ju d.2.1,fn:=fun d=>(aV (b6 d.1 d.2.1),())}
theorem vC {x:Int} (h: -9223372036854775808<=x/\x<=9223372036854775807):IntKind.wrap .i64 x=x:=Qc (bm h)
theorem ad0 (n:Int) (h:gd n=true):Holds prog true 140 [iv n] (cl (cg n)):=by
 have h:=qv.1 h;refine bJ (c:=Kt) func140 rfl rfl fun w F=> ?_
 by_cases hn:n<0
 .refine bu ba 9 (adO n hn ?_);unfold cg;by_cases hm:n= -9223372036854775808
  .subst hm;rfl
  .rw [vC (by omega),fA (by omega)];omega
 .refine bu ba 9 (adP n hn ?_);unfold cg;rw [fA (by omega)];omega
theorem RB:Ku.Ok prog:=fun⟨n,_⟩ h=>ad0 n h
theorem Kw:bB prog (bD Fc):=ri RB
theorem ad1 (a:aM) (h:aD a=true):Holds prog false 141 [aH a] (.tuple [bv (bV a),bE (ay a)]):=by
 refine bJ (c:=xf) func141 rfl rfl fun w F=> ?_
 by_cases hs:a.2=[]
 .have h:=(nk hs).symm.trans h;by_cases h0:a.1=0
  .refine bu Kw 9 (adR a (dc.2 hs) h0 ?_ ?_)
   .unfold bV;rw [h0];rfl
   .unfold ay;rw [if_pos hs,if_pos h0]
  .refine bu Kw 9 (adS a (dc.2 hs) h0 h rfl ?_ rfl);unfold ay;rw [if_pos hs,if_neg h0]
 .refine bu Kw 9 (adQ a (f5.2 hs) rfl ?_);unfold ay;rw [if_neg hs]
theorem po:Fe.Ok prog:=fun⟨a,_⟩ h=>ad1 a h
theorem Ky (neg:Bool) {w:List Int} (hw:aP 18446744073709551616 w):((b6 neg w).natAbs:Int)=aj w:=by
 have:=fK (b:=18446744073709551616) (by decide) hw;unfold b6 aj;cases neg<;>simp only<;>omega
theorem RC {neg:Bool} {w:List Int} (hw:aP 18446744073709551616 w) (ht:eX w) (h:9223372036854775807<aj w):aV (b6 neg w)=(if neg then-1 else 1,w):=by
 have ha:=Ky neg hw;have hd:cM 18446744073709551616 ((b6 neg w).natAbs:Int)=w:=by rw [ha];exact(d9 (by decide) hw ht rfl).symm
 unfold aV;rw [hd];unfold b6 at ha ⊢;cases neg
 .simp only at ha ⊢;rw [if_neg (by omega),if_neg (by omega)];rfl
 .simp only at ha ⊢;rw [if_neg (by omega),if_pos (by omega)];rfl
theorem rC {z:Int} (h: -9223372036854775807<=z/\z<=9223372036854775807):aV z=(z,[]):=by unfold aV;rw [if_pos h]
theorem ad2 (neg:Bool) (w:List Int) (h1:aP 18446744073709551616 w) (h2:eX w):Holds prog false 142 [bv neg,bE w] (aH (aV (b6 neg w))):=by
 refine bJ (c:=vB) func142 rfl rfl fun w0 F=> ?_
 cases w with
 |nil=>
  have e:aV (b6 neg [])=(0,[]):=by
   have:b6 neg []=0:=by cases neg<;>rfl
   rw [this];exact rC (by decide)
  exact bu ba 9 (adT neg [] rfl (by rw [e]) (by rw [e]))
 |cons x l=>
  have hx:=h1.head;have hne:¬((x::l).length:Int)=0:=by simp;omega
  cases l with
  |nil=>
   have hv:aj [x]=x:=pk x;by_cases hs:x<=9223372036854775807
   .cases neg with
    |true=>
     have e:aV (b6 true [x])=(-x,[]):=by
      show aV (-aj [x])=_;rw [hv];exact rC (by omega)
     refine bu ba 9 (adU true [x] hne rfl (by simp) hs rfl ?_ (by rw [e]));rw [e];show IntKind.wrap .i64 (0-IntKind.wrap .i64 x)= -x;rw [vC (x:=x) (by omega),vC (by omega)];omega
    |false=>
     have e:aV (b6 false [x])=(x,[]):=by
      show aV (aj [x])=_;rw [hv];exact rC (by omega)
     refine bu ba 9 (adV false [x] hne rfl (by simp) hs rfl ?_ (by rw [e]));rw [e];exact vC (x:=x) (by omega)
   .have e:=RC (neg:=neg) h1 h2 (by omega);cases neg with
    |true=>exact bu ba 9 (adW true [x] hne rfl (by simp) hs rfl (by rw [e];rfl) (by rw [e]) (by rw [e];simp))
    |false=>exact bu ba 9 (adX false [x] hne rfl (by simp) hs rfl (by rw [e];rfl) (by rw [e]) (by rw [e];simp))
  |cons y l=>
   have hbig:9223372036854775807<aj (x::y::l):=by
    have h3:=xL (b:=18446744073709551616) (by decide) h1 h2 (k:=l.length+1) (by simp);have h4:=iG (b:=18446744073709551616) (by decide) (show 1<=l.length+1 by omega);rw [Int.pow_one]at h4;unfold aj;omega
   have e:=RC (neg:=neg) h1 h2 hbig;have mX:¬((x::y::l).length:Int)=1:=by simp;omega
   cases neg with
   |true=>exact bu ba 9 (adY true _ hne mX rfl (by rw [e];rfl) (by rw [e]) (by rw [e];simp))
   |false=>exact bu ba 9 (adZ false _ hne mX rfl (by rw [e];rfl) (by rw [e]) (by rw [e];simp))
theorem RD:Kv.Ok prog:=fun⟨neg,w,_⟩ h=>by
 have h:(gA w&&ju w)=true:=h;rw [ae]at h;exact ad2 neg w (cf.1 h.1) (qq.1 h.2)
end
noncomputable section
noncomputable def Ff:Code:=(f147.body).getD .skip
noncomputable def Kz:Code:=(f170.body).getD .skip
noncomputable def RE:Code:=(f128.body).getD .skip
noncomputable def tG:Code:=(f82.body).getD .skip
noncomputable def RF:Code:=(f150.body).getD .skip
noncomputable def tH:Code:=(f81.body).getD .skip
noncomputable def z1:Code:=(f93.body).getD .skip
noncomputable def j8:bF:=a7 [Fe,Kv,Rj,Rk,Kf,Ru,E4,Ku]
abbrev mI (a:aM):fy:= .blk (.cells 83 [iv a.1, .bk true aB a.2] true false false)
abbrev b0:fy:= .blk (.cells 83 [iv 0, .raw (.slice none 0 0)] true false false)
abbrev s3:Sv.Ren:=[(64,64,none),(65,65,none),(66,66,none)]
def jR (a b:aM) (n:Nat):bC:={n:=n,sl:=[(2, .ptr 64 0),(3, .ptr 65 0),(4, .ptr 66 0)],bG:=[(64,mI a),(65,mI b),(66,b0)],next:=67}
theorem ad3 (a:aM) (h1:a.2.isEmpty=true) (h2:¬a.1= -9223372036854775808) (h3:(IntKind.wrap IntKind.i64 (0-a.1))=(-a.1)):
  bq j8 (fl Ff []) 9 26 [aH a] 63 f147 false (aH (-a.1,[])):=
 wy [af (aQ (aQ (h1))),af (aQ (h1)),af (gJ.mpr h2),ax h3] 4345827393
theorem ad4 (a:aM) (h1:a.2.isEmpty=true) (h2:a.1= -9223372036854775808) (h3:(aD a)=true) (h4:(gA (ay a)&&ju (ay a))=true):
  bq j8 (fl Ff []) 9 26 [aH a] 47 f147 false (aH (aV (b6 (!bV a) (ay a)))):=
 wy [af (aQ (aQ (h1))),af (aQ (h1)),af (jA.mpr h2),af h3,af h4] 347943211073
theorem ad5 (a:aM) (h1:a.2.isEmpty=false) (h2:(aD a)=true) (h3:(gA (ay a)&&ju (ay a))=true):
  bq j8 (fl Ff []) 9 26 [aH a] 32 f147 false (aH (aV (b6 (!bV a) (ay a)))):=
 wy [af (aQ (aQ (h1))),af (aQ (h1)),af h2,af h3] 278099660865
theorem ad6 (a:aM) (h1:(if(if a.1<1 then a.1 else 1)> -1 then if a.1<1 then a.1 else 1 else(-1:Int))=(kU a.1)):
  bq (a7 []) (fl RE []) 9 7 [aH a] 1 f128 true (iv (kU a.1)):=
 wy [ax h1] 1
theorem ad7 (a b:aM) (h1:a.2.isEmpty=true) (h2:b.2.isEmpty=true) (h3:i6 (a.1+b.1)) (h4:decide (a.1+b.1>a.1)=decide (b.1>0)):
  bq j8 (fl tG []) 3 67 [aH a,aH b] 127 f82 false (aH (a.1+b.1,[])):=
 wy [af (aQ (aQ (h1))),af (aQ (h1)),af (aQ (h2)),yi h3,c8 h4] 347943211073
theorem ad8 (a b:aM) (h1:a.2.isEmpty=false):
  cT j8 (fl tG []) 3 67 [aH a,aH b] 32 .normal s3 (jR a b 67):=
 wy [af (aQ (aQ (h1))),af (aQ (h1))] 528449
theorem ad9 (a b:aM) (h1:a.2.isEmpty=true) (h2:b.2.isEmpty=false):
  cT j8 (fl tG []) 3 67 [aH a,aH b] 47 .normal s3 (jR a b 67):=
 wy [af (aQ (aQ (h1))),af (aQ (h1)),af (aQ (h2))] 50860097
theorem aea (a b:aM) (h1:a.2.isEmpty=true) (h2:b.2.isEmpty=true) (h3:(fits IntKind.i64 (a.1+b.1))=false) (h4:¬decide (IntKind.wrap IntKind.i64 (a.1+b.1)>a.1)=decide (b.1>0)):
  aA.s8 (oS prog j8 (fl tG []) 3 67 [aH a,aH b]) (dl 95) (dX prog 67 .normal s3 (jR a b 67)):=
 aaQ [af (aQ (aQ (h1))),af (aQ (h1)),af (aQ (h2)),af h3,yn h4] 347943211073
theorem aeb (a b:aM) (h1:(aD a)=true) (h2:(aD b)=true) (h3:bV a=bV b) (h4:(kO (ay a) (ay b))=true) (h5:(gA (vr (ay a) (ay b))&&ju (vr (ay a) (ay b)))=true):
  bQ j8 ((fl tG []).drop 3) (jR a b 67) 3 f82 false (aH (aV (b6 (bV a) (vr (ay a) (ay b))))):=
 wy [af h1,af h2,c8 h3,af h4,af h5] 84947073
theorem aec (a b:aM) (h1:(aD a)=true) (h2:(aD b)=true) (h3:¬bV a=bV b) (h4:(mH (ay a) (ay b))=true) (h5:kP (aj (ay a)) (aj (ay b))>=0) (h6:(kO (ay a) (ay b)&&decide (aj (ay b)<=aj (ay a)))=true) (h7:(gA (oX (ay a) (ay b))&&ju (oX (ay a) (ay b)))=true):
  bQ j8 ((fl tG []).drop 3) (jR a b 67) 6 f82 false (aH (aV (b6 (bV a) (oX (ay a) (ay b))))):=
 wy [af h1,af h2,yn h3,af h4,ah h5,af h6,af h7] 487563735169
theorem aed (a b:aM) (h1:(aD a)=true) (h2:(aD b)=true) (h3:¬bV a=bV b) (h4:(mH (ay a) (ay b))=true) (h5:¬kP (aj (ay a)) (aj (ay b))>=0) (h6:(kO (ay b) (ay a)&&decide (aj (ay a)<=aj (ay b)))=true) (h7:(gA (oX (ay b) (ay a))&&ju (oX (ay b) (ay a)))=true):
  bQ j8 ((fl tG []).drop 3) (jR a b 67) 4 f82 false (aH (aV (b6 (bV b) (oX (ay b) (ay a))))):=
 wy [af h1,af h2,yn h3,af h4,aJ h5,af h6,af h7] 487563735169
theorem aee (a b:aM) (h1:a.2.isEmpty=true) (h2:b.2.isEmpty=true) (h3:(gd a.1)=true) (h4:(gd b.1)=true) (h5:(kQ (cg a.1) (cg b.1))=true) (h6:fj (cg a.1) (cg b.1)=0) (h7:cH (cg a.1) (cg b.1)<=9223372036854775807) (h8:¬decide (a.1<0)=decide (b.1<0)) (h9:(IntKind.wrap IntKind.i64 (0-IntKind.wrap IntKind.i64 (cH (cg a.1) (cg b.1))))=(-cH (cg a.1) (cg b.1))):
  bq j8 (fl tH []) 3 66 [aH a,aH b] 2047 f81 false (aH (-(cH (cg a.1) (cg b.1)),[])):=
 wy [af (aQ (aQ (h1))),af (aQ (h1)),af (aQ (h2)),af (aW (v:=iv (a.1)) (by kernel_rfl)),af h3,af (aW (v:=iv (b.1)) (by kernel_rfl)),af h4,af h5,af (aQ (fU.mpr h6)),c8 h6,ah h7,af (cm (fP.mpr h8)),ax h9] 1045037229590394484215400370241
theorem aef (a b:aM) (h1:a.2.isEmpty=true) (h2:b.2.isEmpty=true) (h3:(gd a.1)=true) (h4:(gd b.1)=true) (h5:(kQ (cg a.1) (cg b.1))=true) (h6:fj (cg a.1) (cg b.1)=0) (h7:cH (cg a.1) (cg b.1)<=9223372036854775807) (h8:decide (a.1<0)=decide (b.1<0)) (h9:(IntKind.wrap IntKind.i64 (cH (cg a.1) (cg b.1)))=(cH (cg a.1) (cg b.1))):
  bq j8 (fl tH []) 3 66 [aH a,aH b] 1535 f81 false (aH (cH (cg a.1) (cg b.1),[])):=
 wy [af (aQ (aQ (h1))),af (aQ (h1)),af (aQ (h2)),af (aW (v:=iv (a.1)) (by kernel_rfl)),af h3,af (aW (v:=iv (b.1)) (by kernel_rfl)),af h4,af h5,af (aQ (fU.mpr h6)),c8 h6,ah h7,af (cm (fU.mpr h8)),ax h9] 1045037229590394484215400370241
theorem aeg (a b:aM) (h1:a.2.isEmpty=true) (h2:b.2.isEmpty=true) (h3:(gd a.1)=true) (h4:(gd b.1)=true) (h5:(kQ (cg a.1) (cg b.1))=true) (h6:fj (cg a.1) (cg b.1)=0) (h7:¬cH (cg a.1) (cg b.1)<=9223372036854775807):
  cT j8 (fl tH []) 3 66 [aH a,aH b] 767 .normal s3 (jR a b 66):=
 wy [af (aQ (aQ (h1))),af (aQ (h1)),af (aQ (h2)),af (aW (v:=iv (a.1)) (by kernel_rfl)),af h3,af (aW (v:=iv (b.1)) (by kernel_rfl)),af h4,af h5,af (aQ (fU.mpr h6)),c8 h6,aJ h7] 215836433533532200539525185
theorem aeh (a b:aM) (h1:a.2.isEmpty=true) (h2:b.2.isEmpty=true) (h3:(gd a.1)=true) (h4:(gd b.1)=true) (h5:(kQ (cg a.1) (cg b.1))=true) (h6:¬fj (cg a.1) (cg b.1)=0):
  cT j8 (fl tH []) 3 66 [aH a,aH b] 543 .normal s3 (jR a b 66):=
 wy [af (aQ (aQ (h1))),af (aQ (h1)),af (aQ (h2)),af (aW (v:=iv (a.1)) (by kernel_rfl)),af h3,af (aW (v:=iv (b.1)) (by kernel_rfl)),af h4,af h5,af (aQ (fP.mpr h6)),yn h6] 3065489281357465791238209
theorem aei (a b:aM) (h1:a.2.isEmpty=true) (h2:b.2.isEmpty=false):
  cT j8 (fl tH []) 3 66 [aH a,aH b] 47 .normal s3 (jR a b 66):=
 wy [af (aQ (aQ (h1))),af (aQ (h1)),af (aQ (h2))] 50860097
theorem aej (a b:aM) (h1:a.2.isEmpty=false):
  cT j8 (fl tH []) 3 66 [aH a,aH b] 32 .normal s3 (jR a b 66):=
 wy [af (aQ (aQ (h1))),af (aQ (h1))] 528449
theorem aek (a b:aM) (h1:(aD a)=true) (h2:(aD b)=true) (h3:(kO (ay a) (ay b))=true) (h4:(gA (oZ (ay a) (ay b))&&ju (oZ (ay a) (ay b)))=true) (h5:(aV (b6 (!bV a==bV b) (oZ (ay a) (ay b)))).1=(aV (b6 (bV a != bV b) (oZ (ay a) (ay b)))).1) (h6:(aV (b6 (!bV a==bV b) (oZ (ay a) (ay b)))).2=(aV (b6 (bV a != bV b) (oZ (ay a) (ay b)))).2):
  bQ j8 ((fl tH []).drop 3) (jR a b 66) 1 f81 false (aH (aV (b6 (bV a != bV b) (oZ (ay a) (ay b))))):=
 wy [af h1,af h2,af h3,af h4,ax h5,ax h6] 6527398017
noncomputable def xU:bn:={f:=147,ps:=[cV],rs:=[cV],fresh:=false,pre:=fun d=>aD d.1,fn:=fun d=>(eS d.1,())}
noncomputable def vD:bn:={f:=128,ps:=[cV],rs:=[.int .i64],fresh:=true,pre:=fun d=>aD d.1,fn:=fun d=>(eY d.1,())}
noncomputable def vE:bn:={f:=82,ps:=[cV,cV],rs:=[cV],fresh:=false,pre:=fun d=>aD d.1&&aD d.2.1,fn:=fun d=>(cF d.1 d.2.1,())}
noncomputable def xV:bn:={f:=81,ps:=[cV,cV],rs:=[cV],fresh:=false,pre:=fun d=>aD d.1&&aD d.2.1,fn:=fun d=>(bU d.1 d.2.1,())}
theorem ge:bB prog (bD j8):=cR (aT po (aT RD (aT acq (aT acu (aT Rr (aT adl (aT ph (aT RB dY))))))))
theorem xW {z:Int} (h:0<=z):(gA (cM 18446744073709551616 z)&&ju (cM 18446744073709551616 z))=true:=by
 obtain⟨h1,h2,_⟩:=d8 (b:=18446744073709551616) (by decide) h;rw [cf.2 h1,qq.2 h2];rfl
theorem vF {z:Int} (h:0<=z):aj (cM 18446744073709551616 z)=z:=(d8 (b:=18446744073709551616) (by decide) h).2.2
theorem RG {a:aM} (h:aD a=true):(gA (ay a)&&ju (ay a))=true:=by
 obtain⟨h1,h2,_⟩:=jQ h;rw [cf.2 h1,qq.2 h2];rfl
theorem Fg {a b:aM} (h:aD a=true) (g:aD b=true):kO (ay a) (ay b)=true:=by
 obtain⟨h1,_,_,_,h5⟩:=jQ h;obtain⟨g1,_,_,_,g5⟩:=jQ g;unfold kO;rw [cf.2 h1,cf.2 g1,az (show(ay a).length<=400000 by omega),az (show(ay b).length<=400000 by omega)];rfl
theorem KA {a b:aM} (h:aD a=true) (g:aD b=true):mH (ay a) (ay b)=true:=by
 obtain⟨h1,h2,_,_,h5⟩:=jQ h;obtain⟨g1,g2,_⟩:=jQ g;unfold mH;rw [cf.2 h1,qq.2 h2,cf.2 g1,qq.2 g2,az (show(ay a).length<=1000000 by omega)];rfl
theorem xX {a:aM} (h:aD a=true) (hs:a.2=[]): -9223372036854775808<=a.1/\a.1<=9223372036854775807:=qv.1 ((nk hs).symm.trans h)
theorem ael (a:aM) (h:aD a=true):Holds prog false 147 [aH a] (aH (eS a)):=by
 obtain⟨h1,h2,h3,h4,_⟩:=jQ h;have e2:aV (b6 (!bV a) (ay a))=eS a:=by
  unfold eS;congr 1;cases hn:bV a
  .have:¬aq a<0:=fun hh=>by rw [h4.2 hh]at hn;cases hn
   show-aj (ay a)=_;omega
  .have:=h4.1 hn;show aj (ay a)=_;omega
 refine bJ (c:=Ff) func147 rfl rfl fun w F=> ?_
 by_cases hs:a.2=[]
 .have hr:=xX h hs;by_cases hm:a.1= -9223372036854775808
  .rw [<-e2];exact bu ge 9 (ad4 a (dc.2 hs) hm h (RG h))
  .have e:eS a=(-a.1,[]):=by unfold eS;rw [lG hs];exact rC (by omega)
   rw [e];refine bu ge 9 (ad3 a (dc.2 hs) hm ?_);rw [vC (by omega)];omega
 .rw [<-e2];exact bu ge 9 (ad5 a (f5.2 hs) h (RG h))
theorem z6:xU.Ok prog:=fun⟨a,_⟩ h=>ael a h
theorem aem {a:aM} (h:aD a=true):eY a=kU a.1:=by
 unfold eY;by_cases hs:a.2=[]
 .rw [lG hs]
 .obtain⟨h1,_,_,h4,_⟩:=(o7 hs).1 h;have hv:aq a=a.1*aj a.2:=by unfold aq;rw [if_neg hs]
  rw [hv];rcases h1 with h1|h1<;>rw [h1]
  .rw [Ks (by omega),Ks (by omega)]
  .rw [Fb (by omega),Fb (by omega)]
theorem aen (a:aM) (h:aD a=true):Holds prog true 128 [aH a] (iv (eY a)):=by
 rw [aem h];refine bJ (c:=RE) func128 rfl rfl fun w F=> ?_
 refine bu ba 9 (ad6 a ?_);unfold kU;split<;>split<;>split<;>(try split)<;>omega
theorem xY:vD.Ok prog:=fun⟨a,_⟩ h=>aen a h
theorem KB (a b:aM) (h:aD a=true) (g:aD b=true) (hn:cF a b=aV (aq a+aq b)) (w:World) (F:Sv.Env):
  aR prog w F 67 ((fl tG []).drop 3) (jR a b 67).T (jR a b 67).H (gk prog false f82 (aH (cF a b))):=by
 obtain⟨h1,h2,h3,h4,_⟩:=jQ h;obtain⟨g1,g2,g3,g4,_⟩:=jQ g;rw [hn];by_cases hs:bV a=bV b
 .have e:aV (b6 (bV a) (vr (ay a) (ay b)))=aV (aq a+aq b):=by
   congr 1;have hv:aj (vr (ay a) (ay b))=aj (ay a)+aj (ay b):=vF (by omega);cases hna:bV a
   .have:¬aq a<0:=fun hh=>by rw [h4.2 hh]at hna;cases hna
    have:¬aq b<0:=fun hh=>by rw [<-hs,hna]at g4;have:=g4.2 hh;cases this
    show aj _=_;omega
   .have:=h4.1 hna;have:=g4.1 (by rw [<-hs];exact hna);show-aj _=_;omega
  rw [<-e];exact bT (s:=jR a b 67) ge (aeb a b h g hs (Fg h g) (xW (show 0<=aj (ay a)+aj (ay b) by omega)))
 .have hab:(aq a<0/\¬aq b<0)\/(¬aq a<0/\aq b<0):=by
   cases hna:bV a<;>cases hnb:bV b
   .rw [hna,hnb]at hs;exact absurd rfl hs
   .exact .inr ⟨fun hh=>(by rw [h4.2 hh]at hna;cases hna),g4.1 hnb⟩
   .exact .inl ⟨h4.1 hna,fun hh=>(by rw [g4.2 hh]at hnb;cases hnb)⟩
   .rw [hna,hnb]at hs;exact absurd rfl hs
  by_cases hge:kP (aj (ay a)) (aj (ay b))>=0
  .have hle:aj (ay b)<=aj (ay a):=by
    unfold kP at hge;split at hge
    .omega
    .omega
   have hv:aj (oX (ay a) (ay b))=aj (ay a)-aj (ay b):=vF (by omega);have e:aV (b6 (bV a) (oX (ay a) (ay b)))=aV (aq a+aq b):=by
    congr 1;cases hna:bV a
    .have:¬aq a<0:=fun hh=>by rw [h4.2 hh]at hna;cases hna
     show aj _=_;omega
    .have:=h4.1 hna;show-aj _=_;omega
   rw [<-e];exact bT (s:=jR a b 67) ge (aec a b h g hs (KA h g) hge (by rw [show kO _ _=true from Fg h g,Bool.true_and];exact az hle) (xW (show 0<=aj (ay a)-aj (ay b) by omega)))
  .have hle:aj (ay a)<=aj (ay b):=by
    unfold kP at hge;split at hge
    .omega
    .split at hge<;>omega
   have hv:aj (oX (ay b) (ay a))=aj (ay b)-aj (ay a):=vF (by omega);have e:aV (b6 (bV b) (oX (ay b) (ay a)))=aV (aq a+aq b):=by
    congr 1;cases hnb:bV b
    .have:¬aq b<0:=fun hh=>by rw [g4.2 hh]at hnb;cases hnb
     show aj _=_;omega
    .have:=g4.1 hnb;show-aj _=_;omega
   rw [<-e];exact bT (s:=jR a b 67) ge (aed a b h g hs (KA h g) hge (by rw [show kO _ _=true from Fg g h,Bool.true_and];exact az hle) (xW (show 0<=aj (ay b)-aj (ay a) by omega)))
theorem pr {a b:aM} (h:¬(ic a&&(ic b&&gd (a.1+b.1)))=true):cF a b=aV (aq a+aq b):=by unfold cF;rw [if_neg h]
theorem aeo (a b:aM) (h:aD a=true) (g:aD b=true):Holds prog false 82 [aH a,aH b] (aH (cF a b)):=by
 refine bJ (c:=tG) func82 rfl rfl fun w F=> ?_
 by_cases ha:a.2=[]
 .have KC:=xX h ha;by_cases hb:b.2=[]
  .have hrb:=xX g hb;by_cases hf:gd (a.1+b.1)=true
   .have hf':=qv.1 hf;have e:cF a b=(a.1+b.1,[]):=by unfold cF;rw [dc.2 ha,dc.2 hb,hf];rfl
    rw [e];refine bu ge 3 (ad7 a b (dc.2 ha) (dc.2 hb) hf' ?_);rw [decide_eq_decide];omega
   .have e:=pr (a:=a) (b:=b) fun hh=>by
     simp only [ae]at hh;exact hf hh.2.2
    have hf':¬(-9223372036854775808<=a.1+b.1/\a.1+b.1<=9223372036854775807):=fun hh=>hf (qv.2 hh)
    refine aR.aaK known mixed ge 3 _ (aea a b (dc.2 ha) (dc.2 hb) ?_ ?_) (by kernel_rfl) (KB a b h g e w F)
    .unfold fits;rw [Bool.and_eq_false_iff];by_cases h0: -9223372036854775808<=a.1+b.1
     .exact .inr (ab fun hh=>hf' ⟨h0,hh⟩)
     .exact .inl (ab h0)
    .rw [decide_eq_decide];have hw:IntKind.wrap .i64 (a.1+b.1)=if a.1+b.1<0 then a.1+b.1+18446744073709551616 else a.1+b.1-18446744073709551616:=by
      have e1:IntKind.signed .i64=true:=rfl;have e2:IntKind.bits .i64=64:=rfl;unfold IntKind.wrap;simp only [e1,e2,Bool.true_and];rw [show(2:Int)^64=18446744073709551616 from rfl];split<;>split<;>simp_all<;>omega
     rw [hw];split<;>omega
  .exact aR.to known mixed ge 3 _ (ad9 a b (dc.2 ha) (f5.2 hb)) (by kernel_rfl) (KB a b h g (pr fun hh=>by
    simp only [ae]at hh;exact hb (dc.1 hh.2.1)) w F)
 .exact aR.to known mixed ge 3 _ (ad8 a b (f5.2 ha)) (by kernel_rfl) (KB a b h g (pr fun hh=>by
    simp only [ae]at hh;exact ha (dc.1 hh.1)) w F)
theorem xZ:vE.Ok prog:=fun⟨a,b,_⟩ h=>by
 have h:(aD a&&aD b)=true:=h;rw [ae]at h;exact aeo a b h.1 h.2
theorem RH {x y:Int} {n m:Bool} (hn:n=true↔x<0) (hm:m=true↔y<0) {p:Int} (hp:p=x.natAbs*y.natAbs):(match(n != m)with |true=> -p|false=>p)=x*y:=by
 have e:(p:Int)=((x*y).natAbs:Int):=by rw [hp,Int.natAbs_mul];simp
 cases n<;>cases m<;>simp only [Bool.false_eq_true,false_iff,true_iff,Int.not_lt]at hn hm
 .have:=Int.mul_nonneg hn hm;show p=_;omega
 .have:=Int.mul_nonneg hn (show 0<= -y by omega);rw [Int.mul_neg]at this;show-p=_;omega
 .have:=Int.mul_nonneg (show 0<= -x by omega) hm;rw [Int.neg_mul]at this;show-p=_;omega
 .have:=Int.mul_nonneg (show 0<= -x by omega) (show 0<= -y by omega);rw [Int.neg_mul,Int.mul_neg,Int.neg_neg]at this;show p=_;omega
theorem Fh (a b:aM) (h:aD a=true) (g:aD b=true) (w:World) (F:Sv.Env):
  aR prog w F 66 ((fl tH []).drop 3) (jR a b 66).T (jR a b 66).H (gk prog false f81 (aH (bU a b))):=by
 obtain⟨h1,h2,h3,h4,_⟩:=jQ h;obtain⟨g1,g2,g3,g4,_⟩:=jQ g;have hp:0<=aj (ay a)*aj (ay b):=Int.mul_nonneg (by omega) (by omega);have e:aV (b6 (bV a != bV b) (oZ (ay a) (ay b)))=bU a b:=by
  unfold bU b6;have hv:aj (oZ (ay a) (ay b))=aj (ay a)*aj (ay b):=vF hp;rw [hv,h3,g3];exact congrArg aV (RH h4 g4 rfl)
 rw [<-e];exact bT (s:=jR a b 66) ge (aek a b h g (Fg h g) (xW hp) rfl rfl)
theorem aep (a b:aM) (h:aD a=true) (g:aD b=true):Holds prog false 81 [aH a,aH b] (aH (bU a b)):=by
 refine bJ (c:=tH) func81 rfl rfl fun w F=> ?_
 by_cases ha:a.2=[]
 .have KC:=xX h ha;by_cases hb:b.2=[]
  .have hrb:=xX g hb;have Fi:=qv.2 KC;have Fj:=qv.2 hrb;have hm:kQ (cg a.1) (cg b.1)=true:=nF.2 (by unfold cg;omega);by_cases hhi:fj (cg a.1) (cg b.1)=0
   .by_cases hlo:cH (cg a.1) (cg b.1)<=9223372036854775807
    .have hlo0:0<=cH (cg a.1) (cg b.1):=c6 _ (by decide);have hp:cH (cg a.1) (cg b.1)=a.1.natAbs*b.1.natAbs:=by
      have:=Int.emod_add_mul_ediv (cg a.1*cg b.1) 18446744073709551616;unfold fj at hhi;rw [hhi]at this;unfold cH;show _=cg a.1*cg b.1;omega
     have kD:=RH (n:=decide (a.1<0)) (m:=decide (b.1<0)) (by simp) (by simp) hp;have hval:bU a b=aV (a.1*b.1):=by unfold bU;rw [lG ha,lG hb]
     by_cases n6:decide (a.1<0)=decide (b.1<0)
     .have e:bU a b=(cH (cg a.1) (cg b.1),[]):=by
       rw [n6,bne_self_eq_false]at kD;have kD:cH (cg a.1) (cg b.1)=a.1*b.1:=kD;rw [hval,<-kD];exact rC (by omega)
      rw [e];exact bu ge 3 (aef a b (dc.2 ha) (dc.2 hb) Fi Fj hm hhi hlo n6 (vC (by omega)))
     .have e:bU a b=(-cH (cg a.1) (cg b.1),[]):=by
       rw [show(decide (a.1<0) != decide (b.1<0))=true from gJ.2 n6]at kD;have kD: -cH (cg a.1) (cg b.1)=a.1*b.1:=kD;rw [hval,<-kD];exact rC (by omega)
      rw [e];refine bu ge 3 (aee a b (dc.2 ha) (dc.2 hb) Fi Fj hm hhi hlo n6 ?_);rw [vC (x:=cH (cg a.1) (cg b.1)) (by omega),vC (by omega)];omega
    .exact cE ge 3 (aeg a b (dc.2 ha) (dc.2 hb) Fi Fj hm hhi hlo) (Fh a b h g w F)
   .exact cE ge 3 (aeh a b (dc.2 ha) (dc.2 hb) Fi Fj hm hhi) (Fh a b h g w F)
  .exact cE ge 3 (aei a b (dc.2 ha) (f5.2 hb)) (Fh a b h g w F)
 .exact cE ge 3 (aej a b (f5.2 ha)) (Fh a b h g w F)
theorem z7:xV.Ok prog:=fun⟨a,b,_⟩ h=>by
 have h:(aD a&&aD b)=true:=h;rw [ae]at h;exact aep a b h.1 h.2
end
noncomputable section
noncomputable def Fk:bF:=a7 [vE,xU,vD]
noncomputable def Fl:bn:={f:=150,ps:=[cV,cV],rs:=[cV],fresh:=false,pre:=fun d=>aD d.1&&aD d.2.1,fn:=fun d=>(j7 d.1 d.2.1,())}
noncomputable def RI:bn:={f:=170,ps:=[cV],rs:=[cV],fresh:=false,pre:=fun d=>aD d.1,fn:=fun d=>(o6 d.1,())}
noncomputable def KD:bn:={f:=93,ps:=[cV,cV],rs:=[.int .i64],fresh:=true,pre:=fun d=>bH 50000 d.1&&bH 50000 d.2.1,fn:=fun d=>(vz d.1 d.2.1,())}
noncomputable def z8:bF:=a7 [Fl,vD]
theorem aeq (a b:aM) (h1:(aD b)=true) (h2:(aD a&&aD (eS b))=true):
  bq Fk (fl RF []) 9 (f150.ntmps) [aH a,aH b] 1 f150 false (aH (cF a (eS b))):=
 wy [af (aW (v:=aH a) (by kernel_rfl)),af (aW (v:=aH b) (by kernel_rfl)),af h1,af h2] 67383425
theorem aer (a:aM) (h1:a.1<0) (h2:(aD a)=true):
  bq Fk (fl Kz []) 9 (f170.ntmps) [aH a] 3 f170 false (aH (eS a)):=
 wy [ah h1,af h2] 129
theorem aes (a:aM) (h1:¬a.1<0):
  bq Fk (fl Kz []) 9 (f170.ntmps) [aH a] 2 f170 false (aH a):=
 wy [aJ h1] 1
theorem aet (a b:aM) (h1:a.2.isEmpty=true) (h2:b.2.isEmpty=true) (h3:a.1<b.1):
  bq z8 (fl z1 []) 9 29 [aH a,aH b] 127 f93 true (iv (-1)):=
 wy [af (aQ (aQ (h1))),af (aQ (h1)),af (aQ (h2)),ah h3] 4345827393
theorem aeu (a b:aM) (h1:a.2.isEmpty=true) (h2:b.2.isEmpty=true) (h3:¬a.1<b.1) (h4:a.1>b.1):
  bq z8 (fl z1 []) 9 29 [aH a,aH b] 223 f93 true (iv 1):=
 wy [af (aQ (aQ (h1))),af (aQ (h1)),af (aQ (h2)),aJ h3,ah h4] 347943211073
theorem aev (a b:aM) (h1:a.2.isEmpty=true) (h2:b.2.isEmpty=true) (h3:¬a.1<b.1) (h4:¬a.1>b.1):
  bq z8 (fl z1 []) 9 29 [aH a,aH b] 159 f93 true (iv 0):=
 wy [af (aQ (aQ (h1))),af (aQ (h1)),af (aQ (h2)),aJ h3,aJ h4] 347943211073
theorem aew (a b:aM) (h1:a.2.isEmpty=true) (h2:b.2.isEmpty=false) (h3:(aD a&&aD b)=true) (h4:(aD (j7 a b))=true):
  bq z8 (fl z1 []) 9 29 [aH a,aH b] 47 f93 true (iv (eY (j7 a b))):=
 wy [af (aQ (aQ (h1))),af (aQ (h1)),af (aQ (h2)),af h3,af h4] 347943211073
theorem aex (a b:aM) (h1:a.2.isEmpty=false) (h2:(aD a&&aD b)=true) (h3:(aD (j7 a b))=true):
  bq z8 (fl z1 []) 9 29 [aH a,aH b] 32 f93 true (iv (eY (j7 a b))):=
 wy [af (aQ (aQ (h1))),af (aQ (h1)),af h2,af h3] 278099660865
theorem gC {n m:Nat} {a:aM} (hnm:n<=m) (h:bH n a=true):bH m a=true:=by
 by_cases hs:a.2=[]
 .rw [nk hs]at h ⊢;exact h
 .obtain⟨h1,h2,h3,h4,h5⟩:=(o7 hs).1 h;exact(o7 hs).2 ⟨h1,h2,h3,h4,by omega⟩
theorem n7 {n:Nat} {a:aM} (h:bH n a=true) (hn:1<=n):bH n (eS a)=true:=by
 have:=dp h hn;exact(kV (by omega)).1
theorem n8 (a:aM):aq (eS a)= -aq a:=val_mk _
theorem val_sub (a b:aM):aq (j7 a b)=aq a-aq b:=by unfold j7;rw [rB,n8];omega
theorem de (a b:aM):aq (bU a b)=aq a*aq b:=val_mk _
theorem Fm (a:aM):aq (o6 a)=(aq a).natAbs:=val_mk _
theorem KE:bB prog (bD Fk):=cR (aT xZ (aT z6 (aT xY dY)))
theorem aey (a b:aM) (h:aD a=true) (g:aD b=true):Holds prog false 150 [aH a,aH b] (aH (j7 a b)):=by
 refine bJ (c:=RF) func150 rfl rfl fun w F=> ?_
 have gn:aD (eS b)=true:=n7 g (by decide);exact bu KE 9 (aeq a b g (by rw [show aD (a.1,a.2)=true from h,Bool.true_and];exact gn))
theorem KF:Fl.Ok prog:=fun⟨a,b,_⟩ h=>by
 have h:(aD a&&aD b)=true:=h;rw [ae]at h;exact aey a b h.1 h.2
theorem RJ {n:Nat} {a:aM} (h:bH n a=true):a.1<0↔aq a<0:=by
 obtain⟨_,_,_,h4,_⟩:=jQ h;rw [<-h4];unfold bV;rw [bz]
theorem aez (a:aM) (h:aD a=true):Holds prog false 170 [aH a] (aH (o6 a)):=by
 refine bJ (c:=Kz) func170 rfl rfl fun w F=> ?_
 by_cases hn:a.1<0
 .have hv:=(RJ h).1 hn;have e:eS a=o6 a:=by unfold eS o6;congr 1;omega
  rw [<-e];exact bu KE 9 (aer a hn h)
 .have hv:¬aq a<0:=fun hh=>hn ((RJ h).2 hh)
  have e:a=o6 a:=by
   have:=Fa h (by omega);unfold o6;rw [show((aq a).natAbs:Int)=aq a by omega];exact this
  have:=aR.ret (P:=prog) (w0:=w) (F:=F) (X:=oQ) known mixed KE 9 _ (aes a hn) fun T H h=>h
  rw [<-e];exact this
theorem aeA:RI.Ok prog:=fun⟨a,_⟩ h=>aez a h
theorem CA:bB prog (bD z8):=cR (aT KF (aT xY dY))
theorem aeB:(2:Int)*18446744073709551616^50000<=18446744073709551616^100000:=by
 have h:=iG (b:=18446744073709551616) (by decide) (show 50001<=100000 by decide);rw [show 50001=50000+1 from rfl,Int.pow_succ]at h;have:=bc (b:=18446744073709551616) (by decide) 50000;generalize (18446744073709551616:Int)^50000=p at*;generalize (18446744073709551616:Int)^100000=q at*;omega
theorem aeC {a b:aM} (h:bH 50000 a=true) (g:bH 50000 b=true):aD (j7 a b)=true:=by
 have h1:=dp h (by decide);have g1:=dp g (by decide);have h2:=aeB;refine xT ?_;rw [n8];generalize (18446744073709551616:Int)^50000=p at*;generalize (18446744073709551616:Int)^100000=q at*;omega
theorem aeD (a b:aM) (h:bH 50000 a=true) (g:bH 50000 b=true):Holds prog true 93 [aH a,aH b] (iv (vz a b)):=by
 have ho:=aeC h g;have hs:eY (j7 a b)=vz a b:=by unfold eY vz;rw [val_sub]
 have h':=gC (show 50000<=100000 by decide) h;have g':=gC (show 50000<=100000 by decide) g;have hh:(aD (a.1,a.2)&&aD (b.1,b.2))=true:=by
  rw [show aD (a.1,a.2)=true from h',show aD (b.1,b.2)=true from g'];rfl
 refine bJ (c:=z1) func93 rfl rfl fun w F=> ?_
 by_cases ha:a.2=[]
 .by_cases hb:b.2=[]
  .have e:vz a b=kU (a.1-b.1):=by unfold vz;rw [lG ha,lG hb]
   rw [e];by_cases h1:a.1<b.1
   .rw [Fb (by omega)];exact bu CA 9 (aet a b (dc.2 ha) (dc.2 hb) h1)
   .by_cases h2:a.1>b.1
    .rw [Ks (by omega)];exact bu CA 9 (aeu a b (dc.2 ha) (dc.2 hb) h1 h2)
    .rw [show a.1-b.1=0 by omega,adN];exact bu CA 9 (aev a b (dc.2 ha) (dc.2 hb) h1 h2)
  .rw [<-hs];exact bu CA 9 (aew a b (dc.2 ha) (f5.2 hb) hh ho)
 .rw [<-hs];exact bu CA 9 (aex a b (f5.2 ha) hh ho)
theorem RL:KD.Ok prog:=fun⟨a,b,_⟩ h=>by
 have h:(bH 50000 a&&bH 50000 b)=true:=h;rw [ae]at h;exact aeD a b h.1 h.2
end
def eH (a b:Int):Int:=IntKind.wrap .u64 (((BitVec.ofInt 64 a|||BitVec.ofInt 64 b).toNat:Nat):Int)
theorem xi {a b:Int} {s:Nat} (hs:s<=64) (ha:0<=a/\a<2^s) {c:Int} (hc:0<=c) (hb:b=2^s*c) (kA:b<18446744073709551616):eH a b=a+b:=by
 obtain⟨A,rfl⟩:∃A:Nat,a=(A:Int):=⟨a.toNat,by omega⟩;obtain⟨C,rfl⟩:∃C:Nat,c=(C:Int):=⟨c.toNat,by omega⟩;have hA:A<2^s:=by have:=ha.2;exact_mod_cast this
 have hb':b=((2^s*C:Nat):Int):=by rw [hb];norm_cast
 subst hb';have qw:((2^64:Nat):Int)=18446744073709551616:=rfl;have hB:2^s*C<2^64:=by rw [<-qw]at kA;exact Int.ofNat_lt.1 kA
 have uR:A<2^64:=Nat.lt_of_lt_of_le hA (Nat.pow_le_pow_right (by decide) hs);unfold eH;rw [BitVec.toNat_or,BitVec.ofInt_natCast,BitVec.ofInt_natCast,BitVec.toNat_ofNat,BitVec.toNat_ofNat,Nat.mod_eq_of_lt uR,Nat.mod_eq_of_lt hB];have e:A|||2^s*C=A+2^s*C:=by
  rw [Nat.or_comm,<-Nat.two_pow_add_eq_or_of_lt hA C,Nat.add_comm]
 have hlt:A|||2^s*C<2^64:=Nat.or_lt_two_pow uR hB;rw [e]at hlt ⊢;rw [fA ⟨Int.natCast_nonneg _,by have:(2:Nat)^64=18446744073709551616:=rfl;omega⟩];exact Int.natCast_add _ _
theorem KG {x:Int} {s:Nat} (hs:s<=64) (hx:0<=x/\x<18446744073709551616):
  x*2^s%18446744073709551616=2^s*(x%2^(64-s))/\x*2^s=2^s*(x%2^(64-s))+18446744073709551616*(x/2^(64-s))/\(0<=x/2^(64-s)/\x/2^(64-s)<2^s)/\(0<=x%2^(64-s)/\x%2^(64-s)<2^(64-s)):=by
 have hp:(0:Int)<2^(64-s):=bc (by decide) _;have hq:(0:Int)<2^s:=bc (by decide) _;have jq:(2:Int)^s*2^(64-s)=18446744073709551616:=by rw [<-Int.pow_add,show s+(64-s)=64 by omega];rfl
 have hd:=Int.emod_add_mul_ediv x (2^(64-s));have h0:=c6 x (show(2:Int)^(64-s)≠0 by omega);have h1:=cS x hp;have h2:0<=x/2^(64-s):=Int.ediv_nonneg hx.1 (ck hp);have h3:x/2^(64-s)<2^s:=Int.ediv_lt_of_lt_mul hp (by rw [jq];exact hx.2);have e:x*2^s=2^s*(x%2^(64-s))+18446744073709551616*(x/2^(64-s)):=by
  have:2^s*(x%2^(64-s)+2^(64-s)*(x/2^(64-s)))=2^s*x:=by rw [hd]
  rw [Int.mul_add,<-Int.mul_assoc,jq]at this;rw [Int.mul_comm x];omega
 refine⟨?_,e,⟨h2,h3⟩,h0,h1⟩;rw [e,Int.add_mul_emod_self_left];refine Int.emod_eq_of_lt (Int.mul_nonneg (ck hq) h0) ?_;rw [<-jq];exact Int.mul_lt_mul_of_pos_left h1 hq
end Go.Proofs.YtibikmmdbdlafaaGreatDoor
namespace Go.Proofs.YtibikmmdbdlafaaGreatDoor
theorem aeE {l:List Int} {k:Nat} (h:k<l.length):l.drop k=l.getD k 0::l.drop (k+1):=by
 rw [tC h];exact List.drop_eq_getElem_cons h
theorem tI {b:Int} {l:List Int} {k:Nat} (h:k<l.length):vl b (l.drop k)=l.getD k 0+b*vl b (l.drop (k+1)):=by
 rw [aeE h];rfl
theorem KH {b:Int} (hb:1<b) {u:List Int} {j n:Nat} (hu:aP b u) (hj:j+n+1<=u.length) {V:Int} (hV:V<=b^n) (h:vl b (u.drop (j+1))<V):
  vl b (u.drop j)=vl b ((u.drop j).take (n+1))/\vl b (u.drop j)<b*V/\vl b (u.drop (j+n+1))=0:=by
 have hb0:0<b:=by omega
 have h1:=tI (b:=b) (l:=u) (k:=j) (by omega);have h2:=hu.get hb0 j;have h3:vl b (u.drop j)<b*V:=by
  have:b*vl b (u.drop (j+1))<=b*(V-1):=dU (by omega) (ck hb0);rw [Int.mul_sub,Int.mul_one]at this;omega
 have h4:vl b (u.drop j)<b^(n+1):=by
  have:b*V<=b*b^n:=dU hV (ck hb0);rw [Int.pow_succ,Int.mul_comm];omega
 have h5:=Cp hb0 (hu.drop j) h4;refine⟨h5.symm,h3, ?_⟩;have h6:=rq b (u.drop j) (n+1) (by rw [mQ];omega);rw [h5,List.drop_drop]at h6;have h7:b^(n+1)*vl b (u.drop (j+(n+1)))=0:=by omega
 rcases Int.mul_eq_zero.1 h7 with h8|h8
 .have:=bc hb0 (n+1);omega
 .exact h8
theorem RM {b:Int} (hb:1<b) {u:List Int} {j n:Nat} (hu:aP b u) (hj:j+n+1<=u.length) {V:Int} (ig:0<V) (hV:V<=b^n) (h:vl b (u.drop (j+1))<V) {u':List Int}
  (Fo:u'=u.take j++(fx b (n+1) (vl b ((u.drop j).take (n+1))%V)++u.drop (j+(n+1)))):
  u'.length=u.length/\aP b u'/\vl b u'+b^j*(vl b ((u.drop j).take (n+1))/V)*V=vl b u/\vl b (u'.drop j)<V:=by
 have hb0:0<b:=by omega
 obtain⟨h1,h2,h3⟩:=KH hb hu hj hV h;generalize hW:vl b ((u.drop j).take (n+1))=W at*;have hm0:=c6 W (show V≠0 by omega);have o8:=cS W ig;have hm2:W%V<b^(n+1):=by
  have:=iG (show 1<=b by omega) (show n<=n+1 by omega);omega
 have hpv:=Cr hb0 (n+1) (W%V) hm0 hm2;have u9:(u.take j).length=j:=by rw [dK];omega
 have hdj:u'.drop j=fx b (n+1) (W%V)++u.drop (j+(n+1)):=by
  rw [Fo,List.drop_append,u9,Nat.sub_self,List.drop_zero,List.drop_eq_nil_of_le (by omega),List.nil_append]
 have aeF:u'.take j=u.take j:=by
  rw [Fo,List.take_append,u9,Nat.sub_self,List.take_zero,List.append_nil,ef (by omega)]
 have CB:vl b (u'.drop j)=W%V:=by rw [hdj,EL,hpv,<-Nat.add_assoc,h3,Int.mul_zero,Int.add_zero]
 have hlen:u'.length=u.length:=by
  rw [Fo,cG,cG,u9,xN,mQ];omega
 refine⟨hlen, ?_, ?_,by rw [CB];exact o8⟩
 .rw [Fo];exact(hu.take j).app ((Cq hb0 _ _).app (hu.drop _))
 .rw [rq b u' j (by omega),rq b u j (by omega),aeF,CB,h1];have e:=Int.emod_add_mul_ediv W V;have e2:b^j*(W%V+V*(W/V))=b^j*W:=by rw [e]
  rw [Int.mul_add]at e2;have e3:b^j*(W/V)*V=b^j*(V*(W/V)):=by rw [Int.mul_assoc,Int.mul_comm (W/V)]
  omega
theorem KI {A b V S U q:Int} (hS:0<S) (hb:0<b) (hV:V=b*S) (h:U+V*q=A*S) (h0:0<=U) (h1:U<V):A/b=q/\U=S*(A%b):=by
 have e:U=S*(A-b*q):=by
  rw [Int.mul_sub,Int.mul_comm S A];have:S*(b*q)=V*q:=by rw [hV,<-Int.mul_assoc,Int.mul_comm S b]
  omega
 have g0:0<=A-q*b:=by
  rw [Int.mul_comm q b];refine Int.not_lt.1 fun hn=> ?_
  have:=Int.mul_lt_mul_of_pos_left hn hS;omega
 have g1:A-q*b<b:=by
  rw [Int.mul_comm q b];refine Int.not_le.1 fun hn=> ?_
  have:=dU hn (ck hS);rw [<-e,Int.mul_comm S b,<-hV]at this;omega
 obtain⟨k1,k2⟩:=xO hb g0 g1;exact⟨k1,by rw [e,k2,Int.mul_comm b q]⟩
end Go.Proofs.YtibikmmdbdlafaaGreatDoor
/- math/bits: LeadingZeros64, Div64. -/
namespace Go.Proofs.YtibikmmdbdlafaaGreatDoor
open Go.RowKit Sv Go.Proofs.Tryz
noncomputable section
def dO (x:Int):Int:=64-(Lib.bitLen x.toNat:Int)
def vG (x:Int):Bool:=decide (0<=x)&&decide (x<18446744073709551616)
noncomputable def KJ:bn:={f:=224,ps:=[aB],rs:=[.int .i64],fresh:=true,pre:=fun d=>vG d.1,fn:=fun d=>(dO d.1,())}
noncomputable def iS:Code:=(f223.body).getD .skip
noncomputable def nr:bF:=a7 [KJ]
abbrev Aa:List Nat:=[1,1,1,1,1,1,1,1,1,1,1,1,1,1,0,0,0]
abbrev Ab:List Nat:=[1,1,1,1,1,1,1,1,1,1,1,1,1,1,1,1,1,1,0,0,0]
def iX (Y s v1 v2 X c d q r:Int):bC:={n:=135,sl:=[(2,cl Y),(8,cl s),(9,cl v1),(10,cl v2),(11,cl X),(13,cl c),(14,cl d),(15,cl q),(16,cl r)],bG:=[],next:=64}
def iY (Y s v1 v2 d p X q r:Int):bC:={n:=135,sl:=[(2,cl Y),(8,cl s),(9,cl v1),(10,cl v2),(14,cl d),(15,cl p),(17,cl X),(18,cl q),(16,cl r)],bG:=[],next:=64}
theorem aeG (hi lo y:Int) (h1:¬y=0) (h2:¬y<=hi) (h3:hi=0) (h4:y≠0) (h5:(IntKind.wrap IntKind.u64 (Int.tdiv lo y))=(lo/y)) (h6:(Int.tmod lo y)=(lo%y)):
  bq nr (fl iS []) 9 135 [cl hi,cl lo,cl y] 12 f223 true (.tuple [cl (lo/y),cl (lo%y)]):=
 wy [yn h1,aJ h2,c8 h3,ah h4,ax h5,ax h6] 417753739393
theorem aeH (hi lo y Y s v1 v2 X c d q r:Int) (h1:¬y=0) (h2:¬y<=hi) (h3:¬hi=0) (h4:(vG y)=true) (h5:0<=IntKind.wrap IntKind.u64 (dO y)) (h6:0<=IntKind.wrap IntKind.u64 (64-IntKind.wrap IntKind.u64 (dO y))) (h7:Int.fdiv (IntKind.wrap IntKind.u64 (y*(2:Int)^min (IntKind.wrap IntKind.u64 (dO y)).toNat 64)) ((2:Int)^min (Int.toNat 32) 64)≠0) (h8:(IntKind.wrap IntKind.u64 (y*(2:Int)^min (IntKind.wrap IntKind.u64 (dO y)).toNat 64))=(Y)) (h9:(IntKind.wrap IntKind.u64 (dO y))=(s)) (h10:(Int.fdiv (IntKind.wrap IntKind.u64 (y*(2:Int)^min (IntKind.wrap IntKind.u64 (dO y)).toNat 64)) ((2:Int)^min (Int.toNat 32) 64))=(v1)) (h11:(IntKind.wrap IntKind.u64 (↑(BitVec.toNat (BitVec.ofInt 64 (IntKind.wrap IntKind.u64 (y*(2:Int)^min (IntKind.wrap IntKind.u64 (dO y)).toNat 64)) &&& BitVec.ofInt 64 4294967295)):Int))=(v2)) (h12:(IntKind.wrap IntKind.u64 (↑(BitVec.toNat (BitVec.ofInt 64 (IntKind.wrap IntKind.u64 (hi*(2:Int)^min (IntKind.wrap IntKind.u64 (dO y)).toNat 64))|||BitVec.ofInt 64 (Int.fdiv lo ((2:Int)^min (IntKind.wrap IntKind.u64 (64-IntKind.wrap IntKind.u64 (dO y))).toNat 64)))):Int))=(X)) (dP:(Int.fdiv (IntKind.wrap IntKind.u64 (lo*(2:Int)^min (IntKind.wrap IntKind.u64 (dO y)).toNat 64)) ((2:Int)^min (Int.toNat 32) 64))=(c)) (gD:(IntKind.wrap IntKind.u64 (↑(BitVec.toNat (BitVec.ofInt 64 (IntKind.wrap IntKind.u64 (lo*(2:Int)^min (IntKind.wrap IntKind.u64 (dO y)).toNat 64)) &&& BitVec.ofInt 64 4294967295)):Int))=(d)) (iZ:(IntKind.wrap IntKind.u64 (Int.tdiv (IntKind.wrap IntKind.u64 (↑(BitVec.toNat (BitVec.ofInt 64 (IntKind.wrap IntKind.u64 (hi*(2:Int)^min (IntKind.wrap IntKind.u64 (dO y)).toNat 64))|||BitVec.ofInt 64 (Int.fdiv lo ((2:Int)^min (IntKind.wrap IntKind.u64 (64-IntKind.wrap IntKind.u64 (dO y))).toNat 64)))):Int)) (Int.fdiv (IntKind.wrap IntKind.u64 (y*(2:Int)^min (IntKind.wrap IntKind.u64 (dO y)).toNat 64)) ((2:Int)^min (Int.toNat 32) 64))))=(q)) (kW:(IntKind.wrap IntKind.u64 (IntKind.wrap IntKind.u64 (↑(BitVec.toNat (BitVec.ofInt 64 (IntKind.wrap IntKind.u64 (hi*(2:Int)^min (IntKind.wrap IntKind.u64 (dO y)).toNat 64))|||BitVec.ofInt 64 (Int.fdiv lo ((2:Int)^min (IntKind.wrap IntKind.u64 (64-IntKind.wrap IntKind.u64 (dO y))).toNat 64)))):Int)-IntKind.wrap IntKind.u64 (IntKind.wrap IntKind.u64 (Int.tdiv (IntKind.wrap IntKind.u64 (↑(BitVec.toNat (BitVec.ofInt 64 (IntKind.wrap IntKind.u64 (hi*(2:Int)^min (IntKind.wrap IntKind.u64 (dO y)).toNat 64))|||BitVec.ofInt 64 (Int.fdiv lo ((2:Int)^min (IntKind.wrap IntKind.u64 (64-IntKind.wrap IntKind.u64 (dO y))).toNat 64)))):Int)) (Int.fdiv (IntKind.wrap IntKind.u64 (y*(2:Int)^min (IntKind.wrap IntKind.u64 (dO y)).toNat 64)) ((2:Int)^min (Int.toNat 32) 64)))*Int.fdiv (IntKind.wrap IntKind.u64 (y*(2:Int)^min (IntKind.wrap IntKind.u64 (dO y)).toNat 64)) ((2:Int)^min (Int.toNat 32) 64))))=(r)):
  cT nr (fl iS []) 17 135 [cl hi,cl lo,cl y] 8 .normal [] (iX Y s v1 v2 X c d q r):=
 wy [yn h1,aJ h2,yn h3,af h4,ah h5,ah h6,ah h7,ax h8,ax h9,ax h10,ax h11,ax h12,ax dP,ax gD,ax iZ,ax kW] 337246810721947665302387067909582977
theorem aeI (Y s v1 v2 X c d q r:Int) (h1:q>=4294967296) (h2:IntKind.wrap IntKind.u64 (r+v1)>=4294967296) (h3:(IntKind.wrap IntKind.u64 (q-1))=(q-1)) (h4:(IntKind.wrap IntKind.u64 (r+v1))=(r+v1)):
  bh nr (fl iS Aa) (iX Y s v1 v2 X c d q r) 3840 (.exit 0) [] (iX Y s v1 v2 X c d (q-1) (r+v1)):=
 wy [af (bx (az h1)),ah h1,ah h2,ax h3,ax h4] 105144011385330262937074482297442369
theorem aeJ (Y s v1 v2 X c d q r:Int) (h1:q>=4294967296) (h2:¬IntKind.wrap IntKind.u64 (r+v1)>=4294967296) (h3:(IntKind.wrap IntKind.u64 (q-1))=(q-1)) (h4:(IntKind.wrap IntKind.u64 (r+v1))=(r+v1)):
  bh nr (fl iS Aa) (iX Y s v1 v2 X c d q r) 2816 .normal [] (iX Y s v1 v2 X c d (q-1) (r+v1)):=
 wy [af (bx (az h1)),ah h1,aJ h2,ax h3,ax h4] 105144011385330262937074482297442369
theorem aeK (Y s v1 v2 X c d q r:Int) (h1:¬q>=4294967296) (h2:IntKind.wrap IntKind.u64 (q*v2)>IntKind.wrap IntKind.u64 (IntKind.wrap IntKind.u64 (4294967296*r)+c)) (h3:IntKind.wrap IntKind.u64 (r+v1)>=4294967296) (h4:(IntKind.wrap IntKind.u64 (q-1))=(q-1)) (h5:(IntKind.wrap IntKind.u64 (r+v1))=(r+v1)):
  bh nr (fl iS Aa) (iX Y s v1 v2 X c d q r) 3839 (.exit 0) [] (iX Y s v1 v2 X c d (q-1) (r+v1)):=
 wy [af (bx (ab h1)),aJ h1,ah h2,ah h3,ax h4,ax h5] 126237717373128001384944323770191937
theorem aeL (Y s v1 v2 X c d q r:Int) (h1:¬q>=4294967296) (h2:IntKind.wrap IntKind.u64 (q*v2)>IntKind.wrap IntKind.u64 (IntKind.wrap IntKind.u64 (4294967296*r)+c)) (h3:¬IntKind.wrap IntKind.u64 (r+v1)>=4294967296) (h4:(IntKind.wrap IntKind.u64 (q-1))=(q-1)) (h5:(IntKind.wrap IntKind.u64 (r+v1))=(r+v1)):
  bh nr (fl iS Aa) (iX Y s v1 v2 X c d q r) 2815 .normal [] (iX Y s v1 v2 X c d (q-1) (r+v1)):=
 wy [af (bx (ab h1)),aJ h1,ah h2,aJ h3,ax h4,ax h5] 126237717373128001384944323770191937
theorem aeM (Y s v1 v2 X c d q r:Int) (h1:¬q>=4294967296) (h2:¬IntKind.wrap IntKind.u64 (q*v2)>IntKind.wrap IntKind.u64 (IntKind.wrap IntKind.u64 (4294967296*r)+c)):
  bh nr (fl iS Aa) (iX Y s v1 v2 X c d q r) 1279 (.exit 0) [] (iX Y s v1 v2 X c d q r):=
 wy [af (bx (ab h1)),aJ h1,aJ h2] 54610613338640449
theorem aeN (Y s v1 v2 X c d q r ez aO r2:Int) (h1:v1≠0) (h2:(IntKind.wrap IntKind.u64 (IntKind.wrap IntKind.u64 (IntKind.wrap IntKind.u64 (X*4294967296)+c)-IntKind.wrap IntKind.u64 (q*Y)))=(ez)) (h3:(IntKind.wrap IntKind.u64 (Int.tdiv (IntKind.wrap IntKind.u64 (IntKind.wrap IntKind.u64 (IntKind.wrap IntKind.u64 (X*4294967296)+c)-IntKind.wrap IntKind.u64 (q*Y))) v1))=(aO)) (h4:(IntKind.wrap IntKind.u64 (IntKind.wrap IntKind.u64 (IntKind.wrap IntKind.u64 (IntKind.wrap IntKind.u64 (X*4294967296)+c)-IntKind.wrap IntKind.u64 (q*Y))-IntKind.wrap IntKind.u64 (IntKind.wrap IntKind.u64 (Int.tdiv (IntKind.wrap IntKind.u64 (IntKind.wrap IntKind.u64 (IntKind.wrap IntKind.u64 (X*4294967296)+c)-IntKind.wrap IntKind.u64 (q*Y))) v1)*v1)))=(r2)):
  en nr ((fl iS []).drop 18) 3 (iX Y s v1 v2 X c d q r) 1 .normal [] (iY Y s v1 v2 d q ez aO r2):=
 wy [ah h1,ax h2,ax h3,ax h4] 72910815061082113
theorem aeO (Y s v1 v2 d p X q r:Int) (h1:q>=4294967296) (h2:IntKind.wrap IntKind.u64 (r+v1)>=4294967296) (h3:(IntKind.wrap IntKind.u64 (q-1))=(q-1)) (h4:(IntKind.wrap IntKind.u64 (r+v1))=(r+v1)):
  bh nr (fl iS Ab) (iY Y s v1 v2 d p X q r) 3840 (.exit 2) [] (iY Y s v1 v2 d p X (q-1) (r+v1)):=
 wy [af (bx (az h1)),ah h1,ah h2,ax h3,ax h4] 105144011385330262937074482297442369
theorem aeP (Y s v1 v2 d p X q r:Int) (h1:q>=4294967296) (h2:¬IntKind.wrap IntKind.u64 (r+v1)>=4294967296) (h3:(IntKind.wrap IntKind.u64 (q-1))=(q-1)) (h4:(IntKind.wrap IntKind.u64 (r+v1))=(r+v1)):
  bh nr (fl iS Ab) (iY Y s v1 v2 d p X q r) 2816 .normal [] (iY Y s v1 v2 d p X (q-1) (r+v1)):=
 wy [af (bx (az h1)),ah h1,aJ h2,ax h3,ax h4] 105144011385330262937074482297442369
theorem aeQ (Y s v1 v2 d p X q r:Int) (h1:¬q>=4294967296) (h2:IntKind.wrap IntKind.u64 (q*v2)>IntKind.wrap IntKind.u64 (IntKind.wrap IntKind.u64 (4294967296*r)+d)) (h3:IntKind.wrap IntKind.u64 (r+v1)>=4294967296) (h4:(IntKind.wrap IntKind.u64 (q-1))=(q-1)) (h5:(IntKind.wrap IntKind.u64 (r+v1))=(r+v1)):
  bh nr (fl iS Ab) (iY Y s v1 v2 d p X q r) 3839 (.exit 2) [] (iY Y s v1 v2 d p X (q-1) (r+v1)):=
 wy [af (bx (ab h1)),aJ h1,ah h2,ah h3,ax h4,ax h5] 126237717373128001384944323770191937
theorem aeR (Y s v1 v2 d p X q r:Int) (h1:¬q>=4294967296) (h2:IntKind.wrap IntKind.u64 (q*v2)>IntKind.wrap IntKind.u64 (IntKind.wrap IntKind.u64 (4294967296*r)+d)) (h3:¬IntKind.wrap IntKind.u64 (r+v1)>=4294967296) (h4:(IntKind.wrap IntKind.u64 (q-1))=(q-1)) (h5:(IntKind.wrap IntKind.u64 (r+v1))=(r+v1)):
  bh nr (fl iS Ab) (iY Y s v1 v2 d p X q r) 2815 .normal [] (iY Y s v1 v2 d p X (q-1) (r+v1)):=
 wy [af (bx (ab h1)),aJ h1,ah h2,aJ h3,ax h4,ax h5] 126237717373128001384944323770191937
theorem aeS (Y s v1 v2 d p X q r:Int) (h1:¬q>=4294967296) (h2:¬IntKind.wrap IntKind.u64 (q*v2)>IntKind.wrap IntKind.u64 (IntKind.wrap IntKind.u64 (4294967296*r)+d)):
  bh nr (fl iS Ab) (iY Y s v1 v2 d p X q r) 1279 (.exit 2) [] (iY Y s v1 v2 d p X q r):=
 wy [af (bx (ab h1)),aJ h1,aJ h2] 54610613338640449
theorem aeT (Y s v1 v2 d p X q r a b:Int) (h1:0<=s) (h2:(IntKind.wrap IntKind.u64 (IntKind.wrap IntKind.u64 (p*4294967296)+q))=(a)) (h3:(Int.fdiv (IntKind.wrap IntKind.u64 (IntKind.wrap IntKind.u64 (IntKind.wrap IntKind.u64 (X*4294967296)+d)-IntKind.wrap IntKind.u64 (q*Y))) ((2:Int)^min s.toNat 64))=(b)):
  bQ nr ((fl iS []).drop 22) (iY Y s v1 v2 d p X q r) 1 f223 true (.tuple [cl a,cl b]):=
 wy [ah h1,ax h2,ax h3] 12417
def dT (hi lo y:Int):Int:=(hi*18446744073709551616+lo)/y
def n9 (hi lo y:Int):Int:=(hi*18446744073709551616+lo)%y
def tJ (hi lo y:Int):Bool:=(decide (0<=hi)&&decide (hi<y))&&(vG lo&&vG y)
noncomputable def KK:bn:={f:=223,ps:=[aB,aB,aB],rs:=[aB,aB],fresh:=true,pre:=fun d=>tJ d.1 d.2.1 d.2.2.1,fn:=fun d=>(dT d.1 d.2.1 d.2.2.1,(n9 d.1 d.2.1 d.2.2.1,()))}
theorem f6 {x:Int}:vG x=true↔0<=x/\x<18446744073709551616:=by
 unfold vG;rw [ae,bz,bz]
theorem RN:KJ.Ok prog:=fun⟨x,_⟩ h w F xs hF cn hd=>by
 have h:=f6.1 h;cases hd with
 |cons d1 d2=>
  cases d2;rw [d1.b7];refine(Tryz.bits_LeadingZeros64 x w h.1 (by omega)).mono fun e w' ⟨h1,h2⟩=> ?_
  subst h2;exact⟨_,⟨F.at',fun _=>none⟩,h1, .raw _,⟨hF.oR,hF.all,fun b A h=>by cases h⟩,(fun b A h=>by cases h),Below.refl _ _⟩
theorem dq (z:Int):IntKind.wrap .u64 z=z%18446744073709551616:=by
 unfold IntKind.wrap;have e:IntKind.signed .u64=false:=rfl;have e2:IntKind.bits .u64=64:=rfl;simp only [e,e2,Bool.false_and,Bool.false_eq_true,if_false];rfl
theorem aeU {a:Int} (h:0<=a/\a<18446744073709551616):IntKind.wrap .u64 (((BitVec.ofInt 64 a &&& BitVec.ofInt 64 4294967295).toNat:Nat):Int)=a%4294967296:=by
 obtain⟨A,rfl⟩:∃A:Nat,a=(A:Int):=⟨a.toNat,by omega⟩;have hA:A<2^64:=by have qw:((2^64:Nat):Int)=18446744073709551616:=rfl;rw [<-qw]at h;exact Int.ofNat_lt.1 h.2
 rw [BitVec.toNat_and,BitVec.ofInt_natCast,BitVec.toNat_ofNat,Nat.mod_eq_of_lt hA];rw [show(BitVec.ofInt 64 4294967295).toNat=2^32-1 from rfl,Nat.and_two_pow_sub_one_eq_mod];have:A%2^32<2^32:=Nat.mod_lt _ (by decide);rw [fA (by have e:(2:Nat)^32=4294967296:=rfl;omega)];rfl
theorem aeV (a b:Int):eH a b=eH b a:=by unfold eH;rw [BitVec.or_comm]
theorem aeW:∀f:Nat,Lib.bitLenAux f 0=0
 |0=>rfl
 |f+1=>by unfold Lib.bitLenAux;rw [if_pos rfl]
theorem bitLen_spec:∀(f x:Nat),x<2^f->0<x->2^(Lib.bitLenAux f x-1)<=x/\x<2^Lib.bitLenAux f x/\1<=Lib.bitLenAux f x/\Lib.bitLenAux f x<=f:=by
 intro f;induction f with
 |zero=>intro x h h0;simp at h;omega
 |succ f ih=>
  intro x h h0;unfold Lib.bitLenAux;rw [if_neg (by omega)];by_cases h1:x=1
  .subst h1;rw [show 1/2=0 from rfl,aeW];simp
  .obtain⟨g1,g2,g3,g4⟩:=ih (x/2) (by rw [Nat.pow_succ]at h;omega) (by omega);generalize Lib.bitLenAux f (x/2)=L at*;obtain⟨l,rfl⟩:∃l,L=l+1:=⟨L-1,by omega⟩;rw [show 1+(l+1)-1=l+1 by omega,show 1+(l+1)=l+1+1 by omega];rw [Nat.add_sub_cancel]at g1;rw [Nat.pow_succ]at g2;rw [Nat.pow_succ,Nat.pow_succ];omega
theorem RO {x:Int} (h:0<x/\x<18446744073709551616):∃s:Nat,dO x=s/\s<=63/\9223372036854775808<=x*2^s/\x*2^s<18446744073709551616:=by
 obtain⟨X,rfl⟩:∃X:Nat,x=(X:Int):=⟨x.toNat,by omega⟩;have qw:((2^64:Nat):Int)=18446744073709551616:=rfl;have hX:X<2^64:=by rw [<-qw]at h;exact Int.ofNat_lt.1 h.2
 obtain⟨g1,g2,g3,g4⟩:=bitLen_spec 64 X hX (by omega);refine⟨64-Lib.bitLenAux 64 X, ?_,by omega, ?_, ?_⟩
 .unfold dO Lib.bitLen;rw [Int.toNat_natCast];omega
 .generalize Lib.bitLenAux 64 X=L at*;have h1:2^(L-1)*2^(64-L)<=X*2^(64-L):=Nat.mul_le_mul_right _ g1;rw [<-Nat.pow_add,show L-1+(64-L)=63 by omega]at h1;have e:((X*2^(64-L):Nat):Int)=(X:Int)*2^(64-L):=by rw [Int.natCast_mul,Int.natCast_pow];rfl
  have RP:((2^63:Nat):Int)=9223372036854775808:=rfl;rw [<-e,<-RP];exact Int.ofNat_le.2 h1
 .generalize Lib.bitLenAux 64 X=L at*;have h1:X*2^(64-L)<2^L*2^(64-L):=Nat.mul_lt_mul_of_pos_right g2 (Nat.pow_pos (by decide));rw [<-Nat.pow_add,show L+(64-L)=64 by omega]at h1;have e:((X*2^(64-L):Nat):Int)=(X:Int)*2^(64-L):=by rw [Int.natCast_mul,Int.natCast_pow];rfl
  rw [<-e,<-qw];exact Int.ofNat_lt.2 h1
section
variable {b v1 v2 X c q r:Int}
theorem RQ (h:q*v1+r=X):q*(v1*b+v2)=X*b-r*b+q*v2:=by subst h;grind
theorem Fp (hY:0<v1*b+v2) (h:q*v1+r=X) (hq:(X*b+c)/(v1*b+v2)<=q) (hle:q*v2<=b*r+c):(X*b+c)/(v1*b+v2)=q:=by
 have h1:q*(v1*b+v2)<=X*b+c:=by rw [RQ h,Int.mul_comm r b];omega
 have:=(Int.le_ediv_iff_mul_le hY).2 h1;omega
theorem RR (hY:0<v1*b+v2) (hX:X<v1*b+v2) (hb:0<b) (hc:c<b) (h:q*v1+r=X) (hgt:b<=q\/b*r+c<q*v2):(X*b+c)/(v1*b+v2)<=q-1:=by
 have h1:X*b+c<q*(v1*b+v2):=by
  rcases hgt with hgt|hgt
  .have a1:=ar hgt (ck hY);have a2:=ar (show X<=v1*b+v2-1 by omega) (ck hb);rw [Int.sub_mul,Int.one_mul,Int.mul_comm (v1*b+v2)]at a2;omega
  .rw [RQ h,Int.mul_comm r b];omega
 have:=(Int.ediv_lt_iff_lt_mul hY).2 h1;omega
theorem RS (x4:0<=v1) (hX:X<v1*b+v2) (iF:0<=v2/\v2<b) (hc:0<=c) (h:q*v1+r=X) (h0:0<=q) (hr:b<=r):q*v2<=b*r+c:=by
 have fJ:q<b:=by
  refine Int.not_le.1 fun hn=> ?_
  have:=ar hn x4;rw [Int.mul_comm b v1]at this;omega
 have a1:q*v2<=b*b:=Int.mul_le_mul (ck fJ) (ck iF.2) iF.1 (by omega);have a2:=dU hr (show 0<=b by omega);omega
end
theorem aeX {q v:Int} (h0:0<=q) (hq:q<4294967296) (hv:0<=v/\v<4294967296):0<=q*v/\q*v<18446744073709551616:=by
 refine⟨Int.mul_nonneg h0 hv.1, ?_⟩;have:=Int.mul_le_mul (show q<=4294967295 by omega) (show v<=4294967295 by omega) hv.1 (by decide);omega
structure Ac (v1 v2 X c Y:Int):Prop where
 y:Y=v1*4294967296+v2
 v1:2147483648<=v1/\v1<4294967296
 v2:0<=v2/\v2<4294967296
 x:0<=X/\X<Y
 c:0<=c/\c<4294967296
theorem Ac.start {v1 v2 X c Y:Int} (p:Ac v1 v2 X c Y):X.tdiv v1*v1+(X-X.tdiv v1*v1)=X/\(X*4294967296+c)/Y<=X.tdiv v1/\0<=X.tdiv v1/\0<=X-X.tdiv v1*v1/\X-X.tdiv v1*v1<4294967296/\X.tdiv v1<18446744073709551616:=by
 have hv:=p.v1;have hx:=p.x;have hy:=p.y;have iF:=p.v2;have e:X.tdiv v1=X/v1:=Int.tdiv_eq_ediv_of_nonneg hx.1;rw [e];have h1:=Int.emod_add_mul_ediv X v1;have h2:=c6 X (show v1≠0 by omega);have h3:=cS X (show 0<v1 by omega);rw [Int.mul_comm]at h1;have h4:0<=X/v1:=Int.ediv_nonneg hx.1 (by omega);have h5:X/v1<=X:=Int.ediv_le_self _ hx.1;refine⟨by omega, ?_,h4,by omega,by omega,by omega⟩;have hY:0<Y:=by omega
 have hc:=p.c;have key:X*4294967296+c<(X/v1+1)*Y:=by
  have a1:(X/v1+1)*Y=(X/v1*v1+v1)*4294967296+(X/v1+1)*v2:=by rw [hy];grind
  have a2:=Int.mul_nonneg (show 0<=X/v1+1 by omega) iF.1;omega
 have:=(Int.ediv_lt_iff_lt_mul hY).2 key;omega
theorem Ac.lim {v1 v2 X c Y q r:Int} (p:Ac v1 v2 X c Y) (h0:0<=q) (hq:q<4294967296) (hr:0<=r/\r<4294967296):IntKind.wrap .u64 (q*v2)=q*v2/\IntKind.wrap .u64 (IntKind.wrap .u64 (4294967296*r)+c)=4294967296*r+c:=by
 have hc:=p.c;exact⟨fA (aeX h0 hq p.v2),by rw [fA (x:=4294967296*r) (by omega),fA (by omega)]⟩
theorem aeY (hi lo y:Int) (h:tJ hi lo y=true):Holds prog true 223 [cl hi,cl lo,cl y] (.tuple [cl (dT hi lo y),cl (n9 hi lo y)]):=by
 unfold tJ at h;simp only [ae,bz,f6]at h;obtain⟨⟨sU,aqL⟩,⟨CC,aeZ⟩,y0,y1⟩:=h;have hS:=ri RN;refine bJ (c:=iS) func223 rfl rfl fun w F=> ?_
 by_cases hz:hi=0
 .have e1:dT hi lo y=lo/y:=by unfold dT;rw [hz,Int.zero_mul,Int.zero_add]
  have e2:n9 hi lo y=lo%y:=by unfold n9;rw [hz,Int.zero_mul,Int.zero_add]
  rw [e1,e2];refine bu hS 9 (aeG hi lo y (by omega) (by omega) hz (by omega) ?_ (Int.tmod_eq_emod_of_nonneg CC));rw [Int.tdiv_eq_ediv_of_nonneg CC];exact fA ⟨Int.ediv_nonneg CC (by omega),by have:=Int.ediv_le_self y CC;omega⟩
 .obtain⟨s,hs,RT,RU,RV⟩:=RO (x:=y) (by omega);have Ad:IntKind.wrap .u64 (dO y)=(s:Int):=by rw [hs];exact fA (by omega)
  have RW:IntKind.wrap .u64 (64-(s:Int))=((64-s:Nat):Int):=by rw [fA (by omega)];omega
  have hp:(0:Int)<2^s:=bc (by decide) _;obtain⟨l1,l2,l3,l4⟩:=KG (x:=lo) (s:=s) (by omega) ⟨CC,aeZ⟩;generalize RX:y*2^s=Y at*;have hhi:0<=hi*2^s/\hi*2^s+2^s<=Y:=by
   refine⟨Int.mul_nonneg sU (ck hp), ?_⟩;have:=ar (show hi+1<=y by omega) (ck hp);rw [Int.add_mul,Int.one_mul]at this;omega
  generalize hX:hi*2^s+lo/2^(64-s)=X;generalize hL:lo*2^s%18446744073709551616=L at*;have ae0:0<=L/\L<18446744073709551616:=by rw [<-hL];exact⟨c6 _ (by decide),cS _ (by decide)⟩
  have fe:Ac (Y/4294967296) (Y%4294967296) X (L/4294967296) Y:=⟨by omega,by omega,by omega,by omega,by omega⟩;obtain⟨k1,k2,dB,l8,oJ,w5⟩:=fe.start;have hmin:min s 64=s:=by omega
  have ae1:min (64-s) 64=64-s:=by omega
  have ae2:IntKind.wrap .u64 Y=Y:=fA (by omega);have mz:∀z:Int,Int.fdiv z (2^min (Int.toNat 32) 64)=z/4294967296:=fun z=>by
   rw [show(2:Int)^min (Int.toNat 32) 64=4294967296 from rfl];exact Int.fdiv_eq_ediv_of_nonneg _ (by decide)
  have ae3:IntKind.wrap .u64 (lo*2^s)=L:=by rw [dq];exact hL
  have ae4:IntKind.wrap .u64 (((BitVec.ofInt 64 (IntKind.wrap .u64 (hi*2^s))|||BitVec.ofInt 64 (Int.fdiv lo (2^(64-s)))).toNat:Nat):Int)=X:=by
   rw [fA (x:=hi*2^s) (by omega),Int.fdiv_eq_ediv_of_nonneg _ (ck (bc (by decide) _))];show eH _ _=_;rw [aeV,xi (s:=s) (by omega) l3 sU (Int.mul_comm _ _) (by omega),<-hX];omega
  have A:IntKind.wrap .u64 (y*2^min (IntKind.wrap .u64 (dO y)).toNat 64)=Y:=by rw [Ad,Int.toNat_natCast,hmin,RX];exact ae2
  have B:IntKind.wrap .u64 (lo*2^min (IntKind.wrap .u64 (dO y)).toNat 64)=L:=by rw [Ad,Int.toNat_natCast,hmin];exact ae3
  have C:IntKind.wrap .u64 (((BitVec.ofInt 64 (IntKind.wrap .u64 (hi*2^min (IntKind.wrap .u64 (dO y)).toNat 64))|||BitVec.ofInt 64 (Int.fdiv lo (2^min (IntKind.wrap .u64 (64-IntKind.wrap .u64 (dO y))).toNat 64))).toNat:Nat):Int)=X:=by
   rw [Ad,RW,Int.toNat_natCast,Int.toNat_natCast,hmin,ae1];exact ae4
  have RY:∀z:Int,0<=z/\z<18446744073709551616->IntKind.wrap .u64 (((BitVec.ofInt 64 z &&& BitVec.ofInt 64 4294967295).toNat:Nat):Int)=z%4294967296:=fun z hz=>aeU hz
  have hq1:=fA (x:=X.tdiv (Y/4294967296)) ⟨dB,w5⟩;have ae5:IntKind.wrap .u64 (X.tdiv (Y/4294967296)*(Y/4294967296))=X.tdiv (Y/4294967296)*(Y/4294967296):=fA (by have:=fe.v1;have:=Int.mul_nonneg dB (show 0<=Y/4294967296 by omega);omega);have kE:=fA (x:=X-X.tdiv (Y/4294967296)*(Y/4294967296)) (by omega);refine aR.to known mixed hS 17 _ (aeH hi lo y Y s (Y/4294967296) (Y%4294967296) X (L/4294967296) (L%4294967296) (X.tdiv (Y/4294967296)) (X-X.tdiv (Y/4294967296)*(Y/4294967296)) (by omega) (by omega) hz (f6.2 ⟨y0,y1⟩)
   (by rw [Ad];omega) (by rw [Ad,RW];omega) (by rw [A,mz];have:=fe.v1;omega) A Ad (by rw [A,mz]) (by rw [A];exact RY Y (by omega)) C (by rw [B,mz]) (by rw [B];exact RY L ae0) (by rw [C,A,mz];exact hq1) (by rw [C,A,mz,hq1,ae5];exact kE)) (by kernel_rfl) ?_
  have hN:(hi*18446744073709551616+lo)*2^s=(X*4294967296+L/4294967296)*4294967296+L%4294967296:=by
   have e1:L=L/4294967296*4294967296+L%4294967296:=by omega
   rw [Int.add_mul,Int.mul_right_comm,l2,<-l1,<-hX];omega
  generalize x4:Y/4294967296=v1 at*;generalize iF:Y%4294967296=v2 at*;generalize hc:L/4294967296=c at*;generalize hd:L%4294967296=d at*;have gy:0<=d/\d<4294967296:=by omega
  have rD:0<Y:=by omega
  have ae6:=Int.emod_add_mul_ediv (X*4294967296+c) Y;have hx0:=c6 (X*4294967296+c) (show Y≠0 by omega);have hx1:=cS (X*4294967296+c) rD;have rE:Ac v1 v2 ((X*4294967296+c)%Y) d Y:=⟨fe.y,fe.v1,fe.v2,⟨hx0,hx1⟩,gy⟩;have KL:∀r,aR prog w F 135 ((fl iS []).drop 22) (iY Y s v1 v2 d ((X*4294967296+c)/Y) ((X*4294967296+c)%Y) (((X*4294967296+c)%Y*4294967296+d)/Y) r).T (iY Y s v1 v2 d ((X*4294967296+c)/Y) ((X*4294967296+c)%Y) (((X*4294967296+c)%Y*4294967296+d)/Y) r).H (gk prog true f223 (.tuple [cl (dT hi lo y),cl (n9 hi lo y)])):=fun r=>by
   have RZ:=Int.emod_add_mul_ediv ((X*4294967296+c)%Y*4294967296+d) Y;have iT:=c6 ((X*4294967296+c)%Y*4294967296+d) (show Y≠0 by omega);have BE:=cS ((X*4294967296+c)%Y*4294967296+d) rD;have jO:0<=(X*4294967296+c)/Y:=Int.ediv_nonneg (by have:=fe.x;have:=fe.c;omega) (by omega);have aqM:(X*4294967296+c)/Y<4294967296:=Int.ediv_lt_of_lt_mul rD (by have:=fe.x;have:=fe.c;omega);have Kh:0<=((X*4294967296+c)%Y*4294967296+d)/Y:=Int.ediv_nonneg (by omega) (by omega);have hp1:((X*4294967296+c)%Y*4294967296+d)/Y<4294967296:=Int.ediv_lt_of_lt_mul rD (by omega);generalize (X*4294967296+c)/Y=nW at*;generalize (X*4294967296+c)%Y=ez at*;generalize aqN:(ez*4294967296+d)/Y=tu at*;generalize aqO:(ez*4294967296+d)%Y=R1 at*;obtain⟨j1,j2⟩:=KI (A:=hi*18446744073709551616+lo) (b:=y) (V:=Y) (S:=2^s) (U:=R1) (q:=nW*4294967296+tu) hp (by omega) RX.symm (by rw [hN];grind) iT BE;refine bT (s:=iY Y s v1 v2 d nW ez tu r) hS (aeT Y s v1 v2 d nW ez tu r _ _ (by omega) ?_ ?_)
   .rw [fA (x:=nW*4294967296) (by omega),fA (by omega)];exact j1.symm
   .rw [Int.toNat_natCast,hmin,Int.fdiv_eq_ediv_of_nonneg _ (ck hp)];have e:IntKind.wrap .u64 (IntKind.wrap .u64 (IntKind.wrap .u64 (ez*4294967296)+d)-IntKind.wrap .u64 (tu*Y))=R1:=by
     rw [dq,dq,dq,dq];rw [Int.mul_comm Y]at RZ;generalize tu*Y=P at*;omega
    rw [e,j2,Int.mul_ediv_cancel_left _ (by omega)];rfl
  have KM:∀r,aR prog w F 135 ((fl iS []).drop 18) (iX Y s v1 v2 X c d ((X*4294967296+c)/Y) r).T (iX Y s v1 v2 X c d ((X*4294967296+c)/Y) r).H (gk prog true f223 (.tuple [cl (dT hi lo y),cl (n9 hi lo y)])):=fun r=>by
   obtain⟨n1,n2,n3,Ae,R2,R3⟩:=rE.start;have e:IntKind.wrap .u64 (IntKind.wrap .u64 (IntKind.wrap .u64 (X*4294967296)+c)-IntKind.wrap .u64 ((X*4294967296+c)/Y*Y))=(X*4294967296+c)%Y:=by
    rw [dq,dq,dq,dq];rw [Int.mul_comm Y]at ae6;generalize (X*4294967296+c)/Y*Y=P at*;omega
   have m1:=fA (x:=((X*4294967296+c)%Y).tdiv v1) ⟨n3,R3⟩;have m2:IntKind.wrap .u64 (((X*4294967296+c)%Y).tdiv v1*v1)=((X*4294967296+c)%Y).tdiv v1*v1:=fA (by have:=fe.v1;have:=Int.mul_nonneg n3 (show 0<=v1 by omega);omega);refine dZ (s:=iX Y s v1 v2 X c d ((X*4294967296+c)/Y) r) hS 3 (aeN Y s v1 v2 X c d ((X*4294967296+c)/Y) r ((X*4294967296+c)%Y) (((X*4294967296+c)%Y).tdiv v1) ((X*4294967296+c)%Y-((X*4294967296+c)%Y).tdiv v1*v1) (by have:=fe.v1;omega) e (by rw [e];exact m1) (by rw [e,m1,m2];exact fA (by omega))) ?_;generalize (X*4294967296+c)%Y=ez at*;refine aR.loop (ι:={p:Int×Int//p.1*v1+p.2=ez/\(ez*4294967296+d)/Y<=p.1/\0<=p.1/\0<=p.2/\p.2<4294967296/\p.1<18446744073709551616}) (id:=2) (b:=cat iS Ab) (rest:=(fl iS []).drop 22) (by kernel_rfl) (fun p=>iY Y s v1 v2 d ((X*4294967296+c)/Y) ez p.1.1 p.1.2) (fun p=>p.1.1.toNat) ⟨(ez.tdiv v1,ez-ez.tdiv v1*v1),n1,n2,n3,Ae,R2,R3⟩ (fun _=>rfl) ?_;rintro⟨⟨q,r⟩,a1,a2,a3,a4,a5,a6⟩;have a1:q*v1+r=ez:=a1;have a2:(ez*4294967296+d)/Y<=q:=a2;have a3:0<=q:=a3;have a4:0<=r:=a4;have a5:r<4294967296:=a5;have a6:q<18446744073709551616:=a6;have hgo:(4294967296<=q\/4294967296*r+d<q*v2)->(ez*4294967296+d)/Y<=q-1:=fun hg=>by
    have:=rE.y;subst this;exact RR rD rE.x.2 (by decide) gy.2 a1 hg
   have Kh:0<=(ez*4294967296+d)/Y:=Int.ediv_nonneg (by have:=rE.x;omega) (by omega);have hw1:=fA (x:=r+v1) (by have:=fe.v1;omega);have CD:(4294967296<=q\/4294967296*r+d<q*v2)->4294967296<=r+v1->q-1=(ez*4294967296+d)/Y:=fun hg hr=>by
    have g1:=hgo hg;have e1:(q-1)*v1+(r+v1)=ez:=by rw [Int.sub_mul,Int.one_mul];omega
    have hf:=RS (by have:=fe.v1;omega) (by have:=rE.x;have:=rE.y;omega) rE.v2 gy.1 e1 (by omega) hr;have:=rE.y;subst this;exact(Fp rD e1 g1 hf).symm
   by_cases fJ:q>=4294967296
   .have lH:=fA (x:=q-1) (by omega);by_cases hrb:r+v1>=4294967296
    .refine bp (s:=iY Y s v1 v2 d ((X*4294967296+c)/Y) ez q r) hS (aeO Y s v1 v2 d _ ez q r fJ (by rw [hw1];exact hrb) lH hw1) ?_;refine cv (cD ?_);rw [CD (.inl fJ) hrb];exact KL _
    .refine bp (s:=iY Y s v1 v2 d ((X*4294967296+c)/Y) ez q r) hS (aeP Y s v1 v2 d _ ez q r fJ (by rw [hw1];exact hrb) lH hw1) ?_;exact⟨⟨(q-1,r+v1),by show(q-1)*v1+(r+v1)=ez;rw [Int.sub_mul,Int.one_mul];omega,hgo (.inl fJ),by show 0<=q-1;omega,by show 0<=r+v1;have:=fe.v1;omega,by show r+v1<_;omega,by show q-1<_;omega⟩,by show(q-1).toNat<q.toNat;omega,rfl,rfl⟩
   .obtain⟨w1,w2⟩:=rE.lim a3 (by omega) ⟨a4,a5⟩;by_cases hgt:4294967296*r+d<q*v2
    .have hq1:1<=q:=by
      by_cases jO:q=0
      .rw [jO,Int.zero_mul]at hgt;omega
      .omega
     have lH:=fA (x:=q-1) (by omega);by_cases hrb:r+v1>=4294967296
     .refine bp (s:=iY Y s v1 v2 d ((X*4294967296+c)/Y) ez q r) hS (aeQ Y s v1 v2 d _ ez q r fJ (by rw [w1,w2];exact hgt) (by rw [hw1];exact hrb) lH hw1) ?_;refine cv (cD ?_);rw [CD (.inr hgt) hrb];exact KL _
     .refine bp (s:=iY Y s v1 v2 d ((X*4294967296+c)/Y) ez q r) hS (aeR Y s v1 v2 d _ ez q r fJ (by rw [w1,w2];exact hgt) (by rw [hw1];exact hrb) lH hw1) ?_;exact⟨⟨(q-1,r+v1),by show(q-1)*v1+(r+v1)=ez;rw [Int.sub_mul,Int.one_mul];omega,hgo (.inr hgt),by show 0<=q-1;omega,by show 0<=r+v1;have:=fe.v1;omega,by show r+v1<_;omega,by show q-1<_;omega⟩,by show(q-1).toNat<q.toNat;omega,rfl,rfl⟩
    .refine bp (s:=iY Y s v1 v2 d ((X*4294967296+c)/Y) ez q r) hS (aeS Y s v1 v2 d _ ez q r fJ (by rw [w1,w2];exact hgt)) ?_;refine cv (cD ?_);have e1:(ez*4294967296+d)/Y=q:=by
      have:=rE.y;subst this;exact Fp rD a1 a2 (by omega)
     rw [<-e1];exact KL _
  refine aR.loop (ι:={p:Int×Int//p.1*v1+p.2=X/\(X*4294967296+c)/Y<=p.1/\0<=p.1/\0<=p.2/\p.2<4294967296/\p.1<18446744073709551616}) (id:=0) (b:=cat iS Aa) (rest:=(fl iS []).drop 18) (by kernel_rfl) (fun p=>iX Y s v1 v2 X c d p.1.1 p.1.2) (fun p=>p.1.1.toNat) ⟨(X.tdiv v1,X-X.tdiv v1*v1),k1,k2,dB,l8,oJ,w5⟩ (fun _=>rfl) ?_;rintro⟨⟨q,r⟩,a1,a2,a3,a4,a5,a6⟩;have a1:q*v1+r=X:=a1;have a2:(X*4294967296+c)/Y<=q:=a2;have a3:0<=q:=a3;have a4:0<=r:=a4;have a5:r<4294967296:=a5;have a6:q<18446744073709551616:=a6;have hgo:(4294967296<=q\/4294967296*r+c<q*v2)->(X*4294967296+c)/Y<=q-1:=fun hg=>by
   have:=fe.y;subst this;exact RR rD fe.x.2 (by decide) fe.c.2 a1 hg
  have Kh:0<=(X*4294967296+c)/Y:=Int.ediv_nonneg (by have:=fe.x;have:=fe.c;omega) (by omega);have hw1:=fA (x:=r+v1) (by have:=fe.v1;omega);have CD:(4294967296<=q\/4294967296*r+c<q*v2)->4294967296<=r+v1->q-1=(X*4294967296+c)/Y:=fun hg hr=>by
   have g1:=hgo hg;have e1:(q-1)*v1+(r+v1)=X:=by rw [Int.sub_mul,Int.one_mul];omega
   have hf:=RS (by have:=fe.v1;omega) (by have:=fe.x;have:=fe.y;omega) fe.v2 fe.c.1 e1 (by omega) hr;have:=fe.y;subst this;exact(Fp rD e1 g1 hf).symm
  by_cases fJ:q>=4294967296
  .have lH:=fA (x:=q-1) (by omega);by_cases hrb:r+v1>=4294967296
   .refine bp (s:=iX Y s v1 v2 X c d q r) hS (aeI Y s v1 v2 X c d q r fJ (by rw [hw1];exact hrb) lH hw1) ?_;refine cv (cD ?_);rw [CD (.inl fJ) hrb];exact KM _
   .refine bp (s:=iX Y s v1 v2 X c d q r) hS (aeJ Y s v1 v2 X c d q r fJ (by rw [hw1];exact hrb) lH hw1) ?_;exact⟨⟨(q-1,r+v1),by show(q-1)*v1+(r+v1)=X;rw [Int.sub_mul,Int.one_mul];omega,hgo (.inl fJ),by show 0<=q-1;omega,by show 0<=r+v1;have:=fe.v1;omega,by show r+v1<_;omega,by show q-1<_;omega⟩,by show(q-1).toNat<q.toNat;omega,rfl,rfl⟩
  .obtain⟨w1,w2⟩:=fe.lim a3 (by omega) ⟨a4,a5⟩;by_cases hgt:4294967296*r+c<q*v2
   .have hq1:1<=q:=by
     by_cases jO:q=0
     .rw [jO,Int.zero_mul]at hgt;omega
     .omega
    have lH:=fA (x:=q-1) (by omega);by_cases hrb:r+v1>=4294967296
    .refine bp (s:=iX Y s v1 v2 X c d q r) hS (aeK Y s v1 v2 X c d q r fJ (by rw [w1,w2];exact hgt) (by rw [hw1];exact hrb) lH hw1) ?_;refine cv (cD ?_);rw [CD (.inr hgt) hrb];exact KM _
    .refine bp (s:=iX Y s v1 v2 X c d q r) hS (aeL Y s v1 v2 X c d q r fJ (by rw [w1,w2];exact hgt) (by rw [hw1];exact hrb) lH hw1) ?_;exact⟨⟨(q-1,r+v1),by show(q-1)*v1+(r+v1)=X;rw [Int.sub_mul,Int.one_mul];omega,hgo (.inr hgt),by show 0<=q-1;omega,by show 0<=r+v1;have:=fe.v1;omega,by show r+v1<_;omega,by show q-1<_;omega⟩,by show(q-1).toNat<q.toNat;omega,rfl,rfl⟩
   .refine bp (s:=iX Y s v1 v2 X c d q r) hS (aeM Y s v1 v2 X c d q r fJ (by rw [w1,w2];exact hgt)) ?_;refine cv (cD ?_);have e1:(X*4294967296+c)/Y=q:=by
     have:=fe.y;subst this;exact Fp rD a1 a2 (by omega)
    rw [<-e1];exact KM _
theorem R4:KK.Ok prog:=fun⟨hi,lo,y,_⟩ h=>aeY hi lo y h
end
end Go.Proofs.YtibikmmdbdlafaaGreatDoor
/- Package num: a list of words shifted up. -/
namespace Go.Proofs.YtibikmmdbdlafaaGreatDoor
open Go.RowKit Sv Go.Proofs.Tryz
noncomputable section
def ff (x s:Int):Int:=IntKind.wrap .u64 (x*2^min s.toNat 64)
def dn (x s:Int):Int:=Int.fdiv x (2^min s.toNat 64)
noncomputable def tK:Code:=(f225.body).getD .skip
abbrev Fq:List Nat:=[1,1,0,1,0,0]
def nt (w out:List Int) (s:Int) (i:Nat):bC:={n:=40,sl:=[(0,bE w),(1,iv s),(5,qo 64 out),(12,bE w),(13,iv w.length),(14,iv i)],bG:=[(64,qp out)],next:=65}
theorem ae7 (w:List Int) (s:Int) (h1: -9223372036854775808<=(w.length:Int)+1/\(w.length:Int)+1<=9223372036854775807) (h2:((w.length:Int)+1).toNat<=1000000) (h3:(((w.length:Int)+1).toNat)=(co (w.length+(1:Nat))).length) (h4:(aS.known ((w.length:Int)+1).toNat)=(aS.known (w.length+(1:Nat)))) (h5:(bA (co (w.length+(1:Nat))).length)=(bA (w.length+(1:Nat)))) (h6:(List.flatten (List.replicate ((w.length:Int)+1).toNat (List.map aa.raw (Array.toList #[Value.int .u64 (0:Int)]))))=(List.flatMap (fun x=>[aa.raw (Value.int .u64 x)]) (co (w.length+(1:Nat))))) (h7:(w.length+(1:Nat))=(co (w.length+(1:Nat))).length):
  aA.path (oS prog (a7 []) (fl tK []) 3 40 [bE w,iv s]) (dl 1) (dX prog 40 .normal [(64,64,some (w.length+1))] (nt w (co (w.length+1)) s 0)):=
 mp (abg (bm h1) rt rt (show(decide (((w.length:Int)+1).toNat<=((w.length:Int)+1).toNat))=true from az (by omega)) (nY (show(bounded ((w.length:Int)+1).toNat (8:Nat))=true from oV h2 (by omega)) (rr w) (rr s) (an h3 (an h4 h5)) (rr w) (rr (w.length:Int)) (rr (0:Int)) (an h6 h7) trivial))
theorem ae8 (w out:List Int) (s:Int) (i:Nat) (h1:(i:Int)<(w.length:Int)) (h2:i<w.length) (h3:i<out.length) (h4:0<=s) (h5:s>0) (h6:i6 ((i:Int)+1)) (h7:i6 (64-s)) (h8:0<=64-s) (h9:((i:Int)+1).toNat<out.length) (h10:(bt 167 aB (some (bf.own 167 aB (out.set i (IntKind.wrap IntKind.u64 (↑(BitVec.toNat (BitVec.ofInt 64 (out.getD i 0)|||BitVec.ofInt 64 (IntKind.wrap IntKind.u64 (w.getD i 0*(2:Int)^min s.toNat 64)))):Int))))) ((i:Int)+1).toNat)=true) (h11:out.length=((out.set i (eH (out.getD i 0) (ff (w.getD i 0) s))).set (i+1) (dn (w.getD i 0) (64-s))).length) (h12:(bA out.length)=(bA ((out.set i (eH (out.getD i 0) (ff (w.getD i 0) s))).set (i+1) (dn (w.getD i 0) (64-s))).length)) (dP:((out.set i (IntKind.wrap IntKind.u64 (↑(BitVec.toNat (BitVec.ofInt 64 (out.getD i 0)|||BitVec.ofInt 64 (IntKind.wrap IntKind.u64 (w.getD i 0*(2:Int)^min s.toNat 64)))):Int))).set ((i:Int)+1).toNat (Int.fdiv (w.getD i 0) ((2:Int)^min (64-s).toNat 64)))=((out.set i (eH (out.getD i 0) (ff (w.getD i 0) s))).set (i+1) (dn (w.getD i 0) (64-s)))):
  bh (a7 []) (fl tK Fq) (nt w out s i) 7 .normal [(64,64,none)] (nt w ((out.set i (eH (out.getD i 0) (ff (w.getD i 0) s))).set (i+1) (dn (w.getD i 0) (64-s))) s (i+1)):=
 wy [ah h1,ah h2,ah h3,iW 167 aB h3,af (aW (v:=aa.raw (Value.int IntKind.u64 ((bI aB (bM 167 aB out)).getD ((0:Nat)+i) (0:Int)))) (by kernel_rfl)),ah h4,ah h5,yi h6,yi h7,ah h8,ah h9,af (show(bt 167 aB (some (bf.own 167 aB ((bI aB (bM 167 aB out)).set ((0:Nat)+i) (IntKind.wrap IntKind.u64 (↑(BitVec.toNat (BitVec.ofInt (64:Nat) ((bI aB (bM 167 aB out)).getD ((0:Nat)+i) (0:Int))|||BitVec.ofInt (64:Nat) (IntKind.wrap IntKind.u64 (w.getD i (0:Int)*(2:Int)^min s.toNat (64:Nat))))):Int))))) ((0:Nat)+((i:Int)+(1:Int)).toNat))=true from(by simp only [dI,aw]<;>exact h10)),ax h11,ax h12,oU prog 167 aB (show(((bI aB (bM 167 aB out)).set ((0:Nat)+i) (IntKind.wrap IntKind.u64 (↑(BitVec.toNat (BitVec.ofInt (64:Nat) ((bI aB (bM 167 aB out)).getD ((0:Nat)+i) (0:Int))|||BitVec.ofInt (64:Nat) (IntKind.wrap IntKind.u64 (w.getD i (0:Int)*(2:Int)^min s.toNat (64:Nat))))):Int))).set ((0:Nat)+((i:Int)+(1:Int)).toNat) (Int.fdiv (w.getD i (0:Int)) ((2:Int)^min ((64:Int)-s).toNat (64:Nat))))=((out.set i (eH (out.getD i (0:Int)) (ff (w.getD i (0:Int)) s))).set (i+(1:Nat)) (dn (w.getD i (0:Int)) ((64:Int)-s)))from(by simp only [dI,aw]<;>exact dP))] 5612166604090939023885917864117590006026658706890753
theorem ae9 (w out:List Int) (s:Int) (i:Nat) (h1:(i:Int)<(w.length:Int)) (h2:i<w.length) (h3:i<out.length) (h4:0<=s) (h5:¬s>0) (h6:i6 ((i:Int)+1)) (h7:out.length=(out.set i (eH (out.getD i 0) (ff (w.getD i 0) s))).length) (h8:(bA out.length)=(bA (out.set i (eH (out.getD i 0) (ff (w.getD i 0) s))).length)) (h9:(out.set i (IntKind.wrap IntKind.u64 (↑(BitVec.toNat (BitVec.ofInt 64 (out.getD i 0)|||BitVec.ofInt 64 (IntKind.wrap IntKind.u64 (w.getD i 0*(2:Int)^min s.toNat 64)))):Int)))=(out.set i (eH (out.getD i 0) (ff (w.getD i 0) s)))):
  bh (a7 []) (fl tK Fq) (nt w out s i) 5 .normal [(64,64,none)] (nt w (out.set i (eH (out.getD i 0) (ff (w.getD i 0) s))) s (i+1)):=
 wy [ah h1,ah h2,ah h3,iW 167 aB h3,af (aW (v:=aa.raw (Value.int IntKind.u64 ((bI aB (bM 167 aB out)).getD ((0:Nat)+i) (0:Int)))) (by kernel_rfl)),ah h4,aJ h5,yi h6,ax h7,ax h8,oU prog 167 aB (show((bI aB (bM 167 aB out)).set ((0:Nat)+i) (IntKind.wrap IntKind.u64 (↑(BitVec.toNat (BitVec.ofInt (64:Nat) ((bI aB (bM 167 aB out)).getD ((0:Nat)+i) (0:Int))|||BitVec.ofInt (64:Nat) (IntKind.wrap IntKind.u64 (w.getD i (0:Int)*(2:Int)^min s.toNat (64:Nat))))):Int)))=(out.set i (eH (out.getD i (0:Int)) (ff (w.getD i (0:Int)) s)))from(by simp only [dI,aw]<;>exact h9))] 59889699868906130213244270183591081680897
theorem afa (w out:List Int) (s:Int) (i:Nat) (h1:¬(i:Int)<(w.length:Int)):
  bh (a7 []) (fl tK Fq) (nt w out s i) 2 (.exit 0) [(64,64,none)] (nt w out s i):=
 wy [aJ h1] 1
theorem afb (w:List Int) (x:Int) (l:List Int) (s:Int) (i:Nat) (h1:(bA (x::l).length)=(aS.full)):
  aA.path (nV prog (a7 []) ((fl tK []).drop 4) (nt w (x::l) s i)) (dl 1) (EI prog f225 167 aB (x::l)):=
 wy [oT (an (rr (x::l).length) (an h1 (rr (x::l))))] 1
def cB (w:List Int) (s:Int):List Int:=fx 18446744073709551616 (w.length+1) (aj w*2^s.toNat)
def x5 (w:List Int) (s:Int):Bool:=gA w&&(decide (w.length<=400000)&&(decide (0<=s)&&decide (s<64)))
noncomputable def Fs:qg:={f:=225,e:=167,t:=aB,ps:=[.list false aB, .int .i64],pre:=fun d=>x5 d.1 d.2.1,out:=fun d=>cB d.1 d.2.1}
theorem R5 {x:Int} {s:Nat} (hs:s<=64) (hx:0<=x/\x<18446744073709551616):ff x s=2^s*(x%2^(64-s)):=by
 unfold ff;rw [Int.toNat_natCast,Nat.min_eq_left hs,dq];exact(KG hs hx).1
theorem KN {x:Int} {s:Nat} (hs:s<=64) (hx:0<=x):dn x s=x/2^s:=by
 unfold dn;rw [Int.toNat_natCast,Nat.min_eq_left hs];exact Int.fdiv_eq_ediv_of_nonneg _ (ck (bc (by decide) _))
theorem oa {l:List Int} {i:Nat} (j:Nat) {d:Int}:(l.set i d).getD j 0=if i=j/\i<l.length then d else l.getD j 0:=by
 simp only [ao,List.getElem?_set];by_cases h:i=j
 .subst h;by_cases hl:i<l.length
  .simp [hl]
  .simp [hl]
 .simp [h]
theorem afc {l:List Int} {i:Nat} (h:i<l.length):l.set i (l.getD i 0)=l:=by
 rw [tC h];exact List.set_getElem_self h
structure CE (w:List Int) (s:Nat) (out:List Int) (i:Nat):Prop where
 le:i<=w.length
 len:out.length=w.length+1
 dg:aP 18446744073709551616 out
 low:out.getD i 0<2^s
 zero:∀k,i<k->out.getD k 0=0
 val:aj (out.take i)+18446744073709551616^i*out.getD i 0=aj (w.take i)*2^s
theorem afd {w:List Int} (hw:aP 18446744073709551616 w) {s:Nat} (hs:s<=63) {out:List Int} {i:Nat} (I:CE w s out i) (hi:i<w.length):
  CE w s ((out.set i (eH (out.getD i 0) (ff (w.getD i 0) s))).set (i+1) (w.getD i 0/2^(64-s))) (i+1):=by
 have hx:=hw.get (by decide) i;have ho:=I.dg.get (by decide) i;obtain⟨l1,l2,l3,l4⟩:=KG (s:=s) (by omega) hx;have hlen:=I.len;have hp:(0:Int)<2^s:=bc (by decide) _;have hlt:2^s*(w.getD i 0%2^(64-s))<18446744073709551616:=by rw [<-l1];exact cS _ (by decide)
 have afe:eH (out.getD i 0) (ff (w.getD i 0) s)=out.getD i 0+2^s*(w.getD i 0%2^(64-s)):=by
  rw [R5 (by omega) hx];exact xi (by omega) ⟨ho.1,I.low⟩ l4.1 rfl hlt
 have jq:(2:Int)^s*2^(64-s)=18446744073709551616:=by rw [<-Int.pow_add,show s+(64-s)=64 by omega];rfl
 have aff:0<=out.getD i 0+2^s*(w.getD i 0%2^(64-s))/\out.getD i 0+2^s*(w.getD i 0%2^(64-s))<18446744073709551616:=by
  have h1:=Int.mul_nonneg (ck hp) l4.1;have h2:=dU (show w.getD i 0%2^(64-s)+1<=2^(64-s) by omega) (ck hp);rw [jq,Int.mul_add,Int.mul_one]at h2;have:=I.low;omega
 have hh:0<=w.getD i 0/2^(64-s)/\w.getD i 0/2^(64-s)<18446744073709551616:=by
  have:(2:Int)^s<=2^64:=iG (by decide) (by omega);have e:(2:Int)^64=18446744073709551616:=rfl;omega
 rw [afe];refine⟨hi,by simp [hlen],(I.dg.set aff).set hh, ?_,fun k hk=> ?_, ?_⟩
 .rw [oa,if_pos ⟨rfl,by rw [bY];omega⟩];exact l3.2
 .rw [oa,if_neg (by omega),oa,if_neg (by omega)];exact I.zero k (by omega)
 .rw [oa,if_pos ⟨rfl,by rw [bY];omega⟩];have hv:=I.val;unfold aj at hv ⊢;rw [zV,xM (by omega),lC (l:=w) hi,Int.pow_succ];generalize vl 18446744073709551616 (out.take i)=A at*;generalize vl 18446744073709551616 (w.take i)=aqP at*;generalize out.getD i 0=o at*;generalize w.getD i 0/2^(64-s)=h at*;generalize w.getD i 0%2^(64-s)=l at*;generalize w.getD i 0=x at*;generalize (18446744073709551616:Int)^i=P at*;generalize (2:Int)^s=S at*;have e:P*(x*S)=P*(S*l+18446744073709551616*h):=by rw [l2]
  grind
theorem afg {w:List Int} {s:Nat} {out:List Int} (I:CE w s out w.length):out=cB w s:=by
 have hv:=I.val;have hl:=I.len;have h1:=lC (b:=18446744073709551616) (l:=out) (k:=w.length) (by omega);rw [ef (by omega)]at h1;rw [dA]at hv;have h2:=J1 (b:=18446744073709551616) (by decide) I.dg;unfold cB;rw [Int.toNat_natCast,<-hv];unfold aj;rw [<-h1,<-hl];exact h2
theorem afh (w:List Int) (CF:Int) (h:x5 w CF=true) (w0:World) (F:Sv.Env):aR prog w0 F 40 (fl tK []) (fG [bE w,iv CF] .nil 0) H0 (JU prog f225 167 aB (cB w CF)):=by
 unfold x5 at h;simp only [ae,bz,cf]at h;obtain⟨hw,hl,h0,h1⟩:=h;obtain⟨s,rfl⟩:∃s:Nat,CF=(s:Int):=⟨CF.toNat,by omega⟩;have e1:((w.length:Int)+1).toNat=w.length+1:=by omega
 refine cE ba 3 (ae7 w s (by omega) (by omega) (by rw [gm,e1]) (by rw [e1]) (by rw [gm]) (by rw [e1];exact xS _) (by rw [gm])) ?_;have hz:∀k,(co (w.length+1)).getD k 0=0:=fun k=>by
  unfold co;rw [ao,List.getElem?_replicate];split<;>rfl
 refine aR.loop (ι:={p:List Int×Nat//CE w s p.1 p.2}) (id:=0) (b:=cat tK Fq) (rest:=(fl tK []).drop 4) (by kernel_rfl) (fun p=>nt w p.1.1 s p.1.2) (fun p=>w.length-p.1.2)
  ⟨(co (w.length+1),0),⟨Nat.zero_le _,gm _,pf _,by show(co (w.length+1)).getD 0 0<_;rw [hz];exact bc (by decide) _,fun k _=>hz k,by show vl _ ([]:List Int)+_*(co (w.length+1)).getD 0 0=vl _ ([]:List Int)*_;rw [hz];simp [vl]⟩⟩ (fun _=>rfl) ?_
 rintro⟨⟨out,i⟩,I⟩;have I:CE w s out i:=I;have hlen:=I.len;by_cases hi:i<w.length
 .have hx:=hw.get (by decide) i;have N:=afd hw (by omega) I hi;have kG:((i:Int)+1).toNat=i+1:=by omega
  by_cases hs0:s=0
  .subst hs0;have e2:(out.set i (eH (out.getD i 0) (ff (w.getD i 0) (0:Nat)))).set (i+1) (w.getD i 0/2^(64-0))=out.set i (eH (out.getD i 0) (ff (w.getD i 0) (0:Nat))):=by
    have e3:w.getD i 0/2^(64-0)=(out.set i (eH (out.getD i 0) (ff (w.getD i 0) (0:Nat)))).getD (i+1) 0:=by
     rw [oa,if_neg (by omega),I.zero (i+1) (by omega)];exact Int.ediv_eq_zero_of_lt hx.1 hx.2
    rw [e3];exact afc (by rw [bY];omega)
   rw [e2]at N;exact aR.all (s:=nt w out (0:Nat) i) (s':=nt w (out.set i (eH (out.getD i 0) (ff (w.getD i 0) (0:Nat)))) (0:Nat) (i+1)) known mixed ba _ (ae9 w out _ i (by omega) hi (by omega) (by omega) (by omega) (by omega) (by rw [bY]) (by rw [bY]) rfl) (by kernel_rfl)
    ⟨⟨(_,i+1),N⟩,by simp;omega,rfl,rfl⟩
  .have bP:dn (w.getD i 0) (64-(s:Int))=w.getD i 0/2^(64-s):=by
    rw [show(64-(s:Int))=((64-s:Nat):Int) by omega];exact KN (by omega) hx.1
   rw [<-bP]at N;exact aR.all (s:=nt w out s i) (s':=nt w ((out.set i (eH (out.getD i 0) (ff (w.getD i 0) s))).set (i+1) (dn (w.getD i 0) (64-s))) s (i+1)) known mixed ba _ (ae8 w out s i (by omega) hi (by omega) (by omega) (by omega) (by omega) (by omega) (by omega) (by rw [kG];omega) (by rw [kG,wV];exact az (by rw [bY];omega)) (by simp) (by simp) (by rw [kG];rfl)) (by kernel_rfl)
    ⟨⟨(_,i+1),N⟩,by simp;omega,rfl,rfl⟩
 .refine bp (s:=nt w out s i) ba (afa w out s i (by omega)) ?_;refine cv (cD ?_);have hle:=I.le;obtain rfl:i=w.length:=by omega
  rw [<-afg I];cases out with
  |nil=>have:=I.len;simp at this
  |cons x l=>exact aR.aa6 known mixed ba 8 _ (afb w x l s w.length rfl) fun T H h=>h
theorem afi:Fs.Ok prog:=
 ⟨rfl,_,tK,func225,rfl,by decide,fun⟨w,s,_⟩ h=>⟨by show 1<=(cB w s).length;unfold cB;rw [xN];omega,fun w0 F=>afh w s h w0 F⟩⟩
end
end Go.Proofs.YtibikmmdbdlafaaGreatDoor
