/- Package num: fractions: sum, product, opposite, inverse, comparison, floor. -/
import Derived.Test.YtibikmmdbdlafaaGreatDoorZxVMk
import Derived.Lib.SmallJoins
set_option linter.unusedVariables false
set_option linter.unusedSectionVars false
set_option maxRecDepth 100000
set_option linter.unusedSimpArgs false
namespace Go.Proofs.YtibikmmdbdlafaaGreatDoor
open Go.RowKit Sv Go.Proofs.Tryz
noncomputable section
noncomputable def TH:Code:=(f80.body).getD .skip
noncomputable def TI:Code:=(f79.body).getD .skip
noncomputable def TJ:Code:=(f57.body).getD .skip
noncomputable def L0:Code:=(f124.body).getD .skip
noncomputable def TK:Code:=(f63.body).getD .skip
noncomputable def TL:Code:=(f152.body).getD .skip
noncomputable def Ge:Code:=(f58.body).getD .skip
noncomputable def TM:Code:=(f56.body).getD .skip
noncomputable def Pl:Code:=(f125.body).getD .skip
noncomputable def TN:Code:=(f92.body).getD .skip
noncomputable def TP:Code:=(f149.body).getD .skip
noncomputable def rV:bF:=a7 [xV,vE,CZ,xU,vD,KD,FM]
def gT (a:bS):Bool:=ic a.2&&(a.2.1==1)
theorem ajm (n:Int):
  bq rV (fl TH []) 9 5 [iv n] 1 f80 false (aH (n,[])):=
 wy [] 0
theorem ajn (a:bS) (h1:a.2.2.isEmpty=true):
  bq rV (fl L0 []) 9 13 [cj a] 63 f124 true (bv (a.2.1==1)):=
 wy [af (aQ (aQ (h1))),af (aQ (h1))] 33820737
theorem ajo (a:bS) (h1:a.2.2.isEmpty=false):
  bq rV (fl L0 []) 9 13 [cj a] 32 f124 true (bv false):=
 wy [af (aQ (aQ (h1))),af (aQ (h1))] 33820737
theorem ajp (a:bS) (h1:(aD a.1)=true):
  bq rV (fl TK []) 9 6 [cj a] 1 f63 true (iv (eY a.1)):=
 wy [af h1] 1
theorem ajq (a:bS) (h1:(aD a.1)=true):
  bq rV (fl TL []) 9 9 [cj a] 1 f152 false (cj (eS a.1,a.2)):=
 wy [af (aW (v:=aH a.1) (by kernel_rfl)),af h1,af (aW (v:=aH a.2) (by kernel_rfl))] 798849
theorem ajr (a b:bS) (h1:(aD a.1&&aD b.1)=true) (h2:(aD a.2&&aD b.2)=true) (h3:(gQ (bU a.1 b.1) (bU a.2 b.2))=true):
  bq rV (fl TM []) 9 16 [cj a,cj b] 1 f56 false (cj (jU (bU a.1 b.1) (bU a.2 b.2))):=
 wy [af (aW (v:=aH a.1) (by kernel_rfl)),af (aW (v:=aH b.1) (by kernel_rfl)),af h1,af (aW (v:=aH a.2) (by kernel_rfl)),af (aW (v:=aH b.2) (by kernel_rfl)),af h2,af h3] 1997062150303873
theorem ajs (a:bS) (h1:(gQ a.2 a.1)=true):
  bq rV (fl Pl []) 9 8 [cj a] 1 f125 false (cj (jU a.2 a.1)):=
 wy [af h1] 1
theorem ajt (a b:bS) (h1:(aD a.1&&aD b.2)=true) (h2:(aD b.1&&aD a.2)=true) (h3:(bH 50000 (bU a.1 b.2)&&bH 50000 (bU b.1 a.2))=true):
  bq rV (fl TN []) 9 16 [cj a,cj b] 1 f92 true (iv (vz (bU a.1 b.2) (bU b.1 a.2))):=
 wy [af (aW (v:=aH a.1) (by kernel_rfl)),af (aW (v:=aH b.2) (by kernel_rfl)),af h1,af (aW (v:=aH b.1) (by kernel_rfl)),af (aW (v:=aH a.2) (by kernel_rfl)),af h2,af h3] 1997062150303873
theorem aju (a:bS) (h1:(pv a.1 a.2)=true):
  bq rV (fl TP []) 9 14 [cj a] 1 f149 false (aH (cJ a.1 a.2)):=
 wy [af h1] 1
def okQ (n:Nat) (q:bS):Bool:=bH n q.1&&(bH n q.2&&decide (0<aq q.2))
def dF (n:Int):Int×List Int:=(n,[])
def dw (n:aM):(Int×List Int)×(Int×List Int):=(n,(1,[]))
noncomputable def yt (a:bS):(Int×List Int)×(Int×List Int):=(eS a.1,a.2)
noncomputable def Gx (a b:bS):(Int×List Int)×(Int×List Int):=jU (bU a.1 b.1) (bU a.2 b.2)
noncomputable def jV (a:bS):(Int×List Int)×(Int×List Int):=jU a.2 a.1
noncomputable def TQ (a b:bS):Int:=vz (bU a.1 b.2) (bU b.1 a.2)
noncomputable def xI (a b:bS):(Int×List Int)×(Int×List Int):=if gT a&&gT b then(cF a.1 b.1,(1,[]))else jU (cF (bU a.1 b.2) (bU b.1 a.2)) (bU a.2 b.2)
noncomputable def vX:bn:={f:=80,ps:=[.int .i64],rs:=[cV],fresh:=false,pre:=fun d=>true,fn:=fun d=>(dF d.1,())}
noncomputable def AH:bn:={f:=79,ps:=[cV],rs:=[fZ],fresh:=false,pre:=fun d=>true,fn:=fun d=>(dw d.1,())}
noncomputable def TR:bn:={f:=57,ps:=[.int .i64],rs:=[fZ],fresh:=false,pre:=fun d=>true,fn:=fun d=>(dw (dF d.1),())}
noncomputable def Gf:bn:={f:=124,ps:=[fZ],rs:=[.bool],fresh:=true,pre:=fun d=>true,fn:=fun d=>(gT d.1,())}
noncomputable def L1:bn:={f:=63,ps:=[fZ],rs:=[.int .i64],fresh:=true,pre:=fun d=>aD d.1.1,fn:=fun d=>(eY d.1.1,())}
noncomputable def L2:bn:={f:=152,ps:=[fZ],rs:=[fZ],fresh:=false,pre:=fun d=>aD d.1.1,fn:=fun d=>(yt d.1,())}
noncomputable def L3:bn:={f:=56,ps:=[fZ,fZ],rs:=[fZ],fresh:=false,pre:=fun d=>okQ 20000 d.1&&okQ 20000 d.2.1,fn:=fun d=>(Gx d.1 d.2.1,())}
noncomputable def Gg:bn:={f:=125,ps:=[fZ],rs:=[fZ],fresh:=false,pre:=fun d=>gQ d.1.2 d.1.1,fn:=fun d=>(jV d.1,())}
noncomputable def L4:bn:={f:=92,ps:=[fZ,fZ],rs:=[.int .i64],fresh:=true,pre:=fun d=>okQ 20000 d.1&&okQ 20000 d.2.1,fn:=fun d=>(TQ d.1 d.2.1,())}
noncomputable def L5:bn:={f:=149,ps:=[fZ],rs:=[cV],fresh:=false,pre:=fun d=>pv d.1.1 d.1.2,fn:=fun d=>(cJ d.1.1 d.1.2,())}
noncomputable def L6:bn:={f:=58,ps:=[fZ,fZ],rs:=[fZ],fresh:=false,pre:=fun d=>okQ 20000 d.1&&okQ 20000 d.2.1,fn:=fun d=>(xI d.1 d.2.1,())}
noncomputable def C0:bF:=a7 [vX,AH,Gf,xV,vE,CZ]
theorem ajv (n:Int) (h1:(dw (dF n)).1.1=(n)) (h2:(dw (dF n)).1.2=(vh)) (h3:(dw (dF n)).2.1=(1)) (h4:(dw (dF n)).2.2=(vh)):
  bq C0 (fl TJ []) 9 6 [iv n] 1 f57 false (cj ((n,[]),(1,[]))):=
 wy [ax h1,ax h2,ax h3,ax h4] 4345827328
theorem ajw (a b:bS) (h1:(gT a)=true) (h2:(gT b)=true) (h3:(aD a.1&&aD b.1)=true) (h4:(dw (cF a.1 b.1)).1.1=(cF a.1 b.1).1) (h5:(dw (cF a.1 b.1)).1.2=(cF a.1 b.1).2) (h6:(dw (cF a.1 b.1)).2.1=(1)) (h7:(dw (cF a.1 b.1)).2.2=(vh)):
  bq C0 (fl Ge []) 9 34 [cj a,cj b] 31 f58 false (cj (cF a.1 b.1,(1,[]))):=
 wy [af (aQ (h1)),af h1,af h2,af h3,ax h4,ax h5,ax h6,ax h7] 598475754935026716736
theorem ajx (a b:bS) (h1:(gT a)=true) (h2:(gT b)=false) (h3:(aD a.1&&aD b.2)=true) (h4:(aD b.1&&aD a.2)=true) (h5:(aD (bU a.1 b.2)&&aD (bU b.1 a.2))=true) (h6:(aD a.2&&aD b.2)=true) (h7:(gQ (cF (bU a.1 b.2) (bU b.1 a.2)) (bU a.2 b.2))=true):
  bq C0 (fl Ge []) 9 34 [cj a,cj b] 23 f58 false (cj (jU (cF (bU a.1 b.2) (bU b.1 a.2)) (bU a.2 b.2))):=
 wy [af (aQ (h1)),af h1,af h2,af (aW (v:=aH a.1) (by kernel_rfl)),af (aW (v:=aH b.2) (by kernel_rfl)),af h3,af (aW (v:=aH b.1) (by kernel_rfl)),af (aW (v:=aH a.2) (by kernel_rfl)),af h4,af h5,af h6,af h7] 271469537658300528069794124337656264073941056
theorem ajy (a b:bS) (h1:(gT a)=false) (h2:(aD a.1&&aD b.2)=true) (h3:(aD b.1&&aD a.2)=true) (h4:(aD (bU a.1 b.2)&&aD (bU b.1 a.2))=true) (h5:(aD a.2&&aD b.2)=true) (h6:(gQ (cF (bU a.1 b.2) (bU b.1 a.2)) (bU a.2 b.2))=true):
  bq C0 (fl Ge []) 9 34 [cj a,cj b] 16 f58 false (cj (jU (cF (bU a.1 b.2) (bU b.1 a.2)) (bU a.2 b.2))):=
 wy [af (aQ (h1)),af h1,af (aW (v:=aH a.1) (by kernel_rfl)),af (aW (v:=aH b.2) (by kernel_rfl)),af h2,af (aW (v:=aH b.1) (by kernel_rfl)),af (aW (v:=aH a.2) (by kernel_rfl)),af h3,af h4,af h5,af h6] 3887731443394586653605839251940190814998592
theorem tZ:bB prog (bD rV):=cR (aT z7 (aT xZ (aT Ga (aT z6 (aT xY (aT RL (aT Lp dY)))))))
theorem oo {n:Nat} {q:bS}:okQ n q=true↔bH n q.1=true/\bH n q.2=true/\0<aq q.2:=by
 unfold okQ;simp only [ae,bz]
theorem AG.ok {n:Nat} {q:bS} {x y:Int} (h:AG n q x y):okQ n q=true:=oo.2 ⟨h.o1,h.o2,h.pos⟩
theorem lM {n m:Nat} {a b:aM} (h:bH n a=true) (g:bH m b=true) (hn:1<=n) (hm:1<=m):bH (n+m) (bU a b)=true:=by
 have h1:=dp h hn;have h2:=dp g hm;refine(kV ?_).1;rw [Int.natAbs_mul,Int.natCast_mul,Int.pow_add];have p:=bc (b:=18446744073709551616) (by decide) n;generalize (18446744073709551616:Int)^n=P at*;generalize (18446744073709551616:Int)^m=Q at*;have e1:=ar (show((aq a).natAbs:Int)<=P by omega) (show(0:Int)<=((aq b).natAbs:Int) by omega);have e2:=Int.mul_lt_mul_of_pos_left h2 (show 0<P by omega);omega
theorem L7 {n:Nat} {a b:aM} (h:bH n a=true) (g:bH n b=true) (hn:1<=n):bH (n+1) (cF a b)=true:=by
 have h1:=dp h hn;have h2:=dp g hn;refine xT ?_;rw [Int.pow_succ];have p:=bc (b:=18446744073709551616) (by decide) n;generalize (18446744073709551616:Int)^n=P at*;omega
theorem L8 {x y:Int} (hx:0<x) (hy:0<y):0<x*y:=Int.mul_pos hx hy
theorem ajz (n:Int):Holds prog false 80 [iv n] (aH (dF n)):=by
 refine bJ (c:=TH) func80 rfl rfl fun w F=> ?_
 exact bu tZ 9 (ajm n)
theorem AI:vX.Ok prog:=fun⟨n,_⟩ h=>ajz n
theorem ajA (a:bS):Holds prog true 124 [cj a] (bv (gT a)):=by
 refine bJ (c:=L0) func124 rfl rfl fun w F=> ?_
 cases he:a.2.2.isEmpty with
 |true=>
  have e:gT a=(a.2.1==1):=by unfold gT;rw [show ic a.2=true from he];rfl
  rw [e];exact bu tZ 9 (ajn a he)
 |false=>
  have e:gT a=false:=by unfold gT;rw [show ic a.2=false from he];rfl
  rw [e];exact bu tZ 9 (ajo a he)
theorem L9:Gf.Ok prog:=fun⟨a,_⟩ h=>ajA a
theorem ajB (a:bS) (h:aD a.1=true):Holds prog true 63 [cj a] (iv (eY a.1)):=by
 refine bJ (c:=TK) func63 rfl rfl fun w F=> ?_
 exact bu tZ 9 (ajp a h)
theorem TS:L1.Ok prog:=fun⟨a,_⟩ h=>ajB a h
theorem CH (a:bS) (h:aD a.1=true):Holds prog false 152 [cj a] (cj (yt a)):=by
 refine bJ (c:=TL) func152 rfl rfl fun w F=> ?_
 exact bu tZ 9 (ajq a h)
theorem TT:L2.Ok prog:=fun⟨a,_⟩ h=>CH a h
theorem mJ {a b:aM} (h:aD a=true) (g:aD b=true):(aD a&&aD b)=true:=by rw [h,g];rfl
theorem ajC (a b:bS) (h:okQ 20000 a=true) (g:okQ 20000 b=true):Holds prog false 56 [cj a,cj b] (cj (Gx a b)):=by
 obtain⟨h1,h2,h3⟩:=oo.1 h;obtain⟨g1,g2,g3⟩:=oo.1 g;have m:= @gC 20000 100000;have m2:= @gC (20000+20000) 100000;refine bJ (c:=TM) func56 rfl rfl fun w F=> ?_
 exact aR.ret known mixed tZ 9 _ (ajr a b (mJ (m (by decide) h1) (m (by decide) g1)) (mJ (m (by decide) h2) (m (by decide) g2))
  (tU.2 ⟨m2 (by decide) (lM h1 g1 (by decide) (by decide)),m2 (by decide) (lM h2 g2 (by decide) (by decide)),by
    have:=L8 h3 g3;show aq (bU a.2 b.2)≠0;rw [de];omega⟩)) fun T H h=>h
theorem Ax:L3.Ok prog:=fun⟨a,b,_⟩ h=>by
 have h:(okQ 20000 a&&okQ 20000 b)=true:=h;rw [ae]at h;exact ajC a b h.1 h.2
theorem ajD (a:bS) (h:gQ a.2 a.1=true):Holds prog false 125 [cj a] (cj (jV a)):=by
 refine bJ (c:=Pl) func125 rfl rfl fun w F=> ?_
 exact bu tZ 9 (ajs a h)
theorem tw:Gg.Ok prog:=fun⟨a,_⟩ h=>ajD a h
theorem M2 {a b:aM} (h:bH 50000 a=true) (g:bH 50000 b=true):(bH 50000 a&&bH 50000 b)=true:=by rw [h,g];rfl
theorem ajE (a b:bS) (h:okQ 20000 a=true) (g:okQ 20000 b=true):Holds prog true 92 [cj a,cj b] (iv (TQ a b)):=by
 obtain⟨h1,h2,h3⟩:=oo.1 h;obtain⟨g1,g2,g3⟩:=oo.1 g;have m:= @gC 20000 100000;have m2:= @gC (20000+20000) 50000;refine bJ (c:=TN) func92 rfl rfl fun w F=> ?_
 exact aR.ret known mixed tZ 9 _ (ajt a b (mJ (m (by decide) h1) (m (by decide) g2)) (mJ (m (by decide) g1) (m (by decide) h2))
  (M2 (m2 (by decide) (lM h1 g2 (by decide) (by decide))) (m2 (by decide) (lM g1 h2 (by decide) (by decide))))) fun T H h=>h
theorem TU:L4.Ok prog:=fun⟨a,b,_⟩ h=>by
 have h:(okQ 20000 a&&okQ 20000 b)=true:=h;rw [ae]at h;exact ajE a b h.1 h.2
theorem ajF (a:bS) (h:pv a.1 a.2=true):Holds prog false 149 [cj a] (aH (cJ a.1 a.2)):=by
 refine bJ (c:=TP) func149 rfl rfl fun w F=> ?_
 exact bu tZ 9 (aju a h)
theorem TV:L5.Ok prog:=fun⟨a,_⟩ h=>ajF a h
end
noncomputable section
theorem ajG (n:aM) (h1:n.1=(dw n).1.1) (h2:n.2=(dw n).1.2) (h3:(dF 1).1=(dw n).2.1) (h4:(dF 1).2=(dw n).2.2):
  bq (a7 [vX]) (fl TI []) 9 6 [aH n] 1 f79 false (cj (dw n)):=
 wy [af (aW (v:=aH n) (by kernel_rfl)),ax h1,ax h2,ax h3,ax h4] 347943211009
theorem ajH:bB prog (bD (a7 [vX])):=cR (aT AI dY)
theorem ajI (n:aM):Holds prog false 79 [aH n] (cj (dw n)):=by
 refine bJ (c:=TI) func79 rfl rfl fun w F=> ?_
 exact bu ajH 9 (ajG n rfl rfl rfl rfl)
theorem tz:AH.Ok prog:=fun⟨n,_⟩ h=>ajI n
theorem TW:bB prog (bD C0):=cR (aT AI (aT tz (aT L9 (aT z7 (aT xZ (aT Ga dY))))))
theorem ajJ (n:Int):Holds prog false 57 [iv n] (cj (dw (dF n))):=by
 refine bJ (c:=TJ) func57 rfl rfl fun w F=> ?_
 exact bu TW 9 (ajv n rfl rfl rfl rfl)
theorem ajK:TR.Ok prog:=fun⟨n,_⟩ h=>ajJ n
theorem CM (a b:bS) (h:okQ 20000 a=true) (g:okQ 20000 b=true):Holds prog false 58 [cj a,cj b] (cj (xI a b)):=by
 obtain⟨h1,h2,h3⟩:=oo.1 h;obtain⟨g1,g2,g3⟩:=oo.1 g;have hS:=TW;have m:= @gC 20000 100000;have m2:= @gC (20000+20000) 100000;have m3:= @gC (20000+20000+1) 100000;have p1:=mJ (m (by decide) h1) (m (by decide) g1);have p2:=mJ (m (by decide) h1) (m (by decide) g2);have p3:=mJ (m (by decide) g1) (m (by decide) h2);have ek:=mJ (m (by decide) h2) (m (by decide) g2);have o1:=lM h1 g2 (by decide) (by decide);have o2:=lM g1 h2 (by decide) (by decide);have kH:=mJ (m2 (by decide) o1) (m2 (by decide) o2);have oP:gQ (cF (bU a.1 b.2) (bU b.1 a.2)) (bU a.2 b.2)=true:=tU.2 ⟨m3 (by decide) (L7 o1 o2 (by decide)),m2 (by decide) (lM h2 g2 (by decide) (by decide)),by
   have:=L8 h3 g3;rw [de];omega⟩
 refine bJ (c:=Ge) func58 rfl rfl fun w F=> ?_
 unfold xI;by_cases hw:gT a=true
 .by_cases lH:gT b=true
  .rw [if_pos (by rw [hw,lH];rfl)];exact bu hS 9 (ajw a b hw lH p1 rfl rfl rfl rfl)
  .rw [if_neg (by rw [hw];simpa using lH)];exact bu hS 9 (ajx a b hw (by simpa using lH) p2 p3 kH ek oP)
 .rw [if_neg (by simp [hw])];exact bu hS 9 (ajy a b (by simpa using hw) p2 p3 kH ek oP)
theorem TX:L6.Ok prog:=fun⟨a,b,_⟩ h=>by
 have h:(okQ 20000 a&&okQ 20000 b)=true:=h;rw [ae]at h;exact CM a b h.1 h.2
structure QR (n:Nat) (q:bS) (r:Rat):Prop where
 o1:bH n q.1=true
 o2:bH n q.2=true
 num:aq q.1=r.num
 den:aq q.2=r.den
theorem QR.ok {n:Nat} {q:bS} {r:Rat} (h:QR n q r):okQ n q=true:=oo.2 ⟨h.o1,h.o2,by rw [h.den];have:=r.den_pos;omega⟩
theorem QR.mono {n m:Nat} {q:bS} {r:Rat} (h:QR n q r) (hnm:n<=m):QR m q r:=⟨gC hnm h.o1,gC hnm h.o2,h.num,h.den⟩
theorem AG.qr {n:Nat} {q:bS} {x y:Int} (h:AG n q x y) (hy:y≠0):QR n q (Rat.divInt x y):=by
 have hd:((Rat.divInt x y).den:Int)≠0:=by have:=(Rat.divInt x y).den_pos;omega
 have e:(Rat.divInt x y).num*y=x*((Rat.divInt x y).den:Int):=(Rat.divInt_eq_divInt_iff hd hy).1 (Rat.num_divInt_den _);have g:Int.gcd (Rat.divInt x y).num ((Rat.divInt x y).den:Int)=1:=(Rat.divInt x y).reduced;have e2:aq q.1*((Rat.divInt x y).den:Int)=(Rat.divInt x y).num*aq q.2:=by
  have h1:=h.val;refine Int.eq_of_mul_eq_mul_right hy ?_;generalize (Rat.divInt x y).num=N at*;generalize ((Rat.divInt x y).den:Int)=D at*;grind
 obtain⟨h1,h2⟩:=TG h.pos (by omega) h.low g e2;exact⟨h.o1,h.o2,h1,h2⟩
theorem QR.self {n:Nat} {q:bS} {r:Rat} (h:QR n q r):Rat.divInt (aq q.1) (aq q.2)=r:=by
 rw [h.num,h.den];exact Rat.num_divInt_den _
theorem QR.pos {n:Nat} {q:bS} {r:Rat} (h:QR n q r):0<aq q.2:=(oo.1 h.ok).2.2
theorem C1 {n:Nat} {a:aM} (h:bH n a=true):QR n (dw a) (aq a:Rat):=by
 refine⟨h, ?_,rfl,rfl⟩;exact(nk (n:=n) (a:=(1,[])) rfl).trans (by decide)
theorem TY {n:Nat} {a:bS} {r:Rat} (h:QR n a r) (hw:gT a=true):r=(aq a.1:Rat):=by
 unfold gT at hw;rw [ae]at hw;have hv:aq a.2=1:=by unfold aq;rw [if_pos (TD.1 hw.1)];simpa using hw.2
 have hd:=h.den;refine Rat.ext ?_ ?_
 .rw [h.num];rfl
 .show r.den=1;omega
theorem ajL {n:Nat} {a b:bS} {r s:Rat} (h:QR n a r) (g:QR n b s) (hn:1<=n):QR (n+n+1) (xI a b) (r+s):=by
 unfold xI;split
 .rename_i hw;rw [ae]at hw;have:=C1 (L7 h.o1 g.o1 hn);rw [rB,Rat.intCast_add,<-TY h hw.1,<-TY g hw.2]at this;exact this.mono (by omega)
 .have p:=L8 h.pos g.pos;have:=(Gd (L7 (lM h.o1 g.o2 hn hn) (lM g.o1 h.o2 hn hn) (by omega)) (gC (Nat.le_succ _) (lM h.o2 g.o2 hn hn)) (by omega) (by rw [de];omega)).qr (by rw [de];omega);rw [rB,de,de,de,<-Rat.divInt_add_divInt _ _ (by have:=h.pos;omega) (by have:=g.pos;omega),h.self,g.self]at this;exact this
theorem ajM {n:Nat} {a:bS} {r:Rat} (h:QR n a r) (hn:1<=n):QR n (yt a) (-r):=
 ⟨n7 h.o1 hn,h.o2,by show aq (eS a.1)=_;rw [n8,h.num];rfl,h.den⟩
theorem ajN {n:Nat} {a:bS} {r:Rat} (h:QR n a r) (hn:1<=n) (hr:r≠0):QR n (jV a) r⁻¹ :=by
 have h0:aq a.1≠0:=by rw [h.num];intro e;exact hr (Rat.num_eq_zero.1 e)
 have:=(Gd h.o2 h.o1 hn h0).qr h0;rw [<-Rat.inv_divInt,h.self]at this;exact this
theorem ajO {n:Nat} {a:bS} {r:Rat} (h:QR n a r) (hn:1<=n):aq (cJ a.1 a.2)=r.floor:=by
 rw [lO h.o1 h.o2 h.pos,h.num,h.den,Rat.floor_def]
theorem AJ {r:Rat}:r.num<0↔r<0:=by
 rw [<-Int.not_le,<-Rat.not_le,Rat.num_nonneg]
theorem ajP {n:Nat} {a:bS} {r:Rat} (h:QR n a r):eY a.1=if r<0 then-1 else if r=0 then 0 else 1:=by
 unfold eY kU;rw [h.num];by_cases h1:r<0
 .rw [if_pos h1,if_pos (AJ.2 h1)]
 .rw [if_neg h1,if_neg (fun hh=>h1 (AJ.1 hh))];by_cases h2:r=0
  .rw [if_pos h2,if_pos (by rw [h2];rfl)]
  .rw [if_neg h2,if_neg (fun hh=>h2 (Rat.num_eq_zero.1 hh))]
end
noncomputable section
noncomputable def ua:Code:=(f175.body).getD .skip
noncomputable def yu:bF:=a7 [vX,xV]
def lN (a o:aM) (k:Int):bC:={n:=23,sl:=[(1,iv k),(2, .ptr 64 0),(4, .ptr 65 0),(5, .ptr 66 0)],bG:=[(64,mI a),(65,b0),(66,mI o)],next:=67}
theorem ajQ (a:aM) (k:Int) (h1:(dF 1).1=(1)) (h2:(dF 1).2=(vh)):
  cT yu (fl ua []) 2 23 [aH a,iv k] 1 .normal s3 (lN a (1,[]) k):=
 wy [ax h1,ax h2] 2323857407723175936
theorem ajR (a o:aM) (k j:Int) (h1:k>0) (h2:IntKind.wrap IntKind.i64 (↑(BitVec.toNat (BitVec.ofInt 64 k &&& BitVec.ofInt 64 1)):Int)=1) (h3:(aD o&&aD a)=true) (h4:k>1) (h5:(aD a&&aD a)=true) (h6:(Int.fdiv k ((2:Int)^min (Int.toNat 1) 64))=(j)):
  bh yu (fl ua vR) (lN a o k) 15 .normal s3 (lN (bU a a) (bU o a) j):=
 wy [ah h1,c8 h2,af h3,ah h4,af h5,ax h6] 412401807489
theorem ajS (a o:aM) (k j:Int) (h1:k>0) (h2:IntKind.wrap IntKind.i64 (↑(BitVec.toNat (BitVec.ofInt 64 k &&& BitVec.ofInt 64 1)):Int)=1) (h3:(aD o&&aD a)=true) (h4:¬k>1) (h5:(Int.fdiv k ((2:Int)^min (Int.toNat 1) 64))=(j)):
  bh yu (fl ua vR) (lN a o k) 11 .normal s3 (lN a (bU o a) j):=
 wy [ah h1,c8 h2,af h3,aJ h4,ax h5] 5369770113
theorem ajT (a o:aM) (k j:Int) (h1:k>0) (h2:¬IntKind.wrap IntKind.i64 (↑(BitVec.toNat (BitVec.ofInt 64 k &&& BitVec.ofInt 64 1)):Int)=1) (h3:k>1) (h4:(aD a&&aD a)=true) (h5:(Int.fdiv k ((2:Int)^min (Int.toNat 1) 64))=(j)):
  bh yu (fl ua vR) (lN a o k) 13 .normal s3 (lN (bU a a) o j):=
 wy [ah h1,yn h2,ah h3,af h4,ax h5] 5369770113
theorem ajU (a o:aM) (k:Int) (h1:¬k>0):
  bh yu (fl ua vR) (lN a o k) 2 (.exit 0) s3 (lN a o k):=
 wy [aJ h1] 1
theorem ajV (a o:aM) (k:Int):
  bQ yu ((fl ua []).drop 3) (lN a o k) 1 f175 false (aH o):=
 wy [] 0
noncomputable def rW (a:aM) (k:Int):Int×List Int:=aV (aq a^k.toNat)
def AK (a:aM) (k:Int):Bool:=aD a&&(decide (0<=k)&&decide (1+(a.2.length+1)*k.toNat<=100000))
noncomputable def TZ:bn:={f:=175,ps:=[cV, .int .i64],rs:=[cV],fresh:=false,pre:=fun d=>AK d.1 d.2.1,fn:=fun d=>(rW d.1 d.2.1,())}
theorem ajW:bB prog (bD yu):=cR (aT AI (aT z7 dY))
theorem T3 {m:Nat} (h:m<=100000):IntKind.i64.wrap ↑(BitVec.ofInt 64 (m:Int) &&& BitVec.ofInt 64 1).toNat=((m%2:Nat):Int):=by
 have e:(BitVec.ofInt 64 (m:Int) &&& BitVec.ofInt 64 1).toNat=m%2:=by
  rw [BitVec.toNat_and,BitVec.toNat_ofInt,BitVec.toNat_ofInt,show((m:Int)%(2^64:Nat)).toNat=m by omega];exact Nat.and_one_is_mod m
 rw [e];rcases Nat.mod_two_eq_zero_or_one m with h|h
 .rw [h];rfl
 .rw [h];rfl
theorem half (m:Nat):Int.fdiv (m:Int) (2^min (Int.toNat 1) 64)=((m/2:Nat):Int):=by
 have e:(2:Int)^min (Int.toNat 1) 64=2:=rfl;rw [e,Int.fdiv_eq_ediv_of_nonneg _ (by decide)];omega
theorem sq_pow (a:Int):∀j:Nat,(a*a)^j=a^j*a^j
 |0=>by rw [Int.pow_zero,Int.pow_zero,Int.one_mul]
 |j+1=>by rw [Int.pow_succ,Int.pow_succ,sq_pow a j];grind
theorem pow_even {a:Int} {m:Nat} (h:m%2=0):(a*a)^(m/2)=a^m:=by
 rw [sq_pow,<-Int.pow_add];congr 1;omega
theorem pow_odd {a:Int} {m:Nat} (h:m%2=1):a*(a*a)^(m/2)=a^m:=by
 obtain⟨j,rfl⟩:∃j,m=2*j+1:=⟨m/2,by omega⟩;rw [show(2*j+1)/2=j by omega,sq_pow,Int.pow_succ,show 2*j=j+j by omega,Int.pow_add,Int.mul_comm]
theorem ajX {n:Nat} {a:aM} (h:bH n a=true):bH (a.2.length+1) a=true:=by
 by_cases hs:a.2=[]
 .rw [nk hs]at h ⊢;exact h
 .obtain⟨h1,h2,h3,h4,h5⟩:=(o7 hs).1 h;exact(o7 hs).2 ⟨h1,h2,h3,h4,by omega⟩
theorem ajY (a:aM) (k:Nat) (h:aD a=true) (hk:1+(a.2.length+1)*k<=100000):Holds prog false 175 [aH a,iv (k:Int)] (aH (aV (aq a^k))):=by
 have hS:=ajW;refine bJ (c:=ua) func175 rfl rfl fun w F=> ?_
 refine cE hS 2 (ajQ a k rfl rfl) ?_;refine aR.loop (ι:={x:(aM×aM)×Nat//x.1.2=aV (aq x.1.2)/\aq x.1.2*aq x.1.1^x.2=aq a^k/\∃p q:Nat,1<=p/\1<=q/\bH p x.1.1=true/\bH q x.1.2=true/\q+p*x.2<=100000}) (id:=0) (b:=cat ua vR) (rest:=(fl ua []).drop 3) (by kernel_rfl) (fun x=>lN x.1.1.1 x.1.1.2 (x.1.2:Int)) (fun x=>x.1.2)
  ⟨((a,(1,[])),k),by
    have v:aq (1,[])=1:=rfl;refine⟨?_, ?_,a.2.length+1,1,by omega,by omega,ajX h, ?_,hk⟩
    .show((1,[]):aM)=aV (aq (1,[]));rw [v];unfold aV;rw [if_pos (by decide)]
    .show aq (1,[])*aq a^k=aq a^k;rw [v,Int.one_mul]
    .exact(nk (n:=1) (a:=(1,[])) rfl).trans (by decide)⟩ (fun _=>rfl) ?_
 rintro⟨⟨⟨x,o⟩,m⟩,ho,hv,p,q,hp,hq,rX,j5,hm⟩;have ho:o=aV (aq o):=ho;have hv:aq o*aq x^m=aq a^k:=hv;have rX:bH p x=true:=rX;have j5:bH q o=true:=j5;have hm:q+p*m<=100000:=hm;have hmp:m<=p*m:=Nat.le_mul_of_pos_left m hp;by_cases hz:m=0
 .subst hz;refine bp (s:=lN x o (0:Nat)) hS (ajU x o (0:Nat) (by decide)) ?_;refine cv (cD ?_);have e:aq o=aq a^k:=by rw [<-hv];simp
  rw [<-e,<-ho];exact bT (s:=lN x o (0:Nat)) hS (ajV x o _)
 .have rT:p<=p*m:=Nat.le_mul_of_pos_right p (by omega);have AL:=gC (show p<=100000 by omega) rX;have T4:=gC (show q<=100000 by omega) j5;have hlt:m/2<m:=by omega
  have hpos:(m:Int)>0:=by omega
  have vm:=de;by_cases T5:m%2=1
  .have hb:IntKind.i64.wrap ↑(BitVec.ofInt 64 (m:Int) &&& BitVec.ofInt 64 1).toNat=1:=by rw [T3 (by omega),T5];rfl
   by_cases h1:m=1
   .subst h1;refine bp (s:=lN x o (1:Nat)) hS (ajS x o (1:Nat) (0:Nat) hpos hb (mJ T4 AL) (by decide) (half 1)) ?_;refine⟨⟨((x,bU o x),0), ?_, ?_,p,q+p,hp,by omega,rX,lM j5 rX hq hp,by omega⟩,hlt,rfl,rfl⟩
    .show bU o x=aV (aq (bU o x));rw [de];rfl
    .show aq (bU o x)*aq x^0=_;rw [de,<-hv,Int.pow_zero,Int.mul_one,Int.pow_succ,Int.pow_zero,Int.one_mul]
   .refine bp (s:=lN x o (m:Nat)) hS (ajR x o (m:Nat) (m/2:Nat) hpos hb (mJ T4 AL) (by omega) (mJ AL AL) (half m)) ?_;refine⟨⟨((bU x x,bU o x),m/2), ?_, ?_,p+p,q+p,by omega,by omega,lM rX rX hp hp,lM j5 rX hq hp, ?_⟩,hlt,rfl,rfl⟩
    .show bU o x=aV (aq (bU o x));rw [de];rfl
    .show aq (bU o x)*aq (bU x x)^(m/2)=_;rw [de,de,<-hv,<-pow_odd T5,Int.mul_assoc]
    .show q+p+(p+p)*(m/2)<=100000;obtain⟨j,rfl⟩:∃j,m=2*j+1:=⟨m/2,by omega⟩;rw [show(2*j+1)/2=j by omega];have:p*(2*j+1)=(p+p)*j+p:=by grind
     omega
  .have h0:m%2=0:=by omega
   have hb:¬IntKind.i64.wrap ↑(BitVec.ofInt 64 (m:Int) &&& BitVec.ofInt 64 1).toNat=1:=by rw [T3 (by omega),h0];decide
   refine bp (s:=lN x o (m:Nat)) hS (ajT x o (m:Nat) (m/2:Nat) hpos hb (by omega) (mJ AL AL) (half m)) ?_;refine⟨⟨((bU x x,o),m/2),ho, ?_,p+p,q,by omega,hq,lM rX rX hp hp,j5, ?_⟩,hlt,rfl,rfl⟩
   .show aq o*aq (bU x x)^(m/2)=_;rw [de,<-hv,pow_even h0]
   .show q+(p+p)*(m/2)<=100000;obtain⟨j,rfl⟩:∃j,m=2*j:=⟨m/2,by omega⟩;rw [show(2*j)/2=j by omega];have:p*(2*j)=(p+p)*j:=by grind
    omega
theorem ajZ:TZ.Ok prog:=fun⟨a,k,_⟩ h=>by
 have h:AK a k=true:=h;unfold AK at h;simp only [ae,bz]at h;obtain⟨h1,h2,h3⟩:=h;obtain⟨n,rfl⟩:∃n:Nat,k=(n:Int):=⟨k.toNat,(Int.toNat_of_nonneg h2).symm⟩;exact ajY a n h1 h3
end
noncomputable section
def pE (s p:ByteArray):Bool:=Lib.hasPrefix s.data.toList p.data.toList
def qH (s p:ByteArray):ByteArray:=⟨(Lib.trimPrefix s.data.toList p.data.toList).toArray⟩
def AM (s:ByteArray):Bool:=decide (s.size<=18)&&(Lib.atoi s.data.toList).isSome
def vY (s:ByteArray):Int:=(Lib.atoi s.data.toList).getD 0
noncomputable def T6:bn:={f:=172,ps:=[.str, .str],rs:=[.bool],fresh:=true,pre:=fun d=>true,fn:=fun d=>(pE d.1 d.2.1,())}
noncomputable def T7:bn:={f:=173,ps:=[.str, .str],rs:=[.str],fresh:=true,pre:=fun d=>true,fn:=fun d=>(qH d.1 d.2.1,())}
noncomputable def Ma (args:List aa):aA (Option aa):=match args with |[.raw (.string s)]=> .must (AM s) (.ret (some (.tuple [iv (vY s), .raw .nilIface])))|_=> .ret none
noncomputable def T8:tA:={f:=174,res:=Ma}
--{
theorem aj0:T6.Ok prog:=fun⟨s,p,_⟩ h w F xs hF cn hd=>by
 cases hd with
 |cons d1 d2=>
  cases d2 with
  |cons d2 d3=>
  cases d3;rw [d1.b7,d2.b7];refine(Tryz.strings_HasPrefix s p w).mono fun e w' ⟨h1,h2⟩=> ?_
  subst h2;exact⟨_,⟨F.at',fun _=>none⟩,h1, .raw _,⟨hF.oR,hF.all,fun b A h=>by cases h⟩,(fun b A h=>by cases h),Below.refl _ _⟩
theorem aj1:T7.Ok prog:=fun⟨s,p,_⟩ h w F xs hF cn hd=>by
 cases hd with
 |cons d1 d2=>
  cases d2 with
  |cons d2 d3=>
  cases d3;rw [d1.b7,d2.b7];refine(Tryz.strings_TrimPrefix s p w).mono fun e w' ⟨h1,h2⟩=> ?_
  subst h2;exact⟨_,⟨F.at',fun _=>none⟩,h1, .raw _,⟨hF.oR,hF.all,fun b A h=>by cases h⟩,(fun b A h=>by cases h),Below.refl _ _⟩
theorem aj2:T8.Ok prog:=by
 intro args v hv w F xs hF cn hd;change (Ma args).gr=_ at hv;unfold Ma at hv;split at hv
 .rename_i s;unfold aA.gr at hv;cases ho:AM s with
  |false=>rw [ho]at hv;cases hv
  |true=>
   rw [ho]at hv;cases hv;unfold AM at ho;rw [ae,bz]at ho;obtain⟨n,hn⟩:=Option.isSome_iff_exists.1 ho.2;cases hd with
   |cons d1 d2=>
   cases d2;rw [d1.b7];refine(Tryz.strconv_Atoi s n ho.1 hn w).mono ?_;rintro e w' ⟨rfl,t,rfl⟩;refine⟨_,rfl, ?_,Joins.below_bytesWorld _ _ _ _ (aE _)⟩;have e:vY s=n:=by unfold vY;rw [hn];rfl
   rw [e];exact .tuple (.cons (.raw _) (.cons (.raw _) .nil))
 .cases hv
--}
noncomputable def v7:Code:=(f122.body).getD .skip
noncomputable def AN:bF:=Ck [T8] (a7 [T6,T7,vX,TZ,xV,vE,xU])
abbrev Mb:List Nat:=[1,1,1,1,0,0,0]
def ny (s:ByteArray) (o:aM) (neg:Bool):bC:={n:=41,sl:=[(0,sv s),(2, .ptr 64 0),(3,bv neg),(4, .ptr 65 0)],bG:=[(64,b0),(65,mI o)],next:=66}
end
noncomputable section
abbrev e4:ByteArray:=⟨#[45]⟩
abbrev s2:Sv.Ren:=[(64,64,none),(65,65,none)]
theorem aj3 (s:ByteArray):
  cT AN (fl v7 []) 4 41 [sv s] 1 .normal s2 (ny (qH s e4) (0,[]) (pE s e4)):=
 wy [] 0
theorem aj4 (s s':ByteArray) (o o':aM) (neg:Bool) (h1:(s.size:Int)>0) (h2:(AM (s.extract 0 (if(s.size:Int)<18 then(s.size:Int)else 18).toNat))=true) (h3:(AK (dF 10) (if(s.size:Int)<18 then(s.size:Int)else 18))=true) (h4:(aD o&&aD (rW (dF 10) (if(s.size:Int)<18 then(s.size:Int)else 18)))=true) (h5:(aD (bU o (rW (dF 10) (if(s.size:Int)<18 then(s.size:Int)else 18)))&&aD (dF (vY (s.extract 0 (if(s.size:Int)<18 then(s.size:Int)else 18).toNat))))=true) (h6:(s.extract (if(s.size:Int)<18 then(s.size:Int)else 18).toNat s.size)=(s')) (h7:(cF (bU o (rW (dF 10) (if(s.size:Int)<18 then(s.size:Int)else 18))) (dF (vY (s.extract 0 (if(s.size:Int)<18 then(s.size:Int)else 18).toNat)))).1=o'.1) (h8:(cF (bU o (rW (dF 10) (if(s.size:Int)<18 then(s.size:Int)else 18))) (dF (vY (s.extract 0 (if(s.size:Int)<18 then(s.size:Int)else 18).toNat)))).2=o'.2):
  bh AN (fl v7 Mb) (ny s o neg) 3 .normal s2 (ny s' o' neg):=
 wy [ah h1,ah (by omega:(0:Int)<=if(s.size:Int)<(18:Int)then(s.size:Int)else(18:Int)),ah (by omega:(if(s.size:Int)<(18:Int)then(s.size:Int)else(18:Int)).toNat<=s.size),af h2,af (aW (v:=aH o) (by kernel_rfl)),af h3,af h4,af h5,ah (by omega:s.size<=s.size),ax h6,ax h7,ax h8] 4241279421303380490363686664233810978930817
theorem aj5 (s:ByteArray) (o:aM) (neg:Bool) (h1:¬(s.size:Int)>0):
  bh AN (fl v7 Mb) (ny s o neg) 2 (.exit 0) s2 (ny s o neg):=
 wy [aJ h1] 1
theorem aj6 (s:ByteArray) (o:aM) (neg:Bool) (h1:(neg)=true) (h2:(aD o)=true):
  bQ AN ((fl v7 []).drop 5) (ny s o neg) 3 Tryz.f122 false (aH (eS o)):=
 wy [af h1,af h2] 129
theorem aj7 (s:ByteArray) (o:aM) (neg:Bool) (h1:(neg)=false):
  bQ AN ((fl v7 []).drop 5) (ny s o neg) 2 Tryz.f122 false (aH o):=
 wy [af h1] 1
open Lib in
theorem T9 (e:Nat):∀(l:List UInt8) (a x:Nat),decFrom a l=some x->decFrom (a+e) l=some (x+e*10^l.length)
 |[],a,x,h=>by cases h;simp [decFrom]
 |b::r,a,x,h=>by
  unfold decFrom at h ⊢;cases hd:digitVal b with
  |none=>rw [hd]at h;cases h
  |some d=>
   rw [hd]at h;have ih:=T9 (e*10) r _ _ h;show decFrom ((a+e)*10+d) r=_;rw [show(a+e)*10+d=a*10+d+e*10 by omega];rw [ih,List.length_cons,Nat.pow_succ];congr 1;have:e*10*10^r.length=e*(10^r.length*10):=by grind
   omega
open Lib in
theorem m5:∀(l:List UInt8) (a x:Nat),decFrom a l=some x->a<=x
 |[],a,x,h=>by cases h;omega
 |b::r,a,x,h=>by
  unfold decFrom at h;cases hd:digitVal b with
  |none=>rw [hd]at h;cases h
  |some d=>rw [hd]at h;have:=m5 r _ _ h;omega
open Lib in
theorem mi:∀(C:Nat) (l:List UInt8) (a x:Nat),decFrom a l=some x->C<=l.length->∃v,decFrom 0 (l.take C)=some v/\decFrom (a*10^C+v) (l.drop C)=some x
 |0,l,a,x,h,_=>⟨0,rfl,by simpa using h⟩
 |C+1,[],a,x,h,hc=>by simp at hc
 |C+1,b::r,a,x,h,hc=>by
  unfold decFrom at h;cases hd:digitVal b with
  |none=>rw [hd]at h;cases h
  |some d=>
   rw [hd]at h;obtain⟨v,h1,h2⟩:=mi C r _ x h (by simpa using hc);refine⟨v+d*10^C, ?_, ?_⟩
   .rw [List.take_succ_cons];unfold decFrom;rw [hd];have:=T9 d _ _ _ h1;rw [dK,Nat.min_eq_left (by simpa using hc),aw]at this;show decFrom (0*10+d) _=_;rw [Nat.zero_mul,aw];exact this
   .rw [List.drop_succ_cons,<-h2];congr 1;rw [Nat.pow_succ];have:(a*10+d)*10^C=a*(10^C*10)+d*10^C:=by grind
    omega
open Lib in
theorem aj8 {l:List UInt8} {v:Nat} (h:decFrom 0 l=some v) (hl:l≠[]):atoi l=some (v:Int):=by
 cases l with
 |nil=>exact absurd rfl hl
 |cons b r=>
  have hb:48<=b.toNat:=by
   unfold decFrom at h;cases hd:digitVal b with
   |none=>rw [hd]at h;cases h
   |some d=>unfold digitVal at hd;split at hd
            .omega
            .cases hd
  have n1:(b==45)=false:=by
   rw [fP];intro e;subst e;exact absurd hb (by decide)
  have n2:(b==43)=false:=by
   rw [fP];intro e;subst e;exact absurd hb (by decide)
  rw [show atoi (b::r)=if(b==45)=true then(decNat r).map (fun(m:Nat)=> -(m:Int))else if(b==43)=true then(decNat r).map (fun(m:Nat)=>(m:Int))else(decNat (b::r)).map (fun(m:Nat)=>(m:Int))from rfl,n1,n2];show(decNat (b::r)).map _=_;unfold decNat;rw [show(b::r).isEmpty=false from rfl];simp [h]
theorem Gh {n x y:Nat} (h:bH n (aV (y:Int))=true) (hn:1<=n) (hxy:x<=y):bH n (aV (x:Int))=true:=by
 have h1:=dp h hn;rw [val_mk]at h1;exact(kV (by omega)).1
theorem aj9 {n:Nat} {x v:Nat} (h:bH n (cF (aV (x:Int)) (dF v))=true):cF (aV (x:Int)) (dF v)=aV ((x+v:Nat):Int):=by
 have e:aq (cF (aV (x:Int)) (dF v))=((x+v:Nat):Int):=by
  rw [rB,val_mk];show(x:Int)+v=_;omega
 have:=Fa h (by rw [e];omega);rw [e]at this;exact this
end
end Go.Proofs.YtibikmmdbdlafaaGreatDoor
namespace Go.Proofs.YtibikmmdbdlafaaGreatDoor
open Go.RowKit Sv Go.Proofs.Tryz
noncomputable section
theorem aka:bB prog (bD AN):=aa2 (fun c hc=>by rw [List.mem_singleton.1 hc];exact aj2) (cR fun c hc=>by
 simp only [dV,jY,or_false]at hc;rcases hc with rfl |rfl |rfl |rfl |rfl |rfl |rfl
 .exact aj0
 .exact aj1
 .exact AI
 .exact ajZ
 .exact z7
 .exact xZ
 .exact z6)
theorem Gi (s:ByteArray) (n:Nat):(s.extract 0 n).data.toList=s.data.toList.take n:=by
 rw [ByteArray.data_extract,Array.toList_extract];simp [List.extract]
theorem Mc (s:ByteArray) (n:Nat):(s.extract n s.size).data.toList=s.data.toList.drop n:=by
 rw [ByteArray.data_extract,Array.toList_extract];simp only [List.extract];rw [ef];rw [mQ,Array.length_toList];exact aE _
theorem yw (s:ByteArray):s.size=s.data.toList.length:=by rw [Array.length_toList];rfl
open Lib in
theorem decFrom_lt:∀(l:List UInt8) (a x:Nat),decFrom a l=some x->x<(a+1)*10^l.length
 |[],a,x,h=>by cases h;simp
 |b::r,a,x,h=>by
  unfold decFrom at h;cases hd:digitVal b with
  |none=>rw [hd]at h;cases h
  |some d=>
   rw [hd]at h;have ih:=decFrom_lt r _ _ h;have arn:d<=9:=by
    unfold digitVal at hd;split at hd
    .cases hd;omega
    .cases hd
   have h1:=Nat.mul_le_mul_right (10^r.length) (show a*10+d+1<=(a+1)*10 by omega);rw [List.length_cons,Nat.pow_succ];have:(a+1)*(10^r.length*10)=(a+1)*10*10^r.length:=by grind
   omega
theorem GE {n x v:Nat} (h:bH n (aV ((x+v:Nat):Int))=true) (hn:1<=n):bH n (cF (aV (x:Int)) (dF v))=true:=xT (by
 have h1:=dp h hn;rw [val_mk]at h1;rw [val_mk];show((((x:Int)+(v:Int)).natAbs:Nat):Int)<_;rw [<-Int.natCast_add];exact h1)
theorem akb (s:ByteArray) (N:Nat) (hd:Lib.decFrom 0 (qH s e4).data.toList=some N) (hN:aD (aV (N:Int))=true):
  Holds prog false 122 [sv s] (aH (aV (if pE s e4=true then-(N:Int)else N))):=by
 have hS:=aka;have e0:((0,[]):aM)=aV ((0:Nat):Int):=by unfold aV;rw [if_pos (by decide)];rfl
 have hst:=aj3 s;rw [show ny (qH s e4) (0,[]) (pE s e4)=ny (qH s e4) (aV ((0:Nat):Int)) (pE s e4) by rw [<-e0]]at hst;refine bJ (c:=v7) func122 rfl rfl fun w F=> ?_
 refine cE hS 4 hst ?_;generalize pE s e4=neg;refine aR.loop (ι:={x:ByteArray×Nat//Lib.decFrom x.2 x.1.data.toList=some N}) (id:=0) (b:=cat v7 Mb) (rest:=(fl v7 []).drop 5) (by kernel_rfl) (fun x=>ny x.1.1 (aV (x.1.2:Int)) neg) (fun x=>x.1.1.size)
  ⟨(qH s e4,0),hd⟩ (fun _=>rfl) ?_
 rintro⟨⟨t,m⟩,hx⟩;have hx:Lib.decFrom m t.data.toList=some N:=hx;have hm:=m5 _ _ _ hx;by_cases hz:t.size=0
 .have e:m=N:=by
   have:t.data.toList=[]:=List.eq_nil_of_length_eq_zero (by rw [<-yw];exact hz);rw [this]at hx;cases hx;rfl
  subst e;refine bp (s:=ny t (aV (m:Int)) neg) hS (aj5 t (aV (m:Int)) neg (by rw [hz];decide)) ?_;refine cv (cD ?_);cases neg with
  |true=>
   have e:eS (aV (m:Int))=aV (-(m:Int)):=by unfold eS;rw [val_mk]
   rw [if_pos rfl,<-e];exact bT (s:=ny t (aV (m:Int)) true) hS (aj6 t (aV (m:Int)) true rfl hN)
  |false=>
   rw [if_neg (by decide)];exact bT (s:=ny t (aV (m:Int)) false) hS (aj7 t (aV (m:Int)) false rfl)
 .obtain⟨C,hC⟩:∃C,C=min t.size 18:=⟨_,rfl⟩;have hE:(if(t.size:Int)<18 then(t.size:Int)else 18)=(C:Int):=by split<;>omega
  have aro:1<=C:=by omega
  have akc:C<=18:=by omega
  have T':C<=t.size:=by omega
  obtain⟨v,hv,iF⟩:=mi C _ _ _ hx (by rw [<-yw];exact T');have hm2:=m5 _ _ _ iF;have hne:(t.extract 0 C).data.toList≠[]:=by
   rw [Gi];intro e;have:=congrArg List.length e;rw [dK,<-yw,List.length_nil]at this;omega
  have ha:Lib.atoi (t.extract 0 C).data.toList=some (v:Int):=aj8 (by rw [Gi];exact hv) hne;have hok:AM (t.extract 0 C)=true:=by
   unfold AM;rw [ha,yw,Gi,dK,az (by omega)];rfl
  have gM:vY (t.extract 0 C)=v:=by unfold vY;rw [ha];rfl
  have key:=aj4 t (t.extract C t.size) (aV (m:Int)) (aV ((m*10^C+v:Nat):Int)) neg;rw [hE,Int.toNat_natCast,gM]at key;have hP:rW (dF 10) (C:Int)=aV ((10^C:Nat):Int):=by
   unfold rW;rw [Int.toNat_natCast,Int.natCast_pow];rfl
  have Gj:AK (dF 10) (C:Int)=true:=by
   unfold AK;rw [show aD (dF 10)=true from(nk (n:=100000) (a:=(10,[])) rfl).trans (by decide),az (show(0:Int)<=C by omega),az (by rw [Int.toNat_natCast];show 1+(0+1)*C<=100000;omega)];rfl
  have hMul:bU (aV (m:Int)) (aV ((10^C:Nat):Int))=aV ((m*10^C:Nat):Int):=by
   unfold bU;rw [val_mk,val_mk,<-Int.natCast_mul]
  have o1:aD (aV (m:Int))=true:=Gh hN (by decide) hm;have o3:aD (aV ((m*10^C:Nat):Int))=true:=Gh hN (by decide) (by omega);have akd:10^C<=10^18:=Nat.pow_le_pow_right (by decide) akc;have o2:aD (aV ((10^C:Nat):Int))=true:=Gh (y:=10^18) (gC (show 1<=100000 by decide) (kV (by decide)).1) (by decide) akd;have arp:v<10^C:=by
   have:=decFrom_lt _ _ _ hv;rw [dK,<-yw,Nat.min_eq_left T',aw,Nat.one_mul]at this;exact this
  have ake:aD (dF v)=true:=(nk (n:=100000) (a:=(v,[])) rfl).trans (qv.2 ⟨by show _<=(v:Int);omega,by show(v:Int)<=_;omega⟩);have Md:aD (aV ((m*10^C+v:Nat):Int))=true:=Gh hN (by decide) hm2;have hAdd:cF (bU (aV (m:Int)) (rW (dF 10) (C:Int))) (dF v)=aV ((m*10^C+v:Nat):Int):=by
   rw [hP,hMul];exact aj9 (GE Md (by decide))
  refine bp (s:=ny t (aV (m:Int)) neg) hS (key (by omega) hok Gj (mJ o1 (by show aD (rW (dF 10) (C:Int))=true;rw [hP];exact o2)) (mJ (by show aD (bU (aV (m:Int)) (rW (dF 10) (C:Int)))=true;rw [hP,hMul];exact o3) ake) rfl (congrArg Prod.fst hAdd) (congrArg Prod.snd hAdd)) ?_;refine⟨⟨(t.extract C t.size,m*10^C+v), ?_⟩, ?_,rfl,rfl⟩
  .show Lib.decFrom (m*10^C+v) (t.extract C t.size).data.toList=some N;rw [Mc];exact iF
  .show(t.extract C t.size).size<t.size;rw [yw (t.extract C t.size),Mc,mQ,<-yw];omega
def ud (s:ByteArray):Int:=match Lib.decFrom 0 (qH s e4).data.toList with |some n=>n|none=>0
def AO (s:ByteArray):Int:=if pE s e4=true then-ud s else ud s
noncomputable def fE (s:ByteArray):Int×List Int:=aV (AO s)
noncomputable def dt (s:ByteArray):Bool:=(Lib.decFrom 0 (qH s e4).data.toList).isSome&&aD (aV (ud s))
noncomputable def Me:bn:={f:=122,ps:=[.str],rs:=[cV],fresh:=false,pre:=fun d=>dt d.1,fn:=fun d=>(fE d.1,())}
theorem AC:Me.Ok prog:=fun⟨s,_⟩ h=>by
 have h:dt s=true:=h;unfold dt at h;rw [ae]at h;obtain⟨N,hN⟩:=Option.isSome_iff_exists.1 h.1;have e:ud s=N:=by unfold ud;rw [hN]
 have e2:fE s=aV (if pE s e4=true then-(N:Int)else N):=by unfold fE AO;rw [e]
 show Holds prog false 122 [sv s] (aH (fE s));rw [e2];exact akb s N hN (by rw [<-e];exact h.2)
end
end Go.Proofs.YtibikmmdbdlafaaGreatDoor
/- Package strings, strconv: Cut, Itoa as known functions (they read package-level variables). -/
namespace Go.Proofs.YtibikmmdbdlafaaGreatDoor
open Go.RowKit Sv Go.Proofs.Tryz
noncomputable section
def iL (s p:ByteArray):ByteArray:=⟨(Lib.cut s.data.toList p.data.toList).1.toArray⟩
def rY (s p:ByteArray):ByteArray:=⟨(Lib.cut s.data.toList p.data.toList).2.1.toArray⟩
def oq (s p:ByteArray):Bool:=(Lib.cut s.data.toList p.data.toList).2.2
def rZ (s:ByteArray):Bool:=decide (s.size<4294967281)
def b8 (n:Int):ByteArray:=⟨(Lib.itoa n).toArray⟩
noncomputable def Mf:bn:={f:=118,ps:=[.str, .str],rs:=[.str, .str, .bool],fresh:=true,pre:=fun d=>rZ d.1,fn:=fun d=>(iL d.1 d.2.1,rY d.1 d.2.1,oq d.1 d.2.1,())}
noncomputable def Ua:bn:={f:=177,ps:=[.int .i64],rs:=[.str],fresh:=true,pre:=fun d=>gd d.1,fn:=fun d=>(b8 d.1,())}
theorem akf {B:Nat} {w w':World} (h:Below B w w') (n:Nat):Below B w (w'.drewN n):=⟨h.os,h.tape,h.output,h.size,h.block⟩
theorem Ub (B:Nat) (w:World) (hB:B<=w.heap.size) (k:Nat) (os:Array Obj):Below B w (Sort.grow (w.drewN k) os):=
 ⟨rfl,rfl,rfl,by show w.heap.size<=(w.heap++os).size;rw [Array.size_append];omega,fun j hj=>by
   show(w.heap++os)[j]? =_;rw [Array.getElem?_append_left (by omega)]⟩
theorem akg {F:Sv.Env} {w:World} (hF:tj w F) (cn:u5 F):∃m,w.cell? ⟨0,0,none⟩=some (.int .i64 m):=by
 obtain⟨A,h1,m,h2⟩:=cn 0 _ rfl;obtain⟨e,fr,h3⟩:=hF.fz _ _ h1;subst h2;exact⟨m,by simp [World.cell?,h3]⟩
theorem Uc {F:Sv.Env} {w:World} (hF:tj w F) (cn:u5 F):Lib.TabIs prog w "internal/strconv.uint64pow10" .u64 Lib.pow10Tab:=by
 obtain⟨A,h1,h2⟩:=cn 5 _ rfl;obtain⟨e,fr,h3⟩:=hF.fz _ _ h1;subst h2;unfold Lib.TabIs World.var?;rw [show prog.globalNamed "internal/strconv.uint64pow10" =some 5 by kernel_rfl];show(match w.heap[5]? with |some (.cells cs _ _)=>some cs|_=>none)=_
 rw [h3]
theorem Ud:Mf.Ok prog:=fun⟨s,p,_⟩ h w F xs hF cn hd=>by
 have h:rZ s=true:=h;unfold rZ at h;rw [bz]at h;obtain⟨m,hm⟩:=akg hF cn;cases hd with
 |cons d1 d2=>
  cases d2 with
  |cons d2 d3=>
  cases d3;rw [d1.b7,d2.b7];refine(Tryz.strings_Cut s p m w h hm).mono ?_;rintro e w' ⟨rfl,n,rfl⟩;have hb:Below w.heap.size w (w.drewN n):=akf (Below.refl _ _) _;exact⟨_,⟨F.at',fun _=>none⟩,rfl, .tuple (.cons (.raw _) (.cons (.raw _) (.cons (.raw _) .nil))),⟨hF.oR,hF.all,fun b A h=>by cases h⟩,(fun b A h=>by cases h),hb⟩
theorem akh:Ua.Ok prog:=fun⟨n,_⟩ h w F xs hF cn hd=>by
 have h:=qv.1 (show gd n=true from h);cases hd with
 |cons d1 d2=>
  cases d2;rw [d1.b7];refine(Tryz.strconv_Itoa n h.1 h.2 w (Uc hF cn)).mono ?_;rintro e w' ⟨rfl,k,os,rfl⟩;exact⟨_,⟨F.at',fun _=>none⟩,rfl, .raw _,⟨hF.oR,hF.all,fun b A h=>by cases h⟩,(fun b A h=>by cases h),Ub _ _ (aE _) _ _⟩
end
noncomputable section
noncomputable def Mg:Code:=(f55.body).getD .skip
abbrev jW:ByteArray:=⟨#[47]⟩
noncomputable def Mh:bF:=a7 [Mf,Me,AH]
def iV (s:ByteArray):Bool:=rZ s&&(dt (iL s jW)&&(!oq s jW||dt (rY s jW)))
noncomputable def fL (s:ByteArray):(Int×List Int)×(Int×List Int):=if oq s jW=true then(fE (iL s jW),fE (rY s jW))else dw (fE (iL s jW))
noncomputable def Mi:bn:={f:=55,ps:=[.str],rs:=[fZ],fresh:=false,pre:=fun d=>iV d.1,fn:=fun d=>(fL d.1,())}
theorem aki (s:ByteArray) (h1:(rZ s)=true) (h2:(oq s (ByteArray.mk #[(47:UInt8)]))=false) (h3:(dt (iL s (ByteArray.mk #[(47:UInt8)])))=true):
  bq Mh (fl Mg []) 9 (f55.ntmps) [sv s] 3 f55 false (cj (dw (fE (iL s jW)))):=
 wy [af h1,af (cm (h2)),af h3] 12417
theorem akj (s:ByteArray) (h1:(rZ s)=true) (h2:(oq s (ByteArray.mk #[(47:UInt8)]))=true) (h3:(dt (iL s (ByteArray.mk #[(47:UInt8)])))=true) (h4:(dt (rY s (ByteArray.mk #[(47:UInt8)])))=true):
  bq Mh (fl Mg []) 9 (f55.ntmps) [sv s] 2 f55 false (cj (fE (iL s jW),fE (rY s jW))):=
 wy [af h1,af (cm (h2)),af h3,af h4] 1060993
theorem Ue:bB prog (bD Mh):=cR (aT Ud (aT AC (aT tz dY)))
theorem akk (s:ByteArray) (h:iV s=true):Holds prog false 55 [sv s] (cj (fL s)):=by
 unfold iV at h;rw [ae,ae]at h;obtain⟨h1,h2,h3⟩:=h;refine bJ (c:=Mg) func55 rfl rfl fun w F=> ?_
 unfold fL;cases hc:oq s jW with
 |true=>
  rw [if_pos rfl];rw [hc]at h3;exact bu Ue 9 (akj s h1 hc h2 h3)
 |false=>
  rw [if_neg (by decide)];exact bu Ue 9 (aki s h1 hc h2)
theorem Uf:Mi.Ok prog:=fun⟨s,_⟩ h=>akk s h
end
noncomputable section
noncomputable def Ug:Code:=(f91.body).getD .skip
noncomputable def Uh:Code:=(f59.body).getD .skip
noncomputable def Mj:bF:=a7 [L6,L2,L4,L3,Gg]
theorem akl (a b:bS) (h1:(aD b.1)=true) (h2:(okQ 20000 a&&okQ 20000 (yt b))=true):
  bq Mj (fl Ug []) 9 (f91.ntmps) [cj a,cj b] 1 f91 false (cj (xI a (yt b))):=
 wy [af (aW (v:=cj a) (by kernel_rfl)),af (aW (v:=cj b) (by kernel_rfl)),af h1,af h2] 67383425
theorem akm (a b:bS) (h1:(gQ b.2 b.1)=true) (h2:(okQ 20000 a&&okQ 20000 (jV b))=true):
  bq Mj (fl Uh []) 9 (f59.ntmps) [cj a,cj b] 1 f59 false (cj (Gx a (jV b))):=
 wy [af (aW (v:=cj a) (by kernel_rfl)),af (aW (v:=cj b) (by kernel_rfl)),af h1,af h2] 67383425
noncomputable def kj (a b:bS):(Int×List Int)×(Int×List Int):=xI a (yt b)
noncomputable def Ui (a b:bS):(Int×List Int)×(Int×List Int):=Gx a (jV b)
def Mk (a b:bS):Bool:=okQ 20000 a&&(okQ 20000 b&& !(aq b.1==0))
noncomputable def Ml:bn:={f:=91,ps:=[fZ,fZ],rs:=[fZ],fresh:=false,pre:=fun d=>okQ 20000 d.1&&okQ 20000 d.2.1,fn:=fun d=>(kj d.1 d.2.1,())}
noncomputable def Uj:bn:={f:=59,ps:=[fZ,fZ],rs:=[fZ],fresh:=false,pre:=fun d=>Mk d.1 d.2.1,fn:=fun d=>(Ui d.1 d.2.1,())}
theorem Uk:bB prog (bD Mj):=cR (aT TX (aT TT (aT TU (aT Ax (aT tw dY)))))
theorem akn {n:Nat} {b:bS} (h:okQ n b=true) (hn:1<=n):okQ n (yt b)=true:=by
 obtain⟨h1,h2,h3⟩:=oo.1 h;exact oo.2 ⟨n7 h1 hn,h2,h3⟩
theorem Ul {a b:bS} (h:okQ 20000 a=true) (g:okQ 20000 b=true):(okQ 20000 a&&okQ 20000 b)=true:=by rw [h,g];rfl
theorem ako (a b:bS) (h:okQ 20000 a=true) (g:okQ 20000 b=true):Holds prog false 91 [cj a,cj b] (cj (kj a b)):=by
 refine bJ (c:=Ug) func91 rfl rfl fun w F=> ?_
 exact bu Uk 9 (akl a b (gC (show 20000<=100000 by decide) (oo.1 g).1) (Ul h (akn g (by decide))))
theorem Um:Ml.Ok prog:=fun⟨a,b,_⟩ h=>by
 have h:(okQ 20000 a&&okQ 20000 b)=true:=h;rw [ae]at h;exact ako a b h.1 h.2
theorem akp (a b:bS) (h:okQ 20000 a=true) (g:okQ 20000 b=true) (hb:aq b.1≠0):Holds prog false 59 [cj a,cj b] (cj (Ui a b)):=by
 obtain⟨g1,g2,g3⟩:=oo.1 g;have m:= @gC 20000 100000;refine bJ (c:=Uh) func59 rfl rfl fun w F=> ?_
 exact bu Uk 9 (akm a b (tU.2 ⟨m (by decide) g2,m (by decide) g1,hb⟩) (Ul h (Gd g2 g1 (by decide) hb).ok))
theorem akq:Uj.Ok prog:=fun⟨a,b,_⟩ h=>by
 have h:Mk a b=true:=h;unfold Mk at h;simp only [ae,Bool.not_eq_true',fP]at h;exact akp a b h.1 h.2.1 h.2.2
theorem akr {n:Nat} {a b:bS} {r s:Rat} (h:QR n a r) (g:QR n b s) (hn:1<=n):QR (n+n+1) (kj a b) (r-s):=by
 rw [Rat.sub_eq_add_neg];exact ajL h (ajM g hn) hn
end
noncomputable section
def Mm:Value->Value->Bool
 | .int k a, .int k' b=>decide (k=k')&&decide (a=b)
 | .bool a, .bool b=>a==b
 | .string a, .string b=>decide (a=b)
 |_,_=>false
def sliceB (fresh:Bool) (H:ai) (i off n:Nat) (z:Bool) (u:au) (ys:List u.den):Bool:=match H.get i with
 |some (.cells _ cs _ _ false)=>(!fresh||u.lB)&&(match u.qL n (cut cs off (n*u.size))with
  |some ds=>au.beq (.list false u) ds ys&&(Nat.ble (off+n*u.size) cs.length&&(!z||Nat.ble 1 n))
  |none=>false)
 |_=>false
def C2 (fresh:Bool) (H:ai):aa->aa->Bool
 | .raw (.slice none 0 0), .bk _ _ ys=>ys.isEmpty
 | .raw a, .raw b=>Mm a b
 | .slice i off n _, .bk z u ys=>sliceB fresh H i off n z u ys
 |_,_=>false
def C3 (fresh:Bool) (H:ai):List aa->List aa->Bool
 |[],[]=>true
 |v::l,v'::l'=>C2 fresh H v v'&&C3 fresh H l l'
 |_,_=>false
def Mn (fresh:Bool) (H:ai):aa->aa->Bool
 | .agg l, .agg l'=>C3 fresh H l l'
 | .tuple l, .tuple l'=>C3 fresh H l l'
 |v,v'=>C2 fresh H v v'
def C4 (fresh:Bool) (H:ai):List aa->List aa->Bool
 |[],[]=>true
 |v::l,v'::l'=>Mn fresh H v v'&&C4 fresh H l l'
 |_,_=>false
def Kp (fresh:Bool) (H:ai):aa->aa->Bool
 | .agg l, .agg l'=>C4 fresh H l l'
 | .tuple l, .tuple l'=>C4 fresh H l l'
 |v,v'=>C2 fresh H v v'
theorem aks {fresh:Bool} {H:ai} {a b:Value} (h:Mm a b=true):cz fresh H (.raw a) (.raw b):=by
 unfold Mm at h;split at h
 .rename_i k x k' y;rw [ae]at h;have h1:=h.1;have h2:x=y:=ap h.2;unfold cz;show gO (decide (k=k')) (x=y);rw [h1];exact h2
 .rename_i x y;unfold cz;exact eq_of_beq h
 .rename_i x y;have h2:x=y:=ap h;unfold cz;exact h2
 .cases h
theorem Mo {fresh:Bool} {H:ai} {v v':aa} (h:C2 fresh H v v'=true):cz fresh H v v':=by
 unfold C2 at h;split at h
 .rename_i z t ys;unfold cz;exact List.isEmpty_iff.1 h
 .exact aks h
 .rename_i i off n cap z u ys;unfold cz;unfold sliceB at h;split at h
  .rename_i e cs ex fz hg;rw [ae]at h;rw [hg];simp only;rw [show(!fresh||u.lB)=true from h.1];show(match u.qL n (cut cs off (n*u.size))with |some ds=>ds=ys/\_|none=>False)
   cases hr:u.qL n (cut cs off (n*u.size))with
   |none=>rw [hr]at h;cases h.2
   |some ds=>
    rw [hr]at h;have h2:=h.2;simp only [ae]at h2;refine⟨au.zv (.list false u) h2.1, ?_⟩;rw [ae];exact h2.2
  .cases h
 .cases h
theorem Mp {fresh:Bool} {H:ai}:∀{l l':List aa},C3 fresh H l l'=true->th fresh H l l'
 |[],[],_=>trivial
 |[],_::_,h=>by cases h
 |_::_,[],h=>by cases h
 |v::l,v'::l',h=>by
  unfold C3 at h;rw [ae]at h;exact⟨Mo h.1,Mp h.2⟩
theorem akt {fresh:Bool} {H:ai} {v v':aa} (h:Mn fresh H v v'=true):cz fresh H v v':=by
 unfold Mn at h;split at h
 .unfold cz;exact Mp h
 .unfold cz;exact Mp h
 .exact Mo h
theorem Mq {fresh:Bool} {H:ai}:∀{l l':List aa},C4 fresh H l l'=true->th fresh H l l'
 |[],[],_=>trivial
 |[],_::_,h=>by cases h
 |_::_,[],h=>by cases h
 |v::l,v'::l',h=>by
  unfold C4 at h;rw [ae]at h;exact⟨akt h.1,Mq h.2⟩
theorem Mr {fresh:Bool} {H:ai} {v v':aa} (h:Kp fresh H v v'=true):cz fresh H v v':=by
 unfold Kp at h;split at h
 .unfold cz;exact Mq h
 .unfold cz;exact Mq h
 .exact Mo h
theorem m6 {P:Program} {call:er} (hc:bB P call) {f:FuncId} {args:List aa} {v:aa} {H':ai} {fresh:Bool} {res:aa} (h:call f args H0= .ok v H') (hr:cz fresh H' v res):Holds P fresh f args res:=by
 intro w F xs hF cn hd;have hH:aX P w.heap.size F H0 w:=⟨fun i k h=>(by rw [show H0.get i=none from av.get_nil i]at h;cases h),fun i j eB eO b ci b9 h=>(by rw [show H0.get i=none from av.get_nil i]at h;cases h),fun i k h=>(by rw [show H0.get i=none from av.get_nil i]at h;cases h),aE _,
  fun b A h=>⟨hF.fz b A h,fun i k c hi=>(by rw [show H0.get i=none from av.get_nil i]at hi;cases hi)⟩⟩
 refine(callsIn_wide.1 (hc.ct f args H0 v H' h w.heap.size F xs w 0 hH ⟨hF.all,cn⟩ hd fun i h1 _=> ?_)).mono ?_
 .have h1:64<=i:=h1;cases B7:F i with
  |none=>rfl
  |some x=>exact absurd (hF.oR i x B7) (by omega)
 .rintro e w2 ⟨x,ρ,rfl,r1,r2,r3⟩;have hb:=r3.below hH;have hfz:∀b A,ρ.fz b=some A->F.fz b=some A\/w.heap.size<=b:=fun b A hb=>by
   rcases r3.mV b A hb with h|h|⟨i,k,c,h,_⟩
   .exact .inl h
   .exact .inr h
   .rw [show H0.get i=none from av.get_nil i]at h;cases h
  refine⟨x,B6 fresh w.heap.size w2 F,rfl,rm r2 hfz hr r1,⟨hF.oR,hF.all,fun b A hb'=> ?_⟩,fun b A hb'=> ?_,hb⟩
  .have hb':(if w.heap.size<=b then j3 w2 b else if fresh then none else F.fz b)=some A:=hb';by_cases h0:w.heap.size<=b
   .rw [if_pos h0]at hb';exact nT.1 hb'
   .rw [if_neg h0]at hb';cases hfr:fresh with
    |true=>rw [hfr]at hb';cases hb'
    |false=>
     rw [hfr]at hb';obtain⟨e,fr,h3⟩:=hF.fz b A hb';exact⟨e,fr,(hb.block b (by omega)).trans h3⟩
  .have hb':(if w.heap.size<=b then j3 w2 b else if fresh then none else F.fz b)=some A:=hb';by_cases h0:w.heap.size<=b
   .exact .inr h0
   .rw [if_neg h0]at hb';cases hfr:fresh with
    |true=>rw [hfr]at hb';cases hb'
    |false=>rw [hfr]at hb';exact .inl ⟨rfl,hb'⟩
end
end Go.Proofs.YtibikmmdbdlafaaGreatDoor
