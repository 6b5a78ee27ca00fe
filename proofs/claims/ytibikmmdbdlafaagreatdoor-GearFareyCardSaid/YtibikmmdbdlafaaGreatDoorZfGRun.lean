import Derived.Test.YtibikmmdbdlafaaGreatDoorZfVMk
import Derived.Lib.SmallJoins
set_option linter.defProp false
set_option linter.unusedSectionVars false
set_option linter.unusedSimpArgs false
set_option linter.unusedVariables false
set_option maxRecDepth 100000
namespace Go.Proofs.YtibikmmdbdlafaaGreatDoor
open Go.RowKit Sv Go.Proofs.Tryz
noncomputable section
def Vx:=k_a f80
def Vy:=k_a f79
def Vz:=k_a f57
def NF:=k_a f124
def LT:=k_a f63
def VA:=k_a f152
def Hs:=k_a f58
def VB:=k_a f56
def VC:=k_a f125
def VD:=k_a f92
def VE:=k_a f149
def wb:=a8 [yq,wu,DG,yp,wq,AL,GX]
def hU (a:bO):Bool:=iz a.2&&(a.2.1==1)
def alz (n:Int):
  bf wb (fl Vx []) 9 5 [iv n] 1 f80 false (aB (n,[])):=
 wy [] 0
def alA (a:bO) (h1:a.2.2.isEmpty=true):
  bf wb (fl NF []) 9 13 [bM a] 63 f124 true (bv (a.2.1==1)):=
 wy [aa (aL (aL (h1))),aa (aL (h1))] 33820737
def alB (a:bO) (h1:a.2.2.isEmpty=false):
  bf wb (fl NF []) 9 13 [bM a] 32 f124 true (bv false):=
 wy [aa (aL (aL (h1))),aa (aL (h1))] 33820737
def alC (a:bO) (h1:(az a.1)=true):
  bf wb (fl LT []) 9 6 [bM a] 1 f63 true (iv (gG a.1)):=
 wy [aa h1] 1
def alD (a:bO) (h1:(az a.1)=true):
  bf wb (fl VA []) 9 9 [bM a] 1 f152 false (bM (eZ a.1,a.2)):=
 wy [aa (aF (v:=aB a.1)),aa h1,aa (aF (v:=aB a.2))] 798849
def alE (a b:bO) (h1:(az a.1&&az b.1)=true) (h2:(az a.2&&az b.2)=true) (h3:(fu (ba a.1 b.1) (ba a.2 b.2))=true):
  bf wb (fl VB []) 9 16 [bM a,bM b] 1 f56 false (bM (ce (ba a.1 b.1) (ba a.2 b.2))):=
 wy [aa (aF (v:=aB a.1)),aa (aF (v:=aB b.1)),aa h1,aa (aF (v:=aB a.2)),aa (aF (v:=aB b.2)),aa h2,aa h3] 1997062150303873
def alF (a:bO) (h1:(fu a.2 a.1)=true):
  bf wb (fl VC []) 9 8 [bM a] 1 f125 false (bM (ce a.2 a.1)):=
 wy [aa h1] 1
def alG (a b:bO) (h1:(az a.1&&az b.2)=true) (h2:(az b.1&&az a.2)=true) (h3:(aV 50000 (ba a.1 b.2)&&aV 50000 (ba b.1 a.2))=true):
  bf wb (fl VD []) 9 16 [bM a,bM b] 1 f92 true (iv (fH (ba a.1 b.2) (ba b.1 a.2))):=
 wy [aa (aF (v:=aB a.1)),aa (aF (v:=aB b.2)),aa h1,aa (aF (v:=aB b.1)),aa (aF (v:=aB a.2)),aa h2,aa h3] 1997062150303873
def alH (a:bO) (h1:(nA a.1 a.2)=true):
  bf wb (fl VE []) 9 14 [bM a] 1 f149 false (aB (dW a.1 a.2)):=
 wy [aa h1] 1
def okQ (n:Nat) (q:bO):Bool:=aV n q.1&&(aV n q.2&&decide (0<aj q.2))
def aT (n:Int):Int×List Int:=(n,[])
def jJ (n:aC):(Int×List Int)×(Int×List Int):=(n,(1,[]))
noncomputable def yU (a:bO):(Int×List Int)×(Int×List Int):=(eZ a.1,a.2)
noncomputable def Ij (a b:bO):(Int×List Int)×(Int×List Int):=ce (ba a.1 b.1) (ba a.2 b.2)
noncomputable def DI (a:bO):(Int×List Int)×(Int×List Int):=ce a.2 a.1
noncomputable def lj (a b:bO):Int:=fH (ba a.1 b.2) (ba b.1 a.2)
noncomputable def zo (a b:bO):(Int×List Int)×(Int×List Int):=if hU a&&hU b then(cu a.1 b.1,(1,[]))else ce (cu (ba a.1 b.2) (ba b.1 a.2)) (ba a.2 b.2)
def ri:=IN 80 [.int .i64] [dF] false (fun d=>true) fun d=>(aT d.1,())
def Ht:=IN 79 [dF] [fV] false (fun d=>true) fun d=>(jJ d.1,())
def VF:=IN 57 [.int .i64] [fV] false (fun d=>true) fun d=>(jJ (aT d.1),())
def Hu:=IN 124 [fV] [.bool] true (fun d=>true) fun d=>(hU d.1,())
def VG:=IN 63 [fV] [.int .i64] true (fun d=>az d.1.1) fun d=>(gG d.1.1,())
def NG:=IN 152 [fV] [fV] false (fun d=>az d.1.1) fun d=>(yU d.1,())
def NH:=IN 56 [fV,fV] [fV] false (fun d=>okQ 20000 d.1&&okQ 20000 d.2.1) fun d=>(Ij d.1 d.2.1,())
def NI:=IN 125 [fV] [fV] false (fun d=>fu d.1.2 d.1.1) fun d=>(DI d.1,())
def DJ:=IN 92 [fV,fV] [.int .i64] true (fun d=>okQ 20000 d.1&&okQ 20000 d.2.1) fun d=>(lj d.1 d.2.1,())
def NJ:=IN 149 [fV] [dF] false (fun d=>nA d.1.1 d.1.2) fun d=>(dW d.1.1 d.1.2,())
def NK:=IN 58 [fV,fV] [fV] false (fun d=>okQ 20000 d.1&&okQ 20000 d.2.1) fun d=>(zo d.1 d.2.1,())
def DK:=a8 [ri,Ht,Hu,yq,wu,DG]
def alI (n:Int) (h1:(jJ (aT n)).1.1=(n)) (h2:(jJ (aT n)).1.2=(vU)) (h3:(jJ (aT n)).2.1=(1)) (h4:(jJ (aT n)).2.2=(vU)):
  bf DK (fl Vz []) 9 6 [iv n] 1 f57 false (bM ((n,[]),(1,[]))):=
 wy [ax h1,ax h2,ax h3,ax h4] 4345827328
def alJ (a b:bO) (h1:(hU a)=true) (h2:(hU b)=true) (h3:(az a.1&&az b.1)=true) (h4:(jJ (cu a.1 b.1)).1.1=(cu a.1 b.1).1) (h5:(jJ (cu a.1 b.1)).1.2=(cu a.1 b.1).2) (h6:(jJ (cu a.1 b.1)).2.1=(1)) (h7:(jJ (cu a.1 b.1)).2.2=(vU)):
  bf DK (fl Hs []) 9 34 [bM a,bM b] 31 f58 false (bM (cu a.1 b.1,(1,[]))):=
 wy [aa (aL (h1)),aa h1,aa h2,aa h3,ax h4,ax h5,ax h6,ax h7] 598475754935026716736
def alK (a b:bO) (h1:(hU a)=true) (h2:(hU b)=false) (h3:(az a.1&&az b.2)=true) (h4:(az b.1&&az a.2)=true) (h5:(az (ba a.1 b.2)&&az (ba b.1 a.2))=true) (h6:(az a.2&&az b.2)=true) (h7:(fu (cu (ba a.1 b.2) (ba b.1 a.2)) (ba a.2 b.2))=true):
  bf DK (fl Hs []) 9 34 [bM a,bM b] 23 f58 false (bM (ce (cu (ba a.1 b.2) (ba b.1 a.2)) (ba a.2 b.2))):=
 wy [aa (aL (h1)),aa h1,aa h2,aa (aF (v:=aB a.1)),aa (aF (v:=aB b.2)),aa h3,aa (aF (v:=aB b.1)),aa (aF (v:=aB a.2)),aa h4,aa h5,aa h6,aa h7] 271469537658300528069794124337656264073941056
def alL (a b:bO) (h1:(hU a)=false) (h2:(az a.1&&az b.2)=true) (h3:(az b.1&&az a.2)=true) (h4:(az (ba a.1 b.2)&&az (ba b.1 a.2))=true) (h5:(az a.2&&az b.2)=true) (h6:(fu (cu (ba a.1 b.2) (ba b.1 a.2)) (ba a.2 b.2))=true):
  bf DK (fl Hs []) 9 34 [bM a,bM b] 16 f58 false (bM (ce (cu (ba a.1 b.2) (ba b.1 a.2)) (ba a.2 b.2))):=
 wy [aa (aL (h1)),aa h1,aa (aF (v:=aB a.1)),aa (aF (v:=aB b.2)),aa h2,aa (aF (v:=aB b.1)),aa (aF (v:=aB a.2)),aa h3,aa h4,aa h5,aa h6] 3887731443394586653605839251940190814998592
def pD:bD prog (bF wb):=cM (aP AK (aP i8 (aP pC (aP AJ (aP yw (aP mc (aP M3 dV)))))))
def oF {n:Nat} {q:bO}:okQ n q=true↔aV n q.1=true/\aV n q.2=true/\0<aj q.2:=by
 unfold okQ;simp only [ae,bA]
def Bi.ok {n:Nat} {q:bO} {x y:Int} (h:Bi n q x y):okQ n q=true:=oF.2 ⟨h.o1,h.o2,h.pos⟩
def nD {n m:Nat} {a b:aC} (h:aV n a=true) (g:aV m b=true) (hn:1<=n) (hm:1<=m):aV (n+m) (ba a b)=true:=by
 have h1:=jB h hn;have h2:=jB g hm;refine(jC ?_).1;rw [Int.natAbs_mul,Int.natCast_mul,Int.pow_add];have p:=dD (b:=18446744073709551616) δ n;generalize (18446744073709551616:Int)^n=P at*;generalize (18446744073709551616:Int)^m=Q at*;have e1:=ar (show((aj a).natAbs:Int)<=P by omega) (show(0:Int)<=((aj b).natAbs:Int) by omega);have e2:=Int.mul_lt_mul_of_pos_left h2 (show 0<P by omega);omega
def zp {n:Nat} {a b:aC} (h:aV n a=true) (g:aV n b=true) (hn:1<=n):aV (n+1) (cu a b)=true:=by
 have h1:=jB h hn;have h2:=jB g hn;refine uk ?_;rw [Int.pow_succ];have p:=dD (b:=18446744073709551616) δ n;generalize (18446744073709551616:Int)^n=P at*;omega
def NL {x y:Int} (hx:0<x) (hy:0<y):0<x*y:=Int.mul_pos hx hy
def alM (n:Int):Holds prog false 80 [iv n] (aB (aT n)):=by
 refine bL (c:=Vx) func80 rfl rfl fun w F=> ?_
 exact bg pD 9 (alz n)
def uH:ri.Ok prog:=fun⟨n,_⟩ h=>alM n
def alN (a:bO):Holds prog true 124 [bM a] (bv (hU a)):=by
 refine bL (c:=NF) func124 rfl rfl fun w F=> ?_
 cases he:a.2.2.isEmpty with
 |true=>
  have e:hU a=(a.2.1==1):=by unfold hU;rw [show iz a.2=true from he];rfl
  rw [e];exact bg pD 9 (alA a he)
 |false=>
  have e:hU a=false:=by unfold hU;rw [show iz a.2=false from he];rfl
  rw [e];exact bg pD 9 (alB a he)
def NM:Hu.Ok prog:=fun⟨a,_⟩ h=>alN a
def alO (a:bO) (h:az a.1=true):Holds prog true 63 [bM a] (iv (gG a.1)):=by
 refine bL (c:=LT) func63 rfl rfl fun w F=> ?_
 exact bg pD 9 (alC a h)
def alP:VG.Ok prog:=fun⟨a,_⟩ h=>alO a h
def alQ (a:bO) (h:az a.1=true):Holds prog false 152 [bM a] (bM (yU a)):=by
 refine bL (c:=VA) func152 rfl rfl fun w F=> ?_
 exact bg pD 9 (alD a h)
def VH:NG.Ok prog:=fun⟨a,_⟩ h=>alQ a h
def mM {a b:aC} (h:az a=true) (g:az b=true):(az a&&az b)=true:=by rw [h,g];rfl
def alR (a b:bO) (h:okQ 20000 a=true) (g:okQ 20000 b=true):Holds prog false 56 [bM a,bM b] (bM (Ij a b)):=by
 obtain⟨h1,h2,h3⟩:=oF.1 h;obtain⟨g1,g2,g3⟩:=oF.1 g;have m:= @bc 20000 100000;have m2:= @bc (20000+20000) 100000;refine bL (c:=VB) func56 rfl rfl fun w F=> ?_
 exact aW.ret known mixed pD 9 _ (alE a b (mM (m δ h1) (m δ g1)) (mM (m δ h2) (m δ g2))
  (yL.2 ⟨m2 δ (nD h1 g1 δ δ),m2 δ (nD h2 g2 δ δ),by
    have:=NL h3 g3;show aj (ba a.2 b.2)≠0;rw [lQ];omega⟩)) fun T H h=>h
def BY:NH.Ok prog:=fun⟨a,b,_⟩ h=>by
 have h:(okQ 20000 a&&okQ 20000 b)=true:=h;rw [ae]at h;exact alR a b h.1 h.2
def alS (a:bO) (h:fu a.2 a.1=true):Holds prog false 125 [bM a] (bM (DI a)):=by
 refine bL (c:=VC) func125 rfl rfl fun w F=> ?_
 exact bg pD 9 (alF a h)
def VI:NI.Ok prog:=fun⟨a,_⟩ h=>alS a h
def alT {a b:aC} (h:aV 50000 a=true) (g:aV 50000 b=true):(aV 50000 a&&aV 50000 b)=true:=by rw [h,g];rfl
def alU (a b:bO) (h:okQ 20000 a=true) (g:okQ 20000 b=true):Holds prog true 92 [bM a,bM b] (iv (lj a b)):=by
 obtain⟨h1,h2,h3⟩:=oF.1 h;obtain⟨g1,g2,g3⟩:=oF.1 g;have m:= @bc 20000 100000;have m2:= @bc (20000+20000) 50000;refine bL (c:=VD) func92 rfl rfl fun w F=> ?_
 exact aW.ret known mixed pD 9 _ (alG a b (mM (m δ h1) (m δ g2)) (mM (m δ g1) (m δ h2))
  (alT (m2 δ (nD h1 g2 δ δ)) (m2 δ (nD g1 h2 δ δ)))) fun T H h=>h
def Hv:DJ.Ok prog:=fun⟨a,b,_⟩ h=>by
 have h:(okQ 20000 a&&okQ 20000 b)=true:=h;rw [ae]at h;exact alU a b h.1 h.2
def alV (a:bO) (h:nA a.1 a.2=true):Holds prog false 149 [bM a] (aB (dW a.1 a.2)):=by
 refine bL (c:=VE) func149 rfl rfl fun w F=> ?_
 exact bg pD 9 (alH a h)
def FSz:NJ.Ok prog:=fun⟨a,_⟩ h=>alV a h
def alW (n:aC) (h1:n.1=(jJ n).1.1) (h2:n.2=(jJ n).1.2) (h3:(aT 1).1=(jJ n).2.1) (h4:(aT 1).2=(jJ n).2.2):
  bf (a8 [ri]) (fl Vy []) 9 6 [aB n] 1 f79 false (bM (jJ n)):=
 wy [aa (aF (v:=aB n)),ax h1,ax h2,ax h3,ax h4] 347943211009
def alX:bD prog (bF (a8 [ri])):=cM (aP uH dV)
def alY (n:aC):Holds prog false 79 [aB n] (bM (jJ n)):=by
 refine bL (c:=Vy) func79 rfl rfl fun w F=> ?_
 exact bg alX 9 (alW n rfl rfl rfl rfl)
def NN:Ht.Ok prog:=fun⟨n,_⟩ h=>alY n
def VJ:bD prog (bF DK):=cM (aP uH (aP NN (aP NM (aP AK (aP i8 (aP pC dV))))))
def Pl (n:Int):Holds prog false 57 [iv n] (bM (jJ (aT n))):=by
 refine bL (c:=Vz) func57 rfl rfl fun w F=> ?_
 exact bg VJ 9 (alI n rfl rfl rfl rfl)
def alZ:VF.Ok prog:=fun⟨n,_⟩ h=>Pl n
def al0 (a b:bO) (h:okQ 20000 a=true) (g:okQ 20000 b=true):Holds prog false 58 [bM a,bM b] (bM (zo a b)):=by
 obtain⟨h1,h2,h3⟩:=oF.1 h;obtain⟨g1,g2,g3⟩:=oF.1 g;have hS:=VJ;have m:= @bc 20000 100000;have m2:= @bc (20000+20000) 100000;have m3:= @bc (20000+20000+1) 100000;have p1:=mM (m δ h1) (m δ g1);have p2:=mM (m δ h1) (m δ g2);have p3:=mM (m δ g1) (m δ h2);have dS:=mM (m δ h2) (m δ g2);have o1:=nD h1 g2 δ δ;have o2:=nD g1 h2 δ δ;have kO:=mM (m2 δ o1) (m2 δ o2);have pz:fu (cu (ba a.1 b.2) (ba b.1 a.2)) (ba a.2 b.2)=true:=yL.2 ⟨m3 δ (zp o1 o2 δ),m2 δ (nD h2 g2 δ δ),by
   have:=NL h3 g3;rw [lQ];omega⟩
 refine bL (c:=Hs) func58 rfl rfl fun w F=> ?_
 unfold zo;by_cases hw:hU a=true
 .by_cases lR:hU b=true
  .rw [if_pos (by rw [hw,lR];rfl)];exact bg hS 9 (alJ a b hw lR p1 rfl rfl rfl rfl)
  .rw [if_neg (by rw [hw];simpa using lR)];exact bg hS 9 (alK a b hw (by simpa using lR) p2 p3 kO dS pz)
 .rw [if_neg (by simp [hw])];exact bg hS 9 (alL a b (by simpa using hw) p2 p3 kO dS pz)
def VK:NK.Ok prog:=fun⟨a,b,_⟩ h=>by
 have h:(okQ 20000 a&&okQ 20000 b)=true:=h;rw [ae]at h;exact al0 a b h.1 h.2
structure QR (n:Nat) (q:bO) (r:Rat):Prop where
 o1:aV n q.1=true
 o2:aV n q.2=true
 num:aj q.1=r.num
 den:aj q.2=r.den
def QR.ok {n:Nat} {q:bO} {r:Rat} (h:QR n q r):okQ n q=true:=oF.2 ⟨h.o1,h.o2,by rw [h.den];have:=r.den_pos;omega⟩
def QR.mono {n m:Nat} {q:bO} {r:Rat} (h:QR n q r) (hnm:n<=m):QR m q r:=⟨bc hnm h.o1,bc hnm h.o2,h.num,h.den⟩
def Bi.qr {n:Nat} {q:bO} {x y:Int} (h:Bi n q x y) (hy:y≠0):QR n q (Rat.divInt x y):=by
 have hd:((Rat.divInt x y).den:Int)≠0:=by have:=(Rat.divInt x y).den_pos;omega
 have e:(Rat.divInt x y).num*y=x*((Rat.divInt x y).den:Int):=(Rat.divInt_eq_divInt_iff hd hy).1 (Rat.num_divInt_den _);have g:Int.gcd (Rat.divInt x y).num ((Rat.divInt x y).den:Int)=1:=(Rat.divInt x y).reduced;have e2:aj q.1*((Rat.divInt x y).den:Int)=(Rat.divInt x y).num*aj q.2:=by
  have h1:=h.val;refine Int.eq_of_mul_eq_mul_right hy ?_;generalize (Rat.divInt x y).num=N at*;generalize ((Rat.divInt x y).den:Int)=D at*;grind
 obtain⟨h1,h2⟩:=va h.pos ω h.low g e2;exact⟨h.o1,h.o2,h1,h2⟩
def QR.self {n:Nat} {q:bO} {r:Rat} (h:QR n q r):Rat.divInt (aj q.1) (aj q.2)=r:=by
 rw [h.num,h.den];exact Rat.num_divInt_den _
def QR.pos {n:Nat} {q:bO} {r:Rat} (h:QR n q r):0<aj q.2:=(oF.1 h.ok).2.2
def VL {n:Nat} {a:aC} (h:aV n a=true):QR n (jJ a) (aj a:Rat):=by
 refine⟨h, ?_,rfl,rfl⟩;exact(ot (n:=n) (a:=(1,[])) rfl).trans δ
def VM {n:Nat} {a:bO} {r:Rat} (h:QR n a r) (hw:hU a=true):r=(aj a.1:Rat):=by
 unfold hU at hw;rw [ae]at hw;have hv:aj a.2=1:=by unfold aj;rw [if_pos (px.1 hw.1)];simpa using hw.2
 have hd:=h.den;refine Rat.ext ?_ ?_
 .rw [h.num];rfl
 .show r.den=1;omega
def al1 {n:Nat} {a b:bO} {r s:Rat} (h:QR n a r) (g:QR n b s) (hn:1<=n):QR (n+n+1) (zo a b) (r+s):=by
 unfold zo;split
 .rename_i hw;rw [ae]at hw;have:=VL (zp h.o1 g.o1 hn);rw [si,Rat.intCast_add,<-VM h hw.1,<-VM g hw.2]at this;exact this.mono ω
 .have p:=NL h.pos g.pos;have:=(DH (zp (nD h.o1 g.o2 hn hn) (nD g.o1 h.o2 hn hn) ω) (bc (Nat.le_succ _) (nD h.o2 g.o2 hn hn)) ω (by rw [lQ];omega)).qr (by rw [lQ];omega);rw [si,lQ,lQ,lQ,<-Rat.divInt_add_divInt _ _ (by have:=h.pos;omega) (by have:=g.pos;omega),h.self,g.self]at this;exact this
def al2 {n:Nat} {a:bO} {r:Rat} (h:QR n a r) (hn:1<=n):QR n (yU a) (-r):=
 ⟨ov h.o1 hn,h.o2,by show aj (eZ a.1)=_;rw [nu,h.num];rfl,h.den⟩
def DL {r:Rat}:r.num<0↔r<0:=by
 rw [<-Int.not_le,<-Rat.not_le,Rat.num_nonneg]
def zr:=k_a f175
def yV:=a8 [ri,yq]
def lT (a o:aC) (k:Int):bH:={n:=23,sl:=[(1,iv k),(2, .ptr 64 0),(4, .ptr 65 0),(5, .ptr 66 0)],bJ:=[(64,eR a),(65,b0),(66,eR o)],next:=67}
def al3 (a:aC) (k:Int) (h1:(aT 1).1=(1)) (h2:(aT 1).2=(vU)):
  dy yV (fl zr []) 2 23 [aB a,iv k] 1 .normal s3 (lT a (1,[]) k):=
 wy [ax h1,ax h2] 2323857407723175936
section
variable (a o:aC) (k j:Int) (h1:k>0) (h2:IntKind.wrap IntKind.i64 (↑(BitVec.toNat (BitVec.ofInt 64 k &&& BitVec.ofInt 64 1)):Int)=1) (h3:(az o&&az a)=true)
def al4 (h4:k>1) (h5:(az a&&az a)=true) (h6:(Int.fdiv k ((2:Int)^min (Int.toNat 1) 64))=(j)):
  bB yV (fl zr wL) (lT a o k) 15 .normal s3 (lT (ba a a) (ba o a) j):=
 wy [ah h1,cT h2,aa h3,ah h4,aa h5,ax h6] 412401807489
def al5 (h4:¬k>1) (h5:(Int.fdiv k ((2:Int)^min (Int.toNat 1) 64))=(j)):
  bB yV (fl zr wL) (lT a o k) 11 .normal s3 (lT a (ba o a) j):=
 wy [ah h1,cT h2,aa h3,aK h4,ax h5] 5369770113
end
def al6 (a o:aC) (k j:Int) (h1:k>0) (h2:¬IntKind.wrap IntKind.i64 (↑(BitVec.toNat (BitVec.ofInt 64 k &&& BitVec.ofInt 64 1)):Int)=1) (h3:k>1) (h4:(az a&&az a)=true) (h5:(Int.fdiv k ((2:Int)^min (Int.toNat 1) 64))=(j)):
  bB yV (fl zr wL) (lT a o k) 13 .normal s3 (lT (ba a a) o j):=
 wy [ah h1,yn h2,ah h3,aa h4,ax h5] 5369770113
def al7 (a o:aC) (k:Int) (h1:¬k>0):
  bB yV (fl zr wL) (lT a o k) 2 (.exit 0) s3 (lT a o k):=
 wy [aK h1] 1
def al8 (a o:aC) (k:Int):
  bW yV ((fl zr []).drop 3) (lT a o k) 1 f175 false (aB o):=
 wy [] 0
noncomputable def wc (a:aC) (k:Int):Int×List Int:=aY (aj a^k.toNat)
def Bj (a:aC) (k:Int):Bool:=az a&&(decide (0<=k)&&decide (1+(a.2.length+1)*k.toNat<=100000))
def VN:=IN 175 [dF, .int .i64] [dF] false (fun d=>Bj d.1 d.2.1) fun d=>(wc d.1 d.2.1,())
def al9:bD prog (bF yV):=cM (aP uH (aP AK dV))
def VO {m:Nat} (h:m<=100000):IntKind.i64.wrap ↑(BitVec.ofInt 64 (m:Int) &&& BitVec.ofInt 64 1).toNat=((m%2:Nat):Int):=by
 have e:(BitVec.ofInt 64 (m:Int) &&& BitVec.ofInt 64 1).toNat=m%2:=by
  rw [BitVec.toNat_and,BitVec.toNat_ofInt,BitVec.toNat_ofInt,show((m:Int)%(2^64:Nat)).toNat=m by omega];exact Nat.and_one_is_mod m
 rw [e];rcases Nat.mod_two_eq_zero_or_one m with h|h
 .rw [h];rfl
 .rw [h];rfl
def half (m:Nat):Int.fdiv (m:Int) (2^min (Int.toNat 1) 64)=((m/2:Nat):Int):=by
 have e:(2:Int)^min (Int.toNat 1) 64=2:=rfl;rw [e,Int.fdiv_eq_ediv_of_nonneg _ δ];omega
def sq_pow (a:Int):∀j:Nat,(a*a)^j=a^j*a^j
 |0=>by rw [Int.pow_zero,Int.pow_zero,Int.one_mul]
 |j+1=>by rw [Int.pow_succ,Int.pow_succ,sq_pow a j];grind
def pow_even {a:Int} {m:Nat} (h:m%2=0):(a*a)^(m/2)=a^m:=by
 rw [sq_pow,<-Int.pow_add];congr 1;omega
def pow_odd {a:Int} {m:Nat} (h:m%2=1):a*(a*a)^(m/2)=a^m:=by
 obtain⟨j,rfl⟩:∃j,m=2*j+1:=⟨m/2,by omega⟩;rw [show(2*j+1)/2=j by omega,sq_pow,Int.pow_succ,show 2*j=j+j by omega,Int.pow_add,Int.mul_comm]
def ama {n:Nat} {a:aC} (h:aV n a=true):aV (a.2.length+1) a=true:=by
 by_cases hs:a.2=[]
 .rw [ot hs]at h ⊢;exact h
 .obtain⟨h1,h2,h3,h4,h5⟩:=(sg hs).1 h;exact(sg hs).2 ⟨h1,h2,h3,h4,by omega⟩
def amb (a:aC) (k:Nat) (h:az a=true) (hk:1+(a.2.length+1)*k<=100000):Holds prog false 175 [aB a,iv (k:Int)] (aB (aY (aj a^k))):=by
 have hS:=al9;refine bL (c:=zr) func175 rfl rfl fun w F=> ?_
 refine cP hS 2 (al3 a k rfl rfl) ?_;refine aW.loop (ι:={x:(aC×aC)×Nat//x.1.2=aY (aj x.1.2)/\aj x.1.2*aj x.1.1^x.2=aj a^k/\∃p q:Nat,1<=p/\1<=q/\aV p x.1.1=true/\aV q x.1.2=true/\q+p*x.2<=100000}) (id:=0) (b:=cat zr wL) (rest:=(fl zr []).drop 3) (by kernel_rfl) (fun x=>lT x.1.1.1 x.1.1.2 (x.1.2:Int)) (fun x=>x.1.2)
  ⟨((a,(1,[])),k),by
    have v:aj (1,[])=1:=rfl;refine⟨?_, ?_,a.2.length+1,1,by omega,by omega,ama h, ?_,hk⟩
    .show((1,[]):aC)=aY (aj (1,[]));rw [v];unfold aY;rw [if_pos δ]
    .show aj (1,[])*aj a^k=aj a^k;rw [v,Int.one_mul]
    .exact(ot (n:=1) (a:=(1,[])) rfl).trans δ⟩ (fun _=>rfl) ?_
 rintro⟨⟨⟨x,o⟩,m⟩,ho,hv,p,q,hp,hq,sQ,kq,hm⟩;have ho:o=aY (aj o):=ho;have hv:aj o*aj x^m=aj a^k:=hv;have sQ:aV p x=true:=sQ;have kq:aV q o=true:=kq;have hm:q+p*m<=100000:=hm;have hmp:m<=p*m:=Nat.le_mul_of_pos_left m hp;by_cases hz:m=0
 .subst hz;refine bE (s:=lT x o (0:Nat)) hS (al7 x o (0:Nat) δ) ?_;refine cG (cO ?_);have e:aj o=aj a^k:=by rw [<-hv];simp
  rw [<-e,<-ho];exact b5 (s:=lT x o (0:Nat)) hS (al8 x o _)
 .have sO:p<=p*m:=Nat.le_mul_of_pos_right p ω;have Bk:=bc (show p<=100000 by omega) sQ;have VP:=bc (show q<=100000 by omega) kq;have hlt:m/2<m:=by omega
  have hpos:(m:Int)>0:=by omega
  have vm:=lQ;by_cases VQ:m%2=1
  .have hb:IntKind.i64.wrap ↑(BitVec.ofInt 64 (m:Int) &&& BitVec.ofInt 64 1).toNat=1:=by rw [VO ω,VQ];rfl
   by_cases h1:m=1
   .subst h1;refine bE (s:=lT x o (1:Nat)) hS (al5 x o (1:Nat) (0:Nat) hpos hb (mM VP Bk) δ (half 1)) ?_;refine⟨⟨((x,ba o x),0), ?_, ?_,p,q+p,hp,by omega,sQ,nD kq sQ hq hp,by omega⟩,hlt,rfl,rfl⟩
    .show ba o x=aY (aj (ba o x));rw [lQ];rfl
    .show aj (ba o x)*aj x^0=_;rw [lQ,<-hv,Int.pow_zero,Int.mul_one,Int.pow_succ,Int.pow_zero,Int.one_mul]
   .refine bE (s:=lT x o (m:Nat)) hS (al4 x o (m:Nat) (m/2:Nat) hpos hb (mM VP Bk) ω (mM Bk Bk) (half m)) ?_;refine⟨⟨((ba x x,ba o x),m/2), ?_, ?_,p+p,q+p,by omega,by omega,nD sQ sQ hp hp,nD kq sQ hq hp, ?_⟩,hlt,rfl,rfl⟩
    .show ba o x=aY (aj (ba o x));rw [lQ];rfl
    .show aj (ba o x)*aj (ba x x)^(m/2)=_;rw [lQ,lQ,<-hv,<-pow_odd VQ,Int.mul_assoc]
    .show q+p+(p+p)*(m/2)<=100000;obtain⟨j,rfl⟩:∃j,m=2*j+1:=⟨m/2,by omega⟩;rw [show(2*j+1)/2=j by omega];have:p*(2*j+1)=(p+p)*j+p:=by grind
     omega
  .have h0:m%2=0:=by omega
   have hb:¬IntKind.i64.wrap ↑(BitVec.ofInt 64 (m:Int) &&& BitVec.ofInt 64 1).toNat=1:=by rw [VO ω,h0];decide
   refine bE (s:=lT x o (m:Nat)) hS (al6 x o (m:Nat) (m/2:Nat) hpos hb ω (mM Bk Bk) (half m)) ?_;refine⟨⟨((ba x x,o),m/2),ho, ?_,p+p,q,by omega,hq,nD sQ sQ hp hp,kq, ?_⟩,hlt,rfl,rfl⟩
   .show aj o*aj (ba x x)^(m/2)=_;rw [lQ,<-hv,pow_even h0]
   .show q+(p+p)*(m/2)<=100000;obtain⟨j,rfl⟩:∃j,m=2*j:=⟨m/2,by omega⟩;rw [show(2*j)/2=j by omega];have:p*(2*j)=(p+p)*j:=by grind
    omega
def amc:VN.Ok prog:=fun⟨a,k,_⟩ h=>by
 have h:Bj a k=true:=h;unfold Bj at h;simp only [ae,bA]at h;obtain⟨h1,h2,h3⟩:=h;obtain⟨n,rfl⟩:∃n:Nat,k=(n:Int):=⟨k.toNat,(Int.toNat_of_nonneg h2).symm⟩;exact amb a n h1 h3
def pV (s p:AT):Bool:=Lib.hasPrefix s.data.toList p.data.toList
def rj (s p:AT):AT:=⟨(Lib.trimPrefix s.data.toList p.data.toList).toArray⟩
def rp (s:AT):Bool:=decide (s.size<=18)&&(Lib.atoi s.data.toList).isSome
def sa (s:AT):Int:=(Lib.atoi s.data.toList).getD 0
def VR:=IN 172 [.str, .str] [.bool] true (fun d=>true) fun d=>(pV d.1 d.2.1,())
def VS:=IN 173 [.str, .str] [.str] true (fun d=>true) fun d=>(rj d.1 d.2.1,())
noncomputable def NP (args:List af):aD (Option af):=match args with |[.raw (.string s)]=> .must (rp s) (.ret (some (.tuple [iv (sa s), .raw .nilIface])))|_=> .ret none
noncomputable def VT:rZ:={f:=174,res:=NP}
--{
def amd:VR.Ok prog:=fun⟨s,p,_⟩ h w F xs hF ct hd=>by
 cases hd with
 |cons d1 d2=>
  cases d2 with
  |cons d2 d3=>
  cases d3;rw [d1.cc,d2.cc];refine(Tryz.strings_HasPrefix s p w).mono fun e w' ⟨h1,h2⟩=> ?_
  subst h2;exact⟨_,⟨F.at',fun _=>none⟩,h1, .raw _,⟨hF.pF,hF.all,fun b A h=>by cases h⟩,(fun b A h=>by cases h),Below.refl _ _⟩
def ame:VS.Ok prog:=fun⟨s,p,_⟩ h w F xs hF ct hd=>by
 cases hd with
 |cons d1 d2=>
  cases d2 with
  |cons d2 d3=>
  cases d3;rw [d1.cc,d2.cc];refine(Tryz.strings_TrimPrefix s p w).mono fun e w' ⟨h1,h2⟩=> ?_
  subst h2;exact⟨_,⟨F.at',fun _=>none⟩,h1, .raw _,⟨hF.pF,hF.all,fun b A h=>by cases h⟩,(fun b A h=>by cases h),Below.refl _ _⟩
def amf:VT.Ok prog:=by
 intro args v hv w F xs hF ct hd;change (NP args).gr=_ at hv;unfold NP at hv;split at hv
 .rename_i s;unfold aD.gr at hv;cases ho:rp s with
  |false=>rw [ho]at hv;cases hv
  |true=>
   rw [ho]at hv;cases hv;unfold rp at ho;rw [ae,bA]at ho;obtain⟨n,hn⟩:=Option.isSome_iff_exists.1 ho.2;cases hd with
   |cons d1 d2=>
   cases d2;rw [d1.cc];refine(Tryz.strconv_Atoi s n ho.1 hn w).mono ?_;rintro e w' ⟨rfl,t,rfl⟩;refine⟨_,rfl, ?_,Joins.below_bytesWorld _ _ _ _ (aJ _)⟩;have e:sa s=n:=by unfold sa;rw [hn];rfl
   rw [e];exact .tuple (.cons (.raw _) (.cons (.raw _) .nil))
 .cases hv
--}
def sc:=k_a f122
def Bl:=Ar [VT] (a8 [VR,VS,ri,VN,yq,wu,yp])
abbrev NQ:List Nat:=[1,1,1,1,0,0,0]
def nE (s:AT) (o:aC) (neg:Bool):bH:={n:=41,sl:=[(0,sv s),(2, .ptr 64 0),(3,bv neg),(4, .ptr 65 0)],bJ:=[(64,b0),(65,eR o)],next:=66}
abbrev fe:AT:=⟨#[45]⟩
abbrev s2:Sv.Ren:=[(64,64,none),(65,65,none)]
def amg (s:AT):
  dy Bl (fl sc []) 4 41 [sv s] 1 .normal s2 (nE (rj s fe) (0,[]) (pV s fe)):=
 wy [] 0
def amh (s s':AT) (o o':aC) (neg:Bool) (h1:(s.size:Int)>0) (h2:(rp (s.extract 0 (if(s.size:Int)<18 then(s.size:Int)else 18).toNat))=true) (h3:(Bj (aT 10) (if(s.size:Int)<18 then(s.size:Int)else 18))=true) (h4:(az o&&az (wc (aT 10) (if(s.size:Int)<18 then(s.size:Int)else 18)))=true) (h5:(az (ba o (wc (aT 10) (if(s.size:Int)<18 then(s.size:Int)else 18)))&&az (aT (sa (s.extract 0 (if(s.size:Int)<18 then(s.size:Int)else 18).toNat))))=true) (h6:(s.extract (if(s.size:Int)<18 then(s.size:Int)else 18).toNat s.size)=(s')) (h7:(cu (ba o (wc (aT 10) (if(s.size:Int)<18 then(s.size:Int)else 18))) (aT (sa (s.extract 0 (if(s.size:Int)<18 then(s.size:Int)else 18).toNat)))).1=o'.1) (h8:(cu (ba o (wc (aT 10) (if(s.size:Int)<18 then(s.size:Int)else 18))) (aT (sa (s.extract 0 (if(s.size:Int)<18 then(s.size:Int)else 18).toNat)))).2=o'.2):
  bB Bl (fl sc NQ) (nE s o neg) 3 .normal s2 (nE s' o' neg):=
 wy [ah h1,ah (by omega:(0:Int)<=if(s.size:Int)<(18:Int)then(s.size:Int)else(18:Int)),ah (by omega:(if(s.size:Int)<(18:Int)then(s.size:Int)else(18:Int)).toNat<=s.size),aa h2,aa (aF (v:=aB o)),aa h3,aa h4,aa h5,ah (by omega:s.size<=s.size),ax h6,ax h7,ax h8] 4241279421303380490363686664233810978930817
section
variable (s:AT) (o:aC) (neg:Bool)
def ami (h1:¬(s.size:Int)>0):
  bB Bl (fl sc NQ) (nE s o neg) 2 (.exit 0) s2 (nE s o neg):=
 wy [aK h1] 1
def amj (h1:(neg)=true) (h2:(az o)=true):
  bW Bl ((fl sc []).drop 5) (nE s o neg) 3 Tryz.f122 false (aB (eZ o)):=
 wy [aa h1,aa h2] 129
def amk (h1:(neg)=false):
  bW Bl ((fl sc []).drop 5) (nE s o neg) 2 Tryz.f122 false (aB o):=
 wy [aa h1] 1
end
open Lib in
def se (e:Nat):∀(l:List UInt8) (a x:Nat),decFrom a l=some x->decFrom (a+e) l=some (x+e*10^l.length)
 |[],a,x,h=>by cases h;simp [decFrom]
 |b::r,a,x,h=>by
  unfold decFrom at h ⊢;cases hd:digitVal b with
  |none=>rw [hd]at h;cases h
  |some d=>
   rw [hd]at h;have ih:=se (e*10) r _ _ h;show decFrom ((a+e)*10+d) r=_;rw [show(a+e)*10+d=a*10+d+e*10 by omega];rw [ih,List.length_cons,Nat.pow_succ];congr 1;have:e*10*10^r.length=e*(10^r.length*10):=by grind
   omega
open Lib in
def NR:∀(l:List UInt8) (a x:Nat),decFrom a l=some x->a<=x
 |[],a,x,h=>by cases h;omega
 |b::r,a,x,h=>by
  unfold decFrom at h;cases hd:digitVal b with
  |none=>rw [hd]at h;cases h
  |some d=>rw [hd]at h;have:=NR r _ _ h;omega
open Lib in
def VU:∀(C:Nat) (l:List UInt8) (a x:Nat),decFrom a l=some x->C<=l.length->∃v,decFrom 0 (l.take C)=some v/\decFrom (a*10^C+v) (l.drop C)=some x
 |0,l,a,x,h,_=>⟨0,rfl,by simpa using h⟩
 |C+1,[],a,x,h,hc=>by simp at hc
 |C+1,b::r,a,x,h,hc=>by
  unfold decFrom at h;cases hd:digitVal b with
  |none=>rw [hd]at h;cases h
  |some d=>
   rw [hd]at h;obtain⟨v,h1,h2⟩:=VU C r _ x h (by simpa using hc);refine⟨v+d*10^C, ?_, ?_⟩
   .rw [List.take_succ_cons];unfold decFrom;rw [hd];have:=se d _ _ _ h1;rw [eE,Nat.min_eq_left (by simpa using hc),aw]at this;show decFrom (0*10+d) _=_;rw [Nat.zero_mul,aw];exact this
   .rw [List.drop_succ_cons,<-h2];congr 1;rw [Nat.pow_succ];have:(a*10+d)*10^C=a*(10^C*10)+d*10^C:=by grind
    omega
open Lib in
def aml {l:List UInt8} {v:Nat} (h:decFrom 0 l=some v) (hl:l≠[]):atoi l=some (v:Int):=by
 cases l with
 |nil=>exact absurd rfl hl
 |cons b r=>
  have hb:48<=b.toNat:=by
   unfold decFrom at h;cases hd:digitVal b with
   |none=>rw [hd]at h;cases h
   |some d=>unfold digitVal at hd;split at hd
            .omega
            .cases hd
  have n1:(b==45)=false:=by
   rw [eN];intro e;subst e;exact absurd hb δ
  have n2:(b==43)=false:=by
   rw [eN];intro e;subst e;exact absurd hb δ
  rw [show atoi (b::r)=if(b==45)=true then(decNat r).map (fun(m:Nat)=> -(m:Int))else if(b==43)=true then(decNat r).map (fun(m:Nat)=>(m:Int))else(decNat (b::r)).map (fun(m:Nat)=>(m:Int))from rfl,n1,n2];show(decNat (b::r)).map _=_;unfold decNat;rw [show(b::r).isEmpty=false from rfl];simp [h]
def Hw {n x y:Nat} (h:aV n (aY (y:Int))=true) (hn:1<=n) (hxy:x<=y):aV n (aY (x:Int))=true:=by
 have h1:=jB h hn;rw [val_mk]at h1;exact(jC ω).1
def amm {n:Nat} {x v:Nat} (h:aV n (cu (aY (x:Int)) (aT v))=true):cu (aY (x:Int)) (aT v)=aY ((x+v:Nat):Int):=by
 have e:aj (cu (aY (x:Int)) (aT v))=((x+v:Nat):Int):=by
  rw [si,val_mk];show(x:Int)+v=_;omega
 have:=Gj h (by rw [e];omega);rw [e]at this;exact this
def amn:bD prog (bF Bl):=SV (fun c hc=>by rw [List.mem_singleton.1 hc];exact amf) (cM fun c hc=>by
 simp only [ek,jO,or_false]at hc;rcases hc with rfl |rfl |rfl |rfl |rfl |rfl |rfl
 .exact amd
 .exact ame
 .exact uH
 .exact amc
 .exact AK
 .exact i8
 .exact AJ)
def Hx (s:AT) (n:Nat):(s.extract 0 n).data.toList=s.data.toList.take n:=by
 rw [ByteArray.data_extract,Array.toList_extract];simp [List.extract]
def NS (s:AT) (n:Nat):(s.extract n s.size).data.toList=s.data.toList.drop n:=by
 rw [ByteArray.data_extract,Array.toList_extract];simp only [List.extract];rw [eT];rw [nQ,Array.length_toList];exact aJ _
def yW (s:AT):s.size=s.data.toList.length:=by rw [Array.length_toList];rfl
open Lib in
def decFrom_lt:∀(l:List UInt8) (a x:Nat),decFrom a l=some x->x<(a+1)*10^l.length
 |[],a,x,h=>by cases h;simp
 |b::r,a,x,h=>by
  unfold decFrom at h;cases hd:digitVal b with
  |none=>rw [hd]at h;cases h
  |some d=>
   rw [hd]at h;have ih:=decFrom_lt r _ _ h;have auO:d<=9:=by
    unfold digitVal at hd;split at hd
    .cases hd;omega
    .cases hd
   have h1:=Nat.mul_le_mul_right (10^r.length) (show a*10+d+1<=(a+1)*10 by omega);rw [List.length_cons,Nat.pow_succ];have:(a+1)*(10^r.length*10)=(a+1)*10*10^r.length:=by grind
   omega
def amo {n x v:Nat} (h:aV n (aY ((x+v:Nat):Int))=true) (hn:1<=n):aV n (cu (aY (x:Int)) (aT v))=true:=uk (by
 have h1:=jB h hn;rw [val_mk]at h1;rw [val_mk];show((((x:Int)+(v:Int)).natAbs:Nat):Int)<_;rw [<-Int.natCast_add];exact h1)
def amq (s:AT) (N:Nat) (hd:Lib.decFrom 0 (rj s fe).data.toList=some N) (hN:az (aY (N:Int))=true):
  Holds prog false 122 [sv s] (aB (aY (if pV s fe=true then-(N:Int)else N))):=by
 have hS:=amn;have e0:((0,[]):aC)=aY ((0:Nat):Int):=by unfold aY;rw [if_pos δ];rfl
 have hst:=amg s;rw [show nE (rj s fe) (0,[]) (pV s fe)=nE (rj s fe) (aY ((0:Nat):Int)) (pV s fe) by rw [<-e0]]at hst;refine bL (c:=sc) func122 rfl rfl fun w F=> ?_
 refine cP hS 4 hst ?_;generalize pV s fe=neg;refine aW.loop (ι:={x:AT×Nat//Lib.decFrom x.2 x.1.data.toList=some N}) (id:=0) (b:=cat sc NQ) (rest:=(fl sc []).drop 5) (by kernel_rfl) (fun x=>nE x.1.1 (aY (x.1.2:Int)) neg) (fun x=>x.1.1.size)
  ⟨(rj s fe,0),hd⟩ (fun _=>rfl) ?_
 rintro⟨⟨t,m⟩,hx⟩;have hx:Lib.decFrom m t.data.toList=some N:=hx;have hm:=NR _ _ _ hx;by_cases hz:t.size=0
 .have e:m=N:=by
   have:t.data.toList=[]:=List.eq_nil_of_length_eq_zero (by rw [<-yW];exact hz);rw [this]at hx;cases hx;rfl
  subst e;refine bE (s:=nE t (aY (m:Int)) neg) hS (ami t (aY (m:Int)) neg (by rw [hz];decide)) ?_;refine cG (cO ?_);cases neg with
  |true=>
   have e:eZ (aY (m:Int))=aY (-(m:Int)):=by unfold eZ;rw [val_mk]
   rw [if_pos rfl,<-e];exact b5 (s:=nE t (aY (m:Int)) true) hS (amj t (aY (m:Int)) true rfl hN)
  |false=>
   rw [if_neg δ];exact b5 (s:=nE t (aY (m:Int)) false) hS (amk t (aY (m:Int)) false rfl)
 .obtain⟨C,hC⟩:∃C,C=min t.size 18:=⟨_,rfl⟩;have hE:(if(t.size:Int)<18 then(t.size:Int)else 18)=(C:Int):=by split<;>omega
  have auP:1<=C:=by omega
  have amr:C<=18:=by omega
  have VV:C<=t.size:=by omega
  obtain⟨v,hv,iM⟩:=VU C _ _ _ hx (by rw [<-yW];exact VV);have hm2:=NR _ _ _ iM;have hne:(t.extract 0 C).data.toList≠[]:=by
   rw [Hx];intro e;have:=congrArg List.length e;rw [eE,<-yW,List.length_nil]at this;omega
  have ha:Lib.atoi (t.extract 0 C).data.toList=some (v:Int):=aml (by rw [Hx];exact hv) hne;have hok:rp (t.extract 0 C)=true:=by
   unfold rp;rw [ha,yW,Hx,eE,ay ω];rfl
  have ki:sa (t.extract 0 C)=v:=by unfold sa;rw [ha];rfl
  have key:=amh t (t.extract C t.size) (aY (m:Int)) (aY ((m*10^C+v:Nat):Int)) neg;rw [hE,Int.toNat_natCast,ki]at key;have hP:wc (aT 10) (C:Int)=aY ((10^C:Nat):Int):=by
   unfold wc;rw [Int.toNat_natCast,Int.natCast_pow];rfl
  have Hy:Bj (aT 10) (C:Int)=true:=by
   unfold Bj;rw [show az (aT 10)=true from(ot (n:=100000) (a:=(10,[])) rfl).trans δ,ay (show(0:Int)<=C by omega),ay (by rw [Int.toNat_natCast];show 1+(0+1)*C<=100000;omega)];rfl
  have hMul:ba (aY (m:Int)) (aY ((10^C:Nat):Int))=aY ((m*10^C:Nat):Int):=by
   unfold ba;rw [val_mk,val_mk,<-Int.natCast_mul]
  have o1:az (aY (m:Int))=true:=Hw hN δ hm;have o3:az (aY ((m*10^C:Nat):Int))=true:=Hw hN δ ω;have ams:10^C<=10^18:=Nat.pow_le_pow_right δ amr;have o2:az (aY ((10^C:Nat):Int))=true:=Hw (y:=10^18) (bc (show 1<=100000 by decide) (jC δ).1) δ ams;have auQ:v<10^C:=by
   have:=decFrom_lt _ _ _ hv;rw [eE,<-yW,Nat.min_eq_left VV,aw,Nat.one_mul]at this;exact this
  have amt:az (aT v)=true:=(ot (n:=100000) (a:=(v,[])) rfl).trans (qY.2 ⟨by show _<=(v:Int);omega,by show(v:Int)<=_;omega⟩);have amu:az (aY ((m*10^C+v:Nat):Int))=true:=Hw hN δ hm2;have hAdd:cu (ba (aY (m:Int)) (wc (aT 10) (C:Int))) (aT v)=aY ((m*10^C+v:Nat):Int):=by
   rw [hP,hMul];exact amm (amo amu δ)
  refine bE (s:=nE t (aY (m:Int)) neg) hS (key ω hok Hy (mM o1 (by show az (wc (aT 10) (C:Int))=true;rw [hP];exact o2)) (mM (by show az (ba (aY (m:Int)) (wc (aT 10) (C:Int)))=true;rw [hP,hMul];exact o3) amt) rfl (congrArg Prod.fst hAdd) (congrArg Prod.snd hAdd)) ?_;refine⟨⟨(t.extract C t.size,m*10^C+v), ?_⟩, ?_,rfl,rfl⟩
  .show Lib.decFrom (m*10^C+v) (t.extract C t.size).data.toList=some N;rw [NS];exact iM
  .show(t.extract C t.size).size<t.size;rw [yW (t.extract C t.size),NS,nQ,<-yW];omega
def uI (s:AT):Int:=match Lib.decFrom 0 (rj s fe).data.toList with |some n=>n|none=>0
def xc (s:AT):Int:=if pV s fe=true then-uI s else uI s
noncomputable def dj (s:AT):Int×List Int:=aY (xc s)
noncomputable def jK (s:AT):Bool:=(Lib.decFrom 0 (rj s fe).data.toList).isSome&&az (aY (uI s))
def NT:=IN 122 [.str] [dF] false (fun d=>jK d.1) fun d=>(dj d.1,())
def VW:NT.Ok prog:=fun⟨s,_⟩ h=>by
 have h:jK s=true:=h;unfold jK at h;rw [ae]at h;obtain⟨N,hN⟩:=Option.isSome_iff_exists.1 h.1;have e:uI s=N:=by unfold uI;rw [hN]
 have e2:dj s=aY (if pV s fe=true then-(N:Int)else N):=by unfold dj xc;rw [e]
 show Holds prog false 122 [sv s] (aB (dj s));rw [e2];exact amq s N hN (by rw [<-e];exact h.2)
def iR (s p:AT):AT:=⟨(Lib.cut s.data.toList p.data.toList).1.toArray⟩
def wd (s p:AT):AT:=⟨(Lib.cut s.data.toList p.data.toList).2.1.toArray⟩
def oG (s p:AT):Bool:=(Lib.cut s.data.toList p.data.toList).2.2
def sR (s:AT):Bool:=decide (s.size<4294967281)
def bm (n:Int):AT:=⟨(Lib.itoa n).toArray⟩
def NU:=IN 118 [.str, .str] [.str, .str, .bool] true (fun d=>sR d.1) fun d=>(iR d.1 d.2.1,wd d.1 d.2.1,oG d.1 d.2.1,())
def VX:=IN 177 [.int .i64] [.str] true (fun d=>gF d.1) fun d=>(bm d.1,())
def amv {B:Nat} {w w':World} (h:Below B w w') (n:Nat):Below B w (w'.drewN n):=⟨h.os,h.tape,h.output,h.size,h.block⟩
def sf (B:Nat) (w:World) (hB:B<=w.heap.size) (k:Nat) (os:Array Obj):Below B w (Sort.grow (w.drewN k) os):=
 ⟨rfl,rfl,rfl,by show w.heap.size<=(w.heap++os).size;rw [Array.size_append];omega,fun j hj=>by
   show(w.heap++os)[j]? =_;rw [Array.getElem?_append_left ω]⟩
def Ps {F:Sv.Env} {w:World} (hF:tX w F) (ct:vK F):∃m,w.cell? ⟨0,0,none⟩=some (.int .i64 m):=by
 obtain⟨A,h1,m,h2⟩:=ct 0 _ rfl;obtain⟨e,fr,h3⟩:=hF.fz _ _ h1;subst h2;exact⟨m,by simp [World.cell?,h3]⟩
def VY {F:Sv.Env} {w:World} (hF:tX w F) (ct:vK F):Lib.TabIs prog w "internal/strconv.uint64pow10" .u64 Lib.pow10Tab:=by
 obtain⟨A,h1,h2⟩:=ct 5 _ rfl;obtain⟨e,fr,h3⟩:=hF.fz _ _ h1;subst h2;unfold Lib.TabIs World.var?;rw [show prog.globalNamed "internal/strconv.uint64pow10" =some 5 by kernel_rfl];show(match w.heap[5]? with |some (.cells cs _ _)=>some cs|_=>none)=_
 rw [h3]
def VZ:NU.Ok prog:=fun⟨s,p,_⟩ h w F xs hF ct hd=>by
 have h:sR s=true:=h;unfold sR at h;rw [bA]at h;obtain⟨m,hm⟩:=Ps hF ct;cases hd with
 |cons d1 d2=>
  cases d2 with
  |cons d2 d3=>
  cases d3;rw [d1.cc,d2.cc];refine(Tryz.strings_Cut s p m w h hm).mono ?_;rintro e w' ⟨rfl,n,rfl⟩;have hb:Below w.heap.size w (w.drewN n):=amv (Below.refl _ _) _;exact⟨_,⟨F.at',fun _=>none⟩,rfl, .tuple (.cons (.raw _) (.cons (.raw _) (.cons (.raw _) .nil))),⟨hF.pF,hF.all,fun b A h=>by cases h⟩,(fun b A h=>by cases h),hb⟩
def amw:VX.Ok prog:=fun⟨n,_⟩ h w F xs hF ct hd=>by
 have h:=qY.1 (show gF n=true from h);cases hd with
 |cons d1 d2=>
  cases d2;rw [d1.cc];refine(Tryz.strconv_Itoa n h.1 h.2 w (VY hF ct)).mono ?_;rintro e w' ⟨rfl,k,os,rfl⟩;exact⟨_,⟨F.at',fun _=>none⟩,rfl, .raw _,⟨hF.pF,hF.all,fun b A h=>by cases h⟩,(fun b A h=>by cases h),sf _ _ (aJ _) _ _⟩
def NV:=k_a f55
abbrev ke:AT:=⟨#[47]⟩
def NW:=a8 [NU,NT,Ht]
def dr (s:AT):Bool:=sR s&&(jK (iR s ke)&&(!oG s ke||jK (wd s ke)))
noncomputable def aX (s:AT):(Int×List Int)×(Int×List Int):=if oG s ke=true then(dj (iR s ke),dj (wd s ke))else jJ (dj (iR s ke))
def Bm:=IN 55 [.str] [fV] false (fun d=>dr d.1) fun d=>(aX d.1,())
def amx (s:AT) (h1:(sR s)=true) (h2:(oG s (ByteArray.mk #[47]))=false) (h3:(jK (iR s (ByteArray.mk #[47])))=true):
  bf NW (fl NV []) 9 (f55.ntmps) [sv s] 3 f55 false (bM (jJ (dj (iR s ke)))):=
 wy [aa h1,aa (bY (h2)),aa h3] 12417
def amy (s:AT) (h1:(sR s)=true) (h2:(oG s (ByteArray.mk #[47]))=true) (h3:(jK (iR s (ByteArray.mk #[47])))=true) (h4:(jK (wd s (ByteArray.mk #[47])))=true):
  bf NW (fl NV []) 9 (f55.ntmps) [sv s] 2 f55 false (bM (dj (iR s ke),dj (wd s ke))):=
 wy [aa h1,aa (bY (h2)),aa h3,aa h4] 1060993
def V0:bD prog (bF NW):=cM (aP VZ (aP VW (aP NN dV)))
def amz (s:AT) (h:dr s=true):Holds prog false 55 [sv s] (bM (aX s)):=by
 unfold dr at h;rw [ae,ae]at h;obtain⟨h1,h2,h3⟩:=h;refine bL (c:=NV) func55 rfl rfl fun w F=> ?_
 unfold aX;cases hc:oG s ke with
 |true=>
  rw [if_pos rfl];rw [hc]at h3;exact bg V0 9 (amy s h1 hc h2 h3)
 |false=>
  rw [if_neg δ];exact bg V0 9 (amx s h1 hc h2)
def DM:Bm.Ok prog:=fun⟨s,_⟩ h=>amz s h
def V1:=k_a f91
def V2:=k_a f59
def NX:=a8 [NK,NG,DJ,NH,NI]
def amA (a b:bO) (h1:(az b.1)=true) (h2:(okQ 20000 a&&okQ 20000 (yU b))=true):
  bf NX (fl V1 []) 9 (f91.ntmps) [bM a,bM b] 1 f91 false (bM (zo a (yU b))):=
 wy [aa (aF (v:=bM a)),aa (aF (v:=bM b)),aa h1,aa h2] 67383425
def amB (a b:bO) (h1:(fu b.2 b.1)=true) (h2:(okQ 20000 a&&okQ 20000 (DI b))=true):
  bf NX (fl V2 []) 9 (f59.ntmps) [bM a,bM b] 1 f59 false (bM (Ij a (DI b))):=
 wy [aa (aF (v:=bM a)),aa (aF (v:=bM b)),aa h1,aa h2] 67383425
noncomputable def fi (a b:bO):(Int×List Int)×(Int×List Int):=zo a (yU b)
noncomputable def V3 (a b:bO):(Int×List Int)×(Int×List Int):=Ij a (DI b)
def NY (a b:bO):Bool:=okQ 20000 a&&(okQ 20000 b&& !(aj b.1==0))
def NZ:=IN 91 [fV,fV] [fV] false (fun d=>okQ 20000 d.1&&okQ 20000 d.2.1) fun d=>(fi d.1 d.2.1,())
def V4:=IN 59 [fV,fV] [fV] false (fun d=>NY d.1 d.2.1) fun d=>(V3 d.1 d.2.1,())
def V5:bD prog (bF NX):=cM (aP VK (aP VH (aP Hv (aP BY (aP VI dV)))))
def amC {n:Nat} {b:bO} (h:okQ n b=true) (hn:1<=n):okQ n (yU b)=true:=by
 obtain⟨h1,h2,h3⟩:=oF.1 h;exact oF.2 ⟨ov h1 hn,h2,h3⟩
def V6 {a b:bO} (h:okQ 20000 a=true) (g:okQ 20000 b=true):(okQ 20000 a&&okQ 20000 b)=true:=by rw [h,g];rfl
def amD (a b:bO) (h:okQ 20000 a=true) (g:okQ 20000 b=true):Holds prog false 91 [bM a,bM b] (bM (fi a b)):=by
 refine bL (c:=V1) func91 rfl rfl fun w F=> ?_
 exact bg V5 9 (amA a b (bc (show 20000<=100000 by decide) (oF.1 g).1) (V6 h (amC g δ)))
def V7:NZ.Ok prog:=fun⟨a,b,_⟩ h=>by
 have h:(okQ 20000 a&&okQ 20000 b)=true:=h;rw [ae]at h;exact amD a b h.1 h.2
def amE (a b:bO) (h:okQ 20000 a=true) (g:okQ 20000 b=true) (hb:aj b.1≠0):Holds prog false 59 [bM a,bM b] (bM (V3 a b)):=by
 obtain⟨g1,g2,g3⟩:=oF.1 g;have m:= @bc 20000 100000;refine bL (c:=V2) func59 rfl rfl fun w F=> ?_
 exact bg V5 9 (amB a b (yL.2 ⟨m δ g2,m δ g1,hb⟩) (V6 h (DH g2 g1 δ hb).ok))
def amF:V4.Ok prog:=fun⟨a,b,_⟩ h=>by
 have h:NY a b=true:=h;unfold NY at h;simp only [ae,Bool.not_eq_true',eN]at h;exact amE a b h.1 h.2.1 h.2.2
def tf {n:Nat} {a b:bO} {r s:Rat} (h:QR n a r) (g:QR n b s) (hn:1<=n):QR (n+n+1) (fi a b) (r-s):=by
 rw [Rat.sub_eq_add_neg];exact al1 h (al2 g hn) hn
def V8 {n m:Nat} {a b:bO} {r s:Rat} (h:QR n a r) (g:QR m b s):lj a b=if r<s then-1 else if r=s then 0 else 1:=by
 unfold lj fH j6;rw [lQ,lQ,h.num,h.den,g.num,g.den];have hl:=Rat.lt_iff r s;have he:r=s↔r.num*s.den=s.num*r.den:=by
  constructor
  .intro e;rw [e]
  .intro e;have h1:Rat.divInt r.num r.den=Rat.divInt s.num s.den:=(Rat.divInt_eq_divInt_iff (by have:=r.den_pos;omega) (by have:=s.den_pos;omega)).2 e;rw [Rat.num_divInt_den,Rat.num_divInt_den]at h1;exact h1
 by_cases h1:r<s
 .have:=hl.1 h1;rw [if_pos h1,if_pos ω]
 .have n1:¬r.num*s.den<s.num*r.den:=fun hh=>h1 (hl.2 hh)
  rw [if_neg h1,if_neg ω];by_cases h2:r=s
  .have:=he.1 h2;rw [if_pos h2,if_pos ω]
  .have n2:¬r.num*s.den=s.num*r.den:=fun hh=>h2 (he.2 hh)
   rw [if_neg h2,if_neg ω]
def N0:Value->Value->Bool
 | .int k a, .int k' b=>decide (k=k')&&decide (a=b)
 | .bool a, .bool b=>a==b
 | .string a, .string b=>decide (a=b)
 |_,_=>false
def sliceB (fresh:Bool) (H:ai) (i off n:Nat) (z:Bool) (u:av) (ys:List u.den):Bool:=match H.get i with
 |some (.cells _ cs _ _ false)=>(!fresh||u.lI)&&(match u.rE n (cut cs off (n*u.size))with
  |some ds=>av.beq (.list false u) ds ys&&(Nat.ble (off+n*u.size) cs.length&&(!z||Nat.ble 1 n))
  |none=>false)
 |_=>false
def DN (fresh:Bool) (H:ai):af->af->Bool
 | .raw (.slice none 0 0), .bt _ _ ys=>ys.isEmpty
 | .raw a, .raw b=>N0 a b
 | .slice i off n _, .bt z u ys=>sliceB fresh H i off n z u ys
 |_,_=>false
def DO (fresh:Bool) (H:ai):List af->List af->Bool
 |[],[]=>true
 |v::l,v'::l'=>DN fresh H v v'&&DO fresh H l l'
 |_,_=>false
def N1 (fresh:Bool) (H:ai):af->af->Bool
 | .agg l, .agg l'=>DO fresh H l l'
 | .tuple l, .tuple l'=>DO fresh H l l'
 |v,v'=>DN fresh H v v'
def vf (fresh:Bool) (H:ai):List af->List af->Bool
 |[],[]=>true
 |v::l,v'::l'=>N1 fresh H v v'&&vf fresh H l l'
 |_,_=>false
def DP (fresh:Bool) (H:ai):af->af->Bool
 | .agg l, .agg l'=>vf fresh H l l'
 | .tuple l, .tuple l'=>vf fresh H l l'
 |v,v'=>DN fresh H v v'
def amG {fresh:Bool} {H:ai} {a b:Value} (h:N0 a b=true):cB fresh H (.raw a) (.raw b):=by
 unfold N0 at h;split at h
 .rename_i k x k' y;rw [ae]at h;have h1:=h.1;have h2:x=y:=ap h.2;unfold cB;show gX (decide (k=k')) (x=y);rw [h1];exact h2
 .rename_i x y;unfold cB;exact eq_of_beq h
 .rename_i x y;have h2:x=y:=ap h;unfold cB;exact h2
 .cases h
def N2 {fresh:Bool} {H:ai} {v v':af} (h:DN fresh H v v'=true):cB fresh H v v':=by
 unfold DN at h;split at h
 .rename_i z t ys;unfold cB;exact List.isEmpty_iff.1 h
 .exact amG h
 .rename_i i off n cap z u ys;unfold cB;unfold sliceB at h;split at h
  .rename_i e cs ex fz hg;rw [ae]at h;rw [hg];simp only;rw [show(!fresh||u.lI)=true from h.1];show(match u.rE n (cut cs off (n*u.size))with |some ds=>ds=ys/\_|none=>False)
   cases hr:u.rE n (cut cs off (n*u.size))with
   |none=>rw [hr]at h;cases h.2
   |some ds=>
    rw [hr]at h;have h2:=h.2;simp only [ae]at h2;refine⟨av.zY (.list false u) h2.1, ?_⟩;rw [ae];exact h2.2
  .cases h
 .cases h
def vi {fresh:Bool} {H:ai}:∀{l l':List af},DO fresh H l l'=true->tW fresh H l l'
 |[],[],_=>trivial
 |[],_::_,h=>by cases h
 |_::_,[],h=>by cases h
 |v::l,v'::l',h=>by
  unfold DO at h;rw [ae]at h;exact⟨N2 h.1,vi h.2⟩
def amH {fresh:Bool} {H:ai} {v v':af} (h:N1 fresh H v v'=true):cB fresh H v v':=by
 unfold N1 at h;split at h
 .unfold cB;exact vi h
 .unfold cB;exact vi h
 .exact N2 h
def N3 {fresh:Bool} {H:ai}:∀{l l':List af},vf fresh H l l'=true->tW fresh H l l'
 |[],[],_=>trivial
 |[],_::_,h=>by cases h
 |_::_,[],h=>by cases h
 |v::l,v'::l',h=>by
  unfold vf at h;rw [ae]at h;exact⟨amH h.1,N3 h.2⟩
def zt {fresh:Bool} {H:ai} {v v':af} (h:DP fresh H v v'=true):cB fresh H v v':=by
 unfold DP at h;split at h
 .unfold cB;exact N3 h
 .unfold cB;exact N3 h
 .exact N2 h
def N4 {P:Program} {call:ew} (hc:bD P call) {f:FuncId} {args:List af} {v:af} {H':ai} {fresh:Bool} {res:af} (h:call f args H0= .ok v H') (hr:cB fresh H' v res):Holds P fresh f args res:=by
 intro w F xs hF ct hd;have hH:bh P w.heap.size F H0 w:=⟨fun i k h=>(by rw [show H0.get i=none from au.get_nil i]at h;cases h),fun i j eG eW b ci cl h=>(by rw [show H0.get i=none from au.get_nil i]at h;cases h),fun i k h=>(by rw [show H0.get i=none from au.get_nil i]at h;cases h),aJ _,
  fun b A h=>⟨hF.fz b A h,fun i k c hi=>(by rw [show H0.get i=none from au.get_nil i]at hi;cases hi)⟩⟩
 refine(callsIn_wide.1 (hc.cw f args H0 v H' h w.heap.size F xs w 0 hH ⟨hF.all,ct⟩ hd fun i h1 _=> ?_)).mono ?_
 .have h1:64<=i:=h1;cases CI:F i with
  |none=>rfl
  |some x=>exact absurd (hF.pF i x CI) ω
 .rintro e w2 ⟨x,ρ,rfl,r1,r2,r3⟩;have hb:=r3.below hH;have hfz:∀b A,ρ.fz b=some A->F.fz b=some A\/w.heap.size<=b:=fun b A hb=>by
   rcases r3.mX b A hb with h|h|⟨i,k,c,h,_⟩
   .exact .inl h
   .exact .inr h
   .rw [show H0.get i=none from au.get_nil i]at h;cases h
  refine⟨x,CG fresh w.heap.size w2 F,rfl,Fz r2 hfz hr r1,⟨hF.pF,hF.all,fun b A hb'=> ?_⟩,fun b A hb'=> ?_,hb⟩
  .have hb':(if w.heap.size<=b then kn w2 b else if fresh then none else F.fz b)=some A:=hb';by_cases h0:w.heap.size<=b
   .rw [if_pos h0]at hb';exact n8.1 hb'
   .rw [if_neg h0]at hb';cases hfr:fresh with
    |true=>rw [hfr]at hb';cases hb'
    |false=>
     rw [hfr]at hb';obtain⟨e,fr,h3⟩:=hF.fz b A hb';exact⟨e,fr,(hb.block b ω).trans h3⟩
  .have hb':(if w.heap.size<=b then kn w2 b else if fresh then none else F.fz b)=some A:=hb';by_cases h0:w.heap.size<=b
   .exact .inr h0
   .rw [if_neg h0]at hb';cases hfr:fresh with
    |true=>rw [hfr]at hb';cases hb'
    |false=>rw [hfr]at hb';exact .inl ⟨rfl,hb'⟩
end
end Go.Proofs.YtibikmmdbdlafaaGreatDoor
