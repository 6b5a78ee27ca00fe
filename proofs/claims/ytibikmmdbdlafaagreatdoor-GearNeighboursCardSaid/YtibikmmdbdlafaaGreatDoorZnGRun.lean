import Derived.Test.YtibikmmdbdlafaaGreatDoorZnVMk
set_option linter.defProp false
set_option linter.unusedSectionVars false
set_option linter.unusedSimpArgs false
set_option linter.unusedVariables false
set_option maxRecDepth 100000
namespace Go.Proofs.YtibikmmdbdlafaaGreatDoor
open Go.RowKit Sv Go.Proofs.Tryz
noncomputable section
def Vl:=k_a f80
def Vm:=k_a f79
def Vn:=k_a f57
def Nt:=k_a f124
def Vo:=k_a f63
def Vp:=k_a f152
def Hi:=k_a f58
def Vq:=k_a f56
def Vr:=k_a f125
def Vs:=k_a f92
def Vt:=k_a f149
def sO:=a7 [ym,wg,DC,yl,we,AI,GS]
def ir (a:bO):Bool:=iF a.2&&(a.2.1==1)
def alp (n:Int):
  aV sO (fl Vl []) 9 5 [iv n] 1 f80 false (aB (n,[])):=
 wy [] 0
def alq (a:bO) (h1:a.2.2.isEmpty=true):
  aV sO (fl Nt []) 9 13 [bN a] 63 f124 true (bv (a.2.1==1)):=
 wy [aa (aL (aL (h1))),aa (aL (h1))] 33820737
def alr (a:bO) (h1:a.2.2.isEmpty=false):
  aV sO (fl Nt []) 9 13 [bN a] 32 f124 true (bv false):=
 wy [aa (aL (aL (h1))),aa (aL (h1))] 33820737
def als (a:bO) (h1:(ay a.1)=true):
  aV sO (fl Vo []) 9 6 [bN a] 1 f63 true (iv (gP a.1)):=
 wy [aa h1] 1
def alu (a:bO) (h1:(ay a.1)=true):
  aV sO (fl Vp []) 9 9 [bN a] 1 f152 false (bN (e8 a.1,a.2)):=
 wy [aa (aD (v:=aB a.1)),aa h1,aa (aD (v:=aB a.2))] 798849
def alv (a b:bO) (h1:(ay a.1&&ay b.1)=true) (h2:(ay a.2&&ay b.2)=true) (h3:(fI (ba a.1 b.1) (ba a.2 b.2))=true):
  aV sO (fl Vq []) 9 16 [bN a,bN b] 1 f56 false (bN (dF (ba a.1 b.1) (ba a.2 b.2))):=
 wy [aa (aD (v:=aB a.1)),aa (aD (v:=aB b.1)),aa h1,aa (aD (v:=aB a.2)),aa (aD (v:=aB b.2)),aa h2,aa h3] 1997062150303873
def alw (a:bO) (h1:(fI a.2 a.1)=true):
  aV sO (fl Vr []) 9 8 [bN a] 1 f125 false (bN (dF a.2 a.1)):=
 wy [aa h1] 1
def alx (a b:bO) (h1:(ay a.1&&ay b.2)=true) (h2:(ay b.1&&ay a.2)=true) (h3:(aZ 50000 (ba a.1 b.2)&&aZ 50000 (ba b.1 a.2))=true):
  aV sO (fl Vs []) 9 16 [bN a,bN b] 1 f92 true (iv (fp (ba a.1 b.2) (ba b.1 a.2))):=
 wy [aa (aD (v:=aB a.1)),aa (aD (v:=aB b.2)),aa h1,aa (aD (v:=aB b.1)),aa (aD (v:=aB a.2)),aa h2,aa h3] 1997062150303873
def aly (a:bO) (h1:(pj a.1 a.2)=true):
  aV sO (fl Vt []) 9 14 [bN a] 1 f149 false (aB (ei a.1 a.2)):=
 wy [aa h1] 1
def okQ (n:Nat) (q:bO):Bool:=aZ n q.1&&(aZ n q.2&&decide (0<aj q.2))
def aT (n:Int):Int×List Int:=(n,[])
def jO (n:aC):(Int×List Int)×(Int×List Int):=(n,(1,[]))
noncomputable def yS (a:bO):(Int×List Int)×(Int×List Int):=(e8 a.1,a.2)
noncomputable def Ip (a b:bO):(Int×List Int)×(Int×List Int):=dF (ba a.1 b.1) (ba a.2 b.2)
noncomputable def DE (a:bO):(Int×List Int)×(Int×List Int):=dF a.2 a.1
noncomputable def lA (a b:bO):Int:=fp (ba a.1 b.2) (ba b.1 a.2)
noncomputable def zF (a b:bO):(Int×List Int)×(Int×List Int):=if ir a&&ir b then(cw a.1 b.1,(1,[]))else dF (cw (ba a.1 b.2) (ba b.1 a.2)) (ba a.2 b.2)
def q6:=IN 80 [.int .i64] [dL] false (fun d=>true) fun d=>(aT d.1,())
def Hj:=IN 79 [dL] [gi] false (fun d=>true) fun d=>(jO d.1,())
def Vu:=IN 57 [.int .i64] [gi] false (fun d=>true) fun d=>(jO (aT d.1),())
def Hl:=IN 124 [gi] [.bool] true (fun d=>true) fun d=>(ir d.1,())
def Vv:=IN 63 [gi] [.int .i64] true (fun d=>ay d.1.1) fun d=>(gP d.1.1,())
def Nu:=IN 152 [gi] [gi] false (fun d=>ay d.1.1) fun d=>(yS d.1,())
def Nv:=IN 56 [gi,gi] [gi] false (fun d=>okQ 20000 d.1&&okQ 20000 d.2.1) fun d=>(Ip d.1 d.2.1,())
def Nw:=IN 125 [gi] [gi] false (fun d=>fI d.1.2 d.1.1) fun d=>(DE d.1,())
def DF:=IN 92 [gi,gi] [.int .i64] true (fun d=>okQ 20000 d.1&&okQ 20000 d.2.1) fun d=>(lA d.1 d.2.1,())
def Nx:=IN 149 [gi] [dL] false (fun d=>pj d.1.1 d.1.2) fun d=>(ei d.1.1 d.1.2,())
def Ny:=IN 58 [gi,gi] [gi] false (fun d=>okQ 20000 d.1&&okQ 20000 d.2.1) fun d=>(zF d.1 d.2.1,())
def DG:=a7 [q6,Hj,Hl,ym,wg,DC]
def alz (n:Int) (h1:(jO (aT n)).1.1=(n)) (h2:(jO (aT n)).1.2=(vT)) (h3:(jO (aT n)).2.1=(1)) (h4:(jO (aT n)).2.2=(vT)):
  aV DG (fl Vn []) 9 6 [iv n] 1 f57 false (bN ((n,[]),(1,[]))):=
 wy [ax h1,ax h2,ax h3,ax h4] 4345827328
def alA (a b:bO) (h1:(ir a)=true) (h2:(ir b)=true) (h3:(ay a.1&&ay b.1)=true) (h4:(jO (cw a.1 b.1)).1.1=(cw a.1 b.1).1) (h5:(jO (cw a.1 b.1)).1.2=(cw a.1 b.1).2) (h6:(jO (cw a.1 b.1)).2.1=(1)) (h7:(jO (cw a.1 b.1)).2.2=(vT)):
  aV DG (fl Hi []) 9 34 [bN a,bN b] 31 f58 false (bN (cw a.1 b.1,(1,[]))):=
 wy [aa (aL (h1)),aa h1,aa h2,aa h3,ax h4,ax h5,ax h6,ax h7] 598475754935026716736
def alB (a b:bO) (h1:(ir a)=true) (h2:(ir b)=false) (h3:(ay a.1&&ay b.2)=true) (h4:(ay b.1&&ay a.2)=true) (h5:(ay (ba a.1 b.2)&&ay (ba b.1 a.2))=true) (h6:(ay a.2&&ay b.2)=true) (h7:(fI (cw (ba a.1 b.2) (ba b.1 a.2)) (ba a.2 b.2))=true):
  aV DG (fl Hi []) 9 34 [bN a,bN b] 23 f58 false (bN (dF (cw (ba a.1 b.2) (ba b.1 a.2)) (ba a.2 b.2))):=
 wy [aa (aL (h1)),aa h1,aa h2,aa (aD (v:=aB a.1)),aa (aD (v:=aB b.2)),aa h3,aa (aD (v:=aB b.1)),aa (aD (v:=aB a.2)),aa h4,aa h5,aa h6,aa h7] 271469537658300528069794124337656264073941056
def alC (a b:bO) (h1:(ir a)=false) (h2:(ay a.1&&ay b.2)=true) (h3:(ay b.1&&ay a.2)=true) (h4:(ay (ba a.1 b.2)&&ay (ba b.1 a.2))=true) (h5:(ay a.2&&ay b.2)=true) (h6:(fI (cw (ba a.1 b.2) (ba b.1 a.2)) (ba a.2 b.2))=true):
  aV DG (fl Hi []) 9 34 [bN a,bN b] 16 f58 false (bN (dF (cw (ba a.1 b.2) (ba b.1 a.2)) (ba a.2 b.2))):=
 wy [aa (aL (h1)),aa h1,aa (aD (v:=aB a.1)),aa (aD (v:=aB b.2)),aa h2,aa (aD (v:=aB b.1)),aa (aD (v:=aB a.2)),aa h3,aa h4,aa h5,aa h6] 3887731443394586653605839251940190814998592
def uJ:bD prog (bF sO):=cN (aQ kd (aQ yt (aQ Hf (aQ AH (aQ yq (aQ De (aQ MR dW)))))))
def fi {n:Nat} {q:bO}:okQ n q=true↔aZ n q.1=true/\aZ n q.2=true/\0<aj q.2:=by
 unfold okQ;simp only [ae,bE]
def Bf.ok {n:Nat} {q:bO} {x y:Int} (h:Bf n q x y):okQ n q=true:=fi.2 ⟨h.o1,h.o2,h.pos⟩
def nM {n m:Nat} {a b:aC} (h:aZ n a=true) (g:aZ m b=true) (hn:1<=n) (hm:1<=m):aZ (n+m) (ba a b)=true:=by
 have h1:=iY h hn;have h2:=iY g hm;refine(jJ ?_).1;rw [Int.natAbs_mul,Int.natCast_mul,Int.pow_add];have p:=dK (b:=18446744073709551616) (by decide) n;generalize (18446744073709551616:Int)^n=P at*;generalize (18446744073709551616:Int)^m=Q at*;have e1:=ar (show((aj a).natAbs:Int)<=P by omega) (show(0:Int)<=((aj b).natAbs:Int) by omega);have e2:=Int.mul_lt_mul_of_pos_left h2 (show 0<P by omega);omega
def Nz {n:Nat} {a b:aC} (h:aZ n a=true) (g:aZ n b=true) (hn:1<=n):aZ (n+1) (cw a b)=true:=by
 have h1:=iY h hn;have h2:=iY g hn;refine uq ?_;rw [Int.pow_succ];have p:=dK (b:=18446744073709551616) (by decide) n;generalize (18446744073709551616:Int)^n=P at*;omega
def NA {x y:Int} (hx:0<x) (hy:0<y):0<x*y:=Int.mul_pos hx hy
def alD (n:Int):Holds prog false 80 [iv n] (aB (aT n)):=by
 refine bL (c:=Vl) func80 rfl rfl fun w F=> ?_
 exact aY uJ 9 (alp n)
def lc:q6.Ok prog:=fun⟨n,_⟩ h=>alD n
def alE (a:bO):Holds prog true 124 [bN a] (bv (ir a)):=by
 refine bL (c:=Nt) func124 rfl rfl fun w F=> ?_
 cases he:a.2.2.isEmpty with
 |true=>
  have e:ir a=(a.2.1==1):=by unfold ir;rw [show iF a.2=true from he];rfl
  rw [e];exact aY uJ 9 (alq a he)
 |false=>
  have e:ir a=false:=by unfold ir;rw [show iF a.2=false from he];rfl
  rw [e];exact aY uJ 9 (alr a he)
def NB:Hl.Ok prog:=fun⟨a,_⟩ h=>alE a
def alF (a:bO) (h:ay a.1=true):Holds prog true 63 [bN a] (iv (gP a.1)):=by
 refine bL (c:=Vo) func63 rfl rfl fun w F=> ?_
 exact aY uJ 9 (als a h)
def alG:Vv.Ok prog:=fun⟨a,_⟩ h=>alF a h
def alH (a:bO) (h:ay a.1=true):Holds prog false 152 [bN a] (bN (yS a)):=by
 refine bL (c:=Vp) func152 rfl rfl fun w F=> ?_
 exact aY uJ 9 (alu a h)
def Vw:Nu.Ok prog:=fun⟨a,_⟩ h=>alH a h
def mW {a b:aC} (h:ay a=true) (g:ay b=true):(ay a&&ay b)=true:=by rw [h,g];rfl
def alI (a b:bO) (h:okQ 20000 a=true) (g:okQ 20000 b=true):Holds prog false 56 [bN a,bN b] (bN (Ip a b)):=by
 obtain⟨h1,h2,h3⟩:=fi.1 h;obtain⟨g1,g2,g3⟩:=fi.1 g;have m:= @bc 20000 100000;have m2:= @bc (20000+20000) 100000;refine bL (c:=Vq) func56 rfl rfl fun w F=> ?_
 exact aW.ret known mixed uJ 9 _ (alv a b (mW (m (by decide) h1) (m (by decide) g1)) (mW (m (by decide) h2) (m (by decide) g2))
  (yI.2 ⟨m2 (by decide) (nM h1 g1 (by decide) (by decide)),m2 (by decide) (nM h2 g2 (by decide) (by decide)),by
    have:=NA h3 g3;show aj (ba a.2 b.2)≠0;rw [lY];omega⟩)) fun T H h=>h
def Vx:Nv.Ok prog:=fun⟨a,b,_⟩ h=>by
 have h:(okQ 20000 a&&okQ 20000 b)=true:=h;rw [ae]at h;exact alI a b h.1 h.2
def alJ (a:bO) (h:fI a.2 a.1=true):Holds prog false 125 [bN a] (bN (DE a)):=by
 refine bL (c:=Vr) func125 rfl rfl fun w F=> ?_
 exact aY uJ 9 (alw a h)
def Vy:Nw.Ok prog:=fun⟨a,_⟩ h=>alJ a h
def alK {a b:aC} (h:aZ 50000 a=true) (g:aZ 50000 b=true):(aZ 50000 a&&aZ 50000 b)=true:=by rw [h,g];rfl
def alL (a b:bO) (h:okQ 20000 a=true) (g:okQ 20000 b=true):Holds prog true 92 [bN a,bN b] (iv (lA a b)):=by
 obtain⟨h1,h2,h3⟩:=fi.1 h;obtain⟨g1,g2,g3⟩:=fi.1 g;have m:= @bc 20000 100000;have m2:= @bc (20000+20000) 50000;refine bL (c:=Vs) func92 rfl rfl fun w F=> ?_
 exact aW.ret known mixed uJ 9 _ (alx a b (mW (m (by decide) h1) (m (by decide) g2)) (mW (m (by decide) g1) (m (by decide) h2))
  (alK (m2 (by decide) (nM h1 g2 (by decide) (by decide))) (m2 (by decide) (nM g1 h2 (by decide) (by decide))))) fun T H h=>h
def Ho:DF.Ok prog:=fun⟨a,b,_⟩ h=>by
 have h:(okQ 20000 a&&okQ 20000 b)=true:=h;rw [ae]at h;exact alL a b h.1 h.2
def alM (a:bO) (h:pj a.1 a.2=true):Holds prog false 149 [bN a] (aB (ei a.1 a.2)):=by
 refine bL (c:=Vt) func149 rfl rfl fun w F=> ?_
 exact aY uJ 9 (aly a h)
def Vz:Nx.Ok prog:=fun⟨a,_⟩ h=>alM a h
def alN (n:aC) (h1:n.1=(jO n).1.1) (h2:n.2=(jO n).1.2) (h3:(aT 1).1=(jO n).2.1) (h4:(aT 1).2=(jO n).2.2):
  aV (a7 [q6]) (fl Vm []) 9 6 [aB n] 1 f79 false (bN (jO n)):=
 wy [aa (aD (v:=aB n)),ax h1,ax h2,ax h3,ax h4] 347943211009
def alO:bD prog (bF (a7 [q6])):=cN (aQ lc dW)
def alP (n:aC):Holds prog false 79 [aB n] (bN (jO n)):=by
 refine bL (c:=Vm) func79 rfl rfl fun w F=> ?_
 exact aY alO 9 (alN n rfl rfl rfl rfl)
def NC:Hj.Ok prog:=fun⟨n,_⟩ h=>alP n
def VA:bD prog (bF DG):=cN (aQ lc (aQ NC (aQ NB (aQ kd (aQ yt (aQ Hf dW))))))
def alQ (n:Int):Holds prog false 57 [iv n] (bN (jO (aT n))):=by
 refine bL (c:=Vn) func57 rfl rfl fun w F=> ?_
 exact aY VA 9 (alz n rfl rfl rfl rfl)
def alR:Vu.Ok prog:=fun⟨n,_⟩ h=>alQ n
def alS (a b:bO) (h:okQ 20000 a=true) (g:okQ 20000 b=true):Holds prog false 58 [bN a,bN b] (bN (zF a b)):=by
 obtain⟨h1,h2,h3⟩:=fi.1 h;obtain⟨g1,g2,g3⟩:=fi.1 g;have hS:=VA;have m:= @bc 20000 100000;have m2:= @bc (20000+20000) 100000;have m3:= @bc (20000+20000+1) 100000;have p1:=mW (m (by decide) h1) (m (by decide) g1);have p2:=mW (m (by decide) h1) (m (by decide) g2);have p3:=mW (m (by decide) g1) (m (by decide) h2);have dM:=mW (m (by decide) h2) (m (by decide) g2);have o1:=nM h1 g2 (by decide) (by decide);have o2:=nM g1 h2 (by decide) (by decide);have kX:=mW (m2 (by decide) o1) (m2 (by decide) o2);have pH:fI (cw (ba a.1 b.2) (ba b.1 a.2)) (ba a.2 b.2)=true:=yI.2 ⟨m3 (by decide) (Nz o1 o2 (by decide)),m2 (by decide) (nM h2 g2 (by decide) (by decide)),by
   have:=NA h3 g3;rw [lY];omega⟩
 refine bL (c:=Hi) func58 rfl rfl fun w F=> ?_
 unfold zF;by_cases hw:ir a=true
 .by_cases lZ:ir b=true
  .rw [if_pos (by rw [hw,lZ];rfl)];exact aY hS 9 (alA a b hw lZ p1 rfl rfl rfl rfl)
  .rw [if_neg (by rw [hw];simpa using lZ)];exact aY hS 9 (alB a b hw (by simpa using lZ) p2 p3 kX dM pH)
 .rw [if_neg (by simp [hw])];exact aY hS 9 (alC a b (by simpa using hw) p2 p3 kX dM pH)
def VB:Ny.Ok prog:=fun⟨a,b,_⟩ h=>by
 have h:(okQ 20000 a&&okQ 20000 b)=true:=h;rw [ae]at h;exact alS a b h.1 h.2
structure QR (n:Nat) (q:bO) (r:Rat):Prop where
 o1:aZ n q.1=true
 o2:aZ n q.2=true
 num:aj q.1=r.num
 den:aj q.2=r.den
def QR.ok {n:Nat} {q:bO} {r:Rat} (h:QR n q r):okQ n q=true:=fi.2 ⟨h.o1,h.o2,by rw [h.den];have:=r.den_pos;omega⟩
def QR.mono {n m:Nat} {q:bO} {r:Rat} (h:QR n q r) (hnm:n<=m):QR m q r:=⟨bc hnm h.o1,bc hnm h.o2,h.num,h.den⟩
def Bf.qr {n:Nat} {q:bO} {x y:Int} (h:Bf n q x y) (hy:y≠0):QR n q (Rat.divInt x y):=by
 have hd:((Rat.divInt x y).den:Int)≠0:=by have:=(Rat.divInt x y).den_pos;omega
 have e:(Rat.divInt x y).num*y=x*((Rat.divInt x y).den:Int):=(Rat.divInt_eq_divInt_iff hd hy).1 (Rat.num_divInt_den _);have g:Int.gcd (Rat.divInt x y).num ((Rat.divInt x y).den:Int)=1:=(Rat.divInt x y).reduced;have e2:aj q.1*((Rat.divInt x y).den:Int)=(Rat.divInt x y).num*aj q.2:=by
  have h1:=h.val;refine Int.eq_of_mul_eq_mul_right hy ?_;generalize (Rat.divInt x y).num=N at*;generalize ((Rat.divInt x y).den:Int)=D at*;grind
 obtain⟨h1,h2⟩:=Vk h.pos (by omega) h.low g e2;exact⟨h.o1,h.o2,h1,h2⟩
def QR.self {n:Nat} {q:bO} {r:Rat} (h:QR n q r):Rat.divInt (aj q.1) (aj q.2)=r:=by
 rw [h.num,h.den];exact Rat.num_divInt_den _
def QR.pos {n:Nat} {q:bO} {r:Rat} (h:QR n q r):0<aj q.2:=(fi.1 h.ok).2.2
def VC {n:Nat} {a:aC} (h:aZ n a=true):QR n (jO a) (aj a:Rat):=by
 refine⟨h, ?_,rfl,rfl⟩;exact(oA (n:=n) (a:=(1,[])) rfl).trans (by decide)
def VD {n:Nat} {a:bO} {r:Rat} (h:QR n a r) (hw:ir a=true):r=(aj a.1:Rat):=by
 unfold ir at hw;rw [ae]at hw;have hv:aj a.2=1:=by unfold aj;rw [if_pos (Vi.1 hw.1)];simpa using hw.2
 have hd:=h.den;refine Rat.ext ?_ ?_
 .rw [h.num];rfl
 .show r.den=1;omega
def alT {n:Nat} {a b:bO} {r s:Rat} (h:QR n a r) (g:QR n b s) (hn:1<=n):QR (n+n+1) (zF a b) (r+s):=by
 unfold zF;split
 .rename_i hw;rw [ae]at hw;have:=VC (Nz h.o1 g.o1 hn);rw [sg,Rat.intCast_add,<-VD h hw.1,<-VD g hw.2]at this;exact this.mono (by omega)
 .have p:=NA h.pos g.pos;have:=(DD (Nz (nM h.o1 g.o2 hn hn) (nM g.o1 h.o2 hn hn) (by omega)) (bc (Nat.le_succ _) (nM h.o2 g.o2 hn hn)) (by omega) (by rw [lY];omega)).qr (by rw [lY];omega);rw [sg,lY,lY,lY,<-Rat.divInt_add_divInt _ _ (by have:=h.pos;omega) (by have:=g.pos;omega),h.self,g.self]at this;exact this
def alU {n:Nat} {a:bO} {r:Rat} (h:QR n a r) (hn:1<=n):QR n (yS a) (-r):=
 ⟨oC h.o1 hn,h.o2,by show aj (e8 a.1)=_;rw [nG,h.num];rfl,h.den⟩
def Hp {r:Rat}:r.num<0↔r<0:=by
 rw [<-Int.not_le,<-Rat.not_le,Rat.num_nonneg]
def uK:=k_a f175
def yT:=a7 [q6,ym]
def l7 (a o:aC) (k:Int):bI:={n:=23,sl:=[(1,iv k),(2, .ptr 64 0),(4, .ptr 65 0),(5, .ptr 66 0)],bH:=[(64,eW a),(65,b0),(66,eW o)],next:=67}
def alV (a:aC) (k:Int) (h1:(aT 1).1=(1)) (h2:(aT 1).2=(vT)):
  c7 yT (fl uK []) 2 23 [aB a,iv k] 1 .normal s3 (l7 a (1,[]) k):=
 wy [ax h1,ax h2] 2323857407723175936
section
variable (a o:aC) (k j:Int) (h1:k>0) (h2:IntKind.wrap IntKind.i64 (↑(BitVec.toNat (BitVec.ofInt 64 k &&& BitVec.ofInt 64 1)):Int)=1) (h3:(ay o&&ay a)=true)
def alW (h4:k>1) (h5:(ay a&&ay a)=true) (h6:(Int.fdiv k ((2:Int)^min (Int.toNat 1) 64))=(j)):
  bz yT (fl uK wC) (l7 a o k) 15 .normal s3 (l7 (ba a a) (ba o a) j):=
 wy [ah h1,cM h2,aa h3,ah h4,aa h5,ax h6] 412401807489
def alX (h4:¬k>1) (h5:(Int.fdiv k ((2:Int)^min (Int.toNat 1) 64))=(j)):
  bz yT (fl uK wC) (l7 a o k) 11 .normal s3 (l7 a (ba o a) j):=
 wy [ah h1,cM h2,aa h3,aF h4,ax h5] 5369770113
end
def alY (a o:aC) (k j:Int) (h1:k>0) (h2:¬IntKind.wrap IntKind.i64 (↑(BitVec.toNat (BitVec.ofInt 64 k &&& BitVec.ofInt 64 1)):Int)=1) (h3:k>1) (h4:(ay a&&ay a)=true) (h5:(Int.fdiv k ((2:Int)^min (Int.toNat 1) 64))=(j)):
  bz yT (fl uK wC) (l7 a o k) 13 .normal s3 (l7 (ba a a) o j):=
 wy [ah h1,yn h2,ah h3,aa h4,ax h5] 5369770113
def alZ (a o:aC) (k:Int) (h1:¬k>0):
  bz yT (fl uK wC) (l7 a o k) 2 (.exit 0) s3 (l7 a o k):=
 wy [aF h1] 1
def al0 (a o:aC) (k:Int):
  bS yT ((fl uK []).drop 3) (l7 a o k) 1 f175 false (aB o):=
 wy [] 0
noncomputable def sP (a:aC) (k:Int):Int×List Int:=bf (aj a^k.toNat)
def Bg (a:aC) (k:Int):Bool:=ay a&&(decide (0<=k)&&decide (1+(a.2.length+1)*k.toNat<=100000))
def VE:=IN 175 [dL, .int .i64] [dL] false (fun d=>Bg d.1 d.2.1) fun d=>(sP d.1 d.2.1,())
def al1:bD prog (bF yT):=cN (aQ lc (aQ kd dW))
def VF {m:Nat} (h:m<=100000):IntKind.i64.wrap ↑(BitVec.ofInt 64 (m:Int) &&& BitVec.ofInt 64 1).toNat=((m%2:Nat):Int):=by
 have e:(BitVec.ofInt 64 (m:Int) &&& BitVec.ofInt 64 1).toNat=m%2:=by
  rw [BitVec.toNat_and,BitVec.toNat_ofInt,BitVec.toNat_ofInt,show((m:Int)%(2^64:Nat)).toNat=m by omega];exact Nat.and_one_is_mod m
 rw [e];rcases Nat.mod_two_eq_zero_or_one m with h|h
 .rw [h];rfl
 .rw [h];rfl
def half (m:Nat):Int.fdiv (m:Int) (2^min (Int.toNat 1) 64)=((m/2:Nat):Int):=by
 have e:(2:Int)^min (Int.toNat 1) 64=2:=rfl;rw [e,Int.fdiv_eq_ediv_of_nonneg _ (by decide)];omega
def sq_pow (a:Int):∀j:Nat,(a*a)^j=a^j*a^j
 |0=>by rw [Int.pow_zero,Int.pow_zero,Int.one_mul]
 |j+1=>by rw [Int.pow_succ,Int.pow_succ,sq_pow a j];grind
def pow_even {a:Int} {m:Nat} (h:m%2=0):(a*a)^(m/2)=a^m:=by
 rw [sq_pow,<-Int.pow_add];congr 1;omega
def pow_odd {a:Int} {m:Nat} (h:m%2=1):a*(a*a)^(m/2)=a^m:=by
 obtain⟨j,rfl⟩:∃j,m=2*j+1:=⟨m/2,by omega⟩;rw [show(2*j+1)/2=j by omega,sq_pow,Int.pow_succ,show 2*j=j+j by omega,Int.pow_add,Int.mul_comm]
def Ps {n:Nat} {a:aC} (h:aZ n a=true):aZ (a.2.length+1) a=true:=by
 by_cases hs:a.2=[]
 .rw [oA hs]at h ⊢;exact h
 .obtain⟨h1,h2,h3,h4,h5⟩:=(r9 hs).1 h;exact(r9 hs).2 ⟨h1,h2,h3,h4,by omega⟩
def al2 (a:aC) (k:Nat) (h:ay a=true) (hk:1+(a.2.length+1)*k<=100000):Holds prog false 175 [aB a,iv (k:Int)] (aB (bf (aj a^k))):=by
 have hS:=al1;refine bL (c:=uK) func175 rfl rfl fun w F=> ?_
 refine cR hS 2 (alV a k rfl rfl) ?_;refine aW.loop (ι:={x:(aC×aC)×Nat//x.1.2=bf (aj x.1.2)/\aj x.1.2*aj x.1.1^x.2=aj a^k/\∃p q:Nat,1<=p/\1<=q/\aZ p x.1.1=true/\aZ q x.1.2=true/\q+p*x.2<=100000}) (id:=0) (b:=cat uK wC) (rest:=(fl uK []).drop 3) (by kernel_rfl) (fun x=>l7 x.1.1.1 x.1.1.2 (x.1.2:Int)) (fun x=>x.1.2)
  ⟨((a,(1,[])),k),by
    have v:aj (1,[])=1:=rfl;refine⟨?_, ?_,a.2.length+1,1,by omega,by omega,Ps h, ?_,hk⟩
    .show((1,[]):aC)=bf (aj (1,[]));rw [v];unfold bf;rw [if_pos (by decide)]
    .show aj (1,[])*aj a^k=aj a^k;rw [v,Int.one_mul]
    .exact(oA (n:=1) (a:=(1,[])) rfl).trans (by decide)⟩ (fun _=>rfl) ?_
 rintro⟨⟨⟨x,o⟩,m⟩,ho,hv,p,q,hp,hq,sQ,kB,hm⟩;have ho:o=bf (aj o):=ho;have hv:aj o*aj x^m=aj a^k:=hv;have sQ:aZ p x=true:=sQ;have kB:aZ q o=true:=kB;have hm:q+p*m<=100000:=hm;have hmp:m<=p*m:=Nat.le_mul_of_pos_left m hp;by_cases hz:m=0
 .subst hz;refine bC (s:=l7 x o (0:Nat)) hS (alZ x o (0:Nat) (by decide)) ?_;refine cI (cQ ?_);have e:aj o=aj a^k:=by rw [<-hv];simp
  rw [<-e,<-ho];exact bY (s:=l7 x o (0:Nat)) hS (al0 x o _)
 .have sM:p<=p*m:=Nat.le_mul_of_pos_right p (by omega);have Bh:=bc (show p<=100000 by omega) sQ;have VG:=bc (show q<=100000 by omega) kB;have hlt:m/2<m:=by omega
  have hpos:(m:Int)>0:=by omega
  have vm:=lY;by_cases VH:m%2=1
  .have hb:IntKind.i64.wrap ↑(BitVec.ofInt 64 (m:Int) &&& BitVec.ofInt 64 1).toNat=1:=by rw [VF (by omega),VH];rfl
   by_cases h1:m=1
   .subst h1;refine bC (s:=l7 x o (1:Nat)) hS (alX x o (1:Nat) (0:Nat) hpos hb (mW VG Bh) (by decide) (half 1)) ?_;refine⟨⟨((x,ba o x),0), ?_, ?_,p,q+p,hp,by omega,sQ,nM kB sQ hq hp,by omega⟩,hlt,rfl,rfl⟩
    .show ba o x=bf (aj (ba o x));rw [lY];rfl
    .show aj (ba o x)*aj x^0=_;rw [lY,<-hv,Int.pow_zero,Int.mul_one,Int.pow_succ,Int.pow_zero,Int.one_mul]
   .refine bC (s:=l7 x o (m:Nat)) hS (alW x o (m:Nat) (m/2:Nat) hpos hb (mW VG Bh) (by omega) (mW Bh Bh) (half m)) ?_;refine⟨⟨((ba x x,ba o x),m/2), ?_, ?_,p+p,q+p,by omega,by omega,nM sQ sQ hp hp,nM kB sQ hq hp, ?_⟩,hlt,rfl,rfl⟩
    .show ba o x=bf (aj (ba o x));rw [lY];rfl
    .show aj (ba o x)*aj (ba x x)^(m/2)=_;rw [lY,lY,<-hv,<-pow_odd VH,Int.mul_assoc]
    .show q+p+(p+p)*(m/2)<=100000;obtain⟨j,rfl⟩:∃j,m=2*j+1:=⟨m/2,by omega⟩;rw [show(2*j+1)/2=j by omega];have:p*(2*j+1)=(p+p)*j+p:=by grind
     omega
  .have h0:m%2=0:=by omega
   have hb:¬IntKind.i64.wrap ↑(BitVec.ofInt 64 (m:Int) &&& BitVec.ofInt 64 1).toNat=1:=by rw [VF (by omega),h0];decide
   refine bC (s:=l7 x o (m:Nat)) hS (alY x o (m:Nat) (m/2:Nat) hpos hb (by omega) (mW Bh Bh) (half m)) ?_;refine⟨⟨((ba x x,o),m/2),ho, ?_,p+p,q,by omega,hq,nM sQ sQ hp hp,kB, ?_⟩,hlt,rfl,rfl⟩
   .show aj o*aj (ba x x)^(m/2)=_;rw [lY,<-hv,pow_even h0]
   .show q+(p+p)*(m/2)<=100000;obtain⟨j,rfl⟩:∃j,m=2*j:=⟨m/2,by omega⟩;rw [show(2*j)/2=j by omega];have:p*(2*j)=(p+p)*j:=by grind
    omega
def al3:VE.Ok prog:=fun⟨a,k,_⟩ h=>by
 have h:Bg a k=true:=h;unfold Bg at h;simp only [ae,bE]at h;obtain⟨h1,h2,h3⟩:=h;obtain⟨n,rfl⟩:∃n:Nat,k=(n:Int):=⟨k.toNat,(Int.toNat_of_nonneg h2).symm⟩;exact al2 a n h1 h3
def p0 (s p:AT):Bool:=Lib.hasPrefix s.data.toList p.data.toList
def gf (s p:AT):AT:=⟨(Lib.trimPrefix s.data.toList p.data.toList).toArray⟩
def Bi (s:AT):Bool:=decide (s.size<=18)&&(Lib.atoi s.data.toList).isSome
def wG (s:AT):Int:=(Lib.atoi s.data.toList).getD 0
def VI:=IN 172 [.str, .str] [.bool] true (fun d=>true) fun d=>(p0 d.1 d.2.1,())
def VJ:=IN 173 [.str, .str] [.str] true (fun d=>true) fun d=>(gf d.1 d.2.1,())
noncomputable def ND (args:List af):aE (Option af):=match args with |[.raw (.string s)]=> .must (Bi s) (.ret (some (.tuple [iv (wG s), .raw .nilIface])))|_=> .ret none
noncomputable def VK:rY:={f:=174,res:=ND}
--{
def al4:VI.Ok prog:=fun⟨s,p,_⟩ h w F xs hF cv hd=>by
 cases hd with
 |cons d1 d2=>
  cases d2 with
  |cons d2 d3=>
  cases d3;rw [d1.cc,d2.cc];refine(Tryz.strings_HasPrefix s p w).mono fun e w' ⟨h1,h2⟩=> ?_
  subst h2;exact⟨_,⟨F.at',fun _=>none⟩,h1, .raw _,⟨hF.pJ,hF.all,fun b A h=>by cases h⟩,(fun b A h=>by cases h),Below.refl _ _⟩
def al5:VJ.Ok prog:=fun⟨s,p,_⟩ h w F xs hF cv hd=>by
 cases hd with
 |cons d1 d2=>
  cases d2 with
  |cons d2 d3=>
  cases d3;rw [d1.cc,d2.cc];refine(Tryz.strings_TrimPrefix s p w).mono fun e w' ⟨h1,h2⟩=> ?_
  subst h2;exact⟨_,⟨F.at',fun _=>none⟩,h1, .raw _,⟨hF.pJ,hF.all,fun b A h=>by cases h⟩,(fun b A h=>by cases h),Below.refl _ _⟩
def al6:VK.Ok prog:=by
 intro args v hv w F xs hF cv hd;change (ND args).gr=_ at hv;unfold ND at hv;split at hv
 .rename_i s;unfold aE.gr at hv;cases ho:Bi s with
  |false=>rw [ho]at hv;cases hv
  |true=>
   rw [ho]at hv;cases hv;unfold Bi at ho;rw [ae,bE]at ho;obtain⟨n,hn⟩:=Option.isSome_iff_exists.1 ho.2;cases hd with
   |cons d1 d2=>
   cases d2;rw [d1.cc];refine(Tryz.strconv_Atoi s n ho.1 hn w).mono ?_;rintro e w' ⟨rfl,t,rfl⟩;refine⟨_,rfl, ?_,Joins.below_bytesWorld _ _ _ _ (aK _)⟩;have e:wG s=n:=by unfold wG;rw [hn];rfl
   rw [e];exact .tuple (.cons (.raw _) (.cons (.raw _) .nil))
 .cases hv
--}
def sm:=k_a f122
def Bj:=Aq [VK] (a7 [VI,VJ,q6,VE,ym,wg,yl])
abbrev NF:List Nat:=[1,1,1,1,0,0,0]
def nN (s:AT) (o:aC) (neg:Bool):bI:={n:=41,sl:=[(0,sv s),(2, .ptr 64 0),(3,bv neg),(4, .ptr 65 0)],bH:=[(64,b0),(65,eW o)],next:=66}
abbrev fq:AT:=⟨#[45]⟩
abbrev s2:Sv.Ren:=[(64,64,none),(65,65,none)]
def al7 (s:AT):
  c7 Bj (fl sm []) 4 41 [sv s] 1 .normal s2 (nN (gf s fq) (0,[]) (p0 s fq)):=
 wy [] 0
def al8 (s s':AT) (o o':aC) (neg:Bool) (h1:(s.size:Int)>0) (h2:(Bi (s.extract 0 (if(s.size:Int)<18 then(s.size:Int)else 18).toNat))=true) (h3:(Bg (aT 10) (if(s.size:Int)<18 then(s.size:Int)else 18))=true) (h4:(ay o&&ay (sP (aT 10) (if(s.size:Int)<18 then(s.size:Int)else 18)))=true) (h5:(ay (ba o (sP (aT 10) (if(s.size:Int)<18 then(s.size:Int)else 18)))&&ay (aT (wG (s.extract 0 (if(s.size:Int)<18 then(s.size:Int)else 18).toNat))))=true) (h6:(s.extract (if(s.size:Int)<18 then(s.size:Int)else 18).toNat s.size)=(s')) (h7:(cw (ba o (sP (aT 10) (if(s.size:Int)<18 then(s.size:Int)else 18))) (aT (wG (s.extract 0 (if(s.size:Int)<18 then(s.size:Int)else 18).toNat)))).1=o'.1) (h8:(cw (ba o (sP (aT 10) (if(s.size:Int)<18 then(s.size:Int)else 18))) (aT (wG (s.extract 0 (if(s.size:Int)<18 then(s.size:Int)else 18).toNat)))).2=o'.2):
  bz Bj (fl sm NF) (nN s o neg) 3 .normal s2 (nN s' o' neg):=
 wy [ah h1,ah (by omega:(0:Int)<=if(s.size:Int)<(18:Int)then(s.size:Int)else(18:Int)),ah (by omega:(if(s.size:Int)<(18:Int)then(s.size:Int)else(18:Int)).toNat<=s.size),aa h2,aa (aD (v:=aB o)),aa h3,aa h4,aa h5,ah (by omega:s.size<=s.size),ax h6,ax h7,ax h8] 4241279421303380490363686664233810978930817
section
variable (s:AT) (o:aC) (neg:Bool)
def al9 (h1:¬(s.size:Int)>0):
  bz Bj (fl sm NF) (nN s o neg) 2 (.exit 0) s2 (nN s o neg):=
 wy [aF h1] 1
def ama (h1:(neg)=true) (h2:(ay o)=true):
  bS Bj ((fl sm []).drop 5) (nN s o neg) 3 Tryz.f122 false (aB (e8 o)):=
 wy [aa h1,aa h2] 129
def amb (h1:(neg)=false):
  bS Bj ((fl sm []).drop 5) (nN s o neg) 2 Tryz.f122 false (aB o):=
 wy [aa h1] 1
end
open Lib in
def so (e:Nat):∀(l:List UInt8) (a x:Nat),decFrom a l=some x->decFrom (a+e) l=some (x+e*10^l.length)
 |[],a,x,h=>by cases h;simp [decFrom]
 |b::r,a,x,h=>by
  unfold decFrom at h ⊢;cases hd:digitVal b with
  |none=>rw [hd]at h;cases h
  |some d=>
   rw [hd]at h;have ih:=so (e*10) r _ _ h;show decFrom ((a+e)*10+d) r=_;rw [show(a+e)*10+d=a*10+d+e*10 by omega];rw [ih,List.length_cons,Nat.pow_succ];congr 1;have:e*10*10^r.length=e*(10^r.length*10):=by grind
   omega
open Lib in
def NG:∀(l:List UInt8) (a x:Nat),decFrom a l=some x->a<=x
 |[],a,x,h=>by cases h;omega
 |b::r,a,x,h=>by
  unfold decFrom at h;cases hd:digitVal b with
  |none=>rw [hd]at h;cases h
  |some d=>rw [hd]at h;have:=NG r _ _ h;omega
open Lib in
def VL:∀(C:Nat) (l:List UInt8) (a x:Nat),decFrom a l=some x->C<=l.length->∃v,decFrom 0 (l.take C)=some v/\decFrom (a*10^C+v) (l.drop C)=some x
 |0,l,a,x,h,_=>⟨0,rfl,by simpa using h⟩
 |C+1,[],a,x,h,hc=>by simp at hc
 |C+1,b::r,a,x,h,hc=>by
  unfold decFrom at h;cases hd:digitVal b with
  |none=>rw [hd]at h;cases h
  |some d=>
   rw [hd]at h;obtain⟨v,h1,h2⟩:=VL C r _ x h (by simpa using hc);refine⟨v+d*10^C, ?_, ?_⟩
   .rw [List.take_succ_cons];unfold decFrom;rw [hd];have:=so d _ _ _ h1;rw [eM,Nat.min_eq_left (by simpa using hc),aw]at this;show decFrom (0*10+d) _=_;rw [Nat.zero_mul,aw];exact this
   .rw [List.drop_succ_cons,<-h2];congr 1;rw [Nat.pow_succ];have:(a*10+d)*10^C=a*(10^C*10)+d*10^C:=by grind
    omega
open Lib in
def amc {l:List UInt8} {v:Nat} (h:decFrom 0 l=some v) (hl:l≠[]):atoi l=some (v:Int):=by
 cases l with
 |nil=>exact absurd rfl hl
 |cons b r=>
  have hb:48<=b.toNat:=by
   unfold decFrom at h;cases hd:digitVal b with
   |none=>rw [hd]at h;cases h
   |some d=>unfold digitVal at hd;split at hd
            .omega
            .cases hd
  have n1:(b==45)=false:=by
   rw [eB];intro e;subst e;exact absurd hb (by decide)
  have n2:(b==43)=false:=by
   rw [eB];intro e;subst e;exact absurd hb (by decide)
  rw [show atoi (b::r)=if(b==45)=true then(decNat r).map (fun(m:Nat)=> -(m:Int))else if(b==43)=true then(decNat r).map (fun(m:Nat)=>(m:Int))else(decNat (b::r)).map (fun(m:Nat)=>(m:Int))from rfl,n1,n2];show(decNat (b::r)).map _=_;unfold decNat;rw [show(b::r).isEmpty=false from rfl];simp [h]
def Hq {n x y:Nat} (h:aZ n (bf (y:Int))=true) (hn:1<=n) (hxy:x<=y):aZ n (bf (x:Int))=true:=by
 have h1:=iY h hn;rw [val_mk]at h1;exact(jJ (by omega)).1
def amd {n:Nat} {x v:Nat} (h:aZ n (cw (bf (x:Int)) (aT v))=true):cw (bf (x:Int)) (aT v)=bf ((x+v:Nat):Int):=by
 have e:aj (cw (bf (x:Int)) (aT v))=((x+v:Nat):Int):=by
  rw [sg,val_mk];show(x:Int)+v=_;omega
 have:=Gj h (by rw [e];omega);rw [e]at this;exact this
def ame:bD prog (bF Bj):=SI (fun c hc=>by rw [List.mem_singleton.1 hc];exact al6) (cN fun c hc=>by
 simp only [ew,jU,or_false]at hc;rcases hc with rfl |rfl |rfl |rfl |rfl |rfl |rfl
 .exact al4
 .exact al5
 .exact lc
 .exact al3
 .exact kd
 .exact yt
 .exact AH)
def Hr (s:AT) (n:Nat):(s.extract 0 n).data.toList=s.data.toList.take n:=by
 rw [ByteArray.data_extract,Array.toList_extract];simp [List.extract]
def NH (s:AT) (n:Nat):(s.extract n s.size).data.toList=s.data.toList.drop n:=by
 rw [ByteArray.data_extract,Array.toList_extract];simp only [List.extract];rw [eZ];rw [nU,Array.length_toList];exact aK _
def yU (s:AT):s.size=s.data.toList.length:=by rw [Array.length_toList];rfl
open Lib in
def decFrom_lt:∀(l:List UInt8) (a x:Nat),decFrom a l=some x->x<(a+1)*10^l.length
 |[],a,x,h=>by cases h;simp
 |b::r,a,x,h=>by
  unfold decFrom at h;cases hd:digitVal b with
  |none=>rw [hd]at h;cases h
  |some d=>
   rw [hd]at h;have ih:=decFrom_lt r _ _ h;have au1:d<=9:=by
    unfold digitVal at hd;split at hd
    .cases hd;omega
    .cases hd
   have h1:=Nat.mul_le_mul_right (10^r.length) (show a*10+d+1<=(a+1)*10 by omega);rw [List.length_cons,Nat.pow_succ];have:(a+1)*(10^r.length*10)=(a+1)*10*10^r.length:=by grind
   omega
def amf {n x v:Nat} (h:aZ n (bf ((x+v:Nat):Int))=true) (hn:1<=n):aZ n (cw (bf (x:Int)) (aT v))=true:=uq (by
 have h1:=iY h hn;rw [val_mk]at h1;rw [val_mk];show((((x:Int)+(v:Int)).natAbs:Nat):Int)<_;rw [<-Int.natCast_add];exact h1)
def amg (s:AT) (N:Nat) (hd:Lib.decFrom 0 (gf s fq).data.toList=some N) (hN:ay (bf (N:Int))=true):
  Holds prog false 122 [sv s] (aB (bf (if p0 s fq=true then-(N:Int)else N))):=by
 have hS:=ame;have e0:((0,[]):aC)=bf ((0:Nat):Int):=by unfold bf;rw [if_pos (by decide)];rfl
 have hst:=al7 s;rw [show nN (gf s fq) (0,[]) (p0 s fq)=nN (gf s fq) (bf ((0:Nat):Int)) (p0 s fq) by rw [<-e0]]at hst;refine bL (c:=sm) func122 rfl rfl fun w F=> ?_
 refine cR hS 4 hst ?_;generalize p0 s fq=neg;refine aW.loop (ι:={x:AT×Nat//Lib.decFrom x.2 x.1.data.toList=some N}) (id:=0) (b:=cat sm NF) (rest:=(fl sm []).drop 5) (by kernel_rfl) (fun x=>nN x.1.1 (bf (x.1.2:Int)) neg) (fun x=>x.1.1.size)
  ⟨(gf s fq,0),hd⟩ (fun _=>rfl) ?_
 rintro⟨⟨t,m⟩,hx⟩;have hx:Lib.decFrom m t.data.toList=some N:=hx;have hm:=NG _ _ _ hx;by_cases hz:t.size=0
 .have e:m=N:=by
   have:t.data.toList=[]:=List.eq_nil_of_length_eq_zero (by rw [<-yU];exact hz);rw [this]at hx;cases hx;rfl
  subst e;refine bC (s:=nN t (bf (m:Int)) neg) hS (al9 t (bf (m:Int)) neg (by rw [hz];decide)) ?_;refine cI (cQ ?_);cases neg with
  |true=>
   have e:e8 (bf (m:Int))=bf (-(m:Int)):=by unfold e8;rw [val_mk]
   rw [if_pos rfl,<-e];exact bY (s:=nN t (bf (m:Int)) true) hS (ama t (bf (m:Int)) true rfl hN)
  |false=>
   rw [if_neg (by decide)];exact bY (s:=nN t (bf (m:Int)) false) hS (amb t (bf (m:Int)) false rfl)
 .obtain⟨C,hC⟩:∃C,C=min t.size 18:=⟨_,rfl⟩;have hE:(if(t.size:Int)<18 then(t.size:Int)else 18)=(C:Int):=by split<;>omega
  have au2:1<=C:=by omega
  have amh:C<=18:=by omega
  have VM:C<=t.size:=by omega
  obtain⟨v,hv,iV⟩:=VL C _ _ _ hx (by rw [<-yU];exact VM);have hm2:=NG _ _ _ iV;have hne:(t.extract 0 C).data.toList≠[]:=by
   rw [Hr];intro e;have:=congrArg List.length e;rw [eM,<-yU,List.length_nil]at this;omega
  have ha:Lib.atoi (t.extract 0 C).data.toList=some (v:Int):=amc (by rw [Hr];exact hv) hne;have hok:Bi (t.extract 0 C)=true:=by
   unfold Bi;rw [ha,yU,Hr,eM,az (by omega)];rfl
  have kr:wG (t.extract 0 C)=v:=by unfold wG;rw [ha];rfl
  have key:=al8 t (t.extract C t.size) (bf (m:Int)) (bf ((m*10^C+v:Nat):Int)) neg;rw [hE,Int.toNat_natCast,kr]at key;have hP:sP (aT 10) (C:Int)=bf ((10^C:Nat):Int):=by
   unfold sP;rw [Int.toNat_natCast,Int.natCast_pow];rfl
  have Hs:Bg (aT 10) (C:Int)=true:=by
   unfold Bg;rw [show ay (aT 10)=true from(oA (n:=100000) (a:=(10,[])) rfl).trans (by decide),az (show(0:Int)<=C by omega),az (by rw [Int.toNat_natCast];show 1+(0+1)*C<=100000;omega)];rfl
  have hMul:ba (bf (m:Int)) (bf ((10^C:Nat):Int))=bf ((m*10^C:Nat):Int):=by
   unfold ba;rw [val_mk,val_mk,<-Int.natCast_mul]
  have o1:ay (bf (m:Int))=true:=Hq hN (by decide) hm;have o3:ay (bf ((m*10^C:Nat):Int))=true:=Hq hN (by decide) (by omega);have ami:10^C<=10^18:=Nat.pow_le_pow_right (by decide) amh;have o2:ay (bf ((10^C:Nat):Int))=true:=Hq (y:=10^18) (bc (show 1<=100000 by decide) (jJ (by decide)).1) (by decide) ami;have au3:v<10^C:=by
   have:=decFrom_lt _ _ _ hv;rw [eM,<-yU,Nat.min_eq_left VM,aw,Nat.one_mul]at this;exact this
  have amj:ay (aT v)=true:=(oA (n:=100000) (a:=(v,[])) rfl).trans (qV.2 ⟨by show _<=(v:Int);omega,by show(v:Int)<=_;omega⟩);have amk:ay (bf ((m*10^C+v:Nat):Int))=true:=Hq hN (by decide) hm2;have hAdd:cw (ba (bf (m:Int)) (sP (aT 10) (C:Int))) (aT v)=bf ((m*10^C+v:Nat):Int):=by
   rw [hP,hMul];exact amd (amf amk (by decide))
  refine bC (s:=nN t (bf (m:Int)) neg) hS (key (by omega) hok Hs (mW o1 (by show ay (sP (aT 10) (C:Int))=true;rw [hP];exact o2)) (mW (by show ay (ba (bf (m:Int)) (sP (aT 10) (C:Int)))=true;rw [hP,hMul];exact o3) amj) rfl (congrArg Prod.fst hAdd) (congrArg Prod.snd hAdd)) ?_;refine⟨⟨(t.extract C t.size,m*10^C+v), ?_⟩, ?_,rfl,rfl⟩
  .show Lib.decFrom (m*10^C+v) (t.extract C t.size).data.toList=some N;rw [NH];exact iV
  .show(t.extract C t.size).size<t.size;rw [yU (t.extract C t.size),NH,nU,<-yU];omega
def uL (s:AT):Int:=match Lib.decFrom 0 (gf s fq).data.toList with |some n=>n|none=>0
def Bk (s:AT):Int:=if p0 s fq=true then-uL s else uL s
noncomputable def fV (s:AT):Int×List Int:=bf (Bk s)
noncomputable def jP (s:AT):Bool:=(Lib.decFrom 0 (gf s fq).data.toList).isSome&&ay (bf (uL s))
def NI:=IN 122 [.str] [dL] false (fun d=>jP d.1) fun d=>(fV d.1,())
def VN:NI.Ok prog:=fun⟨s,_⟩ h=>by
 have h:jP s=true:=h;unfold jP at h;rw [ae]at h;obtain⟨N,hN⟩:=Option.isSome_iff_exists.1 h.1;have e:uL s=N:=by unfold uL;rw [hN]
 have e2:fV s=bf (if p0 s fq=true then-(N:Int)else N):=by unfold fV Bk;rw [e]
 show Holds prog false 122 [sv s] (aB (fV s));rw [e2];exact amg s N hN (by rw [<-e];exact h.2)
def jc (s p:AT):AT:=⟨(Lib.cut s.data.toList p.data.toList).1.toArray⟩
def wl (s p:AT):AT:=⟨(Lib.cut s.data.toList p.data.toList).2.1.toArray⟩
def oM (s p:AT):Bool:=(Lib.cut s.data.toList p.data.toList).2.2
def sR (s:AT):Bool:=decide (s.size<4294967281)
def cm (n:Int):AT:=⟨(Lib.itoa n).toArray⟩
def NJ:=IN 118 [.str, .str] [.str, .str, .bool] true (fun d=>sR d.1) fun d=>(jc d.1 d.2.1,wl d.1 d.2.1,oM d.1 d.2.1,())
def VO:=IN 177 [.int .i64] [.str] true (fun d=>ii d.1) fun d=>(cm d.1,())
def aml {B:Nat} {w w':World} (h:Below B w w') (n:Nat):Below B w (w'.drewN n):=⟨h.os,h.tape,h.output,h.size,h.block⟩
def VP (B:Nat) (w:World) (hB:B<=w.heap.size) (k:Nat) (os:Array Obj):Below B w (Sort.grow (w.drewN k) os):=
 ⟨rfl,rfl,rfl,by show w.heap.size<=(w.heap++os).size;rw [Array.size_append];omega,fun j hj=>by
   show(w.heap++os)[j]? =_;rw [Array.getElem?_append_left (by omega)]⟩
def amm {F:Sv.Env} {w:World} (hF:ua w F) (cv:vL F):∃m,w.cell? ⟨0,0,none⟩=some (.int .i64 m):=by
 obtain⟨A,h1,m,h2⟩:=cv 0 _ rfl;obtain⟨e,fr,h3⟩:=hF.fz _ _ h1;subst h2;exact⟨m,by simp [World.cell?,h3]⟩
def VQ {F:Sv.Env} {w:World} (hF:ua w F) (cv:vL F):Lib.TabIs prog w "internal/strconv.uint64pow10" .u64 Lib.pow10Tab:=by
 obtain⟨A,h1,h2⟩:=cv 5 _ rfl;obtain⟨e,fr,h3⟩:=hF.fz _ _ h1;subst h2;unfold Lib.TabIs World.var?;rw [show prog.globalNamed "internal/strconv.uint64pow10" =some 5 by kernel_rfl];show(match w.heap[5]? with |some (.cells cs _ _)=>some cs|_=>none)=_
 rw [h3]
def VR:NJ.Ok prog:=fun⟨s,p,_⟩ h w F xs hF cv hd=>by
 have h:sR s=true:=h;unfold sR at h;rw [bE]at h;obtain⟨m,hm⟩:=amm hF cv;cases hd with
 |cons d1 d2=>
  cases d2 with
  |cons d2 d3=>
  cases d3;rw [d1.cc,d2.cc];refine(Tryz.strings_Cut s p m w h hm).mono ?_;rintro e w' ⟨rfl,n,rfl⟩;have hb:Below w.heap.size w (w.drewN n):=aml (Below.refl _ _) _;exact⟨_,⟨F.at',fun _=>none⟩,rfl, .tuple (.cons (.raw _) (.cons (.raw _) (.cons (.raw _) .nil))),⟨hF.pJ,hF.all,fun b A h=>by cases h⟩,(fun b A h=>by cases h),hb⟩
def amn:VO.Ok prog:=fun⟨n,_⟩ h w F xs hF cv hd=>by
 have h:=qV.1 (show ii n=true from h);cases hd with
 |cons d1 d2=>
  cases d2;rw [d1.cc];refine(Tryz.strconv_Itoa n h.1 h.2 w (VQ hF cv)).mono ?_;rintro e w' ⟨rfl,k,os,rfl⟩;exact⟨_,⟨F.at',fun _=>none⟩,rfl, .raw _,⟨hF.pJ,hF.all,fun b A h=>by cases h⟩,(fun b A h=>by cases h),VP _ _ (aK _) _ _⟩
def NK:=k_a f55
abbrev ki:AT:=⟨#[47]⟩
def NL:=a7 [NJ,NI,Hj]
def dI (s:AT):Bool:=sR s&&(jP (jc s ki)&&(!oM s ki||jP (wl s ki)))
noncomputable def aX (s:AT):(Int×List Int)×(Int×List Int):=if oM s ki=true then(fV (jc s ki),fV (wl s ki))else jO (fV (jc s ki))
def Bl:=IN 55 [.str] [gi] false (fun d=>dI d.1) fun d=>(aX d.1,())
def amo (s:AT) (h1:(sR s)=true) (h2:(oM s (ByteArray.mk #[47]))=false) (h3:(jP (jc s (ByteArray.mk #[47])))=true):
  aV NL (fl NK []) 9 (f55.ntmps) [sv s] 3 f55 false (bN (jO (fV (jc s ki)))):=
 wy [aa h1,aa (cj (h2)),aa h3] 12417
def amq (s:AT) (h1:(sR s)=true) (h2:(oM s (ByteArray.mk #[47]))=true) (h3:(jP (jc s (ByteArray.mk #[47])))=true) (h4:(jP (wl s (ByteArray.mk #[47])))=true):
  aV NL (fl NK []) 9 (f55.ntmps) [sv s] 2 f55 false (bN (fV (jc s ki),fV (wl s ki))):=
 wy [aa h1,aa (cj (h2)),aa h3,aa h4] 1060993
def VS:bD prog (bF NL):=cN (aQ VR (aQ VN (aQ NC dW)))
def amr (s:AT) (h:dI s=true):Holds prog false 55 [sv s] (bN (aX s)):=by
 unfold dI at h;rw [ae,ae]at h;obtain⟨h1,h2,h3⟩:=h;refine bL (c:=NK) func55 rfl rfl fun w F=> ?_
 unfold aX;cases hc:oM s ki with
 |true=>
  rw [if_pos rfl];rw [hc]at h3;exact aY VS 9 (amq s h1 hc h2 h3)
 |false=>
  rw [if_neg (by decide)];exact aY VS 9 (amo s h1 hc h2)
def DH:Bl.Ok prog:=fun⟨s,_⟩ h=>amr s h
def VT:=k_a f91
def VU:=k_a f59
def NM:=a7 [Ny,Nu,DF,Nv,Nw]
def ams (a b:bO) (h1:(ay b.1)=true) (h2:(okQ 20000 a&&okQ 20000 (yS b))=true):
  aV NM (fl VT []) 9 (f91.ntmps) [bN a,bN b] 1 f91 false (bN (zF a (yS b))):=
 wy [aa (aD (v:=bN a)),aa (aD (v:=bN b)),aa h1,aa h2] 67383425
def amt (a b:bO) (h1:(fI b.2 b.1)=true) (h2:(okQ 20000 a&&okQ 20000 (DE b))=true):
  aV NM (fl VU []) 9 (f59.ntmps) [bN a,bN b] 1 f59 false (bN (Ip a (DE b))):=
 wy [aa (aD (v:=bN a)),aa (aD (v:=bN b)),aa h1,aa h2] 67383425
noncomputable def fu (a b:bO):(Int×List Int)×(Int×List Int):=zF a (yS b)
noncomputable def VV (a b:bO):(Int×List Int)×(Int×List Int):=Ip a (DE b)
def NN (a b:bO):Bool:=okQ 20000 a&&(okQ 20000 b&& !(aj b.1==0))
def NP:=IN 91 [gi,gi] [gi] false (fun d=>okQ 20000 d.1&&okQ 20000 d.2.1) fun d=>(fu d.1 d.2.1,())
def VW:=IN 59 [gi,gi] [gi] false (fun d=>NN d.1 d.2.1) fun d=>(VV d.1 d.2.1,())
def VX:bD prog (bF NM):=cN (aQ VB (aQ Vw (aQ Ho (aQ Vx (aQ Vy dW)))))
def amu {n:Nat} {b:bO} (h:okQ n b=true) (hn:1<=n):okQ n (yS b)=true:=by
 obtain⟨h1,h2,h3⟩:=fi.1 h;exact fi.2 ⟨oC h1 hn,h2,h3⟩
def VY {a b:bO} (h:okQ 20000 a=true) (g:okQ 20000 b=true):(okQ 20000 a&&okQ 20000 b)=true:=by rw [h,g];rfl
def amv (a b:bO) (h:okQ 20000 a=true) (g:okQ 20000 b=true):Holds prog false 91 [bN a,bN b] (bN (fu a b)):=by
 refine bL (c:=VT) func91 rfl rfl fun w F=> ?_
 exact aY VX 9 (ams a b (bc (show 20000<=100000 by decide) (fi.1 g).1) (VY h (amu g (by decide))))
def VZ:NP.Ok prog:=fun⟨a,b,_⟩ h=>by
 have h:(okQ 20000 a&&okQ 20000 b)=true:=h;rw [ae]at h;exact amv a b h.1 h.2
def amw (a b:bO) (h:okQ 20000 a=true) (g:okQ 20000 b=true) (hb:aj b.1≠0):Holds prog false 59 [bN a,bN b] (bN (VV a b)):=by
 obtain⟨g1,g2,g3⟩:=fi.1 g;have m:= @bc 20000 100000;refine bL (c:=VU) func59 rfl rfl fun w F=> ?_
 exact aY VX 9 (amt a b (yI.2 ⟨m (by decide) g2,m (by decide) g1,hb⟩) (VY h (DD g2 g1 (by decide) hb).ok))
def amx:VW.Ok prog:=fun⟨a,b,_⟩ h=>by
 have h:NN a b=true:=h;unfold NN at h;simp only [ae,Bool.not_eq_true',eB]at h;exact amw a b h.1 h.2.1 h.2.2
def tk {n:Nat} {a b:bO} {r s:Rat} (h:QR n a r) (g:QR n b s) (hn:1<=n):QR (n+n+1) (fu a b) (r-s):=by
 rw [Rat.sub_eq_add_neg];exact alT h (alU g hn) hn
def V0 {n m:Nat} {a b:bO} {r s:Rat} (h:QR n a r) (g:QR m b s):lA a b=if r<s then-1 else if r=s then 0 else 1:=by
 unfold lA fp jI;rw [lY,lY,h.num,h.den,g.num,g.den];have hl:=Rat.lt_iff r s;have he:r=s↔r.num*s.den=s.num*r.den:=by
  constructor
  .intro e;rw [e]
  .intro e;have h1:Rat.divInt r.num r.den=Rat.divInt s.num s.den:=(Rat.divInt_eq_divInt_iff (by have:=r.den_pos;omega) (by have:=s.den_pos;omega)).2 e;rw [Rat.num_divInt_den,Rat.num_divInt_den]at h1;exact h1
 by_cases h1:r<s
 .have:=hl.1 h1;rw [if_pos h1,if_pos (by omega)]
 .have n1:¬r.num*s.den<s.num*r.den:=fun hh=>h1 (hl.2 hh)
  rw [if_neg h1,if_neg (by omega)];by_cases h2:r=s
  .have:=he.1 h2;rw [if_pos h2,if_pos (by omega)]
  .have n2:¬r.num*s.den=s.num*r.den:=fun hh=>h2 (he.2 hh)
   rw [if_neg h2,if_neg (by omega)]
def NQ:Value->Value->Bool
 | .int k a, .int k' b=>decide (k=k')&&decide (a=b)
 | .bool a, .bool b=>a==b
 | .string a, .string b=>decide (a=b)
 |_,_=>false
def sliceB (fresh:Bool) (H:ai) (i off n:Nat) (z:Bool) (u:av) (ys:List u.den):Bool:=match H.get i with
 |some (.cells _ cs _ _ false)=>(!fresh||u.lS)&&(match u.rD n (cut cs off (n*u.size))with
  |some ds=>av.beq (.list false u) ds ys&&(Nat.ble (off+n*u.size) cs.length&&(!z||Nat.ble 1 n))
  |none=>false)
 |_=>false
def DI (fresh:Bool) (H:ai):af->af->Bool
 | .raw (.slice none 0 0), .bu _ _ ys=>ys.isEmpty
 | .raw a, .raw b=>NQ a b
 | .slice i off n _, .bu z u ys=>sliceB fresh H i off n z u ys
 |_,_=>false
def DJ (fresh:Bool) (H:ai):List af->List af->Bool
 |[],[]=>true
 |v::l,v'::l'=>DI fresh H v v'&&DJ fresh H l l'
 |_,_=>false
def NR (fresh:Bool) (H:ai):af->af->Bool
 | .agg l, .agg l'=>DJ fresh H l l'
 | .tuple l, .tuple l'=>DJ fresh H l l'
 |v,v'=>DI fresh H v v'
def DK (fresh:Bool) (H:ai):List af->List af->Bool
 |[],[]=>true
 |v::l,v'::l'=>NR fresh H v v'&&DK fresh H l l'
 |_,_=>false
def DL (fresh:Bool) (H:ai):af->af->Bool
 | .agg l, .agg l'=>DK fresh H l l'
 | .tuple l, .tuple l'=>DK fresh H l l'
 |v,v'=>DI fresh H v v'
def amy {fresh:Bool} {H:ai} {a b:Value} (h:NQ a b=true):cG fresh H (.raw a) (.raw b):=by
 unfold NQ at h;split at h
 .rename_i k x k' y;rw [ae]at h;have h1:=h.1;have h2:x=y:=ap h.2;unfold cG;show ic (decide (k=k')) (x=y);rw [h1];exact h2
 .rename_i x y;unfold cG;exact eq_of_beq h
 .rename_i x y;have h2:x=y:=ap h;unfold cG;exact h2
 .cases h
def vx {fresh:Bool} {H:ai} {v v':af} (h:DI fresh H v v'=true):cG fresh H v v':=by
 unfold DI at h;split at h
 .rename_i z t ys;unfold cG;exact List.isEmpty_iff.1 h
 .exact amy h
 .rename_i i off n cap z u ys;unfold cG;unfold sliceB at h;split at h
  .rename_i e cs ex fz hg;rw [ae]at h;rw [hg];simp only;rw [show(!fresh||u.lS)=true from h.1];show(match u.rD n (cut cs off (n*u.size))with |some ds=>ds=ys/\_|none=>False)
   cases hr:u.rD n (cut cs off (n*u.size))with
   |none=>rw [hr]at h;cases h.2
   |some ds=>
    rw [hr]at h;have h2:=h.2;simp only [ae]at h2;refine⟨av.zX (.list false u) h2.1, ?_⟩;rw [ae];exact h2.2
  .cases h
 .cases h
def vy {fresh:Bool} {H:ai}:∀{l l':List af},DJ fresh H l l'=true->tZ fresh H l l'
 |[],[],_=>trivial
 |[],_::_,h=>by cases h
 |_::_,[],h=>by cases h
 |v::l,v'::l',h=>by
  unfold DJ at h;rw [ae]at h;exact⟨vx h.1,vy h.2⟩
def amz {fresh:Bool} {H:ai} {v v':af} (h:NR fresh H v v'=true):cG fresh H v v':=by
 unfold NR at h;split at h
 .unfold cG;exact vy h
 .unfold cG;exact vy h
 .exact vx h
def NS {fresh:Bool} {H:ai}:∀{l l':List af},DK fresh H l l'=true->tZ fresh H l l'
 |[],[],_=>trivial
 |[],_::_,h=>by cases h
 |_::_,[],h=>by cases h
 |v::l,v'::l',h=>by
  unfold DK at h;rw [ae]at h;exact⟨amz h.1,NS h.2⟩
def NT {fresh:Bool} {H:ai} {v v':af} (h:DL fresh H v v'=true):cG fresh H v v':=by
 unfold DL at h;split at h
 .unfold cG;exact NS h
 .unfold cG;exact NS h
 .exact vx h
def NU {P:Program} {call:eC} (hc:bD P call) {f:FuncId} {args:List af} {v:af} {H':ai} {fresh:Bool} {res:af} (h:call f args H0= .ok v H') (hr:cG fresh H' v res):Holds P fresh f args res:=by
 intro w F xs hF cv hd;have hH:bk P w.heap.size F H0 w:=⟨fun i k h=>(by rw [show H0.get i=none from au.get_nil i]at h;cases h),fun i j eN e5 b ci cn h=>(by rw [show H0.get i=none from au.get_nil i]at h;cases h),fun i k h=>(by rw [show H0.get i=none from au.get_nil i]at h;cases h),aK _,
  fun b A h=>⟨hF.fz b A h,fun i k c hi=>(by rw [show H0.get i=none from au.get_nil i]at hi;cases hi)⟩⟩
 refine(callsIn_wide.1 (hc.cz f args H0 v H' h w.heap.size F xs w 0 hH ⟨hF.all,cv⟩ hd fun i h1 _=> ?_)).mono ?_
 .have h1:64<=i:=h1;cases CG:F i with
  |none=>rfl
  |some x=>exact absurd (hF.pJ i x CG) (by omega)
 .rintro e w2 ⟨x,ρ,rfl,r1,r2,r3⟩;have hb:=r3.below hH;have hfz:∀b A,ρ.fz b=some A->F.fz b=some A\/w.heap.size<=b:=fun b A hb=>by
   rcases r3.nr b A hb with h|h|⟨i,k,c,h,_⟩
   .exact .inl h
   .exact .inr h
   .rw [show H0.get i=none from au.get_nil i]at h;cases h
  refine⟨x,CF fresh w.heap.size w2 F,rfl,FA r2 hfz hr r1,⟨hF.pJ,hF.all,fun b A hb'=> ?_⟩,fun b A hb'=> ?_,hb⟩
  .have hb':(if w.heap.size<=b then kz w2 b else if fresh then none else F.fz b)=some A:=hb';by_cases h0:w.heap.size<=b
   .rw [if_pos h0]at hb';exact oe.1 hb'
   .rw [if_neg h0]at hb';cases hfr:fresh with
    |true=>rw [hfr]at hb';cases hb'
    |false=>
     rw [hfr]at hb';obtain⟨e,fr,h3⟩:=hF.fz b A hb';exact⟨e,fr,(hb.block b (by omega)).trans h3⟩
  .have hb':(if w.heap.size<=b then kz w2 b else if fresh then none else F.fz b)=some A:=hb';by_cases h0:w.heap.size<=b
   .exact .inr h0
   .rw [if_neg h0]at hb';cases hfr:fresh with
    |true=>rw [hfr]at hb';cases hb'
    |false=>rw [hfr]at hb';exact .inl ⟨rfl,hb'⟩
end
end Go.Proofs.YtibikmmdbdlafaaGreatDoor
