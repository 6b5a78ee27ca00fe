import Derived.Test.YtibikmmdbdlafaaGreatDoorZmGAw2
set_option linter.defProp false
set_option linter.unusedVariables false
set_option linter.unusedSimpArgs false
set_option maxRecDepth 100000
set_option maxHeartbeats 4000000
namespace Go.Proofs.YtibikmmdbdlafaaGreatDoor
open Go.RowKit Sv Go.Proofs.Tryz
noncomputable section
noncomputable def yU:Code:=(f18.body).getD .skip
def Id (t:List (Int×Int)):Bool:=decide (dH t=0)
noncomputable def vi (t:List (Int×Int)):(Int×List Int)×(Int×List Int):=uG t t.length
noncomputable def Xf:bp:={f:=64,ps:=[.list false yB],rs:=[fX],fresh:=false,pre:=fun d=>Id d.1,fn:=fun d=>(vi d.1,())}
abbrev uX:AT:=ByteArray.mk #[]
noncomputable def yV:bI:=aR [W1]
def yW (bad:Int) (want:AT):Int:=if bad=0 then pV want else bad
def oF (h:AT) (e bad:Int) (want:AT):Bool:=if yW bad want=0 then(e==0)&&decide (h=want)else decide (h.size=0)&&(e==yW bad want)
section
variable (l6 want:AT) (e bad:Int)
def aqa (h1:¬bad=0) (h2:(l6.data).toList=((ByteArray.mk #[]).data).toList):
  bu yV (fl yU []) 9 29 [sv l6,iv e,iv bad,sv want] 126 f18 true (bv (e==bad)):=
 wy [yn h1,af (e7.mpr h1),af (aN (ax h2)),ah h2] 4346097793
def aqb (h1:¬bad=0) (h2:¬(l6.data).toList=((ByteArray.mk #[]).data).toList):
  bu yV (fl yU []) 9 29 [sv l6,iv e,iv bad,sv want] 66 f18 true (bv false):=
 wy [yn h1,af (e7.mpr h1),af (aN (ab h2)),aA h2] 4346097793
def aqc (h1:bad=0) (h2:want.size<=1000000000) (h3:¬pV want=0) (h4:(l6.data).toList=((ByteArray.mk #[]).data).toList):
  bu yV (fl yU []) 9 29 [sv l6,iv e,iv bad,sv want] 127 f18 true (bv (e==pV want)):=
 wy [cW h1,ah h2,af (e7.mpr h3),af (aN (ax h4)),ah h4] 347960520833
def aqd (h1:bad=0) (h2:want.size<=1000000000) (h3:¬pV want=0) (h4:¬(l6.data).toList=((ByteArray.mk #[]).data).toList):
  bu yV (fl yU []) 9 29 [sv l6,iv e,iv bad,sv want] 67 f18 true (bv false):=
 wy [cW h1,ah h2,af (e7.mpr h3),af (aN (ab h4)),aA h4] 347960520833
def aqe (h1:bad=0) (h2:want.size<=1000000000) (h3:pV want=0) (h4:e=0):
  bu yV (fl yU []) 9 29 [sv l6,iv e,iv bad,sv want] 125 f18 true (bv (decide (l6.data.toList=want.data.toList))):=
 wy [cW h1,ah h2,af (gu.mpr h3),af (aN (gT.mpr h4)),cW h4] 347960520833
def aqf (h1:bad=0) (h2:want.size<=1000000000) (h3:pV want=0) (h4:¬e=0):
  bu yV (fl yU []) 9 29 [sv l6,iv e,iv bad,sv want] 65 f18 true (bv false):=
 wy [cW h1,ah h2,af (gu.mpr h3),af (aN (fF.mpr h4)),yn h4] 347960520833
end
noncomputable def Xg:bp:={f:=18,ps:=[.str, .int .i64, .int .i64, .str],rs:=[.bool],fresh:=true,pre:=fun d=>decide (d.2.2.2.1.size<=1000000000),fn:=fun d=>(oF d.1 d.2.1 d.2.2.1 d.2.2.2.1,())}
def aqg:Xf.Ok prog:=fun⟨t,_⟩ h=>by
 obtain⟨h1,h2⟩:=Du (ap h);exact alK t h1 h2
def aqh {a b:AT}:a.data.toList=b.data.toList↔a=b:=⟨HA,fun h=>by rw [h]⟩
def HE {s:AT}:s.data.toList=(ByteArray.mk #[]).data.toList↔s.size=0:=by
 rw [c8 s];show ak s=[]↔_;rw [List.length_eq_zero_iff]
def aqi:Xg.Ok prog:=fun⟨h,e,bad,want,_⟩ hp=>by
 have hz:want.size<=1000000000:=ap hp;have hS:bD prog (bG yV):=tV apS;show Holds prog true 18 [sv h,iv e,iv bad,sv want] (bv (oF h e bad want));refine bL (c:=yU) func18 rfl rfl fun w F=> ?_
 unfold oF yW;by_cases hb:bad=0
 .rw [if_pos hb];by_cases hl:pV want=0
  .rw [if_pos hl];by_cases he:e=0
   .have e1:((e==0)&&decide (h=want))=decide (h.data.toList=want.data.toList):=by rw [he];show(true&&_)=_;rw [Bool.true_and];exact decide_eq_decide.2 aqh.symm
    rw [e1];exact bx hS 9 (aqe h want e bad hb hz hl he)
   .have e1:((e==0)&&decide (h=want))=false:=by rw [fF.2 he];rfl
    rw [e1];exact bx hS 9 (aqf h want e bad hb hz hl he)
  .rw [if_neg hl];by_cases h0:h.size=0
   .rw [ax h0,Bool.true_and];exact bx hS 9 (aqc h want e bad hb hz hl (HE.2 h0))
   .rw [ab h0,Bool.false_and];exact bx hS 9 (aqd h want e bad hb hz hl fun g=>h0 (HE.1 g))
 .rw [if_neg hb,if_neg hb];by_cases h0:h.size=0
  .rw [ax h0,Bool.true_and];exact bx hS 9 (aqa h want e bad hb (HE.2 h0))
  .rw [ab h0,Bool.false_and];exact bx hS 9 (aqb h want e bad hb fun g=>h0 (HE.1 g))
end
noncomputable section
noncomputable def wY:Code:=(Tryz.f53.body).getD .skip
noncomputable def yX:Code:=(Tryz.f9.body).getD .skip
noncomputable def q3:Code:=(Tryz.f10.body).getD .skip
noncomputable def yY:Code:=(Tryz.f22.body).getD .skip
abbrev jP (l:List AT):aa:= .bh false .str l
def pW (l:List Int) (k:Nat):bC:={n:=15,sl:=[(5,lv l),(6,iv l.length),(7,iv k)],bF:=[],next:=64}
def aqj (l:List Int):
  cO (aR []) (fl wY []) 2 15 [lv l] 1 .normal [] (pW l 0):=
 wy [] 0
def aqk (l:List Int) (k:Nat) (h1:(k:Int)<(l.length:Int)) (h2:k<l.length) (h3:l.getD k 0=0) (h4:i6 ((k:Int)+1)):
  bg (aR []) (fl wY [1,0,1,0,0]) (pW l k) 5 .normal [] (pW l (k+1)):=
 wy [ah h1,ah h2,af (gu.mpr h3),yi h4] 67903489
def aql (l:List Int) (k:Nat) (h1:(k:Int)<(l.length:Int)) (h2:k<l.length) (h3:¬l.getD k 0=0):
  bH (aR []) (fl wY [1,0,1,0,0]) (pW l k) 7 Tryz.f53 true (iv (l.getD k 0)):=
 wy [ah h1,ah h2,af (e7.mpr h3)] 794625
def aqm (l:List Int) (k:Nat) (h1:¬(k:Int)<(l.length:Int)):
  bg (aR []) (fl wY [1,0,1,0,0]) (pW l k) 2 (.exit 0) [] (pW l k):=
 wy [aA h1] 1
def aqn (l:List Int) (k:Nat):
  bH (aR []) ((fl wY []).drop 3) (pW l k) 1 Tryz.f53 true (iv 0):=
 wy [] 0
noncomputable def Xh:bp:={f:=53,ps:=[.list false (.int .i64)],rs:=[.int .i64],fresh:=true,pre:=fun d=>decide (List.length (α:=Int) d.1<=1000),fn:=fun d=>(c9 d.1,())}
noncomputable def yZ:bI:=aR [N7,Xh,Gk,CY,AG,CZ,L6,Od,Ob]
section
variable (aB rg:Int) (x y:AT)
noncomputable def HF:(Int×List Int)×(Int×List Int):=wD (ji (fB (cq x) (cT (bX aB))) (fB (cq y) (cT (bX rg)))) (cT (bX (aB+rg)))
def aqo (h1:aB<1):
  bu yZ (fl yX []) 3 55 [iv aB,iv rg,sv x,sv y] 1828 Tryz.f9 true (.tuple [sv uX,iv 3]):=
 wy [af (aS (ax h1)),ah h1] 8257
def aqp (h1:¬aB<1) (h2:aB>400):
  bu yZ (fl yX []) 3 55 [iv aB,iv rg,sv x,sv y] 1827 Tryz.f9 true (.tuple [sv uX,iv 3]):=
 wy [af (aS (ab h1)),aA h1,af (aS (ax h2)),ah h2] 4346093633
def aqq (h1:¬aB<1) (h2:¬aB>400) (h3:rg<1):
  bu yZ (fl yX []) 3 55 [iv aB,iv rg,sv x,sv y] 1819 Tryz.f9 true (.tuple [sv uX,iv 3]):=
 wy [af (aS (ab h1)),aA h1,af (aS (ab h2)),aA h2,af (aS (ax h3)),ah h3] 1711188036296769
def aqr (h1:¬aB<1) (h2:¬aB>400) (h3:¬rg<1) (h4:rg>400):
  bu yZ (fl yX []) 3 55 [iv aB,iv rg,sv x,sv y] 1755 Tryz.f9 true (.tuple [sv uX,iv 3]):=
 wy [af (aS (ab h1)),aA h1,af (aS (ab h2)),aA h2,af (aS (ab h3)),aA h3,ah h4] 127811977602670657
def aqs (h1:¬aB<1) (h2:¬aB>400) (h3:¬rg<1) (h4:¬rg>400) (h5:x.size<=1000000000) (h6:y.size<=1000000000) (h7:List.length [ckR x,ckR y]<=1000) (h8:¬c9 [ckR x,ckR y]=0):
  bu yZ (fl yX []) 6 55 [iv aB,iv rg,sv x,sv y] 3291 Tryz.f9 true (.tuple [sv uX,iv (c9 [ckR x,ckR y])]):=
 wy [af (aS (ab h1)),aA h1,af (aS (ab h2)),aA h2,af (aS (ab h3)),aA h3,aA h4,ah h5,ah h6,ah h7,af (e7.mpr h8)] 3372443102739594683883585
def aqt (h1:¬aB<1) (h2:¬aB>400) (h3:¬rg<1) (h4:¬rg>400) (h5:x.size<=1000000000) (h6:y.size<=1000000000) (h7:List.length [ckR x,ckR y]<=1000) (h8:c9 [ckR x,ckR y]=0) (h9:(gg x)=true) (h10:(okQ 20000 (cq x)&&okQ 20000 (cT (bX aB)))=true) (h11:(gg y)=true) (h12:(okQ 20000 (cq y)&&okQ 20000 (cT (bX rg)))=true) (dG:(okQ 20000 (fB (cq x) (cT (bX aB)))&&okQ 20000 (fB (cq y) (cT (bX rg))))=true) (gq:i6 (aB+rg)) (iB:(AM (ji (fB (cq x) (cT (bX aB))) (fB (cq y) (cT (bX rg)))) (cT (bX (aB+rg))))=true) (j3:(bK 28 (wD (ji (fB (cq x) (cT (bX aB))) (fB (cq y) (cT (bX rg)))) (cT (bX (aB+rg)))).1&&bK 28 (wD (ji (fB (cq x) (cT (bX aB))) (fB (cq y) (cT (bX rg)))) (cT (bX (aB+rg)))).2)=true) (uA:(DO 10000 (wD (ji (fB (cq x) (cT (bX aB))) (fB (cq y) (cT (bX rg)))) (cT (bX (aB+rg)))))=true) (uB:(uT (wD (ji (fB (cq x) (cT (bX aB))) (fB (cq y) (cT (bX rg)))) (cT (bX (aB+rg)))))=(uT (HF aB rg x y))):
  bu yZ (fl yX []) 20 55 [iv aB,iv rg,sv x,sv y] 4315 Tryz.f9 true (.tuple [sv (uT (HF aB rg x y)),iv 0]):=
 wy [af (aS (ab h1)),aA h1,af (aS (ab h2)),aA h2,af (aS (ab h3)),aA h3,aA h4,ah h5,ah h6,ah h7,af (gu.mpr h8),af h9,af h10,af h11,af h12,af dG,yi gq,af iB,af j3,af uA,az uB] 124593444570170612262618274149641338372145468416065
end
noncomputable def uY:bI:=aR [VA,N7,Gk,LL,Xf,AG,CZ,CY,Od,Ob]
abbrev DQ:List Nat:=[1,1,1,1,0,1,0,0]
abbrev ef (l:List AT) (k:Nat):AT:=l.getD k ByteArray.empty
abbrev uZ (t:List (Int×Int)) (k:Nat):List (Int×Int):=(t.take t.length).drop ((k:Int)+1).toNat
section
variable (t:List (Int×Int)) (l:List AT)
noncomputable def y4 (q:b5) (k:Nat):(Int×List Int)×(Int×List Int):=ji q (fB (cq (ef l k)) (vi (uZ t k)))
abbrev m64:Sv.Ren:=[(64,64,none)]
def nP (q:b5) (k:Nat):bC:={n:=53,sl:=[(0,pl t),(1,jP l),(7, .ptr 64 0),(22,jP l),(23,iv l.length),(24,iv k)],bF:=[(64,Vc q)],next:=65}
def aqu (h1:¬dH t=0):
  bu uY (fl q3 []) 4 53 [pl t,jP l] 3 Tryz.f10 true (.tuple [sv uX,iv (dH t)]):=
 wy [af (e7.mpr h1)] 64
def aqv (h1:dH t=0) (h2:¬(l.length:Int)=(t.length:Int)):
  bu uY (fl q3 []) 6 53 [pl t,jP l] 6 Tryz.f10 true (.tuple [sv uX,iv 2]):=
 wy [af (gu.mpr h1),af (e7.mpr h2)] 8256
def aqw (h1:dH t=0) (h2:(l.length:Int)=(t.length:Int)):
  cO uY (fl q3 []) 8 53 [pl t,jP l] 4 .normal m64 (nP t l (cT (bX 0)) 0):=
 wy [af (gu.mpr h1),af (gu.mpr h2)] 8256
def Ps (q:b5) (k:Nat) (h1:(k:Int)<(l.length:Int)) (h2:k<l.length) (h3:(l.getD k ByteArray.empty).size<=1000000000) (h4:¬ckR (l.getD k ByteArray.empty)=0):
  bH uY (fl q3 DQ) (nP t l q k) 7 Tryz.f10 true (.tuple [sv uX,iv (ckR (ef l k))]):=
 wy [ah h1,ah h2,ah h3,af (e7.mpr h4)] 67903489
def aqx (q:b5) (k:Nat) (h1:(k:Int)<(l.length:Int)) (h2:k<l.length) (h3:(l.getD k ByteArray.empty).size<=1000000000) (h4:ckR (l.getD k ByteArray.empty)=0) (h5:(gg (l.getD k ByteArray.empty))=true) (h6:(aH (cq (l.getD k ByteArray.empty)).1)=true) (h7:fe (cq (l.getD k ByteArray.empty)).1<0):
  bH uY (fl q3 DQ) (nP t l q k) 13 Tryz.f10 true (.tuple [sv uX,iv 3]):=
 wy [ah h1,ah h2,ah h3,af (gu.mpr h4),af h5,af h6,ah h7] 31204079050753
def aqy (q:b5) (k:Nat) (h1:(k:Int)<(l.length:Int)) (h2:k<l.length) (h3:(l.getD k ByteArray.empty).size<=1000000000) (h4:ckR (l.getD k ByteArray.empty)=0) (h5:(gg (l.getD k ByteArray.empty))=true) (h6:(aH (cq (l.getD k ByteArray.empty)).1)=true) (h7:¬fe (cq (l.getD k ByteArray.empty)).1<0) (h8:i6 ((k:Int)+1)) (h9:((k:Int)+1).toNat<=t.length) (h10:(Id ((t.take t.length).drop ((k:Int)+1).toNat))=true) (h11:(okQ 20000 (cq (l.getD k ByteArray.empty))&&okQ 20000 (vi ((t.take t.length).drop ((k:Int)+1).toNat)))=true) (h12:(okQ 20000 q&&okQ 20000 (fB (cq (l.getD k ByteArray.empty)) (vi ((t.take t.length).drop ((k:Int)+1).toNat))))=true) (dG:(ji q (fB (cq (l.getD k ByteArray.empty)) (vi ((t.take t.length).drop ((k:Int)+1).toNat)))).1.1=(y4 t l q k).1.1) (gq:(ji q (fB (cq (l.getD k ByteArray.empty)) (vi ((t.take t.length).drop ((k:Int)+1).toNat)))).1.2=(y4 t l q k).1.2) (iB:(ji q (fB (cq (l.getD k ByteArray.empty)) (vi ((t.take t.length).drop ((k:Int)+1).toNat)))).2.1=(y4 t l q k).2.1) (j3:(ji q (fB (cq (l.getD k ByteArray.empty)) (vi ((t.take t.length).drop ((k:Int)+1).toNat)))).2.2=(y4 t l q k).2.2):
  bg uY (fl q3 DQ) (nP t l q k) 9 .normal m64 (nP t l (y4 t l q k) (k+1)):=
 wy [ah h1,ah h2,ah h3,af (gu.mpr h4),af h5,af h6,aA h7,af (aV (v:=cc q)),yi h8,ah h9,ah (by omega:t.length<=t.length),af h10,af h11,af h12,az dG,az gq,az iB,az j3] 27998062864433248423236220233256182057079825289639108609
def aqz (q:b5) (k:Nat) (h1:¬(k:Int)<(l.length:Int)):
  bg uY (fl q3 DQ) (nP t l q k) 2 (.exit 0) m64 (nP t l q k):=
 wy [aA h1] 1
def aqA (q:b5) (k:Nat) (h1:(bK 28 q.1&&bK 28 q.2)=true) (h2:(DO 10000 q)=true):
  bH uY ((fl q3 []).drop 9) (nP t l q k) 2 Tryz.f10 true (.tuple [sv (uT q),iv 0]):=
 wy [af h1,af h2] 8193
noncomputable def y5:Code:=(Tryz.f77.body).getD .skip
noncomputable def DR:bI:=aR [Hr,NN]
noncomputable def hO (t:List (Int×Int)):AT:=aU (gS t)
noncomputable def Xi:bp:={f:=77,ps:=[.list false yB],rs:=[.str],fresh:=true,pre:=fun d=>Id d.1,fn:=fun d=>(hO d.1,())}
section
variable (t:List (Int×Int)) (s:AT) (k:Nat)
noncomputable def HG:AT:=aU (toQ s*toQ (aU (Rat.divInt (g0 t k).1 (g0 t k).2)))
def vj:bC:={n:=25,sl:=[(0,pl t),(3,sv s),(4,iv k)],bF:=[],next:=64}
def aqB (t:List (Int×Int)):
  cO DR (fl y5 []) 3 25 [pl t] 1 .normal [] (vj t (ByteArray.mk #[49]) 0):=
 wy [] 0
def aqC (h1:(k:Int)<(t.length:Int)) (h2:k<t.length) (h3:(decide ((-4000000000000000000:av.den (.int .i64))<=(t.getD k (0,0)).1)&&decide ((t.getD k (0,0)).1<=(4000000000000000000:av.den (.int .i64)))&&(decide ((0:av.den (.int .i64))<(t.getD k (0,0)).2)&&decide ((t.getD k (0,0)).2<=(4000000000000000000:av.den (.int .i64)))))=true) (h4:(cU s&&cU (aU (Rat.divInt (t.getD k (0,0)).1 (t.getD k (0,0)).2)))=true) (h5:i6 ((k:Int)+1)) (h6:(aU (Rat.divInt (ptN s) (ptD s)*Rat.divInt (ptN (aU (Rat.divInt (t.getD k (0,0)).1 (t.getD k (0,0)).2))) (ptD (aU (Rat.divInt (t.getD k (0,0)).1 (t.getD k (0,0)).2)))))=(HG t s k)):
  bg DR (fl y5 [1,1,0,1,0,0]) (vj t s k) 3 .normal [] (vj t (HG t s k) (k+1)):=
 wy [ah h1,ah h2,af (aV (v:=iv ((t.getD k ((0:Int),(0:Int))).1))),af (aV (v:=iv ((t.getD k ((0:Int),(0:Int))).2))),af h3,af h4,yi h5,az h6] 590423622265391030273
def aqD (h1:¬(k:Int)<(t.length:Int)):
  bg DR (fl y5 [1,1,0,1,0,0]) (vj t s k) 2 (.exit 0) [] (vj t s k):=
 wy [aA h1] 1
def aqE:
  bH DR ((fl y5 []).drop 4) (vj t s k) 1 Tryz.f77 true (sv s):=
 wy [] 0
end
noncomputable def DS:bI:=aR [Xi,Hr,V9]
abbrev Ov:List Nat:=[1,1,0,1,0,0]
noncomputable def HH (s:AT) (k:Nat):AT:=aU (toQ s+toQ (aU (toQ (ef l k)*toQ (hO (uZ t k)))))
def sQ (s:AT) (k:Nat):bC:={n:=26,sl:=[(0,pl t),(1,jP l),(5,sv s),(6,iv k)],bF:=[],next:=64}
def If:
  cO DS (fl yY []) 3 26 [pl t,jP l] 1 .normal [] (sQ t l (ByteArray.mk #[48]) 0):=
 wy [] 0
def aqF (s:AT) (k:Nat) (h1:(k:Int)<(t.length:Int)) (h2:k<l.length) (h3:i6 ((k:Int)+1)) (h4:((k:Int)+1).toNat<=t.length) (h5:(Id ((t.take t.length).drop ((k:Int)+1).toNat))=true) (h6:(cU (l.getD k ByteArray.empty)&&cU (hO ((t.take t.length).drop ((k:Int)+1).toNat)))=true) (h7:(cU s&&cU (aU (Rat.divInt (ptN (l.getD k ByteArray.empty)) (ptD (l.getD k ByteArray.empty))*Rat.divInt (ptN (hO ((t.take t.length).drop ((k:Int)+1).toNat))) (ptD (hO ((t.take t.length).drop ((k:Int)+1).toNat))))))=true) (h8:(aU (Rat.divInt (ptN s) (ptD s)+Rat.divInt (ptN (aU (Rat.divInt (ptN (l.getD k ByteArray.empty)) (ptD (l.getD k ByteArray.empty))*Rat.divInt (ptN (hO ((t.take t.length).drop ((k:Int)+1).toNat))) (ptD (hO ((t.take t.length).drop ((k:Int)+1).toNat)))))) (ptD (aU (Rat.divInt (ptN (l.getD k ByteArray.empty)) (ptD (l.getD k ByteArray.empty))*Rat.divInt (ptN (hO ((t.take t.length).drop ((k:Int)+1).toNat))) (ptD (hO ((t.take t.length).drop ((k:Int)+1).toNat))))))))=(HH t l s k)):
  bg DS (fl yY Ov) (sQ t l s k) 3 .normal [] (sQ t l (HH t l s k) (k+1)):=
 wy [ah h1,ah h2,af (aV (v:=aa.raw (Value.string (l.getD k ByteArray.empty)))),yi h3,ah h4,ah (by omega:t.length<=t.length),af h5,af h6,af h7,az h8] 12379419955681933170280505345
def aqG (s:AT) (k:Nat) (h1:¬(k:Int)<(t.length:Int)):
  bg DS (fl yY Ov) (sQ t l s k) 2 (.exit 0) [] (sQ t l s k):=
 wy [aA h1] 1
def aqH (s:AT) (k:Nat):
  bH DS ((fl yY []).drop 4) (sQ t l s k) 1 Tryz.f22 true (sv s):=
 wy [] 0
end
end
end Go.Proofs.YtibikmmdbdlafaaGreatDoor
namespace Go.Proofs.YtibikmmdbdlafaaGreatDoor
def kk:List Int->Int×Int
 |[]=>(1,0)
 |n::t=>(n*(kk t).1+(kk t).2,(kk t).1)
def aqI {n:Int} (h:n≠0):(n:Rat)≠0:=by
 intro e;exact h (by exact_mod_cast e)
def aqJ (n:Int):(n:Rat)=Rat.divInt n 1:=by
 rw [Rat.divInt_eq_div];have:((1:Int):Rat)=1:=rfl;rw [this];grind
section
open Go.RowKit Sv Go.Proofs.Tryz
noncomputable section
def Ow:∀(n:Nat) (u:Nat),(Lib.decDigits u).length<=n->u<10^n
 |0,u,h=>by have:=sb u;omega
 |n+1,u,h=>by
  have hp:0<10^n:=Nat.pow_pos (by decide);by_cases hu:u<10
  .rw [Nat.pow_succ];omega
  .rw [lO hu,dU,List.length_singleton]at h;have:=Ow n (u/10) (by omega);rw [Nat.pow_succ];omega
def aqK {r:Rat} {n:Nat} (h:(aU r).size<=n):r.num.natAbs<10^n/\r.den<10^n:=by
 have hb:ak (aU r)=Lib.itoa r.num++(if r.den=1 then []else 47::Lib.decDigits r.den):=by
  unfold aU;by_cases h1:r.den=1
  .rw [if_pos h1,if_pos h1,List.append_nil];exact jH _
  .rw [if_neg h1,if_neg h1,<-Dec.uw]
 rw [c8,hb,dU,A9]at h;have hl:(Lib.decDigits r.num.natAbs).length<=(if decide (r.num<0)then 45::Lib.decDigits r.num.natAbs else Lib.decDigits r.num.natAbs).length:=by split<;>simp
 refine⟨Ow _ _ (by omega), ?_⟩;by_cases h1:r.den=1
 .rw [h1];cases n with
  |zero=>have:=sb r.num.natAbs;omega
  |succ n=>exact Nat.one_lt_pow (by omega) (by decide)
 .rw [if_neg h1,List.length_cons]at h;exact Ow _ _ (by omega)
end
noncomputable section
def nQ (r:Rat):List UInt8:=if r.den=1 then []else 47::Lib.decDigits r.den
def Ox (r:Rat):ak (aU r)=(if decide (r.num<0)then 45::(Lib.decDigits r.num.natAbs++nQ r)else Lib.decDigits r.num.natAbs++nQ r):=by
 have e:ak (aU r)=Lib.itoa r.num++nQ r:=by
  unfold aU nQ;by_cases h1:r.den=1
  .rw [if_pos h1,if_pos h1,List.append_nil];exact jH _
  .rw [if_neg h1,if_neg h1,<-Dec.uw]
 rw [e,A9];by_cases hn:r.num<0
 .rw [ax hn];rfl
 .rw [ab hn];rfl
def aqL {r:Rat} (h:r.num<0):ak (aU r)=45::(Lib.decDigits r.num.natAbs++nQ r):=by rw [Ox,ax h];rfl
def Oy {r:Rat} (h:¬r.num<0):ak (aU r)=Lib.decDigits r.num.natAbs++nQ r:=by rw [Ox,ab h];rfl
def Xj:aU 0=ByteArray.mk #[48]:=by
 refine iW ?_;show ak (aU 0)=_;rw [Oy (by decide)];show Lib.decDigits 0++nQ 0=[48];rw [q2 (by decide)];unfold nQ;rw [if_pos (by decide)];rfl
def aqM (r:Rat):lq (aU r)=if r<0 then-1 else if r=0 then 0 else 1:=by
 by_cases h1:r<0
 .have hn:=Gh.2 h1;have hb:=aqL hn;rw [if_pos h1];unfold lq;have hne:aU r≠ByteArray.mk #[48]:=fun e=>by
   rw [e]at hb;have:(48:UInt8)=45:=(List.cons.inj hb).1;cases this
  rw [if_neg hne,if_pos];refine⟨by rw [c8,hb];simp, ?_⟩;show((ak (aU r)).getD 0 0).toNat=45;rw [hb];rfl
 .rw [if_neg h1];have hn:¬r.num<0:=fun h=>h1 (Gh.1 h)
  by_cases h0:r=0
  .rw [if_pos h0,h0,Xj];unfold lq;rw [if_pos rfl]
  .rw [if_neg h0];have hnz:r.num≠0:=fun e=>h0 (Rat.num_eq_zero.1 e)
   have hb:=Oy hn;have hd:=LE r.num.natAbs;obtain⟨k1,k2⟩:=NR (R:=nQ r) hd (uM r.num.natAbs);unfold lq;have hne:aU r≠ByteArray.mk #[48]:=fun e=>by
    rw [e]at hb;have hb:[48]=Lib.decDigits r.num.natAbs++nQ r:=hb;cases hq:Lib.decDigits r.num.natAbs with
    |nil=>exact hd hq
    |cons b t=>
     rw [hq]at hb;have:=Dec.ahx r.num.natAbs (by omega) b t hq;rw [<-(List.cons.inj hb).1]at this;exact this rfl
   rw [if_neg hne,if_neg];rintro⟨_,hq⟩;have hq:((ak (aU r)).getD 0 0).toNat=45:=hq;rw [hb]at hq;exact k2 hq
attribute [local irreducible] mkR vZ okZ aU jk jM qB ptN ptD okA
end
end
section
open Go.RowKit Sv Go.Proofs.Tryz
noncomputable section
structure gB (N D:Nat) (r:Rat):Prop where
 n:r.num.natAbs<=N
 d:r.den<=D
def HJ {a b:Int} {N D:Nat} (hb:1<=b) (h1:a.natAbs<=N) (h2:b<=(D:Int)):gB N D (Rat.divInt a b):=by
 have hg:0<Int.gcd a b:=Int.gcd_pos_of_ne_zero_right _ (by omega);have m1:=Int.ediv_mul_cancel (show(Int.gcd a b:Int)∣a from Int.gcd_dvd_left ..);have m2:=Int.ediv_mul_cancel (show(Int.gcd a b:Int)∣b from Int.gcd_dvd_right ..);have e:Rat.divInt a b=Rat.divInt (a/(Int.gcd a b:Int)) (b/(Int.gcd a b:Int)):=by
  have e3:Rat.divInt a b=Rat.divInt (a/(Int.gcd a b:Int)*(Int.gcd a b:Int)) (b/(Int.gcd a b:Int)*(Int.gcd a b:Int)):=by rw [m1,m2]
  rw [e3];exact Rat.divInt_mul_right (show(Int.gcd a b:Int)≠0 by omega)
 have h0:0<=b/(Int.gcd a b:Int):=Int.ediv_nonneg (by omega) (by omega);have jw:1<=b/(Int.gcd a b:Int):=by
  by_cases hz:b/(Int.gcd a b:Int)=0
  .rw [hz]at m2;omega
  .omega
 have hc:Int.gcd (a/(Int.gcd a b:Int)) (b/(Int.gcd a b:Int))=1:=by
  have:=Int.gcd_ediv_gcd_ediv_gcd hg;exact this
 obtain⟨c1,c2⟩:=sa jw hc;have l1:(a/(Int.gcd a b:Int)).natAbs<=a.natAbs:=Int.natAbs_ediv_le_natAbs ..;have l2:b/(Int.gcd a b:Int)<=b:=Int.ediv_le_self _ (by omega);rw [e];exact⟨by rw [c1];omega,by omega⟩
def HK {N D M E:Nat} {r s:Rat} (h:gB N D r) (g:gB M E s):gB (N*M) (D*E) (r*s):=by
 have e:r*s=Rat.divInt (r.num*s.num) (r.den*s.den):=by rw [<-Rat.divInt_mul_divInt,Rat.num_divInt_den,Rat.num_divInt_den]
 rw [e];have p:=Nat.mul_le_mul h.n g.n;have q:=Nat.mul_le_mul h.d g.d;have p1:=Nat.mul_pos r.den_pos s.den_pos;refine HJ (by rw [<-Int.natCast_mul];omega) (by rw [Int.natAbs_mul];exact p) (by rw [<-Int.natCast_mul];omega)
def Xk {N D M E:Nat} {r s:Rat} (h:gB N D r) (g:gB M E s):gB (N*E+M*D) (D*E) (r+s):=by
 have e:r+s=Rat.divInt (r.num*s.den+s.num*r.den) (r.den*s.den):=by
  rw [<-Rat.divInt_add_divInt _ _ (by have:=r.den_pos;omega) (by have:=s.den_pos;omega),Rat.num_divInt_den,Rat.num_divInt_den]
 rw [e];have a1:=Nat.mul_le_mul h.n g.d;have a2:=Nat.mul_le_mul g.n h.d;have q:=Nat.mul_le_mul h.d g.d;have p1:=Nat.mul_pos r.den_pos s.den_pos;refine HJ (by rw [<-Int.natCast_mul];omega) ?_ (by rw [<-Int.natCast_mul];omega);have t:=Int.natAbs_add_le (r.num*s.den) (s.num*r.den);rw [Int.natAbs_mul,Int.natAbs_mul,Int.natAbs_natCast,Int.natAbs_natCast]at t;omega
def DT {N D M E:Nat} {r:Rat} (h:gB N D r) (h1:N<=M) (h2:D<=E):gB M E r:=⟨cX h.n h1,cX h.d h2⟩
def Oz {n:Int} {N:Nat} (h:n.natAbs<=N):gB N 1 (n:Rat):=⟨by rw [Rat.num_intCast];exact h,by rw [Rat.den_intCast];exact aG 1⟩
def aqN {n:Int} {N:Nat} (h1:1<=n) (h:n<=(N:Int)):gB 1 N (n:Rat)⁻¹ :=by
 have e:(n:Rat)⁻¹ =Rat.divInt 1 n:=by rw [aqJ,Rat.inv_divInt]
 rw [e];exact HJ h1 (aG 1) h
def q4 {N D k:Nat} {r:Rat} (h:gB N D r) (h1:N<1000000000^k) (h2:D<1000000000^k):sN k r:=by
 have e:((1000000000^k:Nat):Int)=1000000000^k:=by rw [Int.natCast_pow];rfl
 have:=h.n;have:=h.d;exact⟨by rw [<-e];omega,by rw [<-e];omega⟩
def Xl {N D k m:Nat} {q:b5} {r:Rat} (h:gB N D r) (g:QR m q r) (h1:N<18446744073709551616^k) (h2:D<18446744073709551616^k):QR k q r:=by
 have e:((18446744073709551616^k:Nat):Int)=18446744073709551616^k:=by rw [Int.natCast_pow];rfl
 have:=h.n;have:=h.d;exact g.shrink (by rw [<-e];omega) (by rw [<-e];omega)
structure Xm (a:AT) (r:Rat):Prop where
 tx:a=aU r
 b:gB (10^30) (10^30) r
 fr:gg a=true
 qr:QR 2 (cq a) r
 q:toQ a=r
 i:cU a=true
def mr {a:AT} (hs:a.size<=30) (hc:ckR a=0):Xm a (toQ a):=by
 obtain⟨r,k,rfl,_,_⟩:=aps hc;obtain⟨h1,h2⟩:=aqK hs;have b:gB (10^30) (10^30) r:=⟨by omega,by omega⟩;have i:=q4 (k:=4) b (by decide) (by decide);have e2:(18446744073709551616:Int)^2=340282366920938463463374607431768211456:=by decide
 have e3:(10:Nat)^30=1000000000000000000000000000000:=by decide
 rw [e3]at h1 h2;obtain⟨f1,f2⟩:=amR (n:=2) (r:=r) (by decide) (by decide) (kZ (by omega)).1 (kZ (by omega)).1 (by omega);have t:=pT (k:=4) (by decide) i;rw [t];exact⟨rfl,b,f1,f2,t,oE (k:=4) (by decide) i⟩
def aqO (l:List Int) (h:l.length<=1000):Holds prog true 53 [lv l] (iv (c9 l)):=by
 have hS:=bc;refine bL (c:=wY) func53 rfl rfl fun w F=> ?_
 refine cC hS 2 (aqj l) ?_;refine aP.loop (ι:={k:Nat//k<=l.length/\c9 l=c9 (l.drop k)}) (id:=0) (b:=cat wY [1,0,1,0,0]) (rest:=(fl wY []).drop 3) (by kernel_rfl) (fun k=>pW l k.1) (fun k=>l.length-k.1) ⟨0,Nat.zero_le _,rfl⟩ (fun _=>rfl) ?_;rintro⟨k,hk,he⟩;have hk:k<=l.length:=hk;have he:c9 l=c9 (l.drop k):=he;by_cases hlt:k<l.length
 .rw [List.drop_eq_getElem_cons hlt,c9,<-getD_lt hlt]at he;by_cases hz:l.getD k 0=0
  .refine bl (s:=pW l k) hS (aqk l k (by omega) hlt hz (by omega)) ?_;rw [if_neg (by omega)]at he;exact⟨⟨k+1,hlt,he⟩,by show l.length-(k+1)<l.length-k;omega,rfl,rfl⟩
  .rw [if_pos hz]at he;have key:=aql l k (by omega) hlt hz;rw [<-he]at key;exact bP (s:=pW l k) hS key
 .refine bl (s:=pW l k) hS (aqm l k (by omega)) ?_;refine cw (cz ?_);rw [List.drop_eq_nil_of_le (by omega)]at he;have key:=aqn l k;rw [show(0:Int)=c9 l from he.symm]at key;exact bP (s:=pW l k) hS key
def aqP:Xh.Ok prog:=fun⟨l,_⟩ h=>aqO l (ap h)
def DU (aB rg:Int):Bool:=(decide (1<=aB)&&decide (aB<=400))&&(decide (1<=rg)&&decide (rg<=400))
def fZ (aB rg:Int) (x y:AT):Int:=if DU aB rg=true then c9 [ckR x,ckR y]else 3
def DV (aB rg:Int) (x y:AT):Rat:=(toQ x*(aB:Rat)+toQ y*(rg:Rat))/((aB+rg:Int):Rat)
def nR (aB rg:Int) (x y:AT):AT:=if fZ aB rg x y=0 then aU (DV aB rg x y)else ByteArray.mk #[]
def BT (a:AT):Bool:=decide (a.size<=30)
noncomputable def Xn:bp:={f:=9,ps:=[.int .i64, .int .i64, .str, .str],rs:=[.str, .int .i64],fresh:=true,pre:=fun d=>BT d.2.2.1&&BT d.2.2.2.1,fn:=fun d=>(nR d.1 d.2.1 d.2.2.1 d.2.2.2.1,fZ d.1 d.2.1 d.2.2.1 d.2.2.2.1,())}
def DW {aB rg:Int}:DU aB rg=true↔(1<=aB/\aB<=400)/\1<=rg/\rg<=400:=by
 unfold DU;rw [ae,ae,ae,bB,bB,bB,bB]
def aqQ:bD prog (bG yZ):=cY (aX WB (aX aqP (aX L4 (aX Gf (aX C1 (aX Gg (aX TQ (aX WN (aX WL eA)))))))))
def Xo {a b:Int}:c9 [a,b]=0↔a=0/\b=0:=by
 unfold c9 c9 c9;by_cases h:a=0
 .rw [if_neg (by omega)];by_cases g:b=0
  .rw [if_neg (by omega)];omega
  .rw [if_pos g];omega
 .rw [if_pos h];omega
def Xp {aB rg:Int} {x y:Rat} (hs:(1<=aB/\aB<=400)/\1<=rg/\rg<=400) (hx:gB (10^30) (10^30) x) (hy:gB (10^30) (10^30) y):
  gB (10^30*400) (10^30) (x*(aB:Rat))/\gB (10^30*400) (10^30) (y*(rg:Rat))/\gB (10^64) (10^60) (x*(aB:Rat)+y*(rg:Rat))/\gB (10^64) (10^64) ((x*(aB:Rat)+y*(rg:Rat))/((aB+rg:Int):Rat)):=by
 have a1:=HK hx (Oz (n:=aB) (N:=400) (by omega));have a2:=HK hy (Oz (n:=rg) (N:=400) (by omega));rw [Nat.mul_one]at a1 a2;have a3:=DT (Xk a1 a2) (show _<=10^64 by decide) (show _<=10^60 by decide);have a4:=HK a3 (aqN (n:=aB+rg) (N:=800) (by omega) (by omega));rw [Rat.div_def];exact⟨a1,a2,a3,DT a4 (by decide) (by decide)⟩
def aqR (aB rg:Int) (x y:AT) (gx:x.size<=30) (gX:y.size<=30):Holds prog true 9 [iv aB,iv rg,sv x,sv y] (.tuple [sv (nR aB rg x y),iv (fZ aB rg x y)]):=by
 have hS:=aqQ;show Holds prog true 9 [iv aB,iv rg,sv x,sv y] (.tuple [sv (nR aB rg x y),iv (fZ aB rg x y)]);refine bL (c:=yX) func9 rfl rfl fun w F=> ?_
 unfold nR fZ;by_cases hb:DU aB rg=true
 .rw [if_pos hb];have hs:=DW.1 hb;by_cases h0:c9 [ckR x,ckR y]=0
  .rw [if_pos h0,h0];obtain⟨k1,k2⟩:=Xo.1 h0;have fx:=mr gx k1;have sM:=mr gX k2;obtain⟨b1,b2,b3,b4⟩:=Xp hs fx.b sM.b;have oi:∀{n:Int},1<=n->n<=800->QR 1 (cT (bX n)) (n:Rat):=fun {n} h1 h2=>by
    have:=C2 (n:=1) (a:=bX n) (yH (by omega));rw [ib]at this;exact this
   have q1:=oi hs.1.1 (by omega);have aO:=oi hs.2.1 (by omega);have bV:=oi (n:=aB+rg) (by omega) (by omega);have m1:=(ol fx.qr q1 (by decide) (by decide)).mono (show 2+1<=5 by decide);have m2:=(ol sM.qr aO (by decide) (by decide)).mono (show 2+1<=5 by decide);have s1:=Tj m1 m2 (by decide);have hne:((aB+rg:Int):Rat)≠0:=aqI (by omega);have d1:=ahL s1 bV (by decide) (by decide) hne;have d2:=Xl (k:=28) b4 d1 (by decide) (by decide);have OA:∀{n m:Nat} {p q:b5} {r s:Rat},QR n p r->QR m q s->n<=20000->m<=20000->(okQ 20000 p&&okQ 20000 q)=true:=fun h g hn hm=>by rw [(h.mono hn).ok,(g.mono hm).ok];rfl
   have aqS:AM (ji (fB (cq x) (cT (bX aB))) (fB (cq y) (cT (bX rg)))) (cT (bX (aB+rg)))=true:=by
    unfold AM;rw [(s1.mono (show 5+5+1<=20000 by decide)).ok,(bV.mono (show 1<=20000 by decide)).ok,fF.2 (show au (cT (bX (aB+rg))).1≠0 by show au (bX (aB+rg))≠0;rw [ib];omega)];rfl
   have key:=aqt aB rg x y (by omega) (by omega) (by omega) (by omega) (by omega) (by omega) (by show 2<=1000;decide) h0 fx.fr (OA fx.qr q1 (by decide) (by decide)) sM.fr (OA sM.qr aO (by decide) (by decide)) (OA m1 m2 (by decide) (by decide)) (by omega) aqS (by rw [ae];exact⟨d2.o1,d2.o2⟩) (d2.rd (by decide)) rfl;have e:uT (HF aB rg x y)=aU (DV aB rg x y):=by unfold uT HF DV;rw [d2.val]
   rw [e]at key;exact bx hS 20 key
  .rw [if_neg h0];exact bx hS 6 (aqs aB rg x y (by omega) (by omega) (by omega) (by omega) (by omega) (by omega) (by show 2<=1000;decide) h0)
 .rw [if_neg hb,if_neg (by decide)];have hn:¬((1<=aB/\aB<=400)/\1<=rg/\rg<=400):=fun h=>hb (DW.2 h)
  by_cases h1:aB<1
  .exact bx hS 3 (aqo aB rg x y h1)
  .by_cases h2:aB>400
   .exact bx hS 3 (aqp aB rg x y h1 h2)
   .by_cases h3:rg<1
    .exact bx hS 3 (aqq aB rg x y h1 h2 h3)
    .exact bx hS 3 (aqr aB rg x y h1 h2 h3 (by omega))
def aqT:Xn.Ok prog:=fun⟨aB,rg,x,y,_⟩ h=>by
 have h:(BT x&&BT y)=true:=h;rw [ae]at h;exact aqR aB rg x y (ap h.1) (ap h.2)
end
def Xq {s:List (Int×Int)} (h:yL s):∀(n k:Nat),k+n<=s.length->dt s n k=0
 |0,_,_=>rfl
 |n+1,k,hk=>by
  have h1:=Nz.1 h k (by omega);unfold dt;rw [if_neg (by
   unfold jK;rw [ab (show¬(g0 s k).1<1 by omega),ab (show¬(g0 s k).1>400 by omega),ab (show¬(g0 s k).2<1 by omega),ab (show¬(g0 s k).2>400 by omega)];decide)]
  exact Xq h n (k+1) (by omega)
def Xr {s:List (Int×Int)} (h4:s.length<=4) (h:yL s):dH s=0:=by
 unfold dH;rw [if_neg (by omega)];exact Xq h _ _ (by omega)
noncomputable section
end
noncomputable section
def l7 (t:List (Int×Int)) (l:List AT):Nat->Rat
 |0=>0
 |k+1=>l7 t l k+toQ (ef l k)*gS (t.drop (k+1))
def lu:List AT->Int
 |[]=>0
 |s::r=>if ckR s=0 then(if toQ s<0 then 3 else lu r)else ckR s
def fK (t:List (Int×Int)) (l:List AT):Int:=if dH t=0 then(if l.length=t.length then lu l else 2)else dH t
def kJ (t:List (Int×Int)) (l:List AT):AT:=if fK t l=0 then aU (l7 t l t.length)else ByteArray.mk #[]
def Be (l:List AT):Bool:=decide (l.length<=10)&&l.all BT
noncomputable def Xt:bp:={f:=10,ps:=[.list false yB, .list false .str],rs:=[.str, .int .i64],fresh:=true,pre:=fun d=>Be d.2.1,fn:=fun d=>(kJ d.1 d.2.1,fK d.1 d.2.1,())}
def mt {l:List AT}:Be l=true↔l.length<=10/\∀s∈l,s.size<=30:=by
 unfold Be BT;rw [ae,bB,List.all_eq_true];exact⟨fun h=>⟨h.1,fun s hs=>ap (h.2 s hs)⟩,fun h=>⟨h.1,fun s hs=>ax (h.2 s hs)⟩⟩
def OB {l:List AT} {k:Nat} (h:k<l.length):ef l k∈l:=by
 unfold ef;rw [ao,mV h];exact List.getElem_mem _
def Xu {l:List AT} {k:Nat} (h:k<l.length):lu (l.drop k)=if ckR (ef l k)=0 then(if toQ (ef l k)<0 then 3 else lu (l.drop (k+1)))else ckR (ef l k):=by
 rw [List.drop_eq_getElem_cons h,lu];unfold ef;rw [ao,mV h];rfl
def HL:∀{l:List AT} {k:Nat},lu l=0->k<l.length->ckR (ef l k)=0
 |s::r,k,h,hk=>by
  rw [lu]at h;by_cases h1:ckR s=0
  .rw [if_pos h1]at h;by_cases h2:toQ s<0
   .rw [if_pos h2]at h;cases h
   .rw [if_neg h2]at h;cases k with
    |zero=>exact h1
    |succ k=>exact HL (l:=r) h (by simp at hk;omega)
  .rw [if_neg h1]at h;exact absurd h h1
def DX (t:List (Int×Int)) (k:Nat):uZ t k=t.drop (k+1):=by
 unfold uZ;rw [show Int.toNat ((k:Int)+1)=k+1 by omega,dI]
def DY {t:List (Int×Int)} (h:dH t=0) (k:Nat):dH (t.drop (k+1))=0:=by
 obtain⟨_,hg,h4⟩:=Oa h;exact Xr (by rw [mW];omega) fun p hp=>hg p (List.mem_of_mem_drop hp)
def zd {t:List (Int×Int)} (h:dH t=0):QR 5 (vi t) (gS t)/\gB (10^18) (10^18) (gS t):=by
 obtain⟨q,hg,h4⟩:=Oa h;have s:=aol hg h4;exact⟨q,by have:=s.1;omega,by have:=s.2;omega⟩
def Xv {t:List (Int×Int)} (h:dH t=0):sN 3 (gS t)/\cU (hO t)=true/\toQ (hO t)=gS t:=by
 have i:=q4 (k:=3) (zd h).2 (by decide) (by decide);exact⟨i,oE (k:=3) (by decide) i,pT (k:=3) (by decide) i⟩
abbrev mU:Nat:=10^48
def OC {t:List (Int×Int)} {l:List AT} (h0:dH t=0) (hz:∀s∈l,s.size<=30) {k:Nat} (hk:k<l.length) (hc:ckR (ef l k)=0):
  Xm (ef l k) (toQ (ef l k))/\gB mU mU (toQ (ef l k)*gS (t.drop (k+1))):=by
 have f:=mr (hz _ (OB hk)) hc;exact⟨f,DT (HK f.b (zd (DY h0 k)).2) (by decide) (by decide)⟩
def Xw {t:List (Int×Int)} {l:List AT} (h0:dH t=0) (hz:∀s∈l,s.size<=30):∀k,k<=l.length->(∀j,j<k->ckR (ef l j)=0)->gB (2^k*mU^k) (mU^k) (l7 t l k)
 |0,_,_=>⟨by show(0:Rat).num.natAbs<=_;decide,by show(0:Rat).den<=_;decide⟩
 |k+1,hk,hc=>by
  have ih:=Xw h0 hz k (by omega) fun j hj=>hc j (by omega)
  have g:=(OC h0 hz (show k<l.length by omega) (hc k (e8 k))).2;have b:=Xk ih g;refine DT b ?_ (Nat.le_of_eq (Nat.pow_succ ..).symm);have hp:0<mU^k:=Nat.pow_pos (by decide);have h2:1<=2^k:=Nat.one_le_two_pow;have e1:2^(k+1)*mU^(k+1)=2^k*mU^k*mU+2^k*(mU^k*mU):=by rw [Nat.pow_succ,Nat.pow_succ];generalize mU^k=a;generalize 2^k=b;grind
  have e2:=Nat.mul_le_mul_right (mU^k*mU) h2;rw [e1,Nat.one_mul,Nat.mul_comm (mU^k) mU]at*;omega
def OD {t:List (Int×Int)} {l:List AT} (h0:dH t=0) (hz:∀s∈l,s.size<=30) (hl:l.length=t.length) {k:Nat} (hk:k<=l.length) (hc:∀j,j<k->ckR (ef l j)=0):gB (10^200) (10^200) (l7 t l k):=by
 have b:=Xw h0 hz k hk hc;have h4:=(Du h0).1;have e:k=0\/k=1\/k=2\/k=3\/k=4:=by omega
 rcases e with e|e|e|e|e<;>rw [e]at b ⊢ <;>exact DT b (by decide) (by decide)
def aqU:bD prog (bG uY):=cY (aX amx (aX WB (aX L4 (aX Td (aX aqg (aX C1 (aX Gg (aX Gf (aX WN (aX WL eA))))))))))
def aqV (t:List (Int×Int)) (l:List AT) (hz:∀s∈l,s.size<=30):Holds prog true 10 [pl t,jP l] (.tuple [sv (kJ t l),iv (fK t l)]):=by
 have hS:=aqU;refine bL (c:=q3) func10 rfl rfl fun w F=> ?_
 by_cases h0:dH t=0
 .by_cases hl:l.length=t.length
  .have h4:=(Du h0).1;have sR:fK t l=lu l:=by unfold fK;rw [if_pos h0,if_pos hl]
   obtain⟨R,hR⟩:∃R:aa,R= .tuple [sv (kJ t l),iv (fK t l)]:=⟨_,rfl⟩;rw [<-hR];refine cC hS 8 (aqw t l h0 (by omega)) ?_;refine aP.loop (ι:={x:b5×Nat//x.2<=l.length/\(∀j,j<x.2->ckR (ef l j)=0)/\lu l=lu (l.drop x.2)/\QR 28 x.1 (l7 t l x.2)}) (id:=0) (b:=cat q3 DQ) (rest:=(fl q3 []).drop 9) (by kernel_rfl) (fun x=>nP t l x.1.1 x.1.2) (fun x=>l.length-x.1.2)
    ⟨(cT (bX 0),0),Nat.zero_le _,fun j hj=>absurd hj (Nat.not_lt_zero _),rfl,by have:=C2 (n:=28) (a:=bX 0) (yH (by decide));rw [ib]at this;exact this⟩ (fun _=>rfl) ?_
   rintro⟨⟨q,k⟩,hk,hc,he,hq⟩;have hk:k<=l.length:=hk;have hc:∀j,j<k->ckR (ef l j)=0:=hc;have he:lu l=lu (l.drop k):=he;have hq:QR 28 q (l7 t l k):=hq;by_cases hlt:k<l.length
   .have hsz:=hz _ (OB hlt);rw [Xu hlt]at he;by_cases h1:ckR (ef l k)=0
    .rw [if_pos h1]at he;obtain⟨f,g⟩:=OC h0 hz hlt h1;have hs:=agW f.qr;by_cases h2:toQ (ef l k)<0
     .rw [if_pos h2]at hs he;have k5:R= .tuple [sv (ByteArray.mk #[]),iv 3]:=by rw [hR,sR,he];unfold kJ;rw [sR,he,if_neg (by decide)]
      have key:=aqx t l q k (by omega) hlt (by show(ef l k).size<=_;omega) h1 f.fr (iz (by decide) f.qr.o1) (by show fe (cq (ef l k)).1<0;omega);rw [<-k5]at key;exact bP (s:=nP t l q k) hS key
     .rw [if_neg h2]at hs he;have hs0:¬fe (cq (ef l k)).1<0:=by rw [hs];split<;>decide
      obtain⟨r2,r3⟩:=zd (DY h0 k);have r2:QR 5 (vi (uZ t k)) (gS (t.drop (k+1))):=by rw [DX];exact r2
      have m:=ol f.qr r2 (by decide) (by decide);have a:=Tj hq (m.mono (show 2+5<=28 by decide)) (by decide);have b:=OD h0 hz hl (k:=k+1) hlt fun j hj=>by
       by_cases hjk:j=k
       .rw [hjk];exact h1
       .exact hc j (by omega)
      have a2:QR 28 (y4 t l q k) (l7 t l (k+1)):=Xl (k:=28) b a (by decide) (by decide);refine bl (s:=nP t l q k) hS (aqy t l q k (by omega) hlt (by show(ef l k).size<=_;omega) h1 f.fr (iz (by decide) f.qr.o1) hs0 (by omega) (by omega) (by show Id (uZ t k)=true;rw [DX];exact ax (DY h0 k)) (by rw [ae];exact⟨(f.qr.mono (by decide)).ok,(r2.mono (by decide)).ok⟩) (by rw [ae];exact⟨(hq.mono (by decide)).ok,(m.mono (by decide)).ok⟩) rfl rfl rfl rfl) ?_;exact⟨⟨(y4 t l q k,k+1),hlt,fun j hj=>by
       by_cases hjk:j=k
       .rw [hjk];exact h1
       .exact hc j (by omega),he,a2⟩,by show l.length-(k+1)<l.length-k;omega,rfl,rfl⟩
    .rw [if_neg h1]at he;have k5:R= .tuple [sv (ByteArray.mk #[]),iv (ckR (ef l k))]:=by rw [hR,sR,he];unfold kJ;rw [sR,he,if_neg h1]
     have key:=Ps t l q k (by omega) hlt (by show(ef l k).size<=_;omega) h1;rw [<-k5]at key;exact bP (s:=nP t l q k) hS key
   .refine bl (s:=nP t l q k) hS (aqz t l q k (by omega)) ?_;refine cw (cz ?_);have nZ:k=t.length:=by omega
    rw [List.drop_eq_nil_of_le (by omega)]at he;have he:lu l=0:=he;have key:=aqA t l q k (by rw [ae];exact⟨hq.o1,hq.o2⟩) (hq.rd (by decide));have k5:R= .tuple [sv (uT q),iv 0]:=by
     rw [hR,sR,he];unfold kJ uT;rw [sR,he,if_pos rfl,hq.val,nZ]
    rw [<-k5]at key;exact bP (s:=nP t l q k) hS key
  .have sR:fK t l=2:=by unfold fK;rw [if_pos h0,if_neg hl]
   unfold kJ;rw [sR,if_neg (by decide)];exact bx hS 6 (aqv t l h0 (by omega))
 .have sR:fK t l=dH t:=by unfold fK;rw [if_neg h0]
  unfold kJ;rw [sR,if_neg h0];exact bx hS 4 (aqu t l h0)
def aqW:Xt.Ok prog:=fun⟨t,l,_⟩ h=>aqV t l (mt.1 h).2
def OE (t:List (Int×Int)) (l:List AT):Bool:=Be l&&decide (fK t l=0)
def sS (t:List (Int×Int)) (l:List AT):AT:=aU (l7 t l t.length)
noncomputable def Xx:bp:={f:=22,ps:=[.list false yB, .list false .str],rs:=[.str],fresh:=true,pre:=fun d=>OE d.1 d.2.1,fn:=fun d=>(sS d.1 d.2.1,())}
def aqX:aU 1=ByteArray.mk #[49]:=by
 refine iW ?_;show ak (aU 1)=_;rw [Oy (by decide)];show Lib.decDigits 1++nQ 1=[49];rw [q2 (by decide)];unfold nQ;rw [if_pos (by decide)];rfl
def aqY:bD prog (bG DR):=cY (aX sf (aX V1 eA))
def aqZ {t:List (Int×Int)} (h0:dH t=0):Holds prog true 77 [pl t] (sv (hO t)):=by
 have hS:=aqY;obtain⟨_,hg,h4⟩:=Oa h0;have aq0:∀k,dH (t.take k)=0:=fun k=>Xr (by rw [ei];omega) fun p hp=>hg p (List.mem_of_mem_take hp)
 refine bL (c:=y5) func77 rfl rfl fun w F=> ?_
 refine cC hS 3 (aqB t) ?_;have e1:ByteArray.mk #[49]=hO (t.take 0):=by rw [List.take_zero];exact aqX.symm
 rw [e1];refine aP.loop (ι:={k:Nat//k<=t.length}) (id:=0) (b:=cat y5 [1,1,0,1,0,0]) (rest:=(fl y5 []).drop 4) (by kernel_rfl) (fun k=>vj t (hO (t.take k.1)) k.1) (fun k=>t.length-k.1) ⟨0,Nat.zero_le _⟩ (fun _=>rfl) ?_;rintro⟨k,hk⟩;by_cases hlt:k<t.length
 .obtain⟨i1,i2,i3⟩:=Xv (aq0 k);have hp:=Nz.1 hg k hlt;have wP:gB 400 400 (Rat.divInt (g0 t k).1 (g0 t k).2):=HJ hp.2.1 (by omega) (by omega);have ip:=q4 (k:=1) wP (by decide) (by decide);have e:HG t (hO (t.take k)) k=hO (t.take (k+1)):=by
   unfold HG;rw [i3,pT (k:=1) (by decide) ip];unfold hO;have e:t.take (k+1)=t.take k++[g0 t k]:=by rw [List.take_succ_eq_append_getElem (by omega),G9 (by omega)]
   rw [e,Ny];show _=aU (gS (t.take k)*(Rat.divInt _ _*1));rw [Rat.mul_one]
  have key:=aqC t (hO (t.take k)) k (by omega) hlt (dc (dc (ax (show(-4000000000000000000:Int)<=(g0 t k).1 by omega)) (ax (show(g0 t k).1<=4000000000000000000 by omega))) (dc (ax (show(0:Int)<(g0 t k).2 by omega)) (ax (show(g0 t k).2<=4000000000000000000 by omega)))) (dc i2 (oE (k:=1) (by decide) ip)) (by omega) rfl;rw [e]at key;refine bl (s:=vj t (hO (t.take k)) k) hS key ?_;exact⟨⟨k+1,hlt⟩,by show t.length-(k+1)<t.length-k;omega,rfl,rfl⟩
 .refine bl (s:=vj t (hO (t.take k)) k) hS (aqD t _ k (by omega)) ?_;refine cw (cz ?_);have key:=aqE t (hO (t.take k)) k;have e:t.take k=t:=eF (by omega);rw [e]at key ⊢;exact bP (s:=vj t (hO t) k) hS key
def aq1:Xi.Ok prog:=fun⟨t,_⟩ h=>aqZ (ap h)
def aq2:bD prog (bG DS):=cY (aX aq1 (aX sf (aX Wc eA)))
def Xy {t:List (Int×Int)} {l:List AT} (h:fK t l=0):dH t=0/\l.length=t.length/\lu l=0:=by
 unfold fK at h;by_cases h0:dH t=0
 .rw [if_pos h0]at h;by_cases hl:l.length=t.length
  .rw [if_pos hl]at h;exact⟨h0,hl,h⟩
  .rw [if_neg hl]at h;cases h
 .rw [if_neg h0]at h;exact absurd h h0
def aq3 {t:List (Int×Int)} {l:List AT} (hz:∀s∈l,s.size<=30) (hE:fK t l=0):Holds prog true 22 [pl t,jP l] (sv (sS t l)):=by
 have hS:=aq2;obtain⟨h0,hl,hc⟩:=Xy hE;have h4:=(Du h0).1;refine bL (c:=yY) func22 rfl rfl fun w F=> ?_
 refine cC hS 3 (If t l) ?_;rw [<-Xj];refine aP.loop (ι:={k:Nat//k<=t.length}) (id:=0) (b:=cat yY Ov) (rest:=(fl yY []).drop 4) (by kernel_rfl) (fun k=>sQ t l (aU (l7 t l k.1)) k.1) (fun k=>t.length-k.1) ⟨0,Nat.zero_le _⟩ (fun _=>rfl) ?_;rintro⟨k,hk⟩;have hk:k<=t.length:=hk;have b:=OD h0 hz hl (k:=k) (by omega) fun j hj=>HL hc (by omega)
 have bi:=q4 (k:=23) b (by decide) (by decide);by_cases hlt:k<t.length
 .have hlt2:k<l.length:=by omega
  obtain⟨f,g⟩:=OC h0 hz hlt2 (HL hc hlt2);have rJ:=q4 (k:=6) g (by decide) (by decide);obtain⟨iK,i1,t1⟩:=Xv (DY h0 k);rw [<-DX]at iK i1 t1;have t1:toQ (hO (uZ t k))=gS (t.drop (k+1)):=by rw [t1,DX]
  have e:HH t l (aU (l7 t l k)) k=aU (l7 t l (k+1)):=by
   unfold HH;rw [t1,pT (k:=6) (by decide) rJ,pT (k:=23) (by decide) bi];rfl
  have key:=aqF t l (aU (l7 t l k)) k (by omega) hlt2 (by omega) (by omega) (by show Id (uZ t k)=true;rw [DX];exact ax (DY h0 k)) (by rw [ae];exact⟨f.i,i1⟩) (by
   rw [ae];refine⟨oE (k:=23) (by decide) bi, ?_⟩;show cU (aU (toQ (ef l k)*toQ (hO (uZ t k))))=true;rw [t1];exact oE (k:=6) (by decide) rJ) rfl
  rw [e]at key;refine bl (s:=sQ t l (aU (l7 t l k)) k) hS key ?_;exact⟨⟨k+1,hlt⟩,by show t.length-(k+1)<t.length-k;omega,rfl,rfl⟩
 .refine bl (s:=sQ t l (aU (l7 t l k)) k) hS (aqG t l _ k (by omega)) ?_;refine cw (cz ?_);have e:k=t.length:=by omega
  have key:=aqH t l (aU (l7 t l k)) k;rw [show aU (l7 t l k)=sS t l by unfold sS;rw [e]]at key ⊢;exact bP (s:=sQ t l (sS t l) k) hS key
def aq4:Xx.Ok prog:=fun⟨t,l,_⟩ h=>by
 have h:(Be l&&decide (fK t l=0))=true:=h;rw [ae,bB]at h;exact aq3 (mt.1 h.1).2 h.2
noncomputable def aq5:bp:={f:=8,ps:=[],rs:=[.bool],fresh:=true,pre:=fun d=>true,fn:=fun d=>(true,())}
end
noncomputable section
noncomputable def e5:Code:=(Tryz.f3.body).getD .skip
noncomputable def nS (a b:AT):AT:=aU (toQ a*toQ b)
noncomputable def Bf (a b:AT):AT:=aU (toQ a+toQ b)
noncomputable def HM (a b:AT):AT:=aU (toQ a/toQ b)
noncomputable def hU (n:Int):AT:=aU (n:Rat)
noncomputable def aq6:bp:={f:=15,ps:=[.str, .str],rs:=[.str],fresh:=true,pre:=fun d=>cU d.1&&cU d.2.1,fn:=fun d=>(nS d.1 d.2.1,())}
noncomputable def aq7:bp:={f:=14,ps:=[.str, .str],rs:=[.str],fresh:=true,pre:=fun d=>cU d.1&&cU d.2.1,fn:=fun d=>(Bf d.1 d.2.1,())}
noncomputable def aq8:bp:={f:=17,ps:=[.str, .str],rs:=[.str],fresh:=true,pre:=fun d=>cU d.1&&(cU d.2.1&& !(ptN d.2.1==0)),fn:=fun d=>(HM d.1 d.2.1,())}
noncomputable def aq9:bp:={f:=16,ps:=[.int .i64],rs:=[.str],fresh:=true,pre:=fun d=>decide (-9223372036854775808<=d.1)&&decide (d.1<=9223372036854775807),fn:=fun d=>(hU d.1,())}
noncomputable def fT:bI:=aR [aq5,Xn,Xt,Wr,VB,Vz,aq6,aq9,aq7,aq8,Xg,NV,Ol,Xx]
abbrev Bg (aB rg:Int) (x y:AT):aa:= .agg [iv aB,iv rg,sv x,sv y]
abbrev OG (aB rg:Int) (x y:AT):fG:= .blk (.cells 24 [iv aB,iv rg,sv x,sv y] true false false)
abbrev HN:List Nat:=[1,1,0,1,0,0]
abbrev Bh:List Nat:=[1,1,1,1,1,1,1,1,1,1,0,1,0,0]
section
variable (aB rg:Int) (x y:AT) (t:List (Int×Int)) (l:List AT)
def pX (i:Nat):bC:={n:=172,sl:=[(1,pl t),(2,jP l),(3, .ptr 64 0),(7,iv i)],bF:=[(64,OG aB rg x y)],next:=65}
def wZ:bC:={n:=172,sl:=[(1,pl t),(2,jP l),(3, .ptr 64 0),(8,sv (nR aB rg x y)),(9,iv (fZ aB rg x y)),(10,sv (kJ t l)),(11,iv (fK t l))],bF:=[(64,OG aB rg x y)],next:=65}
def sU (bad:Int):bC:={n:=172,sl:=[(1,pl t),(2,jP l),(3, .ptr 64 0),(8,sv (nR aB rg x y)),(9,iv (fZ aB rg x y)),(10,sv (kJ t l)),(11,iv (fK t l)),(12,iv bad)],bF:=[(64,OG aB rg x y)],next:=65}
def y6 (c:AT) (e:Int) (t:List (Int×Int)) (l:List AT) (bad:Int) (w:AT):bC:={n:=172,sl:=[(1,pl t),(2,jP l),(8,sv c),(9,iv e),(10,sv (kJ t l)),(11,iv (fK t l)),(12,iv bad),(13,sv w)],bF:=[],next:=64}
def ia (t:List (Int×Int)) (l:List AT) (bad:Int) (i:Nat):bC:={n:=172,sl:=[(1,pl t),(2,jP l),(10,sv (kJ t l)),(11,iv (fK t l)),(12,iv bad),(14,iv i)],bF:=[],next:=64}
noncomputable def DZ (aB rg:Int) (x y:AT):AT:=HM (Bf (nS x (hU aB)) (nS y (hU rg))) (hU (aB+rg))
def ara (h1:(x.size:Int)>30):
  bu fT (fl e5 []) 4 172 [Bg aB rg x y,pl t,jP l] 926223 Tryz.f3 true (bv true):=
 wy [af (aS (ax h1)),ah h1] 2324143349465874432
def arb (h1:¬(x.size:Int)>30) (h2:(y.size:Int)>30):
  bu fT (fl e5 []) 4 172 [Bg aB rg x y,pl t,jP l] 926191 Tryz.f3 true (bv true):=
 wy [af (aS (ab h1)),aA h1,af (aS (ax h2)),ah h2] 78292337604568081978359808
def arc (h1:¬(x.size:Int)>30) (h2:¬(y.size:Int)>30) (h3:(t.length:Int)>10):
  bu fT (fl e5 []) 4 172 [Bg aB rg x y,pl t,jP l] 925167 Tryz.f3 true (bv true):=
 wy [af (aS (ab h1)),aA h1,af (aS (ab h2)),aA h2,af (aS (ax h3)),ah h3] 1972866742760230301886294381297664
def ard (h1:¬(x.size:Int)>30) (h2:¬(y.size:Int)>30) (h3:¬(t.length:Int)>10) (h4:(l.length:Int)>10):
  bu fT (fl e5 []) 4 172 [Bg aB rg x y,pl t,jP l] 908783 Tryz.f3 true (bv true):=
 wy [af (aS (ab h1)),aA h1,af (aS (ab h2)),aA h2,af (aS (ab h3)),aA h3,ah h4] 147357178781735403900740191599460352
def arf (h1:¬(x.size:Int)>30) (h2:¬(y.size:Int)>30) (h3:¬(t.length:Int)>10) (h4:¬(l.length:Int)>10):
  cO fT (fl e5 []) 4 172 [Bg aB rg x y,pl t,jP l] 646639 .normal m64 (pX aB rg x y t l 0):=
 wy [af (aS (ab h1)),aA h1,af (aS (ab h2)),aA h2,af (aS (ab h3)),aA h3,aA h4] 147357178781735403900740191599460352
def arh (i:Nat) (h1:(i:Int)<(l.length:Int)) (h2:i<l.length) (h3:(↑(l.getD i ByteArray.empty).size:Int)>30):
  bH fT (fl e5 HN) (pX aB rg x y t l i) 7 Tryz.f3 true (bv true):=
 wy [ah h1,ah h2,ah h3] 794625
def ari (i:Nat) (h1:(i:Int)<(l.length:Int)) (h2:i<l.length) (h3:¬(↑(l.getD i ByteArray.empty).size:Int)>30) (h4:i6 ((i:Int)+1)):
  bg fT (fl e5 HN) (pX aB rg x y t l i) 5 .normal m64 (pX aB rg x y t l (i+1)):=
 wy [ah h1,ah h2,aA h3,yi h4] 67903489
def arj (i:Nat) (h1:¬(i:Int)<(l.length:Int)):
  bg fT (fl e5 HN) (pX aB rg x y t l i) 2 (.exit 0) m64 (pX aB rg x y t l i):=
 wy [aA h1] 1
def ark (i:Nat) (h1:(BT x&&BT y)=true) (h2:(Be l)=true):
  dD fT ((fl e5 []).drop 5) 2 (pX aB rg x y t l i) 1 .normal m64 (wZ aB rg x y t l):=
 wy [af h1,af h2] 129
def arl (h1:aB<1) (h2:(decide (List.length [x,y]<=1000000)&&List.all [x,y] fun s=>decide (s.size<=1000000000))=true) (h3:List.length [3,js [x,y]]<=1000000):
  dD fT ((fl e5 []).drop 7) 1 (wZ aB rg x y t l) 14472 .normal m64 (sU aB rg x y t l (c9 [3,js [x,y]])):=
 wy [af (aV (v:=iv (aB))),af (aS (ax h1)),ah h1,af (aV (v:=aa.raw (Value.string x))),af (aV (v:=aa.raw (Value.string y))),af h2,ah h3] 25471691460568019119839139081398844877268735626846337
def arn (h1:¬aB<1) (h2:aB>400) (h3:(decide (List.length [x,y]<=1000000)&&List.all [x,y] fun s=>decide (s.size<=1000000000))=true) (h4:List.length [3,js [x,y]]<=1000000):
  dD fT ((fl e5 []).drop 7) 1 (wZ aB rg x y t l) 14471 .normal m64 (sU aB rg x y t l (c9 [3,js [x,y]])):=
 wy [af (aV (v:=iv (aB))),af (aS (ab h1)),aA h1,af (aS (ax h2)),ah h2,af (aV (v:=aa.raw (Value.string x))),af (aV (v:=aa.raw (Value.string y))),af h3,ah h4] 26151106204438191916474601409287099185298141607006875806867585
def aro (h1:¬aB<1) (h2:¬aB>400) (h3:rg<1) (h4:(decide (List.length [x,y]<=1000000)&&List.all [x,y] fun s=>decide (s.size<=1000000000))=true) (h5:List.length [3,js [x,y]]<=1000000):
  dD fT ((fl e5 []).drop 7) 1 (wZ aB rg x y t l) 14455 .normal m64 (sU aB rg x y t l (c9 [3,js [x,y]])):=
 wy [af (aV (v:=iv (aB))),af (aS (ab h1)),aA h1,af (aS (ab h2)),af (aV (v:=iv (rg))),aA h2,af (aS (ax h3)),ah h3,af (aV (v:=aa.raw (Value.string x))),af (aV (v:=aa.raw (Value.string y))),af h4,ah h5] 28073009041781814454329832779828386723762765384426362824510430849015937
def arp (h1:¬aB<1) (h2:¬aB>400) (h3:¬rg<1) (h4:rg>400) (h5:(decide (List.length [x,y]<=1000000)&&List.all [x,y] fun s=>decide (s.size<=1000000000))=true) (h6:List.length [3,js [x,y]]<=1000000):
  dD fT ((fl e5 []).drop 7) 1 (wZ aB rg x y t l) 14199 .normal m64 (sU aB rg x y t l (c9 [3,js [x,y]])):=
 wy [af (aV (v:=iv (aB))),af (aS (ab h1)),aA h1,af (aS (ab h2)),af (aV (v:=iv (rg))),aA h2,af (aS (ab h3)),aA h3,ah h4,af (aV (v:=aa.raw (Value.string x))),af (aV (v:=aa.raw (Value.string y))),af h5,ah h6] 30142711598411610812702003575157414654457751379791439210793030729636856197292161
def arq (h1:¬aB<1) (h2:¬aB>400) (h3:¬rg<1) (h4:¬rg>400) (h5:(decide (List.length [x,y]<=1000000)&&List.all [x,y] fun s=>decide (s.size<=1000000000))=true) (h6:List.length [0,js [x,y]]<=1000000):
  dD fT ((fl e5 []).drop 7) 1 (wZ aB rg x y t l) 10103 .normal m64 (sU aB rg x y t l (c9 [0,js [x,y]])):=
 wy [af (aV (v:=iv (aB))),af (aS (ab h1)),aA h1,af (aS (ab h2)),af (aV (v:=iv (rg))),aA h2,af (aS (ab h3)),aA h3,aA h4,af (aV (v:=aa.raw (Value.string x))),af (aV (v:=aa.raw (Value.string y))),af h5,ah h6] 30142711598411610812702003575157414654457751379791439210793030729636856197292161
def ars (bad:Int) (h1:bad=0) (h2:(decide ((-9223372036854775808:av.den (.int .i64))<=aB)&&decide (aB<=(9223372036854775807:av.den (.int .i64))))=true) (h3:(cU x&&cU (hU aB))=true) (h4:(decide ((-9223372036854775808:av.den (.int .i64))<=rg)&&decide (rg<=(9223372036854775807:av.den (.int .i64))))=true) (h5:(cU y&&cU (hU rg))=true) (h6:(cU (nS x (hU aB))&&cU (nS y (hU rg)))=true) (h7:i6 (aB+rg)) (h8:(decide ((-9223372036854775808:av.den (.int .i64))<=aB+rg)&&decide (aB+rg<=(9223372036854775807:av.den (.int .i64))))=true) (h9:(cU (Bf (nS x (hU aB)) (nS y (hU rg)))&&(cU (hU (aB+rg))&& !ptN (hU (aB+rg))==0))=true) (h10:(HM (Bf (nS x (hU aB)) (nS y (hU rg))) (hU (aB+rg)))=(DZ aB rg x y)):
  dD fT ((fl e5 []).drop 8) 3 (sU aB rg x y t l bad) 3 .normal [] (y6 (nR aB rg x y) (fZ aB rg x y) t l bad (DZ aB rg x y)):=
 wy [cW h1,af (aV (v:=aa.raw (Value.string x))),af (aV (v:=iv (aB))),af h2,af h3,af (aV (v:=aa.raw (Value.string y))),af (aV (v:=iv (rg))),af h4,af h5,af h6,yi h7,af h8,af h9,az h10] 1278813932664544333900715724189361503890559742081
def art (bad:Int) (h1:¬bad=0):
  dD fT ((fl e5 []).drop 8) 3 (sU aB rg x y t l bad) 2 .normal [] (y6 (nR aB rg x y) (fZ aB rg x y) t l bad (ByteArray.mk #[])):=
 wy [yn h1] 1
end
def aru (c:AT) (e:Int) (t:List (Int×Int)) (l:List AT) (bad:Int) (w:AT) (h1:w.size<=1000000000) (h2:(oF c e bad w)=true) (h3:¬(l.length:Int)=(t.length:Int)) (h4:List.length [dH t,2]<=1000000):
  dD fT ((fl e5 []).drop 11) 4 (y6 c e t l bad w) 6 .normal [] (ia t l (c9 [dH t,2]) 0):=
 wy [ah h1,af (cn (h2)),af (e7.mpr h3),ah h4] 67895425
def arv (c:AT) (e:Int) (t:List (Int×Int)) (l:List AT) (bad:Int) (w:AT) (h1:w.size<=1000000000) (h2:(oF c e bad w)=true) (h3:(l.length:Int)=(t.length:Int)) (h4:List.length [dH t,0]<=1000000):
  dD fT ((fl e5 []).drop 11) 4 (y6 c e t l bad w) 4 .normal [] (ia t l (c9 [dH t,0]) 0):=
 wy [ah h1,af (cn (h2)),af (gu.mpr h3),ah h4] 67895425
section
variable (t:List (Int×Int)) (l:List AT)
def arw (i:Nat) (h1:(i:Int)<(l.length:Int)) (h2:i<l.length) (h3:(l.getD i ByteArray.empty).size<=1000000000) (h4:ckR (l.getD i ByteArray.empty)=0) (h5:lq (l.getD i ByteArray.empty)<0) (h6:i6 ((i:Int)+1)):
  bg fT (fl e5 Bh) (ia t l 0 i) 127 .normal [] (ia t l 3 (i+1)):=
 wy [af (aN (ax h1)),ah h1,ah h2,ah h3,cW h4,ah h5,yi h6] 33499341303320405876801
def arx (i:Nat) (h1:(i:Int)<(l.length:Int)) (h2:i<l.length) (h3:(l.getD i ByteArray.empty).size<=1000000000) (h4:ckR (l.getD i ByteArray.empty)=0) (h5:¬lq (l.getD i ByteArray.empty)<0) (h6:i6 ((i:Int)+1)):
  bg fT (fl e5 Bh) (ia t l 0 i) 95 .normal [] (ia t l 0 (i+1)):=
 wy [af (aN (ax h1)),ah h1,ah h2,ah h3,cW h4,aA h5,yi h6] 33499341303320405876801
def ary (i:Nat) (h1:(i:Int)<(l.length:Int)) (h2:i<l.length) (h3:(l.getD i ByteArray.empty).size<=1000000000) (h4:¬ckR (l.getD i ByteArray.empty)=0) (h5:i6 ((i:Int)+1)):
  bg fT (fl e5 Bh) (ia t l 0 i) 47 .normal [] (ia t l (ckR (ef l i)) (i+1)):=
 wy [af (aN (ax h1)),ah h1,ah h2,ah h3,yn h4,yi h5] 1711118191960129
def arz (bad:Int) (i:Nat) (h1:(i:Int)<(l.length:Int)) (h2:¬bad=0):
  bg fT (fl e5 Bh) (ia t l bad i) 23 (.exit 2) [] (ia t l bad i):=
 wy [af (aN (ax h1)),ah h1,yn h2] 794689
def arA (bad:Int) (i:Nat) (h1:¬(i:Int)<(l.length:Int)):
  bg fT (fl e5 Bh) (ia t l bad i) 16 (.exit 2) [] (ia t l bad i):=
 wy [af (aN (ab h1)),aA h1] 8257
def Xz (bad:Int) (i:Nat) (h1:¬bad=0) (h2:(ByteArray.mk #[]).size<=1000000000):
  bH fT ((fl e5 []).drop 16) (ia t l bad i) 3 Tryz.f3 true (bv (oF (kJ t l) (fK t l) bad (ByteArray.mk #[]))):=
 wy [af (e7.mpr h1),ah h2] 129
def arB (bad:Int) (i:Nat) (h1:bad=0) (h2:(OE t l)=true) (h3:(sS t l).size<=1000000000):
  bH fT ((fl e5 []).drop 16) (ia t l bad i) 2 Tryz.f3 true (bv (oF (kJ t l) (fK t l) 0 (sS t l))):=
 wy [af (gu.mpr h1),af h2,ah h3] 12417
end
end
noncomputable section
def arC:bD prog (bG fT):=cY (aX (fun _ _=>ap9) (aX aqT (aX aqW (aX aoH (aX amE (aX aml (aX sf (aX anB (aX Wc (aX anU (aX aqi (aX Wm (aX WU (aX aq4 eA))))))))))))))
def XA {k:Nat} (hk:k<=30) {r:Rat} (h:sN k r):(aU r).size<=600:=by
 have l1:=Hp h.1;have l2:=Hp h.2;rw [c8,Ox];have:(nQ r).length<=9*k+2:=by unfold nQ;split<;>simp;omega
 split
 .rw [List.length_cons,dU];omega
 .rw [dU];omega
def XB {w:AT} (h:w.size<=600):oF w 0 0 w=true:=by
 have e:yW 0 w=0:=by unfold yW;rw [if_pos rfl];exact apR h
 unfold oF;rw [if_pos e,ax rfl];rfl
def XC {e:Int} (h:e≠0):oF (ByteArray.mk #[]) e e (ByteArray.mk #[])=true:=by
 have e1:yW e (ByteArray.mk #[])=e:=by unfold yW;rw [if_neg h]
 unfold oF;rw [e1,if_neg h,beq_self_eq_true,ax (show(ByteArray.mk #[]).size=0 from rfl)];rfl
def arD (a b:AT):js [a,b]=c9 [ckR a,ckR b]:=by
 show(if ckR a=0 then(if ckR b=0 then 0 else ckR b)else ckR a)=(if ckR a≠0 then ckR a else if ckR b≠0 then ckR b else 0);by_cases h:ckR a=0
 .by_cases g:ckR b=0
  .simp [h,g]
  .simp [h,g]
 .simp [h]
def XD (e:Int):c9 [0,e]=e:=by
 unfold c9 c9 c9;rw [if_neg (by omega)];by_cases g:e=0
 .rw [if_neg (by omega),g]
 .rw [if_pos g]
def XE {v:Int} (h:v≠0) (e:Int):c9 [v,e]=v:=by
 unfold c9;rw [if_pos h]
def arE (e:Int):c9 [e,0]=e:=by
 unfold c9 c9 c9;by_cases g:e=0
 .rw [if_neg (by omega),if_neg (by omega),g]
 .rw [if_pos g]
def arF {aB rg:Int} {x y:AT} (gx:x.size<=30) (gX:y.size<=30) (hE:fZ aB rg x y=0):
  DZ aB rg x y=aU (DV aB rg x y)/\(aU (DV aB rg x y)).size<=600/\
  ((1<=aB/\aB<=400)/\1<=rg/\rg<=400)/\
  (cU x=true/\cU (hU aB)=true)/\(cU y=true/\cU (hU rg)=true)/\
  (cU (nS x (hU aB))=true/\cU (nS y (hU rg))=true)/\
  (cU (Bf (nS x (hU aB)) (nS y (hU rg)))=true/\cU (hU (aB+rg))=true/\ptN (hU (aB+rg))≠0):=by
 unfold fZ at hE;by_cases hb:DU aB rg=true
 .rw [if_pos hb]at hE;have hs:=DW.1 hb;obtain⟨k1,k2⟩:=Xo.1 hE;have fx:=mr gx k1;have sM:=mr gX k2;obtain⟨b1,b2,b3,b4⟩:=Xp hs fx.b sM.b;have i1:=q4 (k:=4) b1 (by decide) (by decide);have i2:=q4 (k:=4) b2 (by decide) (by decide);have i3:=q4 (k:=8) b3 (by decide) (by decide);have i4:=q4 (k:=8) b4 (by decide) (by decide);have ii:∀{n:Int},1<=n->n<=800->sN 1 (n:Rat):=fun {n} h1 h2=>q4 (Oz (n:=n) (N:=800) (by omega)) (by decide) (by decide)
  have j1:=ii hs.1.1 (by omega);have j2:=ii hs.2.1 (by omega);have qc:=ii (n:=aB+rg) (by omega) (by omega);have t1:=pT (k:=1) (by decide) j1;have t2:=pT (k:=1) (by decide) j2;have t3:=pT (k:=1) (by decide) qc;have u1:=pT (k:=4) (by decide) i1;have u2:=pT (k:=4) (by decide) i2;have u3:=pT (k:=8) (by decide) i3;have n3:=(wS (k:=1) (by decide) qc).n;unfold DZ HM Bf nS hU;rw [t1,t2,u1,u2,u3,t3];exact⟨rfl,XA (by decide) i4,hs,⟨fx.i,oE (k:=1) (by decide) j1⟩,⟨sM.i,oE (k:=1) (by decide) j2⟩,⟨oE (k:=4) (by decide) i1,oE (k:=4) (by decide) i2⟩,oE (k:=8) (by decide) i3,oE (k:=1) (by decide) qc,by rw [n3,Rat.num_intCast];omega⟩
 .rw [if_neg hb]at hE;cases hE
def arG {t:List (Int×Int)} {l:List AT} (hz:∀s∈l,s.size<=30) (hE:fK t l=0):(sS t l).size<=600:=by
 obtain⟨h0,hl,hc⟩:=Xy hE;have b:=OD h0 hz hl (k:=t.length) (by omega) fun j hj=>HL hc (by omega)
 exact XA (k:=23) (by decide) (q4 b (by decide) (by decide))
def arH (aB rg:Int) (x y:AT) (t:List (Int×Int)) (l:List AT):Holds prog true 3 [Bg aB rg x y,pl t,jP l] (bv true):=by
 have hS:=arC;refine bL (c:=e5) func3 rfl rfl fun w F=> ?_
 by_cases cQ:(x.size:Int)>30
 .exact bx hS 4 (ara aB rg x y t l cQ)
 by_cases z2:(y.size:Int)>30
 .exact bx hS 4 (arb aB rg x y t l cQ z2)
 by_cases z3:(t.length:Int)>10
 .exact bx hS 4 (arc aB rg x y t l cQ z2 z3)
 by_cases z4:(l.length:Int)>10
 .exact bx hS 4 (ard aB rg x y t l cQ z2 z3 z4)
 refine cC hS 4 (arf aB rg x y t l cQ z2 z3 z4) ?_;refine aP.loop (ι:={i:Nat//i<=l.length/\∀j,j<i->(ef l j).size<=30}) (id:=0) (b:=cat e5 HN) (rest:=(fl e5 []).drop 5) (by kernel_rfl) (fun i=>pX aB rg x y t l i.1) (fun i=>l.length-i.1) ⟨0,Nat.zero_le _,fun j hj=>absurd hj (Nat.not_lt_zero _)⟩ (fun _=>rfl) ?_;rintro⟨i,hi,hz⟩;have hi:i<=l.length:=hi;by_cases hlt:i<l.length
 .by_cases hf:((ef l i).size:Int)>30
  .exact bP (s:=pX aB rg x y t l i) hS (arh aB rg x y t l i (by omega) hlt hf)
  .refine bl (s:=pX aB rg x y t l i) hS (ari aB rg x y t l i (by omega) hlt hf (by omega)) ?_;exact⟨⟨i+1,hlt,fun j hj=>by
    by_cases hj2:j=i
    .rw [hj2];omega
    .exact hz j (by omega)⟩,by show l.length-(i+1)<l.length-i;omega,rfl,rfl⟩
 refine bl (s:=pX aB rg x y t l i) hS (arj aB rg x y t l i (by omega)) ?_;refine cw (cz ?_);have hall:∀s∈l,s.size<=30:=fun s hs=>by
  obtain⟨j,hj,rfl⟩:=List.getElem_of_mem hs;have:=hz j (by omega);unfold ef at this;rw [ao,mV hj]at this;exact this
 have gx:x.size<=30:=by omega
 have gX:y.size<=30:=by omega
 refine dZ (s:=pX aB rg x y t l i) hS 2 (ark aB rg x y t l i (dc (ax gx) (ax gX)) (mt.2 ⟨by omega,hall⟩)) ?_
 have Bi:(decide (List.length [x,y]<=(1000000:Nat))&&List.all [x,y] fun s=>decide (s.size<=(1000000000:Nat)))=true:=
  dc rfl (by rw [List.all_cons,List.all_cons,ax (show x.size<=1000000000 by omega),ax (show y.size<=1000000000 by omega)];rfl)
 have kl:∀v:Int,List.length [v,js [x,y]]<=1000000:=fun v=>by show 2<=1000000;decide
 have e3:¬((1<=aB/\aB<=400)/\1<=rg/\rg<=400)->c9 [3,js [x,y]]=fZ aB rg x y:=fun h=>by
  rw [XE (by decide)];unfold fZ;rw [if_neg fun g=>h (DW.1 g)]
 have step:∀(R:Prop),(∀L P,aC.path (tP prog fT ((fl e5 []).drop 7) 1 (wZ aB rg x y t l)) L P->P=dP prog 172 .normal m64 (sU aB rg x y t l (fZ aB rg x y))->R)->R:=fun R k=>by
  by_cases c1:aB<1
  .exact k _ _ (arl aB rg x y t l c1 Bi (kl 3)) (by rw [e3 (by omega)]<;>rfl)
  by_cases c2:aB>400
  .exact k _ _ (arn aB rg x y t l c1 c2 Bi (kl 3)) (by rw [e3 (by omega)]<;>rfl)
  by_cases c3:rg<1
  .exact k _ _ (aro aB rg x y t l c1 c2 c3 Bi (kl 3)) (by rw [e3 (by omega)]<;>rfl)
  by_cases c4:rg>400
  .exact k _ _ (arp aB rg x y t l c1 c2 c3 c4 Bi (kl 3)) (by rw [e3 (by omega)]<;>rfl)
  .exact k _ _ (arq aB rg x y t l c1 c2 c3 c4 Bi (kl 0)) (by rw [XD,arD];unfold fZ;rw [if_pos (DW.2 ⟨by omega,by omega⟩)]<;>rfl)
 refine step _ fun L P hP e=> ?_
 subst e;refine dZ (s:=wZ aB rg x y t l) hS 1 hP ?_
 have step2:∀(R:Prop),(∀L P w,aC.path (tP prog fT ((fl e5 []).drop 8) 3 (sU aB rg x y t l (fZ aB rg x y))) L P->P=dP prog 172 .normal [] (y6 (nR aB rg x y) (fZ aB rg x y) t l (fZ aB rg x y) w)->w.size<=1000000000->oF (nR aB rg x y) (fZ aB rg x y) (fZ aB rg x y) w=true->R)->R:=fun R k=>by
  by_cases hE:fZ aB rg x y=0
  .obtain⟨g1,g2,hs,⟨a1,a2⟩,⟨a3,a4⟩,⟨a5,a6⟩,a7,a8,a9⟩:=arF gx gX hE;refine k _ _ (DZ aB rg x y) (ars aB rg x y t l (fZ aB rg x y) hE (dc (ax (by show(-9223372036854775808:Int)<=aB;omega)) (ax (by show aB<=(9223372036854775807:Int);omega))) (dc a1 a2) (dc (ax (by show(-9223372036854775808:Int)<=rg;omega)) (ax (by show rg<=(9223372036854775807:Int);omega))) (dc a3 a4) (dc a5 a6) (by omega) (dc (ax (by show(-9223372036854775808:Int)<=aB+rg;omega)) (ax (by show aB+rg<=(9223372036854775807:Int);omega))) (dc a7 (dc a8 (by rw [fF.2 a9];rfl))) rfl) rfl (by rw [g1];omega) ?_;rw [g1];unfold nR;rw [hE,if_pos rfl];exact XB g2
  .refine k _ _ (ByteArray.mk #[]) (art aB rg x y t l (fZ aB rg x y) hE) rfl (by decide) ?_;unfold nR;rw [if_neg hE];exact XC hE
 refine step2 _ fun L P w hP e hw hn=> ?_
 subst e;refine dZ (s:=sU aB rg x y t l (fZ aB rg x y)) hS 3 hP ?_
 have XF:∀(R:Prop),(∀L P b,aC.path (tP prog fT ((fl e5 []).drop 11) 4 (y6 (nR aB rg x y) (fZ aB rg x y) t l (fZ aB rg x y) w)) L P->P=dP prog 172 .normal [] (ia t l b 0)->(fK t l=if b=0 then lu l else b)->R)->R:=fun R k=>by
  have XG:∀v:Int,List.length [dH t,v]<=1000000:=fun v=>by show 2<=1000000;decide
  by_cases hl:(l.length:Int)=(t.length:Int)
  .refine k _ _ _ (arv _ _ t l _ w hw hn hl (XG 0)) rfl ?_;rw [arE];unfold fK;rw [if_pos (show l.length=t.length by omega)]
  .refine k _ _ _ (aru _ _ t l _ w hw hn hl (XG 2)) rfl ?_;unfold fK;rw [if_neg (show¬l.length=t.length by omega)];by_cases g:dH t=0
   .rw [if_pos g,g,XD,if_neg (by decide)]
   .rw [if_neg g,XE g,if_neg g]
 refine XF _ fun L P b hP e hb=> ?_
 subst e;refine dZ (s:=y6 (nR aB rg x y) (fZ aB rg x y) t l (fZ aB rg x y) w) hS 4 hP ?_;refine aP.loop (ι:={x:Int×Nat//x.2<=l.length/\(fK t l=if x.1=0 then lu (l.drop x.2)else x.1)}) (id:=2) (b:=cat e5 Bh) (rest:=(fl e5 []).drop 16) (by kernel_rfl) (fun x=>ia t l x.1.1 x.1.2) (fun x=>l.length-x.1.2) ⟨(b,0),Nat.zero_le _,hb⟩ (fun _=>rfl) ?_;clear hb hP hn hw step step2 XF hz hi hlt Bi kl e3;rintro⟨⟨b,k⟩,hk,he⟩;have hk:k<=l.length:=hk;have he:fK t l=if b=0 then lu (l.drop k)else b:=he
 have XH:b≠0->oF (kJ t l) (fK t l) b (ByteArray.mk #[])=true:=fun hb=>by
  rw [if_neg hb]at he;unfold kJ;rw [he,if_neg hb];exact XC hb
 by_cases hlt:k<l.length
 .by_cases hb:b=0
  .subst hb;rw [if_pos rfl,Xu hlt]at he;have hsz:=hall _ (OB hlt);have G3:(ef l k).size<=1000000000:=by omega
   by_cases h1:ckR (ef l k)=0
   .rw [if_pos h1]at he;have f:=mr hsz h1;have hs:=aqM (toQ (ef l k));rw [<-f.tx]at hs;by_cases h2:toQ (ef l k)<0
    .rw [if_pos h2]at hs he;refine bl (s:=ia t l 0 k) hS (arw t l k (by omega) hlt G3 h1 (by show lq (ef l k)<0;omega) (by omega)) ?_;exact⟨⟨(3,k+1),hlt,by rw [he];rfl⟩,by show l.length-(k+1)<l.length-k;omega,rfl,rfl⟩
    .rw [if_neg h2]at hs he;refine bl (s:=ia t l 0 k) hS (arx t l k (by omega) hlt G3 h1 (by show¬lq (ef l k)<0;rw [hs];split<;>decide) (by omega)) ?_;exact⟨⟨(0,k+1),hlt,by rw [he];rfl⟩,by show l.length-(k+1)<l.length-k;omega,rfl,rfl⟩
   .rw [if_neg h1]at he;have key:=ary t l k (by omega) hlt G3 h1 (by omega);generalize ckR (ef l k)=v at key he h1;refine bl (s:=ia t l 0 k) hS key ?_;exact⟨⟨(v,k+1),hlt,by show fK t l=if v=0 then _ else _;rw [if_neg h1];exact he⟩,by show l.length-(k+1)<l.length-k;omega,rfl,rfl⟩
  .refine bl (s:=ia t l b k) hS (arz t l b k (by omega) hb) ?_;refine cw (cz ?_);have key:=Xz t l b k hb (by decide);rw [XH hb]at key;exact bP (s:=ia t l b k) hS key
 .refine bl (s:=ia t l b k) hS (arA t l b k (by omega)) ?_;refine cw (cz ?_);by_cases hb:b=0
  .rw [if_pos hb,List.drop_eq_nil_of_le (by omega)]at he;have he:fK t l=0:=he;have hr:=arG hall he;have key:=arB t l b k hb (by unfold OE;rw [mt.2 ⟨by omega,hall⟩,ax he];rfl) (by omega);have e:kJ t l=sS t l:=by unfold kJ sS;rw [if_pos he]
   rw [he,e,XB hr]at key;exact bP (s:=ia t l b k) hS key
  .have key:=Xz t l b k hb (by decide);rw [XH hb]at key;exact bP (s:=ia t l b k) hS key
end
end
end Go.Proofs.YtibikmmdbdlafaaGreatDoor
