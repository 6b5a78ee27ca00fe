import Derived.Test.YtibikmmdbdlafaaGreatDoorZmVDec2
set_option linter.defProp false
set_option linter.unusedVariables false
set_option linter.unusedSimpArgs false
set_option maxRecDepth 100000
namespace Go.Proofs.YtibikmmdbdlafaaGreatDoor
open Go.RowKit Sv Go.Proofs.Tryz
abbrev AT:=ByteArray
noncomputable section
noncomputable def ND:Code:=(f66.body).getD .skip
noncomputable def yN:Code:=(f67.body).getD .skip
noncomputable def NF:bI:=aR [Df,VF,Mf]
noncomputable def A7:bI:=ov [C7] (aR [Um,MA,Mx,Ni])
def amS (s:AT) (h1:s.size<=1000000000) (h2:(↑(bk s.data.toList):Int)=(s.size:Int)) (h3:(decide (s.size<=800000)&&bY (bQ s).data.toList)=true):
  bu NF (fl ND []) 5 25 [sv s] 3 f66 false (.tuple [rv (mkR (lP s)),rv (mkR 1)]):=
 wy [ah h1,cW h2,af h3] 12417
def OF (s:AT) (h1:s.size<=1000000000) (h2:¬(↑(bk s.data.toList):Int)=(s.size:Int)) (h3:bk s.data.toList<=s.size) (h4:(decide ((s.extract 0 (bk s.data.toList)).size<=800000)&&bY (bQ (s.extract 0 (bk s.data.toList))).data.toList)=true) (h5:i6 ((↑(bk s.data.toList):Int)+1)) (h6:((↑(bk s.data.toList):Int)+1).toNat<=s.size) (h7:(decide ((s.extract ((↑(bk s.data.toList):Int)+1).toNat s.size).size<=800000)&&bY (bQ (s.extract ((↑(bk s.data.toList):Int)+1).toNat s.size)).data.toList)=true) (h8:(mkR (lP (s.extract ((↑(bk s.data.toList):Int)+1).toNat s.size))).1=(mkR (lP (s.extract (bk s.data.toList+1) s.size))).1) (h9:(mkR (lP (s.extract ((↑(bk s.data.toList):Int)+1).toNat s.size))).2=(mkR (lP (s.extract (bk s.data.toList+1) s.size))).2):
  bu NF (fl ND []) 9 25 [sv s] 2 f66 false (.tuple [rv (mkR (lP (s.extract 0 (bk (ak s))))),rv (mkR (lP (s.extract (bk (ak s)+1) s.size)))]):=
 wy [ah h1,yn h2,ah h3,af h4,yi h5,ah h6,ah (by omega:s.size<=s.size),af h7,az h8,az h9] 196148223583635607820173441
def vf (n:Bool) (x:List Int) (m:Bool) (y:List Int):bC:={n:=57,sl:=[(2, .ptr 64 0),(3, .ptr 65 0)],bF:=[(64,Ng n x),(65,Ng m y)],next:=66}
def amT (n:Bool) (x y:List Int):
  cO A7 (fl yN []) 3 57 [rv (n,x),rv (false,y)] 2 .normal [(64,64,none),(65,65,none)] (vf n x false y):=
 wy [] 0
def amU (n:Bool) (x y:List Int) (h1:(okZ (n,x))=true) (h2:(okZ (true,y))=true):
  cO A7 (fl yN []) 3 57 [rv (n,x),rv (true,y)] 3 .normal [(64,64,none),(65,65,none)] (vf (mkR (-vZ (n,x))).1 (mkR (-vZ (n,x))).2 (mkR (-vZ (true,y))).1 (mkR (-vZ (true,y))).2):=
 wy [af (aV (v:=aa.agg [aa.raw (Value.bool n),aa.bh false (.int .i64) x])),af h1,af (aV (v:=aa.agg [aa.raw (Value.bool true),aa.bh false (.int .i64) y])),af h2] 4346093632
def NG (x y:List Int):List Int:=aI (Int.gcd (ag x) (ag y))
def yO (n:Bool) (x y:List Int):AT:=cg (vZ (mkR (bn n (ag (aI (ag x/ag (NG x y)))))))
def Dx (x y:List Int):List Int:=aI (ag y/ag (NG x y))
abbrev iD:AT:=⟨#[47]⟩
def amV (n:Bool) (x:List Int) (m:Bool) (y:List Int) (h1:(okA x&&okA y)=true) (h2:(okA x&&(okA (aI (↑(Int.gcd (ag x) (ag y)):Int))&&decide (0<ag (aI (↑(Int.gcd (ag x) (ag y)):Int)))))=true) (h3:(okA y&&(okA (aI (↑(Int.gcd (ag x) (ag y)):Int))&&decide (0<ag (aI (↑(Int.gcd (ag x) (ag y)):Int)))))=true) (h4:(okB (aI (ag x/ag (aI (↑(Int.gcd (ag x) (ag y)):Int)))))=true) (h5:(okZ (mkR (bn n (ag (aI (ag x/ag (aI (↑(Int.gcd (ag x) (ag y)):Int))))))))=true) (h6:(↑(aI (ag y/ag (aI (↑(Int.gcd (ag x) (ag y)):Int)))).length:Int)=1) (h7:Int.toNat 0<(aI (ag y/ag (aI (↑(Int.gcd (ag x) (ag y)):Int)))).length) (h8:(aI (ag y/ag (aI (↑(Int.gcd (ag x) (ag y)):Int)))).getD (Int.toNat 0) 0=1) (h9:(cg (vZ (mkR (bn n (ag (aI (ag x/ag (aI (↑(Int.gcd (ag x) (ag y)):Int)))))))))=(yO n x y)):
  bH A7 ((fl yN []).drop 3) (vf n x m y) 127 f67 true (sv (yO n x y)):=
 wy [af h1,af h2,af h3,af h4,af h5,af (aN (gT.mpr h6)),ah h7,cW h6,cW h8,az h9] 3065413170778920828547201
def amW (n:Bool) (x:List Int) (m:Bool) (y:List Int) (h1:(okA x&&okA y)=true) (h2:(okA x&&(okA (aI (↑(Int.gcd (ag x) (ag y)):Int))&&decide (0<ag (aI (↑(Int.gcd (ag x) (ag y)):Int)))))=true) (h3:(okA y&&(okA (aI (↑(Int.gcd (ag x) (ag y)):Int))&&decide (0<ag (aI (↑(Int.gcd (ag x) (ag y)):Int)))))=true) (h4:(okB (aI (ag x/ag (aI (↑(Int.gcd (ag x) (ag y)):Int)))))=true) (h5:(okZ (mkR (bn n (ag (aI (ag x/ag (aI (↑(Int.gcd (ag x) (ag y)):Int))))))))=true) (h6:(↑(aI (ag y/ag (aI (↑(Int.gcd (ag x) (ag y)):Int)))).length:Int)=1) (h7:Int.toNat 0<(aI (ag y/ag (aI (↑(Int.gcd (ag x) (ag y)):Int)))).length) (h8:¬(aI (ag y/ag (aI (↑(Int.gcd (ag x) (ag y)):Int)))).getD (Int.toNat 0) 0=1) (h9:(cg (vZ (mkR (bn n (ag (aI (ag x/ag (aI (↑(Int.gcd (ag x) (ag y)):Int))))))))).size+(ByteArray.mk (#[(47:UInt8)])).size<=9223372036854775807) (h10:(okB (aI (ag y/ag (aI (↑(Int.gcd (ag x) (ag y)):Int)))))=true) (h11:(okZ (mkR (bn false (ag (aI (ag y/ag (aI (↑(Int.gcd (ag x) (ag y)):Int))))))))=true) (h12:(cg (vZ (mkR (bn n (ag (aI (ag x/ag (aI (↑(Int.gcd (ag x) (ag y)):Int))))))))++(ByteArray.mk (#[(47:UInt8)]))).size+(cg (vZ (mkR (bn false (ag (aI (ag y/ag (aI (↑(Int.gcd (ag x) (ag y)):Int))))))))).size<=9223372036854775807) (dG:(cg (vZ (mkR (bn n (ag (aI (ag x/ag (aI (↑(Int.gcd (ag x) (ag y)):Int))))))))++(ByteArray.mk (#[(47:UInt8)]))++cg (vZ (mkR (bn false (ag (aI (ag y/ag (aI (↑(Int.gcd (ag x) (ag y)):Int)))))))))=(yO n x y++(ByteArray.mk (#[(47:UInt8)]))++cg (vZ (mkR (bn false (ag (Dx x y))))))):
  bH A7 ((fl yN []).drop 3) (vf n x m y) 95 f67 true (sv (yO n x y++iD++cg (vZ (mkR (bn false (ag (Dx x y))))))):=
 wy [af h1,af h2,af h3,af h4,af h5,af (aN (gT.mpr h6)),ah h7,cW h6,yn h8,ah h9,af h10,af h11,ah h12,az dG] 72033470842295130389485817180289
def amX (n:Bool) (x:List Int) (m:Bool) (y:List Int) (h1:(okA x&&okA y)=true) (h2:(okA x&&(okA (aI (↑(Int.gcd (ag x) (ag y)):Int))&&decide (0<ag (aI (↑(Int.gcd (ag x) (ag y)):Int)))))=true) (h3:(okA y&&(okA (aI (↑(Int.gcd (ag x) (ag y)):Int))&&decide (0<ag (aI (↑(Int.gcd (ag x) (ag y)):Int)))))=true) (h4:(okB (aI (ag x/ag (aI (↑(Int.gcd (ag x) (ag y)):Int)))))=true) (h5:(okZ (mkR (bn n (ag (aI (ag x/ag (aI (↑(Int.gcd (ag x) (ag y)):Int))))))))=true) (h6:¬(↑(aI (ag y/ag (aI (↑(Int.gcd (ag x) (ag y)):Int)))).length:Int)=1) (h7:(cg (vZ (mkR (bn n (ag (aI (ag x/ag (aI (↑(Int.gcd (ag x) (ag y)):Int))))))))).size+(ByteArray.mk (#[(47:UInt8)])).size<=9223372036854775807) (h8:(okB (aI (ag y/ag (aI (↑(Int.gcd (ag x) (ag y)):Int)))))=true) (h9:(okZ (mkR (bn false (ag (aI (ag y/ag (aI (↑(Int.gcd (ag x) (ag y)):Int))))))))=true) (h10:(cg (vZ (mkR (bn n (ag (aI (ag x/ag (aI (↑(Int.gcd (ag x) (ag y)):Int))))))))++(ByteArray.mk (#[(47:UInt8)]))).size+(cg (vZ (mkR (bn false (ag (aI (ag y/ag (aI (↑(Int.gcd (ag x) (ag y)):Int))))))))).size<=9223372036854775807) (h11:(cg (vZ (mkR (bn n (ag (aI (ag x/ag (aI (↑(Int.gcd (ag x) (ag y)):Int))))))))++(ByteArray.mk (#[(47:UInt8)]))++cg (vZ (mkR (bn false (ag (aI (ag y/ag (aI (↑(Int.gcd (ag x) (ag y)):Int)))))))))=(yO n x y++(ByteArray.mk (#[(47:UInt8)]))++cg (vZ (mkR (bn false (ag (Dx x y))))))):
  bH A7 ((fl yN []).drop 3) (vf n x m y) 64 f67 true (sv (yO n x y++iD++cg (vZ (mkR (bn false (ag (Dx x y))))))):=
 wy [af h1,af h2,af h3,af h4,af h5,af (aN (fF.mpr h6)),yn h6,ah h7,af h8,af h9,ah h10,az h11] 15071116821947747238537080961
def ptN (s:AT):Int:=lP (s.extract 0 (bk (ak s)))
def ptD (s:AT):Int:=if bk (ak s)<s.size then lP (s.extract (bk (ak s)+1) s.size)else 1
def jk (s:AT):Bool:=decide (s.size<=800000)&&(bY (ak (bQ (s.extract 0 (bk (ak s)))))&&bY (ak (bQ (s.extract (bk (ak s)+1) s.size))))
noncomputable def NH:bp:={f:=66,ps:=[.str],rs:=[lW,lW],fresh:=false,pre:=fun d=>jk d.1,fn:=fun d=>(mkR (ptN d.1),mkR (ptD d.1),())}
noncomputable def VM:bp:={f:=67,ps:=[lW,lW],rs:=[.str],fresh:=true,pre:=fun d=>okZ d.1&&(okZ d.2.1&& !(Nat.beq (List.length (α:=Int) d.2.1.2) 0)),fn:=fun d=>(aU (Rat.divInt (vZ d.1) (vZ d.2.1)),())}
def VN:bD prog (bG NF):=cY (aX GL (aX amO (aX T4 eA)))
def VO:bD prog (bG A7):=uk (fun c hc=>by rw [List.mem_singleton.1 hc];exact Gu) (cY fun c hc=>by
 simp only [ep,j7,or_false]at hc;rcases hc with rfl |rfl |rfl |rfl
 .exact aj3
 .exact Ur
 .exact Uj
 .exact Vi)
def VP (s:AT):s.extract 0 s.size=s:=iW (by rw [Gj,uE,dI])
def amY (s:AT) (h:jk s=true):Holds prog false 66 [sv s] (.tuple [rv (mkR (ptN s)),rv (mkR (ptD s))]):=by
 unfold jk at h;rw [ae,ae,bB]at h;obtain⟨hl,h1,h2⟩:=h;have hle:bk (ak s)<=s.size:=by rw [c8];exact mi _
 have ha:bk s.data.toList=bk (ak s):=rfl;refine bL (c:=ND) func66 rfl rfl fun w F=> ?_
 unfold ptN ptD;by_cases hlt:bk (ak s)<s.size
 .rw [if_pos hlt];have uK:((bk (ak s):Int)+1).toNat=bk (ak s)+1:=by omega
  have key:=OF s (by omega) (by omega) (by omega) (by rw [ha,ax (by rw [lf _ _ _ hle];omega)];exact h1) (by omega) (by omega);rw [ha,uK]at key;exact bx VN 9 (key (by rw [ax (by rw [lf _ _ _ (aG _)];omega)];exact h2) rfl rfl)
 .rw [if_neg hlt,show bk (ak s)=s.size by omega,VP];rw [show bk (ak s)=s.size by omega,VP]at h1;exact bx VN 5 (amS s (by omega) (by omega) (by rw [ax hl];exact h1))
def VQ:NH.Ok prog:=fun⟨s,_⟩ h=>amY s h
def amZ {n:Bool} {x:Int} {g:Int} (h:g∣x):bn n x/g=bn n (x/g):=by
 cases n with
 |false=>rfl
 |true=>exact Int.neg_ediv_of_dvd h
def Hg {n:Bool} {x y:Int}:Int.gcd (bn n x) y=Int.gcd x y:=by
 cases n with
 |false=>rfl
 |true=>exact Int.neg_gcd
def Hh {n:Bool} {x y:Int} (hy:0<y):(Rat.divInt (bn n x) y).num=bn n (x/Int.gcd x y)/\((Rat.divInt (bn n x) y).den:Int)=y/Int.gcd x y:=by
 have h1:=alL (n:=bn n x) (d:=y) (by omega);have h2:=alM (n:=bn n x) (d:=y) (by omega);have hg:0<Int.gcd x y:=Int.gcd_pos_of_ne_zero_right _ (by omega);have hq:1<=A1 (bn n x) y:=by
  unfold A1;rw [Hg];exact Int.le_ediv_of_mul_le (by omega) (by rw [Int.one_mul];exact Int.le_of_dvd hy (Int.gcd_dvd_right ..))
 obtain⟨h3,h4⟩:=sa hq h2;rw [h1]at h3 h4;refine⟨?_, ?_⟩
 .rw [h3];unfold GR;rw [Hg,amZ (Int.gcd_dvd_left ..)]
 .rw [h4];unfold A1;rw [Hg]
def VR {z:Int} {k:Nat} (h:(z.natAbs:Int)<1000000000^k):(cg z).size<=9*k+2:=by
 have h1:=Nk (gN (z:=(z.natAbs:Int)) (Int.natCast_nonneg _)).1;rw [(gN (z:=(z.natAbs:Int)) (Int.natCast_nonneg _)).2.2,Int.toNat_natCast]at h1;have h2:=yr (Int.natCast_nonneg _) h;rw [uE,jH];by_cases hz:z<0
 .rw [itoa_neg hz,List.length_cons];omega
 .rw [wC hz];omega
def qn {n:Bool} {x:Int} (h:0<=x):((bn n x).natAbs:Int)=x:=by
 cases n with
 |false=>show(x.natAbs:Int)=x;omega
 |true=>show((-x).natAbs:Int)=x;omega
def VS (n m:Bool) (x y:List Int) (h1:okA x=true) (h2:okA y=true) (hy:0<ag y) (w:World) (F:Sv.Env):
  aP prog w F 57 ((fl yN []).drop 3) (vf n x m y).T (vf n x m y).H (fy prog true f67 (sv (aU (Rat.divInt (bn n (ag x)) (ag y))))):=by
 have hS:=VO;obtain⟨GJ,tx,lx⟩:=fE.1 h1;obtain⟨AZ,ty,ly⟩:=fE.1 h2;have hx0:=gO GJ;have hx1:=uD h1;have hy1:=uD h2;have hg:0<Int.gcd (ag x) (ag y):=Int.gcd_pos_of_ne_zero_right _ (by omega);have am0:(Int.gcd (ag x) (ag y):Int)<=ag y:=Int.le_of_dvd hy (Int.gcd_dvd_right ..);obtain⟨r1,r2⟩:=Hh (n:=n) (x:=ag x) (y:=ag y) hy;have am1:ag (aI (Int.gcd (ag x) (ag y)))=Int.gcd (ag x) (ag y):=(gN (Int.natCast_nonneg _)).2.2;have VT:okA (aI (Int.gcd (ag x) (ag y)))=true:=GI (k:=y.length) (Int.natCast_nonneg _) (by omega) ly;have atb:1<=ag y/Int.gcd (ag x) (ag y):=Int.le_ediv_of_mul_le (by omega) (by rw [Int.one_mul];exact am0);have hpx:0<=ag x/Int.gcd (ag x) (ag y):=Int.ediv_nonneg hx0 (by omega);have atc:ag x/Int.gcd (ag x) (ag y)<=ag x:=Int.ediv_le_self _ hx0;have atd:ag y/Int.gcd (ag x) (ag y)<=ag y:=Int.ediv_le_self _ (by omega);have k1:=amV n x m y;have k2:=amW n x m y;have dF:=amX n x m y;unfold yO Dx NG at*;generalize cu:(Int.gcd (ag x) (ag y):Int)=g at*;rw [am1]at k1 k2 dF;generalize hp:ag x/g=p at*;generalize hq:ag y/g=q at*;have am2:ag (aI p)=p:=(gN hpx).2.2;have VU:ag (aI q)=q:=(gN (by omega)).2.2;rw [am2]at k1 k2 dF;rw [VU]at k2 dF;have pA:(okA x&&okA y)=true:=by rw [h1,h2];rfl
 have NI:(okA x&&(okA (aI g)&&decide (0<g)))=true:=by rw [h1,VT,ax (by omega)];rfl
 have NJ:(okA y&&(okA (aI g)&&decide (0<g)))=true:=by rw [h2,VT,ax (by omega)];rfl
 have pB:okB (aI p)=true:=AY (k:=x.length) hpx (by omega) (by omega);have qB:okB (aI q)=true:=AY (k:=y.length) (by omega) (by omega) (by omega);have NK:okZ (mkR (bn n p))=true:=jq (k:=x.length) (by rw [qn hpx];omega) lx;have VV:okZ (mkR (bn false q))=true:=jq (k:=y.length) (by rw [qn (by omega)];omega) ly;have sp:(cg (vZ (mkR (bn n p)))).size<=9*x.length+2:=by rw [ce];exact VR (by rw [qn hpx];omega)
 have sq:(cg (vZ (mkR (bn false q)))).size<=9*y.length+2:=by rw [ce];exact VR (by rw [qn (by omega)];omega)
 have ed:((Rat.divInt (bn n (ag x)) (ag y)).den:Int)=q:=r2;have bF:(Rat.divInt (bn n (ag x)) (ag y)).num=bn n p:=r1;by_cases hq1:q=1
 .have e:aU (Rat.divInt (bn n (ag x)) (ag y))=cg (vZ (mkR (bn n p))):=by
   unfold aU;rw [if_pos (by omega),bF,ce]
  have e1:aI q=[1]:=by
   have h11:eX [(1:Int)]:=fun k hk=>by
    obtain rfl:k=0:=by simpa using hk.symm
    show(1:Int)≠0;decide
   have:=Gs (l:=[(1:Int)]) (.cons (show(0:Int)<=1/\(1:Int)<1000000000 by decide) .nil) h11;rw [show ag [(1:Int)]=1 from tX _ _]at this;rw [hq1];exact this
  rw [e];rw [e1]at k1;exact bP (s:=vf n x m y) hS (k1 pA NI NJ pB NK rfl (by decide) rfl rfl)
 .have e:aU (Rat.divInt (bn n (ag x)) (ag y))=cg (vZ (mkR (bn n p)))++iD++cg (vZ (mkR (bn false q))):=by
   unfold aU;rw [if_neg (by omega),bF,ed,ce,ce];refine iW ?_;rw [dp,dp,jH,jH];show _++47::_=_++[47]++_;rw [q5];rfl
  rw [e];have cQ:(cg (vZ (mkR (bn n p)))).size+(ByteArray.mk #[47]).size<=9223372036854775807:=by
   show _+1<=_;omega
  have z2:(cg (vZ (mkR (bn n p)))++ByteArray.mk #[47]).size+(cg (vZ (mkR (bn false q)))).size<=9223372036854775807:=by
   rw [ByteArray.size_append];show _+1+_<=_;omega
  by_cases nh:((aI q).length:Int)=1
  .have hne:¬(aI q).getD 0 0=1:=fun h=>by
    obtain⟨c,hc⟩:∃c,aI q=[c]:=List.length_eq_one_iff.1 (by omega);rw [hc]at h;have h:c=1:=h;rw [hc,h]at VU;have:ag [(1:Int)]=1:=tX _ _;omega
   exact bP (s:=vf n x m y) hS (k2 pA NI NJ pB NK nh (by show 0<_;omega) hne cQ qB VV z2 rfl)
  .exact bP (s:=vf n x m y) hS (dF pA NI NJ pB NK nh cQ qB VV z2 rfl)
def am3 {y:List Int} (h:okA y=true) (hn:Nat.beq y.length 0=false):0<ag y:=by
 obtain⟨AZ,ty,_⟩:=fE.1 h;have h0:=gO AZ;rcases Int.lt_or_le 0 (ag y)with h1|h1
 .exact h1
 .have:y=[]:=(Fi k8 AZ ty).1 (by unfold ag at*;omega);rw [this]at hn;cases hn
def am4 (n m:Bool) (x y:List Int) (h:okZ (n,x)=true) (g:okZ (m,y)=true) (hy:0<ag y):Holds prog true 67 [rv (n,x),rv (m,y)] (sv (aU (Rat.divInt (bn n (ag x)) (bn m (ag y))))):=by
 have hS:=VO;obtain⟨h1,h2⟩:=fj.1 h;obtain⟨g1,g2⟩:=fj.1 g;refine bL (c:=yN) func67 rfl rfl fun w F=> ?_
 cases m with
 |false=>
  refine cC hS 3 (amT n x y) ?_;exact VS n false x y h1 g1 hy w F
 |true=>
  refine cC hS 3 (amU n x y h g) ?_;have a1:okZ (mkR (-vZ (n,x)))=true:=jq (k:=x.length) (by
   rw [Int.natAbs_neg];show((bn n (ag x)).natAbs:Int)<_;rw [qn (gO (fE.1 h1).1)];exact uD h1) (fE.1 h1).2.2
  have a2:okZ (mkR (-vZ (true,y)))=true:=jq (k:=y.length) (by
   rw [Int.natAbs_neg];show((bn true (ag y)).natAbs:Int)<_;rw [qn (cm hy)];exact uD g1) (fE.1 g1).2.2
  have e1:bn (mkR (-vZ (n,x))).1 (ag (mkR (-vZ (n,x))).2)= -vZ (n,x):=ce _;have e2:ag (mkR (-vZ (true,y))).2=ag y:=by
   show ag (aI ((-vZ (true,y)).natAbs:Int))=_;rw [(gN (Int.natCast_nonneg _)).2.2];show((-(-ag y)).natAbs:Int)=_;omega
  have key:=VS (mkR (-vZ (n,x))).1 (mkR (-vZ (true,y))).1 (mkR (-vZ (n,x))).2 (mkR (-vZ (true,y))).2 (fj.1 a1).1 (fj.1 a2).1 (by rw [e2];exact hy) w F;rw [e1,e2]at key;have e3:Rat.divInt (bn n (ag x)) (bn true (ag y))=Rat.divInt (-vZ (n,x)) (ag y):=by
   show Rat.divInt (bn n (ag x)) (-ag y)=Rat.divInt (-(bn n (ag x))) (ag y);have:=Rat.neg_divInt_neg (bn n (ag x)) (-ag y);rw [Int.neg_neg]at this;exact this.symm
  rw [e3];exact key
def am5:VM.Ok prog:=fun⟨⟨n,x⟩,⟨m,y⟩,_⟩ h=>by
 have h:(okZ (n,x)&&(okZ (m,y)&& !(Nat.beq y.length 0)))=true:=h;rw [ae,ae,Bool.not_eq_true']at h;exact am4 n m x y h.1 h.2.1 (am3 (fj.1 h.2.1).1 h.2.2)
noncomputable def pS:Code:=(f65.body).getD .skip
noncomputable def NL:Code:=(f44.body).getD .skip
noncomputable def sK:bI:=aR [Df,ME]
noncomputable def NM:bI:=aR [MC,GM]
def kI (u:AT) (n:Bool) (k:Int):bC:={n:=54,sl:=[(5,sv u),(6,bv n),(7,iv k)],bF:=[],next:=64}
def am6 (s:AT) (h1:(s.size:Int)>20):
  bu sK (fl pS []) 4 54 [sv s] 3 f65 true (.tuple [iv 0,iv 0,bv false]):=
 wy [ah h1] 1
def am7 (s:AT) (h1:¬(s.size:Int)>20) (h2:(s.size:Int)>0) (h3:Int.toNat 0<s.size) (h4:¬(↑(UInt8.toNat (s.data.toList.getD (Int.toNat 0) (0:UInt8))):Int)=45) (h5:s.size<=1000000000):
  cO sK (fl pS []) 8 54 [sv s] 94 .normal [] (kI s false (bk (ak s))):=
 wy [aA h1,af (aN (ax h2)),ah h3,ah h2,yn h4,ah h5,az (fF.mpr h4)] 8072161649416478849
def am8 (s:AT) (h1:¬(s.size:Int)>20) (h2:(s.size:Int)>0) (h3:Int.toNat 0<s.size) (h4:(↑(UInt8.toNat (s.data.toList.getD (Int.toNat 0) (0:UInt8))):Int)=45) (h5:Int.toNat 1<=s.size) (h6:(s.extract (Int.toNat 1) s.size).size<=1000000000) (h7:(s.extract (Int.toNat 1) s.size)=(s.extract 1 s.size)) (h8:(↑(bk (s.extract (Int.toNat 1) s.size).data.toList):Int)=(↑(bk (s.extract 1 s.size).data.toList):Int)):
  cO sK (fl pS []) 8 54 [sv s] 126 .normal [] (kI (s.extract 1 s.size) true (bk (ak (s.extract 1 s.size)))):=
 wy [aA h1,af (aN (ax h2)),ah h3,ah h2,cW h4,ah h5,ah (by omega:s.size<=s.size),ah h6,az h7,az (gT.mpr h4),az h8] 215836358573926683810734209
def am9 (u:AT) (n:Bool) (k:Int) (h1:k>9):
  bH sK ((fl pS []).drop 8) (kI u n k) 224 f65 true (.tuple [iv 0,iv 0,bv false]):=
 wy [af (aS (ax h1)),ah h1] 2164527169
def ana (u:AT) (n:Bool) (k:Int) (h1:¬k>9) (h2:i6 ((u.size:Int)-k)) (h3:(u.size:Int)-k>10):
  bH sK ((fl pS []).drop 8) (kI u n k) 223 f65 true (.tuple [iv 0,iv 0,bv false]):=
 wy [af (aS (ab h1)),yi h2,aA h1,ah h3] 17799452037185
def anb (u:AT) (k:Int) (h1:¬k>9) (h2:i6 ((u.size:Int)-k)) (h3:¬(u.size:Int)-k>10) (h4:0<=k) (h5:k.toNat<=u.size) (h6:(decide ((u.extract 0 k.toNat).size<=17)&&bY (u.extract 0 k.toNat).data.toList)=true) (h7:¬k<(u.size:Int)):
  bH sK ((fl pS []).drop 8) (kI u false k) 543 f65 true (.tuple [iv (bt (ak (u.extract 0 k.toNat))),iv 1,bv true]):=
 wy [af (aS (ab h1)),yi h2,aA h1,aA h3,ah h4,ah h5,af h6,aA h7] 38302359651223005827137
def anc (u:AT) (k:Int) (h1:¬k>9) (h2:i6 ((u.size:Int)-k)) (h3:¬(u.size:Int)-k>10) (h4:0<=k) (h5:k.toNat<=u.size) (h6:(decide ((u.extract 0 k.toNat).size<=17)&&bY (u.extract 0 k.toNat).data.toList)=true) (h7:k<(u.size:Int)) (h8:i6 (k+1)) (h9:0<=k+1) (h10:(k+1).toNat<=u.size) (h11:(decide ((u.extract (k+1).toNat u.size).size<=17)&&bY (u.extract (k+1).toNat u.size).data.toList)=true):
  bH sK ((fl pS []).drop 8) (kI u false k) 671 f65 true (.tuple [iv (bt (ak (u.extract 0 k.toNat))),iv (bt (ak (u.extract (k+1).toNat u.size))),bv true]):=
 wy [af (aS (ab h1)),yi h2,aA h1,aA h3,ah h4,ah h5,af h6,ah h7,yi h8,ah h9,ah h10,ah (by omega:u.size<=u.size),af h11] 66882382688987832236781586354241
def ane (u:AT) (k:Int) (h1:¬k>9) (h2:i6 ((u.size:Int)-k)) (h3:¬(u.size:Int)-k>10) (h4:0<=k) (h5:k.toNat<=u.size) (h6:(decide ((u.extract 0 k.toNat).size<=17)&&bY (u.extract 0 k.toNat).data.toList)=true) (h7:¬k<(u.size:Int)) (h8:i6 (0-bt (u.extract 0 k.toNat).data.toList)):
  bH sK ((fl pS []).drop 8) (kI u true k) 799 f65 true (.tuple [iv (0-bt (ak (u.extract 0 k.toNat))),iv 1,bv true]):=
 wy [af (aS (ab h1)),yi h2,aA h1,aA h3,ah h4,ah h5,af h6,aA h7,yi h8] 174123620384157824163516481
def anf (u:AT) (k:Int) (h1:¬k>9) (h2:i6 ((u.size:Int)-k)) (h3:¬(u.size:Int)-k>10) (h4:0<=k) (h5:k.toNat<=u.size) (h6:(decide ((u.extract 0 k.toNat).size<=17)&&bY (u.extract 0 k.toNat).data.toList)=true) (h7:k<(u.size:Int)) (h8:i6 (k+1)) (h9:0<=k+1) (h10:(k+1).toNat<=u.size) (h11:(decide ((u.extract (k+1).toNat u.size).size<=17)&&bY (u.extract (k+1).toNat u.size).data.toList)=true) (h12:i6 (0-bt (u.extract 0 k.toNat).data.toList)):
  bH sK ((fl pS []).drop 8) (kI u true k) 927 f65 true (.tuple [iv (0-bt (ak (u.extract 0 k.toNat))),iv (bt (ak (u.extract (k+1).toNat u.size))),bv true]):=
 wy [af (aS (ab h1)),yi h2,aA h1,aA h3,ah h4,ah h5,af h6,ah h7,yi h8,ah h9,ah h10,ah (by omega:u.size<=u.size),af h11,yi h12] 290835506460639335029944576022679617
abbrev A8 (z:Int):Int:=if 0-z>z then 0-z else z
abbrev wR:AT:=⟨#[45]⟩
def ang (n d:Int) (h1:¬n< -4000000000000000000) (h2:¬n>4000000000000000000) (h3:¬d< -4000000000000000000) (h4:¬d>4000000000000000000) (h5:¬d<0) (h6:i6 (0-n)) (h7:(decide ((0:av.den (.int .i64))<=if 0-n>n then 0-n else n)&&decide ((0:av.den (.int .i64))<=d))=true) (h8:(bA n d)≠0) (h9:i6 (Int.tdiv n (bA n d))) (h10:i6 (Int.tdiv d (bA n d))) (h11:Int.tdiv n (bA n d)<0) (h12:i6 (0-Int.tdiv n (bA n d))) (dG:(decide ((0:av.den (.int .i64))<=if 0-Int.tdiv n (bA n d)>Int.tdiv n (bA n d)then 0-Int.tdiv n (bA n d)else Int.tdiv n (bA n d))&&(decide ((if 0-Int.tdiv n (bA n d)>Int.tdiv n (bA n d)then 0-Int.tdiv n (bA n d)else Int.tdiv n (bA n d))<=(9223372036854775807:av.den (.int .i64)))&&decide (1<=(20:av.den (.int .i64)))))=true) (gq:(ByteArray.mk (#[(45:UInt8)])).size+(ByteArray.mk (List.toArray (cx 20 (if 0-Int.tdiv n (bA n d)>Int.tdiv n (bA n d)then 0-Int.tdiv n (bA n d)else Int.tdiv n (bA n d)) 1 []))).size<=9223372036854775807) (iB:¬Int.tdiv d (bA n d)>1) (j3:((ByteArray.mk (#[(45:UInt8)]))++(ByteArray.mk (List.toArray (cx 20 (if 0-Int.tdiv n (bA n d)>Int.tdiv n (bA n d)then 0-Int.tdiv n (bA n d)else Int.tdiv n (bA n d)) 1 []))))=((ByteArray.mk (#[(45:UInt8)]))++(ByteArray.mk (List.toArray (cx 20 (if 0-Int.tdiv n (bA n d)>Int.tdiv n (bA n d)then 0-Int.tdiv n (bA n d)else Int.tdiv n (bA n d)) 1 []))))):
  bu NM (fl NL []) 30 61 [iv n,iv d] 10459 f44 true (sv (wR++kE (A8 (Int.tdiv n (Int.gcd (A8 n) d))) 1)):=
 wy [af (aS (ab h1)),aA h1,af (aS (ab h2)),aA h2,af (aS (ab h3)),aA h3,aA h4,aA h5,yi h6,af h7,ah h8,yi h9,yi h10,ah h11,yi h12,af dG,ah gq,aA iB,az j3] 105000044317847363205758449615782206513217
def anh (n d:Int) (h1:¬n< -4000000000000000000) (h2:¬n>4000000000000000000) (h3:¬d< -4000000000000000000) (h4:¬d>4000000000000000000) (h5:¬d<0) (h6:i6 (0-n)) (h7:(decide ((0:av.den (.int .i64))<=if 0-n>n then 0-n else n)&&decide ((0:av.den (.int .i64))<=d))=true) (h8:(bA n d)≠0) (h9:i6 (Int.tdiv n (bA n d))) (h10:i6 (Int.tdiv d (bA n d))) (h11:Int.tdiv n (bA n d)<0) (h12:i6 (0-Int.tdiv n (bA n d))) (dG:(decide ((0:av.den (.int .i64))<=if 0-Int.tdiv n (bA n d)>Int.tdiv n (bA n d)then 0-Int.tdiv n (bA n d)else Int.tdiv n (bA n d))&&(decide ((if 0-Int.tdiv n (bA n d)>Int.tdiv n (bA n d)then 0-Int.tdiv n (bA n d)else Int.tdiv n (bA n d))<=(9223372036854775807:av.den (.int .i64)))&&decide (1<=(20:av.den (.int .i64)))))=true) (gq:(ByteArray.mk (#[(45:UInt8)])).size+(ByteArray.mk (List.toArray (cx 20 (if 0-Int.tdiv n (bA n d)>Int.tdiv n (bA n d)then 0-Int.tdiv n (bA n d)else Int.tdiv n (bA n d)) 1 []))).size<=9223372036854775807) (iB:Int.tdiv d (bA n d)>1) (j3:((ByteArray.mk (#[(45:UInt8)]))++(ByteArray.mk (List.toArray (cx 20 (if 0-Int.tdiv n (bA n d)>Int.tdiv n (bA n d)then 0-Int.tdiv n (bA n d)else Int.tdiv n (bA n d)) 1 [])))).size+(ByteArray.mk (#[(47:UInt8)])).size<=9223372036854775807) (uA:(decide ((0:av.den (.int .i64))<=Int.tdiv d (bA n d))&&(decide (Int.tdiv d (bA n d)<=(9223372036854775807:av.den (.int .i64)))&&decide (1<=(20:av.den (.int .i64)))))=true) (uB:((ByteArray.mk (#[(45:UInt8)]))++(ByteArray.mk (List.toArray (cx 20 (if 0-Int.tdiv n (bA n d)>Int.tdiv n (bA n d)then 0-Int.tdiv n (bA n d)else Int.tdiv n (bA n d)) 1 [])))++(ByteArray.mk (#[(47:UInt8)]))).size+(ByteArray.mk (List.toArray (cx 20 (Int.tdiv d (bA n d)) 1 []))).size<=9223372036854775807) (h19:((ByteArray.mk (#[(45:UInt8)]))++(ByteArray.mk (List.toArray (cx 20 (if 0-Int.tdiv n (bA n d)>Int.tdiv n (bA n d)then 0-Int.tdiv n (bA n d)else Int.tdiv n (bA n d)) 1 [])))++(ByteArray.mk (#[(47:UInt8)]))++(ByteArray.mk (List.toArray (cx 20 (Int.tdiv d (bA n d)) 1 []))))=((ByteArray.mk (#[(45:UInt8)]))++(ByteArray.mk (List.toArray (cx 20 (if 0-Int.tdiv n (bA n d)>Int.tdiv n (bA n d)then 0-Int.tdiv n (bA n d)else Int.tdiv n (bA n d)) 1 [])))++(ByteArray.mk (#[(47:UInt8)]))++(ByteArray.mk (List.toArray (cx 20 (Int.tdiv d (bA n d)) 1 []))))):
  bu NM (fl NL []) 30 61 [iv n,iv d] 14555 f44 true (sv (wR++kE (A8 (Int.tdiv n (Int.gcd (A8 n) d))) 1++iD++kE (Int.tdiv d (Int.gcd (A8 n) d)) 1)):=
 wy [af (aS (ab h1)),aA h1,af (aS (ab h2)),aA h2,af (aS (ab h3)),aA h3,aA h4,aA h5,yi h6,af h7,ah h8,yi h9,yi h10,ah h11,yi h12,af dG,ah gq,ah iB,ah j3,af uA,ah uB,az h19] 31874838871619119136349477082024326987223146561
def sL (s:AT):Nat:=bk (ak (bQ s))
def Dy (s:AT):Int:=bt (ak ((bQ s).extract 0 (sL s)))
def Dz (s:AT):Int:=if sL s<(bQ s).size then bt (ak ((bQ s).extract (sL s+1) (bQ s).size))else 1
def qB (s:AT):Bool:=decide (s.size<=20)&&(decide (sL s<=9)&&decide ((bQ s).size-sL s<=10))
def jM (s:AT):Bool:=(decide (0<s.size)&&decide (s.size<=800000))&&(bY (ak ((bQ s).extract 0 (sL s)))&&bY (ak ((bQ s).extract (sL s+1) (bQ s).size)))
def jr (s:AT):Int:=if qB s then bn (bZ s) (Dy s)else 0
def fS (s:AT):Int:=if qB s then Dz s else 0
noncomputable def VW:bp:={f:=65,ps:=[.str],rs:=[.int .i64, .int .i64, .bool],fresh:=true,pre:=fun d=>jM d.1,fn:=fun d=>(jr d.1,fS d.1,qB d.1,())}
noncomputable def NN:bp:={f:=44,ps:=[.int .i64, .int .i64],rs:=[.str],fresh:=true,pre:=fun d=>(decide (-4000000000000000000<=d.1)&&decide (d.1<=4000000000000000000))&&(decide (0<d.2.1)&&decide (d.2.1<=4000000000000000000)),fn:=fun d=>(aU (Rat.divInt d.1 d.2.1),())}
def VX:bD prog (bG sK):=cY (aX GL (aX Uv eA))
def VY:bD prog (bG NM):=cY (aX Us (aX MG eA))
abbrev NP (a b:Int) (c:Bool):Exit->aq aa->ai->Prop:=fy prog true f65 (.tuple [iv a,iv b,bv c])
def ani (u:AT) (n:Bool) (hl:u.size<=20) (h1:bY (ak (u.extract 0 (bk (ak u))))=true) (h2:bY (ak (u.extract (bk (ak u)+1) u.size))=true) (w:World) (F:Sv.Env):
  aP prog w F 54 ((fl pS []).drop 8) (kI u n (bk (ak u))).T (kI u n (bk (ak u))).H (if bk (ak u)<=9/\u.size-bk (ak u)<=10 then NP (bn n (bt (ak (u.extract 0 (bk (ak u)))))) (if bk (ak u)<u.size then bt (ak (u.extract (bk (ak u)+1) u.size))else 1) true else NP 0 0 false):=by
 have hS:=VX;have hle:bk (ak u)<=u.size:=by rw [c8];exact mi _
 generalize bk (ak u)=k at*;have uK:(k:Int).toNat=k:=by omega
 have Hi:((k:Int)+1).toNat=k+1:=by omega
 have hz:=lf u 0 k hle;have nB:=lf u (k+1) u.size (aG _);by_cases hk:k<=9
 .by_cases hd:u.size-k<=10
  .rw [if_pos ⟨hk,hd⟩];have g1:(decide ((u.extract 0 k).size<=17)&&bY (ak (u.extract 0 k)))=true:=by rw [h1,ax (by omega)];rfl
   have g2:(decide ((u.extract (k+1) u.size).size<=17)&&bY (ak (u.extract (k+1) u.size)))=true:=by rw [h2,ax (by omega)];rfl
   have hv:=uJ h1;have hp:(10:Int)^(u.extract 0 k).size<=10^9:=iQ (by decide) (by omega);have VH:(10:Int)^9=1000000000:=rfl;by_cases hlt:k<u.size
   .rw [if_pos hlt];cases n with
    |false=>
     have key:=anc u (k:Int) (by omega) (by omega) (by omega) (by omega);rw [uK,Hi]at key;exact bP (s:=kI u false k) hS (key hle g1 (by omega) (by omega) (by omega) (by omega) g2)
    |true=>
     have key:=anf u (k:Int) (by omega) (by omega) (by omega) (by omega);rw [uK,Hi]at key;have key:=key hle g1 (by omega) (by omega) (by omega) (by omega) g2 (by show-9223372036854775808<=0-bt (ak (u.extract 0 k))/\0-bt (ak (u.extract 0 k))<=9223372036854775807;omega);rw [Int.zero_sub]at key;exact bP (s:=kI u true k) hS key
   .rw [if_neg hlt];cases n with
    |false=>
     have key:=anb u (k:Int) (by omega) (by omega) (by omega) (by omega);rw [uK]at key;exact bP (s:=kI u false k) hS (key hle g1 (by omega))
    |true=>
     have key:=ane u (k:Int) (by omega) (by omega) (by omega) (by omega);rw [uK]at key;have key:=key hle g1 (by omega) (by show-9223372036854775808<=0-bt (ak (u.extract 0 k))/\0-bt (ak (u.extract 0 k))<=9223372036854775807;omega);rw [Int.zero_sub]at key;exact bP (s:=kI u true k) hS key
  .rw [if_neg fun h=>hd h.2];exact bP (s:=kI u n k) hS (ana u n (k:Int) (by omega) (by omega) (by omega))
 .rw [if_neg fun h=>hk h.1];exact bP (s:=kI u n k) hS (am9 u n (k:Int) (by omega))
def anj (s:AT) (h:jM s=true):Holds prog true 65 [sv s] (.tuple [iv (if qB s then bn (bZ s) (Dy s)else 0),iv (if qB s then Dz s else 0),bv (qB s)]):=by
 have hS:=VX;unfold jM at h;rw [ae,ae,ae,bB,bB]at h;obtain⟨⟨h0,hl⟩,h1,h2⟩:=h;refine bL (c:=pS) func65 rfl rfl fun w F=> ?_
 by_cases NQ:s.size<=20
 .have fin:∀u n,bQ s=u->bZ s=n->u.size<=20->aP prog w F 54 ((fl pS []).drop 8) (kI u n (bk (ak u))).T (kI u n (bk (ak u))).H (NP (if qB s then bn (bZ s) (Dy s)else 0) (if qB s then Dz s else 0) (qB s)):=fun u n e1 e2 hu=>by
   unfold Dy Dz qB sL at*;rw [e1]at h1 h2 ⊢;rw [e2,ax NQ,Bool.true_and];have key:=ani u n hu h1 h2 w F;by_cases hc:bk (ak u)<=9/\u.size-bk (ak u)<=10
   .rw [if_pos hc]at key;rw [ax hc.1,ax hc.2];exact key
   .rw [if_neg hc]at key;have e:(decide (bk (ak u)<=9)&&decide (u.size-bk (ak u)<=10))=false:=by
     rw [Bool.eq_false_iff];intro h;rw [ae,bB,bB]at h;exact hc h
    rw [e];exact key
  by_cases lg:(b7 s 0).toNat=45
  .have e1:bZ s=true:=by unfold bZ;rw [ax h0,ax lg];rfl
   have e2:bQ s=s.extract 1 s.size:=by unfold bQ;rw [e1]
   have hz:=lf s 1 s.size (aG _);refine cC hS 8 (am8 s (by omega) (by omega) (by show 0<s.size;exact h0) (by show((b7 s 0).toNat:Int)=45;omega) (by show 1<=s.size;omega) (by show(s.extract 1 s.size).size<=_;omega) rfl rfl) ?_;exact fin _ _ e2 e1 (by omega)
  .have e1:bZ s=false:=by unfold bZ;rw [ax h0,ab lg];rfl
   have e2:bQ s=s:=by unfold bQ;rw [e1]
   refine cC hS 8 (am7 s (by omega) (by omega) (by show 0<s.size;exact h0) (by show¬((b7 s 0).toNat:Int)=45;omega) (by omega)) ?_;exact fin _ _ e2 e1 NQ
 .have e:qB s=false:=by unfold qB;rw [ab NQ];rfl
  rw [e];exact bx hS 4 (am6 s (by omega))
def ON:VW.Ok prog:=fun⟨s,_⟩ h=>anj s h
def VZ {n:Bool} {x d g:Int} (hd:0<d) (hx:0<=x) (hg:(Int.gcd x d:Int)=g):(aU (Rat.divInt (bn n x) d)).data.toList=Lib.itoa (bn n (x/g))++(if d/g>1 then 47::Lib.itoa (d/g)else []):=by
 obtain⟨r1,r2⟩:=Hh (n:=n) (x:=x) hd;rw [hg]at r1 r2;have hp:0<(Rat.divInt (bn n x) d).den:=(Rat.divInt (bn n x) d).den_pos;unfold aU;by_cases h1:d/g>1
 .rw [if_neg (by omega),if_pos h1,r1,r2]
 .rw [if_pos (by omega),if_neg h1,jH,r1,List.append_nil]
def ank (n d:Int) (nr: -4000000000000000000<=n) (hn2:n<=4000000000000000000) (hd:0<d) (gJ:d<=4000000000000000000):Holds prog true 44 [iv n,iv d] (sv (aU (Rat.divInt n d))):=by
 have hg:0<Int.gcd n d:=Int.gcd_pos_of_ne_zero_right _ (by omega);have hgd:(Int.gcd n d:Int)<=d:=Int.le_of_dvd hd (Int.gcd_dvd_right ..);by_cases hn:0<=n
 .have key:=Hd n d hn hn2 hd gJ;have e:wO (n/Int.gcd n d) (d/Int.gcd n d)=aU (Rat.divInt n d):=iW (by
   have b1:0<=n/(Int.gcd n d:Int):=Int.ediv_nonneg hn (by omega);have b2:n/(Int.gcd n d:Int)<=n:=Int.ediv_le_self _ hn;have b3:0<=d/(Int.gcd n d:Int):=Int.ediv_nonneg (by omega) (by omega);have b4:d/(Int.gcd n d:Int)<=d:=Int.ediv_le_self _ (by omega);have:=VZ (n:=false) (x:=n) hd hn rfl;show cx 20 _ 1 []++_=_;have e0:bn false n=n:=rfl;rw [e0]at this;rw [this,Ds b1 (by omega),Ds b3 (by omega)];rfl)
  rw [<-e];exact key
 .obtain⟨x,rfl⟩:∃x,n= -x:=⟨-n,by omega⟩;have hm:(if(0:Int)- -x> -x then(0:Int)- -x else-x)=x:=by rw [if_pos (by omega)];omega
  have k1:=ang (-x) d;have k2:=anh (-x) d;have eg:Int.gcd (-x) d=Int.gcd x d:=Int.neg_gcd;unfold A8 at k1 k2;simp only [bA,hm]at k1 k2;rw [eg]at hg hgd;have B3:(Int.gcd x d:Int)<=x:=Int.le_of_dvd (by omega) (Int.gcd_dvd_left ..);have t1:Int.tdiv (-x) (Int.gcd x d:Int)= -(x/(Int.gcd x d:Int)):=by rw [Int.neg_tdiv,Int.tdiv_eq_ediv_of_nonneg (by omega)]
  have t2:Int.tdiv d (Int.gcd x d:Int)=d/(Int.gcd x d:Int):=Int.tdiv_eq_ediv_of_nonneg (by omega);simp only [t1,t2]at k1 k2;have b1:1<=x/(Int.gcd x d:Int):=Int.le_ediv_of_mul_le (by omega) (by omega);have b2:x/(Int.gcd x d:Int)<=x:=Int.ediv_le_self _ (by omega);have b3:0<=d/(Int.gcd x d:Int):=Int.ediv_nonneg (by omega) (by omega);have b4:d/(Int.gcd x d:Int)<=d:=Int.ediv_le_self _ (by omega);have ht:=VZ (n:=true) (x:=x) hd (by omega) rfl;have es:bn true x= -x:=rfl;have anl:bn true (x/(Int.gcd x d:Int))= -(x/(Int.gcd x d:Int)):=rfl;rw [es,anl]at ht;have qh:(1:Int)<=(Int.gcd x d:Int):=by omega
  generalize (Int.gcd x d:Int)=g at*;generalize x/g=y at*;generalize d/g=z at*;have hm2:(if(0:Int)- -y> -y then(0:Int)- -y else-y)=y:=by rw [if_pos (by omega)];omega
  simp only [hm2]at k1 k2;have sM:=Ds (n:=y) (by omega) (by omega);have fz:=Ds (n:=z) b3 (by omega);have zx:Lib.itoa (-y)=45::Lib.itoa y:=by rw [itoa_neg (by omega),wC (by omega),Int.natAbs_neg]
  rw [zx]at ht;have l1:=Dg 20 y 1 [];have l2:=Dg 20 z 1 [];have cQ:=GN (cx 20 y 1 []);have z2:=GN (cx 20 z 1 []);simp only [List.length_nil,aw]at l1 l2;have V0:(decide ((0:Int)<=x)&&decide ((0:Int)<=d))=true:=by rw [ax (by omega),ax (by omega)];rfl
  have py:(decide ((0:Int)<=y)&&(decide (y<=(9223372036854775807:Int))&&decide ((1:Int)<=20)))=true:=by rw [ax (by omega),ax (by omega)];rfl
  have anm:(decide ((0:Int)<=z)&&(decide (z<=(9223372036854775807:Int))&&decide ((1:Int)<=20)))=true:=by rw [ax (by omega),ax (by omega)];rfl
  refine bL (c:=NL) func44 rfl rfl fun w F=> ?_
  by_cases h1:z>1
  .rw [if_pos h1]at ht;have e:aU (Rat.divInt (-x) d)=wR++kE y 1++iD++kE z 1:=iW (by
    rw [ht,dp,dp,dp];show _=[45]++cx 20 y 1 []++[47]++cx 20 z 1 [];rw [sM,fz];simp)
   rw [e];have y1:(wR++kE y 1).size=1+(cx 20 y 1 []).length:=by rw [ByteArray.size_append];rfl
   have y2:(wR++kE y 1++iD).size=1+(cx 20 y 1 []).length+1:=by rw [ByteArray.size_append,y1];rfl
   exact bx VY 30 (k2 (by omega) (by omega) (by omega) (by omega) (by omega) (by omega) V0 (by omega) (by omega) (by omega) (by omega) (by omega) py (by show 1+(cx 20 y 1 []).length<=_;omega) h1 (by show(wR++kE y 1).size+1<=_;omega) anm (by show(wR++kE y 1++iD).size+(cx 20 z 1 []).length<=_;omega) trivial)
  .rw [if_neg h1,List.append_nil]at ht;have e:aU (Rat.divInt (-x) d)=wR++kE y 1:=iW (by
    rw [ht,dp];show _=[45]++cx 20 y 1 [];rw [sM];rfl)
   rw [e];exact bx VY 30 (k1 (by omega) (by omega) (by omega) (by omega) (by omega) (by omega) V0 (by omega) (by omega) (by omega) (by omega) (by omega) py (by show 1+(cx 20 y 1 []).length<=_;omega) h1 trivial)
def V1:NN.Ok prog:=fun⟨n,d,_⟩ h=>by
 have h:((decide (-4000000000000000000<=n)&&decide (n<=4000000000000000000))&&(decide (0<d)&&decide (d<=4000000000000000000)))=true:=h;rw [ae,ae,ae,bB,bB,bB,bB]at h;exact ank n d h.1.1 h.1.2 h.2.1 h.2.2
noncomputable def Hj:Code:=(Tryz.f15.body).getD .skip
noncomputable def Hl:Code:=(Tryz.f14.body).getD .skip
noncomputable def V2:Code:=(Tryz.f72.body).getD .skip
noncomputable def V3:Code:=(Tryz.f16.body).getD .skip
noncomputable def uL:bI:=ov [Un,Uo] (aR [VW,NN,NH,VM,Mf,Ni])
abbrev lp (s:AT):Bool×List Int:=mkR (ptN s)
abbrev iE (s:AT):Bool×List Int:=mkR (ptD s)
def ann (a b:AT) (h1:(jM a)=true) (h2:(jM b)=true) (h3:(qB a)=true) (h4:(qB b)=true) (h5:i6 (jr a*jr b)) (h6:i6 (fS a*fS b)) (h7:(decide ((-4000000000000000000:av.den (.int .i64))<=jr a*jr b)&&decide (jr a*jr b<=(4000000000000000000:av.den (.int .i64)))&&(decide ((0:av.den (.int .i64))<fS a*fS b)&&decide (fS a*fS b<=(4000000000000000000:av.den (.int .i64)))))=true):
  bu uL (fl Hj []) 30 (Tryz.f15.ntmps) [sv a,sv b] 15 Tryz.f15 true (sv (aU (Rat.divInt (jr a*jr b) (fS a*fS b)))):=
 wy [af h1,af h2,af (aN (h3)),af h3,af h4,yi h5,yi h6,af h7] 35671935824001
def ano (a b:AT) (h1:(jM a)=true) (h2:(jM b)=true) (h3:(qB a)=false) (h4:(jk a)=true) (h5:(jk b)=true) (h6:(okZ (mkR (ptN a))&&okZ (mkR (ptN b)))=true) (h7:(okZ (mkR (ptD a))&&okZ (mkR (ptD b)))=true) (h8:(okZ (mkR (vZ (mkR (ptN a))*vZ (mkR (ptN b))))&&(okZ (mkR (vZ (mkR (ptD a))*vZ (mkR (ptD b))))&& !Nat.beq (mkR (vZ (mkR (ptD a))*vZ (mkR (ptD b)))).2.length 0))=true):
  bu uL (fl Hj []) 30 (Tryz.f15.ntmps) [sv a,sv b] 8 Tryz.f15 true (sv (aU (Rat.divInt (vZ (mkR (vZ (lp a)*vZ (lp b)))) (vZ (mkR (vZ (iE a)*vZ (iE b))))))):=
 wy [af h1,af h2,af (aN (h3)),af h3,af h4,af h5,af (aV (v:=aa.agg [aa.raw (Value.bool (mkR (ptN a)).1),aa.bh false (.int .i64) (mkR (ptN a)).2])),af (aV (v:=aa.agg [aa.raw (Value.bool (mkR (ptN b)).1),aa.bh false (.int .i64) (mkR (ptN b)).2])),af h6,af (aV (v:=aa.agg [aa.raw (Value.bool (mkR (ptD a)).1),aa.bh false (.int .i64) (mkR (ptD a)).2])),af (aV (v:=aa.agg [aa.raw (Value.bool (mkR (ptD b)).1),aa.bh false (.int .i64) (mkR (ptD b)).2])),af h7,af h8] 16328711509674594756421759105
def anp (a b:AT) (h1:(jM a)=true) (h2:(jM b)=true) (h3:(qB a)=true) (h4:(qB b)=false) (h5:(jk a)=true) (h6:(jk b)=true) (h7:(okZ (mkR (ptN a))&&okZ (mkR (ptN b)))=true) (h8:(okZ (mkR (ptD a))&&okZ (mkR (ptD b)))=true) (h9:(okZ (mkR (vZ (mkR (ptN a))*vZ (mkR (ptN b))))&&(okZ (mkR (vZ (mkR (ptD a))*vZ (mkR (ptD b))))&& !Nat.beq (mkR (vZ (mkR (ptD a))*vZ (mkR (ptD b)))).2.length 0))=true):
  bu uL (fl Hj []) 30 (Tryz.f15.ntmps) [sv a,sv b] 11 Tryz.f15 true (sv (aU (Rat.divInt (vZ (mkR (vZ (lp a)*vZ (lp b)))) (vZ (mkR (vZ (iE a)*vZ (iE b))))))):=
 wy [af h1,af h2,af (aN (h3)),af h3,af h4,af h5,af h6,af (aV (v:=aa.agg [aa.raw (Value.bool (mkR (ptN a)).1),aa.bh false (.int .i64) (mkR (ptN a)).2])),af (aV (v:=aa.agg [aa.raw (Value.bool (mkR (ptN b)).1),aa.bh false (.int .i64) (mkR (ptN b)).2])),af h7,af (aV (v:=aa.agg [aa.raw (Value.bool (mkR (ptD a)).1),aa.bh false (.int .i64) (mkR (ptD a)).2])),af (aV (v:=aa.agg [aa.raw (Value.bool (mkR (ptD b)).1),aa.bh false (.int .i64) (mkR (ptD b)).2])),af h8,af h9] 17586301390853393765909934209
def anq (a b:AT) (h1:(jM a)=true) (h2:(jM b)=true) (h3:(qB a)=true) (h4:(qB b)=true) (h5:i6 (jr a*fS b)) (h6:i6 (jr b*fS a)) (h7:i6 (jr a*fS b+jr b*fS a)) (h8:i6 (fS a*fS b)) (h9:(decide ((-4000000000000000000:av.den (.int .i64))<=jr a*fS b+jr b*fS a)&&decide (jr a*fS b+jr b*fS a<=(4000000000000000000:av.den (.int .i64)))&&(decide ((0:av.den (.int .i64))<fS a*fS b)&&decide (fS a*fS b<=(4000000000000000000:av.den (.int .i64)))))=true):
  bu uL (fl Hl []) 30 (Tryz.f14.ntmps) [sv a,sv b] 15 Tryz.f14 true (sv (aU (Rat.divInt (jr a*fS b+jr b*fS a) (fS a*fS b)))):=
 wy [af h1,af h2,af (aN (h3)),af h3,af h4,yi h5,yi h6,yi h7,yi h8,af h9] 182712931821039745
def anr (a b:AT) (h1:(jM a)=true) (h2:(jM b)=true) (h3:(qB a)=false) (h4:(jk a)=true) (h5:(jk b)=true) (h6:(okZ (mkR (ptN a))&&okZ (mkR (ptD b)))=true) (h7:(okZ (mkR (ptN b))&&okZ (mkR (ptD a)))=true) (h8:(okZ (mkR (vZ (mkR (ptN a))*vZ (mkR (ptD b))))&&okZ (mkR (vZ (mkR (ptN b))*vZ (mkR (ptD a)))))=true) (h9:(okZ (mkR (ptD a))&&okZ (mkR (ptD b)))=true) (h10:(okZ (mkR (vZ (mkR (vZ (mkR (ptN a))*vZ (mkR (ptD b))))+vZ (mkR (vZ (mkR (ptN b))*vZ (mkR (ptD a))))))&&(okZ (mkR (vZ (mkR (ptD a))*vZ (mkR (ptD b))))&& !Nat.beq (mkR (vZ (mkR (ptD a))*vZ (mkR (ptD b)))).2.length 0))=true):
  bu uL (fl Hl []) 30 (Tryz.f14.ntmps) [sv a,sv b] 8 Tryz.f14 true (sv (aU (Rat.divInt (vZ (mkR (vZ (mkR (vZ (lp a)*vZ (iE b)))+vZ (mkR (vZ (lp b)*vZ (iE a)))))) (vZ (mkR (vZ (iE a)*vZ (iE b))))))):=
 wy [af h1,af h2,af (aN (h3)),af h3,af h4,af h5,af (aV (v:=aa.agg [aa.raw (Value.bool (mkR (ptN a)).1),aa.bh false (.int .i64) (mkR (ptN a)).2])),af (aV (v:=aa.agg [aa.raw (Value.bool (mkR (ptD b)).1),aa.bh false (.int .i64) (mkR (ptD b)).2])),af h6,af (aV (v:=aa.agg [aa.raw (Value.bool (mkR (ptN b)).1),aa.bh false (.int .i64) (mkR (ptN b)).2])),af (aV (v:=aa.agg [aa.raw (Value.bool (mkR (ptD a)).1),aa.bh false (.int .i64) (mkR (ptD a)).2])),af h7,af h8,af h9,af h10] 21723757664092254386358743102598938459181691009
def ans (a b:AT) (h1:(jM a)=true) (h2:(jM b)=true) (h3:(qB a)=true) (h4:(qB b)=false) (h5:(jk a)=true) (h6:(jk b)=true) (h7:(okZ (mkR (ptN a))&&okZ (mkR (ptD b)))=true) (h8:(okZ (mkR (ptN b))&&okZ (mkR (ptD a)))=true) (h9:(okZ (mkR (vZ (mkR (ptN a))*vZ (mkR (ptD b))))&&okZ (mkR (vZ (mkR (ptN b))*vZ (mkR (ptD a)))))=true) (h10:(okZ (mkR (ptD a))&&okZ (mkR (ptD b)))=true) (h11:(okZ (mkR (vZ (mkR (vZ (mkR (ptN a))*vZ (mkR (ptD b))))+vZ (mkR (vZ (mkR (ptN b))*vZ (mkR (ptD a))))))&&(okZ (mkR (vZ (mkR (ptD a))*vZ (mkR (ptD b))))&& !Nat.beq (mkR (vZ (mkR (ptD a))*vZ (mkR (ptD b)))).2.length 0))=true):
  bu uL (fl Hl []) 30 (Tryz.f14.ntmps) [sv a,sv b] 11 Tryz.f14 true (sv (aU (Rat.divInt (vZ (mkR (vZ (mkR (vZ (lp a)*vZ (iE b)))+vZ (mkR (vZ (lp b)*vZ (iE a)))))) (vZ (mkR (vZ (iE a)*vZ (iE b))))))):=
 wy [af h1,af h2,af (aN (h3)),af h3,af h4,af h5,af h6,af (aV (v:=aa.agg [aa.raw (Value.bool (mkR (ptN a)).1),aa.bh false (.int .i64) (mkR (ptN a)).2])),af (aV (v:=aa.agg [aa.raw (Value.bool (mkR (ptD b)).1),aa.bh false (.int .i64) (mkR (ptD b)).2])),af h7,af (aV (v:=aa.agg [aa.raw (Value.bool (mkR (ptN b)).1),aa.bh false (.int .i64) (mkR (ptN b)).2])),af (aV (v:=aa.agg [aa.raw (Value.bool (mkR (ptD a)).1),aa.bh false (.int .i64) (mkR (ptD a)).2])),af h8,af h9,af h10,af h11] 23173660082079261249656049484261917645415133313
def ant (a:AT) (h1:(jk a)=true) (h2:(okZ (mkR (ptD a))&&(okZ (mkR (ptN a))&& !Nat.beq (mkR (ptN a)).2.length 0))=true):
  bu uL (fl V2 []) 30 (Tryz.f72.ntmps) [sv a] 1 Tryz.f72 true (sv (aU (Rat.divInt (vZ (iE a)) (vZ (lp a))))):=
 wy [af h1,af h2] 129
def anu (n:Int) (h1:(decide ((-9223372036854775808:av.den (.int .i64))<=n)&&decide (n<=(9223372036854775807:av.den (.int .i64))))=true) (h2:(okZ (mkR n))=true):
  bu uL (fl V3 []) 30 (Tryz.f16.ntmps) [iv n] 1 Tryz.f16 true (sv (cg (vZ (mkR n)))):=
 wy [af h1,af h2] 129
--{
def uM (u:Nat):bY (Lib.decDigits u)=true:=by
 unfold bY;rw [List.all_eq_true];intro b hb;obtain⟨h1,h2⟩:=Dec.LZ u b hb;rw [ax h1,ax h2];rfl
def Ho (u:Nat):bt (Lib.decDigits u)=(u:Int):=by
 induction u using Nat.strongRecOn with
 |_ u ih=>
  by_cases h:u<10
  .rw [q2 h,MJ,Dec.AL u h];show(((48+u:Nat):Int)-48)*10^0+0=_;rw [Int.pow_zero];omega
  .rw [lO h,NB,ih _ (by omega),MJ,Dec.AL _ (by omega)];show((u/10:Nat):Int)*10^1+((((48+u%10:Nat):Int)-48)*10^0+0)=_;rw [Int.pow_zero,Int.pow_succ,Int.pow_zero];omega
def LE (u:Nat):Lib.decDigits u≠[]:=fun e=>by
 have:=Dec.Tz u;rw [e]at this;cases this
def Hp {u k:Nat} (h:(u:Int)<1000000000^k):(Lib.decDigits u).length<=9*k+1:=by
 have:=Nk (gN (Int.natCast_nonneg u)).1;rw [(gN (Int.natCast_nonneg u)).2.2,Int.toNat_natCast]at this;have h2:=yr (Int.natCast_nonneg u) h;omega
def V4 {u:Nat} (h:(Lib.decDigits u).length<=9):(u:Int)<1000000000:=by
 have h1:=A0 (s:=⟨(Lib.decDigits u).toArray⟩) (by rw [show ak ⟨(Lib.decDigits u).toArray⟩=Lib.decDigits u from rfl];exact uM u) (Lib.decDigits u).length (aG _);rw [show ak ⟨(Lib.decDigits u).toArray⟩=Lib.decDigits u from rfl,dI,Ho]at h1;have h2:(10:Int)^(Lib.decDigits u).length<=10^9:=iQ (by decide) h;have:(10:Int)^9=1000000000:=rfl;omega
def NR {L R:List UInt8} (hL:L≠[]) (hd:bY L=true):L++R≠[]/\((L++R).getD 0 0).toNat≠45:=by
 cases L with
 |nil=>exact absurd rfl hL
 |cons b l=>
  rw [im,ae,ae,bB,bB]at hd;refine⟨by simp, ?_⟩;show b.toNat≠45;omega
def V5 {s:AT} {neg:Bool} {M:List UInt8} (yP:M≠[]/\(M.getD 0 0).toNat≠45) (hs:ak s=if neg then 45::M else M):bZ s=neg/\ak (bQ s)=M/\0<s.size:=by
 have hl:0<M.length:=List.length_pos_iff.2 yP.1;cases neg with
 |true=>
  have hs:ak s=45::M:=hs;have hz:s.size=M.length+1:=by rw [c8,hs];rfl
  have lg:(b7 s 0).toNat=45:=by show((ak s).getD 0 0).toNat=45;rw [hs];rfl
  have e1:bZ s=true:=by unfold bZ;rw [ax (by omega),ax lg];rfl
  refine⟨e1, ?_,by omega⟩;unfold bQ;rw [e1];show ak (s.extract 1 s.size)=M;rw [lZ,hs,hz,eF (by simp)];rfl
 |false=>
  have hs:ak s=M:=hs;have hz:s.size=M.length:=by rw [c8,hs]
  have lg:¬(b7 s 0).toNat=45:=by show¬((ak s).getD 0 0).toNat=45;rw [hs];exact yP.2
  have e1:bZ s=false:=by unfold bZ;rw [ab lg,Bool.and_false]
  refine⟨e1, ?_,by omega⟩;unfold bQ;rw [e1];exact hs
def anv {neg:Bool} {M:List UInt8}:bk (if neg then 45::M else M)=bk M+(if neg then 1 else 0):=by
 cases neg with
 |true=>
  show(if(45:UInt8).toNat=47 then 0 else bk M+1)=bk M+1;rw [if_neg (by decide)]
 |false=>rfl
def A9 (n:Int):Lib.itoa n=if decide (n<0)then 45::Lib.decDigits n.natAbs else Lib.decDigits n.natAbs:=by
 by_cases h:n<0
 .rw [itoa_neg h,ax h];rfl
 .rw [wC h,ab h];rfl
def V6 {s:AT} {n:Int} (h:ak s=Lib.itoa n):lP s=n/\bY (ak (bQ s))=true:=by
 have h0:=NR (R:=[]) (LE n.natAbs) (uM n.natAbs);rw [List.append_nil]at h0;obtain⟨h1,h2,h3⟩:=V5 (neg:=decide (n<0)) h0 (by rw [h];exact A9 n);unfold lP;rw [h1,h2,Ho];refine⟨?_,uM _⟩;by_cases hn:n<0
 .rw [ax hn];show-(n.natAbs:Int)=n;omega
 .rw [ab hn];show(n.natAbs:Int)=n;omega
def sN (k:Nat) (r:Rat):Prop:=(r.num.natAbs:Int)<1000000000^k/\(r.den:Int)<1000000000^k
structure V7 (s:AT) (r:Rat):Prop where
 ja:jM s=true
 pt:jk s=true
 n:ptN s=r.num
 d:ptD s=r.den
 q:qB s=true->jr s=r.num/\fS s=r.den/\(r.num.natAbs:Int)<1000000000/\(r.den:Int)<1000000000
def wS {r:Rat} {k:Nat} (hk:k<=10000) (h:sN k r):V7 (aU r) r:=by
 obtain⟨hN,hD⟩:=h;have hdp:0<r.den:=r.den_pos;obtain⟨T,hT⟩:∃T:List UInt8,T=if r.den=1 then []else 47::Lib.decDigits r.den:=⟨_,rfl⟩
 have yP:=NR (R:=T) (LE r.num.natAbs) (uM r.num.natAbs);have hb:ak (aU r)=if decide (r.num<0)then 45::(Lib.decDigits r.num.natAbs++T)else Lib.decDigits r.num.natAbs++T:=by
  have e:ak (aU r)=Lib.itoa r.num++T:=by
   rw [hT];unfold aU;by_cases h1:r.den=1
   .rw [if_pos h1,if_pos h1,List.append_nil];exact jH _
   .rw [if_neg h1,if_neg h1,<-Dec.uw]
  rw [e,A9];by_cases hn:r.num<0
  .rw [ax hn];rfl
  .rw [ab hn];rfl
 obtain⟨p1,p2,p3⟩:=V5 yP hb;have ate:=Hp hN;have Mw:=Hp hD;have atf:T.length<=9*k+2:=by rw [hT];split<;>simp;omega
 have A6:bk (Lib.decDigits r.num.natAbs++T)=(Lib.decDigits r.num.natAbs).length:=by
  rw [hT];split
  .rw [List.append_nil];exact Uz _ (uM _)
  .exact UA _ _ (uM _)
 have hsz:(aU r).size=(if decide (r.num<0)then 1 else 0)+((Lib.decDigits r.num.natAbs).length+T.length):=by
  rw [c8,hb];by_cases hn:r.num<0
  .rw [ax hn];simp;omega
  .rw [ab hn];simp
 have V8:(aU r).size<=800000:=by rw [hsz];split<;>omega
 -- the text without its sign
 have hu:(bQ (aU r)).size=(Lib.decDigits r.num.natAbs).length+T.length:=by rw [c8,p2,dU]
 have NS:sL (aU r)=(Lib.decDigits r.num.natAbs).length:=by unfold sL;rw [p2,A6]
 have x1:ak ((bQ (aU r)).extract 0 (Lib.decDigits r.num.natAbs).length)=Lib.decDigits r.num.natAbs:=by rw [lZ,p2,List.drop_zero,List.take_left'];rfl
 have x2:ak ((bQ (aU r)).extract ((Lib.decDigits r.num.natAbs).length+1) (bQ (aU r)).size)=T.drop 1:=by
  rw [lZ,p2,hu,<-dU,dI,<-List.drop_drop,List.drop_left'];rfl
 have BU:bY (T.drop 1)=true:=by
  rw [hT];split
  .rfl
  .exact uM _
 have anw:jM (aU r)=true:=by
  unfold jM;rw [NS,x1,x2,BU,uM,ax p3,ax V8];rfl
 -- the text with its sign
 have Hq:bk (ak (aU r))=(if decide (r.num<0)then 1 else 0)+(Lib.decDigits r.num.natAbs).length:=by
  rw [hb,anv,A6];omega
 have y1:ak ((aU r).extract 0 (bk (ak (aU r))))=Lib.itoa r.num:=by
  rw [lZ,List.drop_zero,Hq,hb,A9];by_cases hn:r.num<0
  .rw [ax hn];show List.take (1+_) (45::_)=45::_;rw [Nat.add_comm,List.take_succ_cons,List.take_left'];rfl
  .rw [ab hn];show List.take (0+_) (Lib.decDigits r.num.natAbs++T)=Lib.decDigits r.num.natAbs;rw [aw,List.take_left'];rfl
 have y2:ak ((aU r).extract (bk (ak (aU r))+1) (aU r).size)=T.drop 1:=by
  have G5:(aU r).size=(ak (aU r)).length:=c8 _;rw [lZ,Hq,G5,dI,hb];by_cases hn:r.num<0
  .rw [ax hn];show List.drop (1+_+1) (45::_)=_;rw [Nat.add_right_comm,Nat.add_comm 1,Nat.add_assoc,Nat.add_comm,List.drop_succ_cons,Nat.add_comm,<-List.drop_drop,List.drop_left'];rfl
  .rw [ab hn];show List.drop (0+_+1) (Lib.decDigits r.num.natAbs++T)=_;rw [aw,<-List.drop_drop,List.drop_left'];rfl
 obtain⟨v1,v2⟩:=V6 y1;have lC:r.den≠1->lP ((aU r).extract (bk (ak (aU r))+1) (aU r).size)=r.den/\bY (ak (bQ ((aU r).extract (bk (ak (aU r))+1) (aU r).size)))=true:=fun h1=>V6 (n:=(r.den:Int)) (by rw [y2,hT,if_neg h1,Dec.uw];rfl)
 have gJ:bY (ak (bQ ((aU r).extract (bk (ak (aU r))+1) (aU r).size)))=true:=by
  by_cases h1:r.den=1
  .have e0:ak ((aU r).extract (bk (ak (aU r))+1) (aU r).size)=[]:=by rw [y2,hT,if_pos h1];rfl
   have e1:bZ ((aU r).extract (bk (ak (aU r))+1) (aU r).size)=false:=by
    unfold bZ;rw [ab (by rw [c8,e0];decide)];rfl
   unfold bQ;rw [e1];show bY (ak _)=true;rw [e0];rfl
  .exact(lC h1).2
 refine⟨anw, ?_,v1, ?_,fun hq=> ?_⟩
 .unfold jk;rw [ax V8,v2,gJ];rfl
 .unfold ptD;by_cases h1:r.den=1
  .rw [if_neg (by rw [Hq,hsz,hT,if_pos h1];simp),h1];rfl
  .rw [if_pos (by rw [Hq,hsz,hT,if_neg h1];simp)];exact(lC h1).1
 .have mK:=hq;unfold qB at hq;rw [NS,hu,ae,ae,bB,bB,bB]at hq;unfold jr fS Dy Dz;rw [mK,NS,p1,x1,x2,hu,Ho];refine⟨?_, ?_,V4 hq.2.1, ?_⟩
  .show bn _ _=_;by_cases hn:r.num<0
   .rw [ax hn];show-(r.num.natAbs:Int)=_;omega
   .rw [ab hn];show(r.num.natAbs:Int)=_;omega
  .rw [if_pos rfl];by_cases h1:r.den=1
   .rw [if_neg (by rw [hT,if_pos h1];simp),h1];rfl
   .rw [if_pos (by rw [hT,if_neg h1];simp),hT,if_neg h1];exact Ho _
  .by_cases h1:r.den=1
   .omega
   .refine V4 ?_;have h3:=hq.2.2;rw [hT,if_neg h1]at h3;simp at h3;omega
--}
def sO (s:AT):Prop:=∃(r:Rat) (k:Nat),s=aU r/\k<=10000/\sN k r
noncomputable def cU (s:AT):Bool:= @decide (sO s) (Classical.propDecidable _)
def toQ (s:AT):Rat:=Rat.divInt (ptN s) (ptD s)
noncomputable def Hr:bp:={f:=15,ps:=[.str, .str],rs:=[.str],fresh:=true,pre:=fun d=>cU d.1&&cU d.2.1,fn:=fun d=>(aU (toQ d.1*toQ d.2.1),())}
noncomputable def V9:bp:={f:=14,ps:=[.str, .str],rs:=[.str],fresh:=true,pre:=fun d=>cU d.1&&cU d.2.1,fn:=fun d=>(aU (toQ d.1+toQ d.2.1),())}
noncomputable def Wa:bp:={f:=72,ps:=[.str],rs:=[.str],fresh:=true,pre:=fun d=>cU d.1&& !(ptN d.1==0),fn:=fun d=>(aU (toQ d.1)⁻¹,())}
noncomputable def anx:bp:={f:=16,ps:=[.int .i64],rs:=[.str],fresh:=true,pre:=fun d=>decide (-9223372036854775808<=d.1)&&decide (d.1<=9223372036854775807),fn:=fun d=>(aU (d.1:Int),())}
--{
def uN {s:AT}:cU s=true↔sO s:= @decide_eq_true_iff _ (Classical.propDecidable _)
def wT {s:AT} {r:Rat} (F:V7 s r):toQ s=r:=by
 unfold toQ;rw [F.n,F.d];exact Rat.num_divInt_den r
def oE {r:Rat} {k:Nat} (hk:k<=10000) (h:sN k r):cU (aU r)=true:=uN.2 ⟨r,k,rfl,hk,h⟩
def pT {r:Rat} {k:Nat} (hk:k<=10000) (h:sN k r):toQ (aU r)=r:=wT (wS hk h)
def wU:bD prog (bG uL):=uk (fun c hc=>by
 simp only [ep,j7,or_false]at hc;rcases hc with rfl |rfl
 .exact aj4
 .exact aj5) (cY fun c hc=>by
 simp only [ep,j7,or_false]at hc;rcases hc with rfl |rfl |rfl |rfl |rfl |rfl
 .exact ON
 .exact V1
 .exact VQ
 .exact am5
 .exact T4
 .exact Vi)
def dc {a b:Bool} (h:a=true) (g:b=true):(a&&b)=true:=by rw [h,g];rfl
def yQ {x y:Int} {i j:Nat} (hx:(x.natAbs:Int)<1000000000^i) (hy:(y.natAbs:Int)<1000000000^j):((x*y).natAbs:Int)<1000000000^(i+j):=by
 rw [Int.natAbs_mul,Int.natCast_mul];exact Up (Int.natCast_nonneg _) (Int.natCast_nonneg _) hx hy
def anz {x y:Int} {i j:Nat} (hx:(x.natAbs:Int)<1000000000^i) (hy:(y.natAbs:Int)<1000000000^j):((x+y).natAbs:Int)<1000000000^(max i j+1):=by
 have:=add_lt hx hy;have h2:(x+y).natAbs<=x.natAbs+y.natAbs:=Int.natAbs_add_le x y;omega
def DA {x y:Int} (hx:(x.natAbs:Int)<1000000000) (hy:(y.natAbs:Int)<1000000000): -1000000000000000000<=x*y/\x*y<=1000000000000000000:=by
 have h1:x.natAbs*y.natAbs<=999999999*999999999:=Nat.mul_le_mul (by omega) (by omega);have h2:(x*y).natAbs=x.natAbs*y.natAbs:=Int.natAbs_mul x y;rw [<-h2]at h1;omega
def NT {z:Int} (h:z≠0):(!(Nat.beq (mkR z).2.length 0))=true:=by
 rw [Bool.not_eq_true'];cases hb:Nat.beq (mkR z).2.length 0 with
 |false=>rfl
 |true=>
  have e:aI (z.natAbs:Int)=[]:=List.eq_nil_of_length_eq_zero (ac hb);have:=(Gt (Int.natCast_nonneg _)).1 e;omega
def yR (d:Nat):((d:Int).natAbs:Int)=(d:Int):=by omega
def anA (n:Int) (h1: -9223372036854775808<=n) (h2:n<=9223372036854775807):Holds prog true 16 [iv n] (sv (aU (n:Int))):=by
 have e:aU (n:Int)=cg (vZ (mkR n)):=by
  unfold aU;rw [if_pos (Rat.den_intCast n),Rat.num_intCast,ce]
 refine bL (c:=V3) func16 rfl rfl fun w0 NU=> ?_
 rw [e];exact bx wU 30 (anu n (dc (ax h1) (ax h2)) (jq (k:=3) (by have:(1000000000:Int)^3=1000000000000000000000000000:=rfl;omega) (by decide)))
def anB:anx.Ok prog:=fun⟨n,_⟩ h=>by
 have h:(decide (-9223372036854775808<=n)&&decide (n<=9223372036854775807))=true:=h;rw [ae,bB,bB]at h;exact anA n h.1 h.2
attribute [local irreducible] mkR vZ okZ aU jk jM qB ptN ptD okA
def anC (a b:AT) (ha:sO a) (hb:sO b):Holds prog true 15 [sv a,sv b] (sv (aU (toQ a*toQ b))):=by
 obtain⟨r,i,rfl,hi,hr⟩:=ha;obtain⟨s,j,rfl,hj,hs⟩:=hb;have F:=wS hi hr;have G:=wS hj hs;obtain⟨r1,r2⟩:=hr;obtain⟨s1,s2⟩:=hs;rw [wT F,wT G];have hrd:0<r.den:=r.den_pos;have anD:0<s.den:=s.den_pos;have hD:0<(r.den:Int)*(s.den:Int):=Int.mul_pos (by omega) (by omega);have ev:r*s=Rat.divInt (r.num*s.num) (r.den*s.den):=by rw [<-Rat.divInt_mul_divInt,Rat.num_divInt_den,Rat.num_divInt_den]
 have yS:okZ (mkR (ptN (aU r)))=true:=by rw [F.n];exact jq r1 (by omega)
 have DB:okZ (mkR (ptN (aU s)))=true:=by rw [G.n];exact jq s1 (by omega)
 have uO:okZ (mkR (ptD (aU r)))=true:=by rw [F.d];exact jq (k:=i) (by rw [yR];exact r2) (by omega)
 have yT:okZ (mkR (ptD (aU s)))=true:=by rw [G.d];exact jq (k:=j) (by rw [yR];exact s2) (by omega)
 have DC:okZ (mkR (vZ (mkR (ptN (aU r)))*vZ (mkR (ptN (aU s)))))=true:=by rw [ce,ce,F.n,G.n];exact jq (yQ r1 s1) (by omega)
 have DD:okZ (mkR (vZ (mkR (ptD (aU r)))*vZ (mkR (ptD (aU s)))))=true:=by rw [ce,ce,F.d,G.d];exact jq (yQ (i:=i) (j:=j) (by rw [yR];exact r2) (by rw [yR];exact s2)) (by omega)
 have DE:(!(Nat.beq (mkR (vZ (mkR (ptD (aU r)))*vZ (mkR (ptD (aU s))))).2.length 0))=true:=by rw [ce,ce,F.d,G.d];exact NT (by omega)
 have e:Rat.divInt (vZ (mkR (vZ (lp (aU r))*vZ (lp (aU s))))) (vZ (mkR (vZ (iE (aU r))*vZ (iE (aU s)))))=r*s:=by
  unfold lp iE;rw [ce,ce,ce,ce,ce,ce,F.n,F.d,G.n,G.d,ev]
 refine bL (c:=Hj) func15 rfl rfl fun w0 NU=> ?_
 cases uP:qB (aU r)with
 |false=>
  rw [<-e];exact bx wU 30 (ano (aU r) (aU s) F.ja G.ja uP F.pt G.pt (dc yS DB) (dc uO yT) (dc DC (dc DD DE)))
 |true=>
  cases fN:qB (aU s)with
  |false=>
   rw [<-e];exact bx wU 30 (anp (aU r) (aU s) F.ja G.ja uP fN F.pt G.pt (dc yS DB) (dc uO yT) (dc DC (dc DD DE)))
  |true=>
   obtain⟨f1,f2,f3,f4⟩:=F.q uP;obtain⟨g1,g2,g3,g4⟩:=G.q fN;have m1:=DA f3 g3;have m2:=DA (x:=r.den) (y:=s.den) (by omega) (by omega);have key:=ann (aU r) (aU s) F.ja G.ja uP fN;rw [f1,f2,g1,g2,<-ev]at key;exact bx wU 30 (key (by omega) (by omega) (dc (dc (ax (show(-4000000000000000000:Int)<=r.num*s.num by omega)) (ax (show r.num*s.num<=(4000000000000000000:Int) by omega))) (dc (ax hD) (ax (show(r.den:Int)*(s.den:Int)<=(4000000000000000000:Int) by omega)))))
def sf:Hr.Ok prog:=fun⟨a,b,_⟩ h=>by
 have h:(cU a&&cU b)=true:=h;rw [ae]at h;exact anC a b (uN.1 h.1) (uN.1 h.2)
def anE (a b:AT) (ha:sO a) (hb:sO b):Holds prog true 14 [sv a,sv b] (sv (aU (toQ a+toQ b))):=by
 obtain⟨r,i,rfl,hi,hr⟩:=ha;obtain⟨s,j,rfl,hj,hs⟩:=hb;have F:=wS hi hr;have G:=wS hj hs;obtain⟨r1,r2⟩:=hr;obtain⟨s1,s2⟩:=hs;rw [wT F,wT G];have hrd:0<r.den:=r.den_pos;have anD:0<s.den:=s.den_pos;have hD:0<(r.den:Int)*(s.den:Int):=Int.mul_pos (by omega) (by omega);have Ba:((r.den:Int).natAbs:Int)<1000000000^i:=by rw [yR];exact r2
 have s2':((s.den:Int).natAbs:Int)<1000000000^j:=by rw [yR];exact s2
 have ev:r+s=Rat.divInt (r.num*s.den+s.num*r.den) (r.den*s.den):=by rw [<-Rat.divInt_add_divInt _ _ (by omega) (by omega),Rat.num_divInt_den,Rat.num_divInt_den]
 have yS:okZ (mkR (ptN (aU r)))=true:=by rw [F.n];exact jq r1 (by omega)
 have DB:okZ (mkR (ptN (aU s)))=true:=by rw [G.n];exact jq s1 (by omega)
 have uO:okZ (mkR (ptD (aU r)))=true:=by rw [F.d];exact jq Ba (by omega)
 have yT:okZ (mkR (ptD (aU s)))=true:=by rw [G.d];exact jq s2' (by omega)
 have Wb:okZ (mkR (vZ (mkR (ptN (aU r)))*vZ (mkR (ptD (aU s)))))=true:=by rw [ce,ce,F.n,G.d];exact jq (yQ r1 s2') (by omega)
 have eB:okZ (mkR (vZ (mkR (ptN (aU s)))*vZ (mkR (ptD (aU r)))))=true:=by rw [ce,ce,G.n,F.d];exact jq (yQ s1 Ba) (by omega)
 have DC:okZ (mkR (vZ (mkR (vZ (mkR (ptN (aU r)))*vZ (mkR (ptD (aU s)))))+vZ (mkR (vZ (mkR (ptN (aU s)))*vZ (mkR (ptD (aU r)))))))=true:=by
  rw [ce,ce,ce,ce,ce,ce,F.n,G.d,G.n,F.d];exact jq (anz (yQ r1 s2') (yQ s1 Ba)) (by omega)
 have DD:okZ (mkR (vZ (mkR (ptD (aU r)))*vZ (mkR (ptD (aU s)))))=true:=by rw [ce,ce,F.d,G.d];exact jq (yQ Ba s2') (by omega)
 have DE:(!(Nat.beq (mkR (vZ (mkR (ptD (aU r)))*vZ (mkR (ptD (aU s))))).2.length 0))=true:=by rw [ce,ce,F.d,G.d];exact NT (by omega)
 have e:Rat.divInt (vZ (mkR (vZ (mkR (vZ (lp (aU r))*vZ (iE (aU s))))+vZ (mkR (vZ (lp (aU s))*vZ (iE (aU r))))))) (vZ (mkR (vZ (iE (aU r))*vZ (iE (aU s)))))=r+s:=by
  unfold lp iE;rw [ce,ce,ce,ce,ce,ce,ce,ce,F.n,F.d,G.n,G.d,ev]
 refine bL (c:=Hl) func14 rfl rfl fun w0 NU=> ?_
 cases uP:qB (aU r)with
 |false=>
  rw [<-e];exact bx wU 30 (anr (aU r) (aU s) F.ja G.ja uP F.pt G.pt (dc yS yT) (dc DB uO) (dc Wb eB) (dc uO yT) (dc DC (dc DD DE)))
 |true=>
  cases fN:qB (aU s)with
  |false=>
   rw [<-e];exact bx wU 30 (ans (aU r) (aU s) F.ja G.ja uP fN F.pt G.pt (dc yS yT) (dc DB uO) (dc Wb eB) (dc uO yT) (dc DC (dc DD DE)))
  |true=>
   obtain⟨f1,f2,f3,f4⟩:=F.q uP;obtain⟨g1,g2,g3,g4⟩:=G.q fN;have m1:=DA (y:=(s.den:Int)) f3 (by omega);have m3:=DA (y:=(r.den:Int)) g3 (by omega);have m2:=DA (x:=r.den) (y:=s.den) (by omega) (by omega);have key:=anq (aU r) (aU s) F.ja G.ja uP fN;rw [f1,f2,g1,g2,<-ev]at key;exact bx wU 30 (key (by omega) (by omega) (by omega) (by omega) (dc (dc (ax (show(-4000000000000000000:Int)<=r.num*(s.den:Int)+s.num*(r.den:Int) by omega)) (ax (show r.num*(s.den:Int)+s.num*(r.den:Int)<=(4000000000000000000:Int) by omega))) (dc (ax hD) (ax (show(r.den:Int)*(s.den:Int)<=(4000000000000000000:Int) by omega)))))
def Wc:V9.Ok prog:=fun⟨a,b,_⟩ h=>by
 have h:(cU a&&cU b)=true:=h;rw [ae]at h;exact anE a b (uN.1 h.1) (uN.1 h.2)
def anF (a:AT) (ha:sO a) (h0:ptN a≠0):Holds prog true 72 [sv a] (sv (aU (toQ a)⁻¹)):=by
 obtain⟨r,i,rfl,hi,hr⟩:=ha;have F:=wS hi hr;obtain⟨r1,r2⟩:=hr;rw [wT F];have Ba:((r.den:Int).natAbs:Int)<1000000000^i:=by rw [yR];exact r2
 have ev:r⁻¹ =Rat.divInt r.den r.num:=by
  have:=Rat.inv_divInt r.num r.den;rw [Rat.num_divInt_den]at this;exact this
 have yS:okZ (mkR (ptN (aU r)))=true:=by rw [F.n];exact jq r1 (by omega)
 have uO:okZ (mkR (ptD (aU r)))=true:=by rw [F.d];exact jq Ba (by omega)
 have e:Rat.divInt (vZ (iE (aU r))) (vZ (lp (aU r)))=r⁻¹ :=by
  unfold lp iE;rw [ce,ce,F.n,F.d,ev]
 refine bL (c:=V2) func72 rfl rfl fun w0 NU=> ?_
 rw [<-e];exact bx wU 30 (ant (aU r) F.pt (dc uO (dc yS (NT h0))))
def OR:Wa.Ok prog:=fun⟨a,_⟩ h=>by
 have h:(cU a&& !(ptN a==0))=true:=h;rw [ae,Bool.not_eq_true',fF]at h;exact anF a (uN.1 h.1) h.2
--}
end
noncomputable section
noncomputable def Wd:Code:=(f17.body).getD .skip
noncomputable def uQ:Code:=(f137.body).getD .skip
noncomputable def DF:Code:=(f75.body).getD .skip
noncomputable def We:bI:=aR [Hr,Wa]
def anG (a b:AT) (h1:(cU b&& !ptN b==0)=true) (h2:(cU a&&cU (aU (Rat.divInt (ptN b) (ptD b))⁻¹))=true):
  bu We (fl Wd []) 9 9 [sv a,sv b] 1 f17 true (sv (aU (toQ a*toQ (aU (toQ b)⁻¹)))):=
 wy [af h1,af h2] 129
def nN (s:AT) (k:Nat):bC:={n:=20,sl:=[(0,sv s),(3,iv k)],bF:=[],next:=64}
abbrev DG:List Nat:=[1,0,1,0,0]
def HI (s:AT):
  cO (aR []) (fl uQ []) 2 20 [sv s] 1 .normal [] (nN s 0):=
 wy [] 0
def anH (s:AT) (k:Nat) (h1:(k:Int)<(s.size:Int)) (h2:k<s.size) (h3:(↑(UInt8.toNat (s.data.toList.getD k (0:UInt8))):Int)<48):
  bH (aR []) (fl uQ DG) (nN s k) 225 f137 true (bv false):=
 wy [ah h1,ah h2,af (aS (ax h3)),ah h3] 17801616826369
def anI (s:AT) (k:Nat) (h1:(k:Int)<(s.size:Int)) (h2:k<s.size) (h3:¬(↑(UInt8.toNat (s.data.toList.getD k (0:UInt8))):Int)<48) (h4:(↑(UInt8.toNat (s.data.toList.getD k (0:UInt8))):Int)>57):
  bH (aR []) (fl uQ DG) (nN s k) 223 f137 true (bv false):=
 wy [ah h1,ah h2,af (aS (ab h3)),aA h3,ah h4] 5837518341367668737
def anJ (s:AT) (k:Nat) (h1:(k:Int)<(s.size:Int)) (h2:k<s.size) (h3:¬(↑(UInt8.toNat (s.data.toList.getD k (0:UInt8))):Int)<48) (h4:¬(↑(UInt8.toNat (s.data.toList.getD k (0:UInt8))):Int)>57) (h5:i6 ((k:Int)+1)):
  bg (aR []) (fl uQ DG) (nN s k) 159 .normal [] (nN s (k+1)):=
 wy [ah h1,ah h2,af (aS (ab h3)),aA h3,aA h4,yi h5] 448559376110396907521
def anK (s:AT) (k:Nat) (h1:¬(k:Int)<(s.size:Int)):
  bg (aR []) (fl uQ DG) (nN s k) 2 (.exit 0) [] (nN s k):=
 wy [aA h1] 1
def anL (s:AT) (k:Nat):
  bH (aR []) ((fl uQ []).drop 3) (nN s k) 1 f137 true (bv true):=
 wy [] 0
noncomputable def Wf:bp:={f:=137,ps:=[.str],rs:=[.bool],fresh:=true,pre:=fun d=>decide (d.1.size<=1000000000),fn:=fun d=>(bY (ak d.1),())}
noncomputable def DH:bI:=aR [Wf]
def anM (s:AT) (h1:(s.size:Int)=0):
  bu DH (fl DF []) 9 18 [sv s] 224 f75 true (bv false):=
 wy [af (aS (gT.mpr h1)),cW h1] 2164527169
def anN (s:AT) (h1:¬(s.size:Int)=0) (h2:(s.size:Int)>1) (h3:Int.toNat 0<s.size) (h4:(↑(UInt8.toNat (s.data.toList.getD (Int.toNat 0) (0:UInt8))):Int)=48):
  bu DH (fl DF []) 9 18 [sv s] 3583 f75 true (bv false):=
 wy [af (aS (fF.mpr h1)),af (aN (ax h2)),ah h3,ah h2,yn h1,cW h4] 28707764055255273443393
def anO (s:AT) (h1:¬(s.size:Int)=0) (h2:(s.size:Int)>1) (h3:Int.toNat 0<s.size) (h4:¬(↑(UInt8.toNat (s.data.toList.getD (Int.toNat 0) (0:UInt8))):Int)=48) (h5:s.size<=1000000000):
  bu DH (fl DF []) 9 18 [sv s] 2559 f75 true (bv (bY (ak s))):=
 wy [af (aS (fF.mpr h1)),af (aN (ax h2)),ah h3,ah h2,yn h1,yn h4,ah h5] 2144327948380856329179201
def anP (s:AT) (h1:¬(s.size:Int)=0) (h2:¬(s.size:Int)>1) (h3:s.size<=1000000000):
  bu DH (fl DF []) 9 18 [sv s] 2191 f75 true (bv (bY (ak s))):=
 wy [af (aS (fF.mpr h1)),af (aN (ab h2)),aA h2,yn h1,ah h3] 369007788030825861185
def cD (s:AT):Bool:=decide (0<s.size)&&((decide (s.size<=1)|| !(decide ((b7 s 0).toNat=48)))&&bY (ak s))
noncomputable def Wg:bp:={f:=75,ps:=[.str],rs:=[.bool],fresh:=true,pre:=fun d=>decide (d.1.size<=1000000000),fn:=fun d=>(cD d.1,())}
noncomputable def anQ:bp:={f:=17,ps:=[.str, .str],rs:=[.str],fresh:=true,pre:=fun d=>cU d.1&&(cU d.2.1&& !(ptN d.2.1==0)),fn:=fun d=>(aU (toQ d.1/toQ d.2.1),())}
def anR:bD prog (bG We):=cY (aX sf (aX OR eA))
def anS {k:Nat} {r:Rat} (h:sN k r) (h0:r.num≠0):sN k r⁻¹ :=by
 obtain⟨h1,h2⟩:=h;have hd:0<r.den:=r.den_pos;have ev:r⁻¹ =Rat.divInt r.den r.num:=by
  have:=Rat.inv_divInt r.num r.den;rw [Rat.num_divInt_den]at this;exact this
 rw [ev];have hdn:(0:Int)<=r.den:=by omega
 by_cases hn:0<r.num
 .obtain⟨g1,g2⟩:=Hh (n:=false) (x:=r.den) (y:=r.num) hn;have e0:bn false (r.den:Int)=r.den:=rfl;rw [e0]at g1 g2;have q1:=Int.ediv_le_self (Int.gcd r.den r.num) hdn;have aO:=Int.ediv_le_self (Int.gcd r.den r.num) (show 0<=r.num by omega);have bV:0<=(r.den:Int)/Int.gcd r.den r.num:=Int.ediv_nonneg hdn (Int.natCast_nonneg _);refine⟨?_, ?_⟩
  .rw [g1];show(((r.den:Int)/Int.gcd r.den r.num).natAbs:Int)<_;omega
  .rw [g2];omega
 .obtain⟨g1,g2⟩:=Hh (n:=true) (x:=r.den) (y:= -r.num) (by omega);have e0:Rat.divInt (bn true (r.den:Int)) (-r.num)=Rat.divInt r.den r.num:=Rat.neg_divInt_neg _ _;rw [e0]at g1 g2;have q1:=Int.ediv_le_self (Int.gcd r.den (-r.num)) hdn;have aO:=Int.ediv_le_self (Int.gcd r.den (-r.num)) (show 0<= -r.num by omega);have bV:0<=(r.den:Int)/Int.gcd r.den (-r.num):=Int.ediv_nonneg hdn (Int.natCast_nonneg _);refine⟨?_, ?_⟩
  .rw [g1];show((-((r.den:Int)/Int.gcd r.den (-r.num))).natAbs:Int)<_;omega
  .rw [g2];omega
def anT (a b:AT) (ha:sO a) (hb:sO b) (h0:ptN b≠0):Holds prog true 17 [sv a,sv b] (sv (aU (toQ a/toQ b))):=by
 obtain⟨s,j,rfl,hj,hs⟩:=hb;have G:=wS hj hs;have hn:s.num≠0:=by rw [<-G.n];exact h0
 have hi:=anS hs hn;have e:aU (toQ a/toQ (aU s))=aU (toQ a*toQ (aU (toQ (aU s))⁻¹)):=by rw [wT G,pT hj hi,Rat.div_def]
 have hz:(!(ptN (aU s)==(0:Int)))=true:=by rw [Bool.not_eq_true',fF];exact h0
 have hi2:cU (aU (toQ (aU s))⁻¹)=true:=by rw [wT G];exact oE hj hi
 refine bL (c:=Wd) func17 rfl rfl fun w F=> ?_
 rw [e];exact bx anR 9 (anG a (aU s) (dc (oE hj hs) hz) (dc (uN.2 ha) hi2))
def anU:anQ.Ok prog:=fun⟨a,b,_⟩ h=>by
 have h:(cU a&&(cU b&& !(ptN b==0)))=true:=h;rw [ae,ae,Bool.not_eq_true',fF]at h;exact anT a b (uN.1 h.1) (uN.1 h.2.1) h.2.2
def anV (s:AT) (hl:s.size<=1000000000):Holds prog true 137 [sv s] (bv (bY (ak s))):=by
 have hS:=bc;have hz:=c8 s;refine bL (c:=uQ) func137 rfl rfl fun w F=> ?_
 refine cC hS 2 (HI s) ?_;refine aP.loop (ι:={k:Nat//k<=s.size/\bY ((ak s).take k)=true}) (id:=0) (b:=cat uQ DG) (rest:=(fl uQ []).drop 3) (by kernel_rfl) (fun k=>nN s k.1) (fun k=>s.size-k.1) ⟨0,Nat.zero_le _,by rw [List.take_zero];rfl⟩ (fun _=>rfl) ?_;rintro⟨k,hk,hd⟩;by_cases hlt:k<s.size
 .have hmem:b7 s k∈ak s:=by rw [kp (by omega)];exact List.getElem_mem _
  have hno:¬(48<=(b7 s k).toNat/\(b7 s k).toNat<=57)->bY (ak s)=false:=fun hn=>by
   rw [Bool.eq_false_iff];intro h;have:=List.all_eq_true.1 h _ hmem;rw [ae,bB,bB]at this;exact hn this
  by_cases h1:(b7 s k).toNat<48
  .rw [hno (by omega)];exact bP (s:=nN s k) hS (anH s k (by omega) hlt (by show((b7 s k).toNat:Int)<48;omega))
  .by_cases h2:57<(b7 s k).toNat
   .rw [hno (by omega)];exact bP (s:=nN s k) hS (anI s k (by omega) hlt (by show¬((b7 s k).toNat:Int)<48;omega) (by show((b7 s k).toNat:Int)>57;omega))
   .refine bl (s:=nN s k) hS (anJ s k (by omega) hlt (by show¬((b7 s k).toNat:Int)<48;omega) (by show¬((b7 s k).toNat:Int)>57;omega) (by omega)) ?_;refine⟨⟨k+1,hlt, ?_⟩,by show s.size-(k+1)<s.size-k;omega,rfl,rfl⟩;rw [GK (by omega),Hf];refine⟨hd, ?_⟩;show bY [b7 s k]=true;rw [im,ax (by omega),ax (by omega)];rfl
 .refine bl (s:=nN s k) hS (anK s k (by omega)) ?_;refine cw (cz ?_);rw [eF (by omega)]at hd;rw [hd];exact bP (s:=nN s k) hS (anL s k)
def anW:Wf.Ok prog:=fun⟨s,_⟩ h=>anV s (ap h)
def anX:bD prog (bG DH):=cY (aX anW eA)
def anY (s:AT) (hl:s.size<=1000000000):Holds prog true 75 [sv s] (bv (cD s)):=by
 have hS:=anX;refine bL (c:=DF) func75 rfl rfl fun w F=> ?_
 unfold cD;by_cases h0:s.size=0
 .rw [ab (show¬0<s.size by omega),Bool.false_and];exact bx hS 9 (anM s (by omega))
 .rw [ax (show 0<s.size by omega),Bool.true_and];by_cases h1:s.size<=1
  .rw [ax h1,Bool.true_or,Bool.true_and];exact bx hS 9 (anP s (by omega) (by omega) hl)
  .rw [ab h1,Bool.false_or];by_cases h2:(b7 s 0).toNat=48
   .rw [ax h2,Bool.not_true,Bool.false_and];exact bx hS 9 (anN s (by omega) (by omega) (by show 0<s.size;omega) (by show((b7 s 0).toNat:Int)=48;omega))
   .rw [ab h2,Bool.not_false,Bool.true_and];exact bx hS 9 (anO s (by omega) (by omega) (by show 0<s.size;omega) (by show¬((b7 s 0).toNat:Int)=48;omega) hl)
def anZ:Wg.Ok prog:=fun⟨s,_⟩ h=>anY s (ap h)
noncomputable def iF:Code:=(Tryz.f20.body).getD .skip
noncomputable def jO:bI:=aR [Df,Wg,NH,MA]
section
variable (s u:AT) (k:Int)
def dn:bC:={n:=96,sl:=[(0,sv s),(3,sv u),(4,iv k)],bF:=[],next:=64}
def an0 (s:AT) (h1:(s.size:Int)>0) (h2:Int.toNat 0<s.size) (h3:¬(↑(UInt8.toNat (s.data.toList.getD (Int.toNat 0) (0:UInt8))):Int)=45) (h4:s.size<=1000000000):
  cO jO (fl iF []) 5 96 [sv s] 47 .normal [] (dn s s (bk (ak s))):=
 wy [af (aN (ax h1)),ah h2,ah h1,yn h3,ah h4] 22268348989505
def an1 (s:AT) (h1:(s.size:Int)>0) (h2:Int.toNat 0<s.size) (h3:(↑(UInt8.toNat (s.data.toList.getD (Int.toNat 0) (0:UInt8))):Int)=45) (h4:Int.toNat 1<=s.size) (h5:(s.extract (Int.toNat 1) s.size).size<=1000000000) (h6:(s.extract (Int.toNat 1) s.size)=(s.extract 1 s.size)) (h7:(↑(bk (s.extract (Int.toNat 1) s.size).data.toList):Int)=(↑(bk (s.extract 1 s.size).data.toList):Int)):
  cO jO (fl iF []) 5 96 [sv s] 63 .normal [] (dn s (s.extract 1 s.size) (bk (ak (s.extract 1 s.size)))):=
 wy [af (aN (ax h1)),ah h2,ah h1,cW h3,ah h4,ah (by omega:s.size<=s.size),ah h5,az h6,az h7] 2757870205940449109606465
def an2 (s:AT) (h1:¬(s.size:Int)>0) (h2:s.size<=1000000000):
  cO jO (fl iF []) 5 96 [sv s] 32 .normal [] (dn s s (bk (ak s))):=
 wy [af (aN (ab h1)),aA h1,ah h2] 3221753921
def an3 (h1:0<=k) (h2:k.toNat<=u.size) (h3:(u.extract 0 k.toNat).size<=1000000000) (h4:(cD (u.extract 0 k.toNat))=false):
  bH jO ((fl iF []).drop 5) (dn s u k) 224 Tryz.f20 true (iv 1):=
 wy [ah h1,ah h2,ah h3,af (aS (cn (h4))),af (cn (h4))] 91215763881074689
def an4 (h1:0<=k) (h2:k.toNat<=u.size) (h3:(u.extract 0 k.toNat).size<=1000000000) (h4:(cD (u.extract 0 k.toNat))=true) (h5:Int.toNat 0<s.size) (h6:(↑(UInt8.toNat (s.data.toList.getD (Int.toNat 0) (0:UInt8))):Int)=45) (h7:((u.extract 0 k.toNat).data).toList=((ByteArray.mk (#[(48:UInt8)])).data).toList):
  bH jO ((fl iF []).drop 5) (dn s u k) 7167 Tryz.f20 true (iv 1):=
 wy [ah h1,ah h2,ah h3,af (aS (cn (h4))),ah h5,af (aN (gT.mpr h6)),cW h6,af (cn (h4)),ah h7] 12131497851667756158528324735890890753
def an5 (h1:0<=k) (h2:k.toNat<=u.size) (h3:(u.extract 0 k.toNat).size<=1000000000) (h4:(cD (u.extract 0 k.toNat))=true) (h5:Int.toNat 0<s.size) (h6:(↑(UInt8.toNat (s.data.toList.getD (Int.toNat 0) (0:UInt8))):Int)=45) (h7:¬((u.extract 0 k.toNat).data).toList=((ByteArray.mk (#[(48:UInt8)])).data).toList):
  dD jO ((fl iF []).drop 5) 2 (dn s u k) 5119 .normal [] (dn s u k):=
 wy [ah h1,ah h2,ah h3,af (aS (cn (h4))),ah h5,af (aN (gT.mpr h6)),cW h6,af (cn (h4)),aA h7] 12131497851667756158528324735890890753
def an6 (h1:0<=k) (h2:k.toNat<=u.size) (h3:(u.extract 0 k.toNat).size<=1000000000) (h4:(cD (u.extract 0 k.toNat))=true) (h5:Int.toNat 0<s.size) (h6:¬(↑(UInt8.toNat (s.data.toList.getD (Int.toNat 0) (0:UInt8))):Int)=45):
  dD jO ((fl iF []).drop 5) 2 (dn s u k) 4367 .normal [] (dn s u k):=
 wy [ah h1,ah h2,ah h3,af (aS (cn (h4))),ah h5,af (aN (fF.mpr h6)),yn h6,af (cn (h4))] 642570093814208610386670526465
def an7 (h1:¬k<(u.size:Int)):
  dD jO ((fl iF []).drop 7) 2 (dn s u k) 4096 .normal [] (dn s u k):=
 wy [af (aN (ab h1)),aA h1] 2324143350556659777
def an8 (h1:k<(u.size:Int)) (h2:i6 (k+1)) (h3:0<=k+1) (h4:(k+1).toNat<=u.size) (h5:(u.extract (k+1).toNat u.size).size<=1000000000) (h6:(cD (u.extract (k+1).toNat u.size))=false):
  bH jO ((fl iF []).drop 7) (dn s u k) 32534655 Tryz.f20 true (iv 1):=
 wy [af (aN (ax h1)),yi h2,ah h3,ah h4,ah (by omega:u.size<=u.size),ah h5,af (aS (cn (h6))),af (cn (h6)),ah h1] 52615486191605234386183578337711327053139317100609
def an9 (h1:k<(u.size:Int)) (h2:i6 (k+1)) (h3:0<=k+1) (h4:(k+1).toNat<=u.size) (h5:(u.extract (k+1).toNat u.size).size<=1000000000) (h6:(cD (u.extract (k+1).toNat u.size))=true) (h7:((u.extract (k+1).toNat u.size).data).toList=((ByteArray.mk (#[(48:UInt8)])).data).toList):
  bH jO ((fl iF []).drop 7) (dn s u k) 32530431 Tryz.f20 true (iv 1):=
 wy [af (aN (ax h1)),yi h2,ah h3,ah h4,ah (by omega:u.size<=u.size),ah h5,af (aS (cn (h6))),af (cn (h6)),af (aS (ax h7)),ah h7,ah h1] 1094229182170043027733640569609741686283412839940049342529
def aoa (h1:k<(u.size:Int)) (h2:i6 (k+1)) (h3:0<=k+1) (h4:(k+1).toNat<=u.size) (h5:(u.extract (k+1).toNat u.size).size<=1000000000) (h6:(cD (u.extract (k+1).toNat u.size))=true) (h7:¬((u.extract (k+1).toNat u.size).data).toList=((ByteArray.mk (#[(48:UInt8)])).data).toList) (h8:((u.extract (k+1).toNat u.size).data).toList=((ByteArray.mk (#[(49:UInt8)])).data).toList):
  bH jO ((fl iF []).drop 7) (dn s u k) 31449087 Tryz.f20 true (iv 1):=
 wy [af (aN (ax h1)),yi h2,ah h3,ah h4,ah (by omega:u.size<=u.size),ah h5,af (aS (cn (h6))),af (cn (h6)),af (aS (ab h7)),aA h7,ah h1,ah h8] 1282105618965331399306456053895005741220147403057679523796635619393
def aob (h1:k<(u.size:Int)) (h2:i6 (k+1)) (h3:0<=k+1) (h4:(k+1).toNat<=u.size) (h5:(u.extract (k+1).toNat u.size).size<=1000000000) (h6:(cD (u.extract (k+1).toNat u.size))=true) (h7:¬((u.extract (k+1).toNat u.size).data).toList=((ByteArray.mk (#[(48:UInt8)])).data).toList) (h8:¬((u.extract (k+1).toNat u.size).data).toList=((ByteArray.mk (#[(49:UInt8)])).data).toList):
  dD jO ((fl iF []).drop 7) 2 (dn s u k) 23060479 .normal [] (dn s u k):=
 wy [af (aN (ax h1)),yi h2,ah h3,ah h4,ah (by omega:u.size<=u.size),ah h5,af (aS (cn (h6))),af (cn (h6)),af (aS (ab h7)),aA h7,ah h1,aA h8] 1282105618965331399306456053895005741220147403057679523796635619393
def aoc (h1:k>600):
  bH jO ((fl iF []).drop 9) (dn s u k) 448 Tryz.f20 true (iv 4):=
 wy [af (aS (ax h1)),ah h1] 138529738817
def aod (h1:¬k>600) (h2:i6 ((u.size:Int)-k)) (h3:i6 ((u.size:Int)-k-1)) (h4:(u.size:Int)-k-1>600):
  bH jO ((fl iF []).drop 9) (dn s u k) 447 Tryz.f20 true (iv 4):=
 wy [af (aS (ab h1)),yi h2,yi h3,aA h1,ah h4] 91202497766756417
def aoe (h1:¬k>600) (h2:i6 ((u.size:Int)-k)) (h3:i6 ((u.size:Int)-k-1)) (h4:¬(u.size:Int)-k-1>600):
  dD jO ((fl iF []).drop 9) 2 (dn s u k) 319 .normal [] (dn s u k):=
 wy [af (aS (ab h1)),yi h2,yi h3,aA h1,aA h4] 91202497766756417
def aof (h1:¬k<(u.size:Int)):
  bH jO ((fl iF []).drop 11) (dn s u k) 2 Tryz.f20 true (iv 0):=
 wy [aA h1] 1
def aog (h1:k<(u.size:Int)) (h2:(jk u)=true) (h3:(okA (mkR (ptN u)).2&&okA (mkR (ptD u)).2)=true) (h4:¬(↑(aI (↑(Int.gcd (ag (mkR (ptN u)).2) (ag (mkR (ptD u)).2)):Int)).length:Int)=1):
  bH jO ((fl iF []).drop 11) (dn s u k) 225 Tryz.f20 true (iv 1):=
 wy [ah h1,af h2,af h3,af (aS (e7.mpr h4)),af (e7.mpr h4)] 22269473599617
def aoh (h1:k<(u.size:Int)) (h2:(jk u)=true) (h3:(okA (mkR (ptN u)).2&&okA (mkR (ptD u)).2)=true) (h4:(↑(aI (↑(Int.gcd (ag (mkR (ptN u)).2) (ag (mkR (ptD u)).2)):Int)).length:Int)=1) (h5:Int.toNat 0<(aI (↑(Int.gcd (ag (mkR (ptN u)).2) (ag (mkR (ptD u)).2)):Int)).length) (h6:¬(aI (↑(Int.gcd (ag (mkR (ptN u)).2) (ag (mkR (ptD u)).2)):Int)).getD (Int.toNat 0) 0=1):
  bH jO ((fl iF []).drop 11) (dn s u k) 223 Tryz.f20 true (iv 1):=
 wy [ah h1,af h2,af h3,af (aS (gu.mpr h4)),ah h5,af (gu.mpr h4),af (e7.mpr h6)] 8179680759063261313
def aoi (h1:k<(u.size:Int)) (h2:(jk u)=true) (h3:(okA (mkR (ptN u)).2&&okA (mkR (ptD u)).2)=true) (h4:(↑(aI (↑(Int.gcd (ag (mkR (ptN u)).2) (ag (mkR (ptD u)).2)):Int)).length:Int)=1) (h5:Int.toNat 0<(aI (↑(Int.gcd (ag (mkR (ptN u)).2) (ag (mkR (ptD u)).2)):Int)).length) (h6:(aI (↑(Int.gcd (ag (mkR (ptN u)).2) (ag (mkR (ptD u)).2)):Int)).getD (Int.toNat 0) 0=1):
  bH jO ((fl iF []).drop 11) (dn s u k) 159 Tryz.f20 true (iv 0):=
 wy [ah h1,af h2,af h3,af (aS (gu.mpr h4)),ah h5,af (gu.mpr h4),af (gu.mpr h6)] 8179680759063261313
end
end
end Go.Proofs.YtibikmmdbdlafaaGreatDoor
