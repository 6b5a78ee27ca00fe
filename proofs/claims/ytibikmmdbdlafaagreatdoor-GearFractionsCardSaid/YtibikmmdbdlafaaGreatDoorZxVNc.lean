/- The reference of chapter 1: lists of digits to the base 10^9: trim, signed, whole, compareDigits, digit. -/
import Derived.Test.YtibikmmdbdlafaaGreatDoorZxSvGive
set_option linter.unusedVariables false
set_option linter.unusedSimpArgs false
set_option maxRecDepth 100000
namespace Go.Proofs.YtibikmmdbdlafaaGreatDoor
open Go.RowKit Sv Go.Proofs.Tryz
noncomputable section
abbrev mC (j:Nat) (l:List Int):aa:= .bN 3 (.int .i64) j 0 l.length (bA l.length)
abbrev mD (l:List Int):fy:= .opt 3 (.int .i64) l
abbrev jP:au:= .pair .bool (.list false (.int .i64))
abbrev rv (a:Bool×List Int):aa:= .agg [bv a.1,lv a.2]
noncomputable def vo:Code:=(f184.body).getD .skip
noncomputable def J5:Code:=(f132.body).getD .skip
noncomputable def vp:Code:=(f71.body).getD .skip
noncomputable def ql:Code:=(f134.body).getD .skip
noncomputable def J6:Code:=(f186.body).getD .skip
def ag (l:List Int):Int:=vl 1000000000 l
def zW (l:List Int):Bool:=l.all fun x=>decide (0<=x)&&decide (x<1000000000)
def ec (l:List Int):List Int:=eJ l l.length
def J7 (l:List Int):Bool:=Nat.beq (ec l).length l.length
noncomputable def aC (z:Int):List Int:=cM 1000000000 z
def okA (l:List Int):Bool:=zW l&&(J7 l&&decide (l.length<=100000))
def okB (l:List Int):Bool:=zW l&&decide (l.length<=300000)
def lD (w:List Int):bC:={n:=21,sl:=[(0,lv w)],bG:=[],next:=64}
abbrev EP:List Nat:=[1,0,0,0]
theorem aby (w:List Int):
  cT (a7 []) (fl vo []) 1 21 [lv w] 1 .normal [] (lD w):=
 wy [] 0
theorem abz (w:List Int) (h1:(w.length:Int)>0) (h2:i6 ((w.length:Int)-1)) (h3:0<=(w.length:Int)-1) (h4:((w.length:Int)-1).toNat<w.length) (h5:w.getD ((w.length:Int)-1).toNat 0=0) (h6:((w.take ((w.length:Int)-1).toNat).drop 0)=(w.take (w.length-1))):
  bh (a7 []) (fl vo EP) (lD w) 1023 .normal [] (lD (w.take (w.length-1))):=
 wy [af (aQ (az h1)),yi h2,ah h3,ah h4,ah h1,c8 h5,ah (by omega:((w.length:Int)-(1:Int)).toNat<=w.length),ax h6] 642491796976714818348818632769
theorem abA (w:List Int) (h1:(w.length:Int)>0) (h2:i6 ((w.length:Int)-1)) (h3:0<=(w.length:Int)-1) (h4:((w.length:Int)-1).toNat<w.length) (h5:¬w.getD ((w.length:Int)-1).toNat 0=0):
  bh (a7 []) (fl vo EP) (lD w) 767 (.exit 0) [] (lD w):=
 wy [af (aQ (az h1)),yi h2,ah h3,ah h4,ah h1,yn h5] 448504778965001703489
theorem abB (w:List Int) (h1:¬(w.length:Int)>0):
  bh (a7 []) (fl vo EP) (lD w) 512 (.exit 0) [] (lD w):=
 wy [af (aQ (ab h1)),aJ h1] 8865903284289
theorem Q9 (w:List Int):
  bQ (a7 []) ((fl vo []).drop 2) (lD w) 1 f184 false (lv w):=
 wy [] 0
noncomputable def ER:bn:={f:=184,ps:=[.list false (.int .i64)],rs:=[.list false (.int .i64)],fresh:=false,pre:=fun d=>decide (List.length (α:=Int) d.1<=1000000),fn:=fun d=>(ec d.1,())}
noncomputable def J8:bF:=nZ [ER] (a7 [])
theorem abC (w:List Int) (h1:w.length<=1000000) (h2:(decide ((↑(ec w).length:Int)>0))=(decide (0<(↑(ec w).length:Int)))):
  bq J8 (fl J5 []) 9 15 [bv true,lv w] 31 f132 false (.agg [bv (decide (0<((ec w).length:Int))),lv (ec w)]):=
 wy [ah h1,ax h2] 2147483649
theorem abD (w:List Int) (h1:w.length<=1000000):
  bq J8 (fl J5 []) 9 15 [bv false,lv w] 16 f132 false (.agg [bv false,lv (ec w)]):=
 wy [ah h1] 1
theorem abE (a b:List Int) (h1:¬(a.length:Int)=(b.length:Int)) (h2:(a.length:Int)<(b.length:Int)):
  bq (a7 []) (fl ql []) 3 41 [lv a,lv b] 7 f134 true (iv (-1)):=
 wy [af (gJ.mpr h1),ah h2] 129
theorem abF (a b:List Int) (h1:¬(a.length:Int)=(b.length:Int)) (h2:¬(a.length:Int)<(b.length:Int)):
  bq (a7 []) (fl ql []) 3 41 [lv a,lv b] 5 f134 true (iv 1):=
 wy [af (gJ.mpr h1),aJ h2] 129
def mE (a b:List Int) (k:Nat):bC:={n:=41,sl:=[(0,lv a),(1,lv b),(5,iv ((k:Int)-1))],bG:=[],next:=64}
def ES (a b:List Int) (k:Nat):bC:={n:=41,sl:=[(0,lv a),(1,lv b),(5,iv ((k:Int)-1-1))],bG:=[],next:=64}
abbrev Cs:List Nat:=[1,1,0,1,0,0]
theorem IR (a b:List Int) (h1:(a.length:Int)=(b.length:Int)) (h2:i6 ((a.length:Int)-1)):
  cT (a7 []) (fl ql []) 4 41 [lv a,lv b] 2 .normal [] (mE a b a.length):=
 wy [af (jA.mpr h1),yi h2] 129
theorem abG (a b:List Int) (k:Nat) (h1:(k:Int)-1>=0) (h2:0<=(k:Int)-1) (h3:((k:Int)-1).toNat<a.length) (h4:((k:Int)-1).toNat<b.length) (h5:a.getD ((k:Int)-1).toNat 0<b.getD ((k:Int)-1).toNat 0):
  bQ (a7 []) (fl ql Cs) (mE a b k) 7 f134 true (iv (-1)):=
 wy [ah h1,ah h2,ah h3,af (aW (v:=iv (a.getD ((k:Int)-(1:Int)).toNat (0:Int))) (by kernel_rfl)),ah h4,af (aW (v:=iv (b.getD ((k:Int)-(1:Int)).toNat (0:Int))) (by kernel_rfl)),ah h5] 31204045762689
theorem abH (a b:List Int) (k:Nat) (h1:(k:Int)-1>=0) (h2:0<=(k:Int)-1) (h3:((k:Int)-1).toNat<a.length) (h4:((k:Int)-1).toNat<b.length) (h5:¬a.getD ((k:Int)-1).toNat 0<b.getD ((k:Int)-1).toNat 0) (h6:a.getD ((k:Int)-1).toNat 0>b.getD ((k:Int)-1).toNat 0):
  bQ (a7 []) (fl ql Cs) (mE a b k) 13 f134 true (iv 1):=
 wy [ah h1,ah h2,ah h3,af (aW (v:=iv (a.getD ((k:Int)-(1:Int)).toNat (0:Int))) (by kernel_rfl)),ah h4,af (aW (v:=iv (b.getD ((k:Int)-(1:Int)).toNat (0:Int))) (by kernel_rfl)),aJ h5,ah h6] 156579657712784783981949057
theorem abI (a b:List Int) (k:Nat) (h1:(k:Int)-1>=0) (h2:0<=(k:Int)-1) (h3:((k:Int)-1).toNat<a.length) (h4:((k:Int)-1).toNat<b.length) (h5:¬a.getD ((k:Int)-1).toNat 0<b.getD ((k:Int)-1).toNat 0) (h6:¬a.getD ((k:Int)-1).toNat 0>b.getD ((k:Int)-1).toNat 0) (h7:i6 ((k:Int)-1-1)):
  bh (a7 []) (fl ql Cs) (mE a b k) 9 .normal [] (ES a b k):=
 wy [ah h1,ah h2,ah h3,af (aW (v:=iv (a.getD ((k:Int)-(1:Int)).toNat (0:Int))) (by kernel_rfl)),ah h4,af (aW (v:=iv (b.getD ((k:Int)-(1:Int)).toNat (0:Int))) (by kernel_rfl)),aJ h5,aJ h6,yi h7] 11298040011281207258074067073
theorem abJ (a b:List Int) (k:Nat) (h1:¬(k:Int)-1>=0):
  bh (a7 []) (fl ql Cs) (mE a b k) 2 (.exit 0) [] (mE a b k):=
 wy [aJ h1] 1
theorem P1 (a b:List Int) (k:Nat):
  bQ (a7 []) ((fl ql []).drop 5) (mE a b k) 1 f134 true (iv 0):=
 wy [] 0
theorem abK (a:List Int) (k:Nat) (h1:(k:Int)<(a.length:Int)) (h2:k<a.length):
  bq (a7 []) (fl J6 []) 9 13 [lv a,iv k] 3 f186 true (iv (a.getD k 0)):=
 wy [ah h1,ah h2] 8193
theorem P2 (a:List Int) (k:Int) (h1:¬k<(a.length:Int)):
  bq (a7 []) (fl J6 []) 9 13 [lv a,iv k] 2 f186 true (iv 0):=
 wy [aJ h1] 1
def kK (x y:Int):Int:=if x<y then-1 else if y<x then 1 else 0
def br (a:List Int) (k:Int):Int:=a.getD k.toNat 0
noncomputable def J9:bn:={f:=134,ps:=[.list false (.int .i64), .list false (.int .i64)],rs:=[.int .i64],fresh:=true,pre:=fun d=>okA d.1&&okA d.2.1,fn:=fun d=>(kK (ag d.1) (ag d.2.1),())}
noncomputable def Ra:bn:={f:=186,ps:=[.list false (.int .i64), .int .i64],rs:=[.int .i64],fresh:=true,pre:=fun d=>decide (0<=d.2.1),fn:=fun d=>(br d.1 d.2.1,())}
noncomputable def mkR (z:Int):Bool×List Int:=(decide (z<0),aC (z.natAbs:Int))
def aZ (neg:Bool) (v:Int):Int:=match neg with |true=> -v|false=>v
abbrev Rb:fy:= .blk (.cells 97 [bv false, .raw (.slice none 0 0)] true false false)
def kL (n:Int) (neg:Bool) (w:List Int):bC:={n:=25,sl:=[(0,iv n),(2, .ptr 64 0),(3,mC 65 w),(4,bv neg)],bG:=[(64,Rb),(65,mD w)],next:=66}
abbrev ET:List Nat:=[1,1,1,0,0,0]
noncomputable def Ct:bn:={f:=132,ps:=[.bool, .list false (.int .i64)],rs:=[jP],fresh:=false,pre:=fun d=>okB d.2.1,fn:=fun d=>(mkR (aZ d.1 (ag d.2.1)),())}
theorem IS (l:List Int) (hl:l.length<=1000000):Holds prog false 184 [lv l] (lv (ec l)):=by
 refine bJ (c:=vo) func184 rfl rfl fun w0 F=> ?_
 refine cE ba 1 (aby l) ?_;have abL:lD l=lD (l.take l.length):=by rw [dA]
 rw [abL];refine aR.loop (ι:={k:Nat//k<=l.length/\eJ l k=ec l}) (id:=0) (b:=cat vo EP) (rest:=(fl vo []).drop 2) (by kernel_rfl) (fun k=>lD (l.take k.1)) (fun k=>k.1) ⟨l.length,aE _,rfl⟩ (fun _=>rfl) ?_;rintro⟨k,hk,hv⟩;have hk:k<=l.length:=hk;have lk:(l.take k).length=k:=by rw [dK];omega
 cases k with
 |zero=>
  refine bp (s:=lD (l.take 0)) ba (abB _ (by omega)) ?_;refine cv (cD ?_);have e:ec l=l.take 0:=by rw [<-hv];rfl
  rw [e];exact bT (s:=lD (l.take 0)) ba (Q9 _)
 |succ k=>
  have e0:((((l.take (k+1)).length:Nat):Int)-1).toNat=k:=by omega
  have e1:(l.take (k+1)).getD k 0=l.getD k 0:=by simp [ao,List.getElem?_take]
  have e2:(l.take (k+1)).take ((l.take (k+1)).length-1)=l.take k:=by rw [lk,List.take_take];congr 1;omega
  by_cases hz:l.getD k 0=0
  .refine bp (s:=lD (l.take (k+1))) ba (abz _ (by omega) (by omega) (by omega) (by omega) (by rw [e0,e1];exact hz) (by rw [e0,lk,List.drop_zero,Nat.add_sub_cancel])) ?_;have iF:eJ l k=ec l:=by rw [<-hv,eJ,if_pos hz]
   rw [e2];exact⟨⟨k,by omega,iF⟩,e7 _,rfl,rfl⟩
  .refine bp (s:=lD (l.take (k+1))) ba (abA _ (by omega) (by omega) (by omega) (by omega) (by rw [e0,e1];exact hz)) ?_;refine cv (cD ?_);have e:ec l=l.take (k+1):=by rw [<-hv,eJ,if_neg hz]
   rw [e];exact bT (s:=lD (l.take (k+1))) ba (Q9 _)
theorem J':ER.Ok prog:=fun⟨l,_⟩ h=>IS l (ap h)
theorem Rc:bB prog (bD J8):=tD (fun c hc=>by
 simp only [dV,jY,or_false]at hc;obtain rfl:=hc;exact J') ba
theorem kM:(1:Int)<1000000000:=by decide
theorem nz {l:List Int}:zW l=true↔aP 1000000000 l:=by
 unfold zW aP;simp only [List.all_eq_true,ae,bz]
theorem abM {l:List Int}:J7 l=true↔eX l:=by
 unfold J7 ec;constructor
 .intro h;have h:=ac h;have:=rn l l.length (aE _);obtain⟨m,h1,h2,_⟩:=Co l l.length (aE _);rw [h2,dK]at h;have hm:m=l.length:=by omega
  rw [h2,hm,dA]at this;exact this
 .intro h;rw [Q0 h];exact Nat.beq_refl _
theorem fc {l:List Int}:okA l=true↔aP 1000000000 l/\eX l/\l.length<=100000:=by
 unfold okA;rw [ae,ae,nz,abM,bz]
theorem n4 {l:List Int}:okB l=true↔aP 1000000000 l/\l.length<=300000:=by
 unfold okB;rw [ae,nz,bz]
theorem xQ {l:List Int} (h:aP 1000000000 l):ec l=aC (ag l):=by
 refine d9 kM (QZ h _ (aE _)) (rn l _ (aE _)) ?_;unfold ec ag;rw [JX l _ (aE _),dA]
theorem EU {l:List Int} (h:aP 1000000000 l) (ht:eX l):aC (ag l)=l:=(d9 kM h ht rfl).symm
theorem fY {z:Int} (h:0<=z):aP 1000000000 (aC z)/\eX (aC z)/\ag (aC z)=z:=d8 kM h
theorem pd {z:Int} (h:0<=z):aC z=[]↔z=0:=by
 obtain⟨h1,h2,h3⟩:=fY h;rw [<-rp kM h1 h2];show ag (aC z)=0↔_;rw [h3]
theorem dC {l:List Int} (h:aP 1000000000 l):0<=ag l:=fK (by decide) h
theorem IT (neg:Bool) (w:List Int) (h:okB w=true):Holds prog false 132 [bv neg,lv w] (rv (mkR (aZ neg (ag w)))):=by
 obtain⟨hd,hl⟩:=n4.1 h;have hn:=dC hd;have et:=xQ hd;refine bJ (c:=J5) func132 rfl rfl fun w0 F=> ?_
 cases neg with
 |true=>
  have e:mkR (aZ true (ag w))=(decide ((0:Int)<((ec w).length:Int)),ec w):=by
   show(decide (-ag w<0),aC ((-ag w).natAbs:Int))=_;rw [et,show((-ag w).natAbs:Int)=ag w by omega];congr 1;have hz:=pd hn;by_cases h0:ag w=0
   .have:aC (ag w)=[]:=hz.2 h0;rw [this,h0];rfl
   .have:aC (ag w)≠[]:=fun h=>h0 (hz.1 h)
    have:=List.length_pos_iff.2 this;rw [az (by omega),az (by omega)]
  rw [e];exact bu Rc 9 (abC w (by omega) rfl)
 |false=>
  have e:mkR (aZ false (ag w))=(false,ec w):=by
   show(decide (ag w<0),aC ((ag w).natAbs:Int))=_;rw [et,show((ag w).natAbs:Int)=ag w by omega,ab (by omega)]
  rw [e];exact bu Rc 9 (abD w (by omega))
theorem EV:Ct.Ok prog:=fun⟨neg,w,_⟩ h=>IT neg w h
theorem Re {x y:Int} (h:x<y):kK x y= -1:=by unfold kK;rw [if_pos h]
theorem Rf {x y:Int} (h:y<x):kK x y=1:=by unfold kK;rw [if_neg (by omega),if_pos h]
theorem abN {x y:Int} (h:x=y):kK x y=0:=by unfold kK;rw [if_neg (by omega),if_neg (by omega)]
theorem abO (a b:List Int) (h:okA a=true) (g:okA b=true):Holds prog true 134 [lv a,lv b] (iv (kK (ag a) (ag b))):=by
 obtain⟨ha,ta,la⟩:=fc.1 h;obtain⟨hb,tb,lb⟩:=fc.1 g;refine bJ (c:=ql) func134 rfl rfl fun w0 F=> ?_
 by_cases hab:a.length=b.length
 .refine cE ba 4 (IR a b (by omega) (by omega)) ?_;refine aR.loop (ι:={k:Nat//k<=a.length/\∀j,k<=j->j<a.length->a.getD j 0=b.getD j 0}) (id:=0) (b:=cat ql Cs) (rest:=(fl ql []).drop 5) (by kernel_rfl) (fun k=>mE a b k.1) (fun k=>k.1) ⟨a.length,aE _,fun j h1 h2=>by omega⟩ (fun _=>rfl) ?_;rintro⟨k,hk,heq⟩;cases k with
  |zero=>
   refine bp (s:=mE a b 0) ba (abJ a b 0 (by omega)) ?_;refine cv (cD ?_);have e:a=b:=by
    refine List.ext_getElem hab fun j h1 h2=> ?_
    have:=heq j (Nat.zero_le _) h1;rwa [tC h1,tC h2]at this
   rw [abN (show ag a=ag b by rw [e])];exact bT (s:=mE a b 0) ba (P1 a b 0)
  |succ k=>
   have e0:(((k+1:Nat):Int)-1).toNat=k:=by omega
   have e1:ES a b (k+1)=mE a b k:=by
    unfold ES mE;rw [show(((k+1:Nat):Int)-1-1)=(k:Int)-1 by omega]
   have hka:k<a.length:=by omega
   by_cases h2:a.getD k 0<b.getD k 0
   .rw [Re (show ag a<ag b from EM kM ha hb hab hka h2 fun j g1 g2=>heq j (by omega) g2)];exact bT (s:=mE a b (k+1)) ba (abG a b (k+1) (by omega) (by omega) (by omega) (by omega) (by rw [e0];exact h2))
   .by_cases h3:a.getD k 0>b.getD k 0
    .rw [Rf (show ag b<ag a from EM kM hb ha hab.symm (by omega) (show b.getD k 0<a.getD k 0 by omega) fun j g1 g2=>(heq j (by omega) (by omega)).symm)];exact bT (s:=mE a b (k+1)) ba (abH a b (k+1) (by omega) (by omega) (by omega) (by omega) (by rw [e0];exact h2) (by rw [e0];exact h3))
    .refine bp (s:=mE a b (k+1)) (s':=ES a b (k+1)) ba (abI a b (k+1) (by omega) (by omega) (by omega) (by omega) (by rw [e0];exact h2) (by rw [e0];exact h3) (by omega)) ?_;rw [e1];exact⟨⟨k,by omega,fun j g1 g2=>by
      by_cases hj:j=k
      .rw [hj];omega
      .exact heq j (by omega) g2⟩,e7 _,rfl,rfl⟩
 .by_cases hlt:a.length<b.length
  .rw [Re (show ag a<ag b from vk kM ha hb tb hlt)];exact bu ba 3 (abE a b (by omega) (by omega))
  .rw [Rf (show ag b<ag a from vk kM hb ha ta (by omega))];exact bu ba 3 (abF a b (by omega) (by omega))
theorem Rg:J9.Ok prog:=fun⟨a,b,_⟩ h=>by
 have h:(okA a&&okA b)=true:=h;rw [ae]at h;exact abO a b h.1 h.2
theorem abP:Ra.Ok prog:=fun⟨a,k,_⟩ h=>by
 have h0:(0:Int)<=k:=ap h;obtain⟨n,rfl⟩:=Int.eq_ofNat_of_zero_le h0;show Holds prog true 186 [lv a,iv n] (iv (a.getD (n:Int).toNat 0));rw [Int.toNat_natCast];refine bJ (c:=J6) func186 rfl rfl fun w0 F=> ?_
 by_cases h1:n<a.length
 .exact bu ba 9 (abK a n (by omega) h1)
 .rw [show a.getD n 0=0 by rw [ao,List.getElem?_eq_none (by omega)];rfl];exact bu ba 9 (P2 a n (by omega))
noncomputable def zX:bF:=nZ [Ct] (a7 [])
theorem abQ (n:Int):
  cT zX (fl vp []) 3 25 [iv n] 1 .normal [(64,64,none)] (kL n (decide (n<0)) []):=
 wy [] 0
theorem abR (n:Int) (neg:Bool) (w:List Int) (h1:¬n=0) (h2:¬Int.tmod n 1000000000<0) (h3:w.length+1<=1000000) (h4:i6 (Int.tdiv n 1000000000)) (h5:(w.length+1)=(w++[Int.tmod n 1000000000]).length) (h6:(aS.full)=(bA (w++[Int.tmod n 1000000000]).length)):
  bh zX (fl vp ET) (kL n neg w) 9 .normal [(64,64,none),(65,67,none)] (kL (Int.tdiv n 1000000000) neg (w++[Int.tmod n 1000000000])):=
 wy [af (gJ.mpr h1),aJ h2,yk 3 (.int .i64) w,ia 8 h3,yi h4,ax h5,ax h6,jN 3 (.int .i64) (Eq.refl (w++[Int.tmod n (1000000000:Int)]))] 40564821351257725478366412283905
theorem abS (n:Int) (neg:Bool) (w:List Int) (h1:¬n=0) (h2:Int.tmod n 1000000000<0) (h3:i6 (0-Int.tmod n 1000000000)) (h4:w.length+1<=1000000) (h5:i6 (Int.tdiv n 1000000000)) (h6:(w.length+1)=(w++[0-Int.tmod n 1000000000]).length) (h7:(aS.full)=(bA (w++[0-Int.tmod n 1000000000]).length)):
  bh zX (fl vp ET) (kL n neg w) 11 .normal [(64,64,none),(65,67,none)] (kL (Int.tdiv n 1000000000) neg (w++[0-Int.tmod n 1000000000])):=
 wy [af (gJ.mpr h1),ah h2,yi h3,yk 3 (.int .i64) w,ia 8 h4,yi h5,ax h6,ax h7,jN 3 (.int .i64) (Eq.refl (w++[(0:Int)-Int.tmod n (1000000000:Int)]))] 2920667139783965744155195771461633
theorem abT (n:Int) (neg:Bool) (w:List Int) (h1:n=0):
  bh zX (fl vp ET) (kL n neg w) 2 (.exit 0) [(64,64,none),(65,65,none)] (kL n neg w):=
 wy [af (jA.mpr h1)] 1
theorem abU (n:Int) (neg:Bool) (w:List Int) (h1:(Nat.beq w.length 0||bt 3 (.int .i64) (bM 3 (.int .i64) w) (w.length-1))=true) (h2:(okB ((w.drop 0).take w.length))=true):
  bQ zX ((fl vp []).drop 4) (kL n neg w) 1 f71 false (rv (mkR (aZ neg (ag ((w.drop 0).take w.length))))):=
 wy [af (show(Nat.beq w.length (0:Nat)||bt 3 (.int .i64) (bM 3 (.int .i64) w) ((0:Nat)+w.length-(1:Nat)))=true from(by simp only [aw]<;>exact h1)),af (show(okB (((bI (.int .i64) (bM 3 (.int .i64) w)).drop (0:Nat)).take w.length))=true from(by simp only [dI]<;>exact h2)),ax (show((mkR (aZ neg (ag (((bI (.int .i64) (bM 3 (.int .i64) w)).drop (0:Nat)).take w.length)))).1)=((mkR (aZ neg (ag ((w.drop (0:Nat)).take w.length)))).1)from(by simp only [dI]<;>rfl)),ax (show((mkR (aZ neg (ag (((bI (.int .i64) (bM 3 (.int .i64) w)).drop (0:Nat)).take w.length)))).2)=((mkR (aZ neg (ag ((w.drop (0:Nat)).take w.length)))).2)from(by simp only [dI]<;>rfl))] 1060993
noncomputable def Ka:bn:={f:=71,ps:=[.int .i64],rs:=[jP],fresh:=false,pre:=fun d=>decide (-9223372036854775808<=d.1)&&decide (d.1<=9223372036854775807),fn:=fun d=>(mkR d.1,())}
theorem abV:bB prog (bD zX):=tD (fun c hc=>by
 simp only [dV,jY,or_false]at hc;obtain rfl:=hc;exact EV) ba
theorem tE {α:Type} (l:List α) (x:α):aS.full=bA (l++[x]).length:=by simp [bA]
theorem qm {α:Type} (l:List α) (x:α):l.length+1=(l++[x]).length:=by simp
theorem vy (e:TypeId) (l:List Int):(Nat.beq l.length 0||bt e (.int .i64) (bM e (.int .i64) l) (l.length-1))=true:=by
 by_cases h:l.length=0
 .rw [h];rfl
 .rw [Bx,az (show l.length-1<l.length by omega),Bool.or_true]
theorem abW {n:Int} (h0:n≠0):∃d,(if Int.tmod n 1000000000<0 then 0-Int.tmod n 1000000000 else Int.tmod n 1000000000)=d/\0<=d/\d<1000000000/\((Int.tdiv n 1000000000).natAbs:Int)*1000000000+d=n.natAbs/\(Int.tdiv n 1000000000).natAbs<n.natAbs/\(Int.tdiv n 1000000000<0->n<0)/\(0<Int.tdiv n 1000000000->0<n):=by
 refine⟨_,rfl, ?_⟩;rcases Int.lt_or_le n 0 with hn|hn
 .have e1:Int.tdiv n 1000000000= -((-n)/1000000000):=by
   have h:=Int.neg_tdiv (a:= -n) (b:=1000000000);rw [Int.neg_neg]at h;rw [h,Int.tdiv_eq_ediv_of_nonneg (show 0<= -n by omega)]
  have e2:Int.tmod n 1000000000= -((-n)%1000000000):=by
   have h:=Int.neg_tmod (a:= -n) (b:=1000000000);rw [Int.neg_neg]at h;rw [h,Int.tmod_eq_emod_of_nonneg (show 0<= -n by omega)]
  rw [e1,e2];split<;>omega
 .rw [Int.tdiv_eq_ediv_of_nonneg hn,Int.tmod_eq_emod_of_nonneg hn];rw [if_neg (by omega)];omega
theorem abX (n0:Int) (hl: -9223372036854775808<=n0) (hh:n0<=9223372036854775807):Holds prog false 71 [iv n0] (rv (mkR n0)):=by
 have hS:=abV;refine bJ (c:=vp) func71 rfl rfl fun w0 F=> ?_
 refine cE hS 3 (abQ n0) ?_;refine aR.loop (ι:={s:Int×List Int// -9223372036854775808<=s.1/\s.1<=9223372036854775807/\aP 1000000000 s.2/\(s.1.natAbs:Int)<1000000000^(4-s.2.length)/\s.2.length<=4/\ag s.2+1000000000^s.2.length*(s.1.natAbs:Int)=n0.natAbs}) (id:=0) (b:=cat vp ET) (rest:=(fl vp []).drop 4) (by kernel_rfl) (fun s=>kL s.1.1 (decide (n0<0)) s.1.2) (fun s=>s.1.1.natAbs) ⟨(n0,[]),hl,hh, .nil,by show(n0.natAbs:Int)<1000000000^4;omega,by simp,by show(0:Int)+1*_=_;omega⟩ (fun _=>rfl) ?_;rintro⟨⟨n,w⟩,b1,b2,b3,fW,EW,xR⟩;have b1: -9223372036854775808<=n:=b1;have b2:n<=9223372036854775807:=b2;have b3:aP 1000000000 w:=b3;have fW:(n.natAbs:Int)<1000000000^(4-w.length):=fW;have EW:w.length<=4:=EW;have xR:ag w+1000000000^w.length*(n.natAbs:Int)=n0.natAbs:=xR;by_cases h0:n=0
 .refine bp (s:=kL n (decide (n0<0)) w) hS (abT n _ w h0) ?_;refine cv (cD ?_);have hv:ag w=n0.natAbs:=by rw [h0]at xR;simpa using xR
  have key:=abU n (decide (n0<0)) w;rw [List.drop_zero,dA]at key;have e:mkR (aZ (decide (n0<0)) (ag w))=mkR n0:=by
   rw [hv];by_cases hn:n0<0
   .rw [az hn];show mkR (-(n0.natAbs:Int))=_;congr 1;omega
   .rw [ab hn];show mkR (n0.natAbs:Int)=_;congr 1;omega
  rw [e]at key;exact bT (s:=kL n (decide (n0<0)) w) hS (key (vy _ w) (n4.2 ⟨b3,by omega⟩))
 .obtain⟨d,d1,d2,d3,d4,d5,d6,d7⟩:=abW h0;have aqG:w.length<4:=by
   rcases Nat.lt_or_ge w.length 4 with h|h
   .exact h
   .have:4-w.length=0:=by omega
    rw [this]at fW;simp at fW;omega
  have hp:(1000000000:Int)^(4-w.length)=1000000000^(4-(w.length+1))*1000000000:=by rw [<-Int.pow_succ];congr 1;omega
  have tF:∃j:{s:Int×List Int// -9223372036854775808<=s.1/\s.1<=9223372036854775807/\aP 1000000000 s.2/\(s.1.natAbs:Int)<1000000000^(4-s.2.length)/\s.2.length<=4/\ag s.2+1000000000^s.2.length*(s.1.natAbs:Int)=n0.natAbs},j.1.1.natAbs<n.natAbs/\(kL (Int.tdiv n 1000000000) (decide (n0<0)) (w++[d])).T=(kL j.1.1 (decide (n0<0)) j.1.2).T/\(kL (Int.tdiv n 1000000000) (decide (n0<0)) (w++[d])).H=(kL j.1.1 (decide (n0<0)) j.1.2).H:=by
   refine⟨⟨(Int.tdiv n 1000000000,w++[d]),by show _<=Int.tdiv n _;omega,by show Int.tdiv n _<=_;omega,b3.app (.cons ⟨d2,d3⟩ .nil), ?_,by show(w++[d]).length<=4;simp;omega, ?_⟩,d5,rfl,rfl⟩
   .show((Int.tdiv n 1000000000).natAbs:Int)<1000000000^(4-(w++[d]).length);rw [<-qm];rw [hp]at fW;omega
   .show ag (w++[d])+1000000000^(w++[d]).length*((Int.tdiv n 1000000000).natAbs:Int)=_;have ev:ag (w++[d])=ag w+1000000000^w.length*d:=xK _ _ _;rw [<-qm,ev,Int.pow_succ,<-xR,<-d4];grind
  by_cases hm:Int.tmod n 1000000000<0
  .rw [if_pos hm]at d1;subst d1;exact bp (s:=kL n (decide (n0<0)) w) hS (abS n _ w h0 hm (by omega) (by omega) (by omega) (qm _ _) (tE _ _)) tF
  .rw [if_neg hm]at d1;subst d1;exact bp (s:=kL n (decide (n0<0)) w) hS (abR n _ w h0 hm (by omega) (by omega) (qm _ _) (tE _ _)) tF
theorem Rh:Ka.Ok prog:=fun⟨n,_⟩ h=>by
 have h:(decide (-9223372036854775808<=n)&&decide (n<=9223372036854775807))=true:=h;rw [ae]at h;exact abX n (ap h.1) (ap h.2)
end
noncomputable section
abbrev aB:au:= .int .u64
abbrev cl (x:Int):aa:= .raw (.int .u64 x)
abbrev bE (l:List Int):aa:= .bk false aB l
abbrev qo (j:Nat) (l:List Int):aa:= .bN 167 aB j 0 l.length (bA l.length)
abbrev qp (l:List Int):fy:= .opt 167 aB l
def gA (l:List Int):Bool:=l.all fun x=>decide (0<=x)&&decide (x<18446744073709551616)
def ju (l:List Int):Bool:=Nat.beq (eJ l l.length).length l.length
def aj (l:List Int):Int:=vl 18446744073709551616 l
noncomputable def vq:Code:=(f188.body).getD .skip
def dJ (l:List Int):List Int:=eJ l l.length
def ii (w:List Int) (n:Nat):bC:={n:=21,sl:=[(0,bE w),(3,iv n)],bG:=[],next:=64}
def xa (w:List Int) (n:Nat):bC:={n:=21,sl:=[(0,bE w),(3,iv ((n:Int)-1))],bG:=[],next:=64}
theorem abY (w:List Int):
  cT (a7 []) (fl vq []) 2 21 [bE w] 1 .normal [] (ii w w.length):=
 wy [] 0
theorem abZ (w:List Int) (n:Nat) (h1:(n:Int)>0) (h2:i6 ((n:Int)-1)) (h3:0<=(n:Int)-1) (h4:((n:Int)-1).toNat<w.length) (h5:w.getD ((n:Int)-1).toNat 0=0):
  bh (a7 []) (fl vq [1,1,0,0,0]) (ii w n) 511 .normal [] (xa w n):=
 wy [af (aQ (az h1)),yi h2,ah h3,ah h4,ah h1,c8 h5] 154581839761004564545
theorem ab0 (w:List Int) (n:Nat) (h1:(n:Int)>0) (h2:i6 ((n:Int)-1)) (h3:0<=(n:Int)-1) (h4:((n:Int)-1).toNat<w.length) (h5:¬w.getD ((n:Int)-1).toNat 0=0):
  bh (a7 []) (fl vq [1,1,0,0,0]) (ii w n) 383 (.exit 0) [] (ii w n):=
 wy [af (aQ (az h1)),yi h2,ah h3,ah h4,ah h1,yn h5] 7007887171328151617
theorem ab1 (w:List Int) (n:Nat) (h1:¬(n:Int)>0):
  bh (a7 []) (fl vq [1,1,0,0,0]) (ii w n) 256 (.exit 0) [] (ii w n):=
 wy [af (aQ (ab h1)),aJ h1] 138529738817
theorem Ri (w:List Int) (n:Nat) (h1:n<=w.length) (h2:((w.take n).drop 0)=(w.take n)):
  bQ (a7 []) ((fl vq []).drop 3) (ii w n) 1 f188 false (bE (w.take n)):=
 wy [ah h1,ax h2] 528384
noncomputable def EX:bn:={f:=188,ps:=[.list false aB],rs:=[.list false aB],fresh:=false,pre:=fun d=>decide (List.length (α:=Int) d.1<=1000000),fn:=fun d=>(dJ d.1,())}
theorem ab2 (w:List Int) (hl:w.length<=1000000):Holds prog false 188 [bE w] (bE (dJ w)):=by
 refine bJ (c:=vq) func188 rfl rfl fun w0 F=> ?_
 refine cE ba 2 (abY w) ?_;refine aR.loop (ι:={n:Nat//n<=w.length/\eJ w n=dJ w}) (id:=0) (b:=cat vq [1,1,0,0,0]) (rest:=(fl vq []).drop 3) (by kernel_rfl) (fun n=>ii w n.1) (fun n=>n.1) ⟨w.length,aE _,rfl⟩ (fun _=>rfl) ?_;rintro⟨n,hn,hv⟩;cases n with
 |zero=>
  refine bp (s:=ii w 0) ba (ab1 w 0 (by omega)) ?_;refine cv (cD ?_);have e:dJ w=w.take 0:=by rw [<-hv];rfl
  rw [e];exact bT (s:=ii w 0) ba (Ri w 0 (by omega) rfl)
 |succ k=>
  have e0:(((k+1:Nat):Int)-1).toNat=k:=by omega
  have e1:xa w (k+1)=ii w k:=by
   unfold xa ii;rw [show(((k+1:Nat):Int)-1)=(k:Int) by omega]
  by_cases hz:w.getD k 0=0
  .refine bp (s:=ii w (k+1)) (s':=xa w (k+1)) ba (abZ w (k+1) (by omega) (by omega) (by omega) (by omega) (by rw [e0];exact hz)) ?_;have iF:eJ w k=dJ w:=by rw [<-hv,eJ,if_pos hz]
   rw [e1];exact⟨⟨k,by omega,iF⟩,by simp,rfl,rfl⟩
  .refine bp (s:=ii w (k+1)) ba (ab0 w (k+1) (by omega) (by omega) (by omega) (by omega) (by rw [e0];exact hz)) ?_;refine cv (cD ?_);have e:dJ w=w.take (k+1):=by rw [<-hv,eJ,if_neg hz]
   rw [e];exact bT (s:=ii w (k+1)) ba (Ri w (k+1) (by omega) rfl)
theorem Kb:EX.Ok prog:=fun⟨w,_⟩ h=>ab2 w (ap h)
end
noncomputable section
noncomputable def kN:bF:=a7 [EX]
def cU (a b c:Int):Int:=(((a.toNat+b.toNat+c.toNat)%2^64:Nat):Int)
def dN (a b c:Int):Int:=(((a.toNat+b.toNat+c.toNat)/2^64:Nat):Int)
def c9 (a b c:Int):Int:=(((a.toNat+2^64-b.toNat-c.toNat)%2^64:Nat):Int)
def eo (a b c:Int):Int:=((if a.toNat<b.toNat+c.toNat then 1 else 0:Nat):Int)
def co (n:Nat):List Int:=List.replicate n 0
noncomputable def mF:Code:=(f144.body).getD .skip
noncomputable def pe:Code:=(f146.body).getD .skip
abbrev zY:List Nat:=[1,1,1,1,0,1,0,0]
def fD (x y out:List Int) (c:Int) (i:Nat):bC:={n:=54,sl:=[(0,bE x),(1,bE y),(5,qo 64 out),(6,cl c),(21,iv x.length),(22,iv i)],bG:=[(64,qp out)],next:=65}
def EY (out:List Int):bC:={n:=54,sl:=[(5,qo 64 out)],bG:=[(64,qp out)],next:=65}
def EZ (out:List Int):bC:={n:=54,sl:=[(5,bE out)],bG:=[],next:=64}
theorem ab3 (x y:List Int) (h1:¬(x.length:Int)<(y.length:Int)) (h2: -9223372036854775808<=(x.length:Int)+1/\(x.length:Int)+1<=9223372036854775807) (h3:((x.length:Int)+1).toNat<=1000000) (h4:(((x.length:Int)+1).toNat)=(co (x.length+(1:Nat))).length) (h5:(aS.known ((x.length:Int)+1).toNat)=(aS.known (x.length+(1:Nat)))) (h6:(bA (co (x.length+(1:Nat))).length)=(bA (x.length+(1:Nat)))) (h7:(List.flatten (List.replicate ((x.length:Int)+1).toNat (List.map aa.raw (Array.toList #[Value.int .u64 (0:Int)]))))=(List.flatMap (fun x=>[aa.raw (Value.int .u64 x)]) (co (x.length+(1:Nat))))) (h8:(x.length+(1:Nat))=(co (x.length+(1:Nat))).length):
  aA.path (oS prog kN (fl mF []) 6 54 [bE x,bE y]) (dl 2) (dX prog 54 .normal [(64,64,some (x.length+1))] (fD x y (co (x.length+1)) 0 0)):=
 mp (JW (ab h1) (bm h2) rt rt (show(decide (((x.length:Int)+1).toNat<=((x.length:Int)+1).toNat))=true from az (by omega)) (nY (show(bounded ((x.length:Int)+1).toNat (8:Nat))=true from oV h3 (by omega)) (rr x) (rr y) (an h4 (an h5 h6)) (rr (0:Int)) (rr (x.length:Int)) (rr (0:Int)) (an h7 h8) trivial))
theorem ab4 (x y:List Int) (h1:(x.length:Int)<(y.length:Int)) (h2: -9223372036854775808<=(y.length:Int)+1/\(y.length:Int)+1<=9223372036854775807) (h3:((y.length:Int)+1).toNat<=1000000) (h4:(((y.length:Int)+1).toNat)=(co (y.length+(1:Nat))).length) (h5:(aS.known ((y.length:Int)+1).toNat)=(aS.known (y.length+(1:Nat)))) (h6:(bA (co (y.length+(1:Nat))).length)=(bA (y.length+(1:Nat)))) (h7:(List.flatten (List.replicate ((y.length:Int)+1).toNat (List.map aa.raw (Array.toList #[Value.int .u64 (0:Int)]))))=(List.flatMap (fun x=>[aa.raw (Value.int .u64 x)]) (co (y.length+(1:Nat))))) (h8:(y.length+(1:Nat))=(co (y.length+(1:Nat))).length):
  aA.path (oS prog kN (fl mF []) 6 54 [bE x,bE y]) (dl 3) (dX prog 54 .normal [(64,64,some (y.length+1))] (fD y x (co (y.length+1)) 0 0)):=
 mp (JW (az h1) (bm h2) rt rt (show(decide (((y.length:Int)+1).toNat<=((y.length:Int)+1).toNat))=true from az (by omega)) (nY (show(bounded ((y.length:Int)+1).toNat (8:Nat))=true from oV h3 (by omega)) (rr y) (rr x) (an h4 (an h5 h6)) (rr (0:Int)) (rr (y.length:Int)) (rr (0:Int)) (an h7 h8) trivial))
theorem ab5 (x y out:List Int) (i:Nat) (h1:(i:Int)<(x.length:Int)) (h2:(i:Int)<(y.length:Int)) (h3:i<y.length) (h4:i<x.length) (h5:i<out.length) (h6:i6 ((i:Int)+1)) (h7:out.length=(out.set i (cU (x.getD i 0) (y.getD i 0) 0)).length) (h8:(bA out.length)=(bA (out.set i (cU (x.getD i 0) (y.getD i 0) 0)).length)) (h9:(↑(((x.getD i 0).toNat+(y.getD i 0).toNat+Int.toNat 0)/(2:Nat)^(64:Nat)):Int)=(dN (x.getD i 0) (y.getD i 0) 0)) (h10:(out.set i (↑(((x.getD i 0).toNat+(y.getD i 0).toNat+Int.toNat 0)%(2:Nat)^(64:Nat)):Int))=(out.set i (cU (x.getD i 0) (y.getD i 0) 0))):
  bh kN (fl mF zY) (fD x y out 0 i) 7 .normal [(64,64,none)] (fD x y (out.set i (cU (x.getD i 0) (y.getD i 0) 0)) (dN (x.getD i 0) (y.getD i 0) 0) (i+1)):=
 wy [ah h1,ah h2,ah h3,ah h4,ah h5,iW 167 aB h5,yi h6,ax h7,ax h8,ax h9,mB 167 aB h10] 3569716646146256639964958679629953
theorem ab6 (x y out:List Int) (i:Nat) (h1:(i:Int)<(x.length:Int)) (h2:¬(i:Int)<(y.length:Int)) (h3:i<x.length) (h4:i<out.length) (h5:i6 ((i:Int)+1)) (h6:out.length=(out.set i (cU (x.getD i 0) 0 0)).length) (h7:(bA out.length)=(bA (out.set i (cU (x.getD i 0) 0 0)).length)) (h8:(↑(((x.getD i 0).toNat+Int.toNat 0+Int.toNat 0)/(2:Nat)^(64:Nat)):Int)=(dN (x.getD i 0) 0 0)) (h9:(out.set i (↑(((x.getD i 0).toNat+Int.toNat 0+Int.toNat 0)%(2:Nat)^(64:Nat)):Int))=(out.set i (cU (x.getD i 0) 0 0))):
  bh kN (fl mF zY) (fD x y out 0 i) 5 .normal [(64,64,none)] (fD x y (out.set i (cU (x.getD i 0) 0 0)) (dN (x.getD i 0) 0 0) (i+1)):=
 wy [ah h1,aJ h2,ah h3,ah h4,iW 167 aB h4,yi h5,ax h6,ax h7,ax h8,mB 167 aB h9] 792284383521178232608283951233
theorem ab7 (x y out:List Int) (i:Nat) (h1:(i:Int)<(x.length:Int)) (h2:(i:Int)<(y.length:Int)) (h3:i<y.length) (h4:i<x.length) (h5:i<out.length) (h6:i6 ((i:Int)+1)) (h7:out.length=(out.set i (cU (x.getD i 0) (y.getD i 0) 1)).length) (h8:(bA out.length)=(bA (out.set i (cU (x.getD i 0) (y.getD i 0) 1)).length)) (h9:(↑(((x.getD i 0).toNat+(y.getD i 0).toNat+Int.toNat 1)/(2:Nat)^(64:Nat)):Int)=(dN (x.getD i 0) (y.getD i 0) 1)) (h10:(out.set i (↑(((x.getD i 0).toNat+(y.getD i 0).toNat+Int.toNat 1)%(2:Nat)^(64:Nat)):Int))=(out.set i (cU (x.getD i 0) (y.getD i 0) 1))):
  bh kN (fl mF zY) (fD x y out 1 i) 7 .normal [(64,64,none)] (fD x y (out.set i (cU (x.getD i 0) (y.getD i 0) 1)) (dN (x.getD i 0) (y.getD i 0) 1) (i+1)):=
 wy [ah h1,ah h2,ah h3,ah h4,ah h5,iW 167 aB h5,yi h6,ax h7,ax h8,ax h9,mB 167 aB h10] 3569716646146256639964958679629953
theorem ab8 (x y out:List Int) (i:Nat) (h1:(i:Int)<(x.length:Int)) (h2:¬(i:Int)<(y.length:Int)) (h3:i<x.length) (h4:i<out.length) (h5:i6 ((i:Int)+1)) (h6:out.length=(out.set i (cU (x.getD i 0) 0 1)).length) (h7:(bA out.length)=(bA (out.set i (cU (x.getD i 0) 0 1)).length)) (h8:(↑(((x.getD i 0).toNat+Int.toNat 0+Int.toNat 1)/(2:Nat)^(64:Nat)):Int)=(dN (x.getD i 0) 0 1)) (h9:(out.set i (↑(((x.getD i 0).toNat+Int.toNat 0+Int.toNat 1)%(2:Nat)^(64:Nat)):Int))=(out.set i (cU (x.getD i 0) 0 1))):
  bh kN (fl mF zY) (fD x y out 1 i) 5 .normal [(64,64,none)] (fD x y (out.set i (cU (x.getD i 0) 0 1)) (dN (x.getD i 0) 0 1) (i+1)):=
 wy [ah h1,aJ h2,ah h3,ah h4,iW 167 aB h4,yi h5,ax h6,ax h7,ax h8,mB 167 aB h9] 792284383521178232608283951233
theorem ab9 (x y out:List Int) (c:Int) (i:Nat) (h1:¬(i:Int)<(x.length:Int)):
  bh kN (fl mF zY) (fD x y out c i) 2 (.exit 0) [(64,64,none)] (fD x y out c i):=
 wy [aJ h1] 1
theorem acd (x y out:List Int) (c:Int) (i:Nat) (h1:x.length<out.length) (h2:out.length=(out.set x.length c).length) (h3:(bA out.length)=(bA (out.set x.length c).length)):
  en kN ((fl mF []).drop 7) 1 (fD x y out c i) 1 .normal [(64,64,none)] (EY (out.set x.length c)):=
 wy [ah h1,iW 167 aB h1,ax h2,ax h3,mB 167 aB (Eq.refl (out.set x.length c))] 347942690880
theorem ace (out:List Int):
  aA.path (aA.ret (R.normal ((EY out).T.set 5 (some (bE out))) ((EY out).H.drop 64) []):aA R) (dl 1) (dX prog 54 .normal [] (EZ out)):=
 wy [] 0
theorem acf (out:List Int) (h1:out.length<=1000000):
  bQ kN ((fl mF []).drop 8) (EZ out) 1 f144 false (bE (dJ out)):=
 wy [ah h1] 1
abbrev zZ:List Nat:=[1,1,1,0,1,0,0]
def fM (x y out:List Int) (c:Int) (i:Nat):bC:={n:=41,sl:=[(0,bE x),(1,bE y),(5,qo 64 out),(6,cl c),(13,iv x.length),(14,iv i)],bG:=[(64,qp out)],next:=65}
def E0 (out:List Int):bC:={n:=41,sl:=[(5,bE out)],bG:=[],next:=64}
theorem acg (x y:List Int) (h1:x.length<=1000000) (h2:x.length=(co x.length).length) (h3:(bA (co x.length).length)=(bA x.length)) (h4:(List.flatten (List.replicate x.length (List.map aa.raw (Array.toList #[Value.int .u64 (0:Int)]))))=(List.flatMap (fun x=>[aa.raw (Value.int .u64 x)]) (co x.length))):
  aA.path (oS prog kN (fl pe []) 4 41 [bE x,bE y]) (dl 1) (dX prog 41 .normal [(64,64,some x.length)] (fM x y (co x.length) 0 0)):=
 mp (EJ rt rt (show(decide (x.length<=x.length))=true from az (by omega)) (nY (show(bounded x.length (8:Nat))=true from oV h1 (by omega)) (rr x) (rr y) (an h2 (an (rr (aS.known x.length)) h3)) (rr (0:Int)) (rr (x.length:Int)) (rr (0:Int)) (an h4 h2) trivial))
theorem ach (x y out:List Int) (i:Nat) (h1:(i:Int)<(x.length:Int)) (h2:(i:Int)<(y.length:Int)) (h3:i<y.length) (h4:i<x.length) (h5:i<out.length) (h6:i6 ((i:Int)+1)) (h7:out.length=(out.set i (c9 (x.getD i (0:Int)) (y.getD i (0:Int)) (0:Int))).length) (h8:(bA out.length)=(bA (out.set i (c9 (x.getD i (0:Int)) (y.getD i (0:Int)) (0:Int))).length)) (h9:(↑(if Int.toNat (x.getD i (0:Int))<(y.getD i (0:Int)).toNat+Int.toNat (0:Int)then(1:Nat)else(0:Nat)):Int)=(eo (x.getD i (0:Int)) (y.getD i (0:Int)) (0:Int))) (h10:(out.set i (↑(((x.getD i (0:Int)).toNat+(2:Nat)^(64:Nat)-Int.toNat (y.getD i (0:Int))-Int.toNat (0:Int))%(2:Nat)^(64:Nat)):Int))=(out.set i (c9 (x.getD i (0:Int)) (y.getD i (0:Int)) (0:Int)))):
  bh kN (fl pe zZ) (fM x y out 0 i) 7 .normal [(64,64,none)] (fM x y (out.set i (c9 (x.getD i 0) (y.getD i 0) 0)) (eo (x.getD i 0) (y.getD i 0) 0) (i+1)):=
 wy [ah h1,ah h2,ah h3,ah h4,ah h5,iW 167 aB h5,yi h6,ax h7,ax h8,ax h9,mB 167 aB h10] 3569716646146256639964958679629953
theorem aci (x y out:List Int) (i:Nat) (h1:(i:Int)<(x.length:Int)) (h2:¬(i:Int)<(y.length:Int)) (h3:i<x.length) (h4:i<out.length) (h5:i6 ((i:Int)+1)) (h6:out.length=(out.set i (c9 (x.getD i 0) 0 0)).length) (h7:(bA out.length)=(bA (out.set i (c9 (x.getD i 0) 0 0)).length)) (h8:(↑(if Int.toNat (x.getD i 0)<Int.toNat 0+Int.toNat 0 then 1 else 0):Int)=(eo (x.getD i 0) 0 0)) (h9:(out.set i (↑(((x.getD i 0).toNat+(2:Nat)^(64:Nat)-Int.toNat 0-Int.toNat 0)%(2:Nat)^(64:Nat)):Int))=(out.set i (c9 (x.getD i 0) 0 0))):
  bh kN (fl pe zZ) (fM x y out 0 i) 5 .normal [(64,64,none)] (fM x y (out.set i (c9 (x.getD i 0) 0 0)) (eo (x.getD i 0) 0 0) (i+1)):=
 wy [ah h1,aJ h2,ah h3,ah h4,iW 167 aB h4,yi h5,ax h6,ax h7,ax h8,mB 167 aB h9] 792284383521178232608283951233
theorem acj (x y out:List Int) (i:Nat) (h1:(i:Int)<(x.length:Int)) (h2:(i:Int)<(y.length:Int)) (h3:i<y.length) (h4:i<x.length) (h5:i<out.length) (h6:i6 ((i:Int)+1)) (h7:out.length=(out.set i (c9 (x.getD i (0:Int)) (y.getD i (0:Int)) (1:Int))).length) (h8:(bA out.length)=(bA (out.set i (c9 (x.getD i (0:Int)) (y.getD i (0:Int)) (1:Int))).length)) (h9:(↑(if Int.toNat (x.getD i (0:Int))<(y.getD i (0:Int)).toNat+Int.toNat (1:Int)then(1:Nat)else(0:Nat)):Int)=(eo (x.getD i (0:Int)) (y.getD i (0:Int)) (1:Int))) (h10:(out.set i (↑(((x.getD i (0:Int)).toNat+(2:Nat)^(64:Nat)-Int.toNat (y.getD i (0:Int))-Int.toNat (1:Int))%(2:Nat)^(64:Nat)):Int))=(out.set i (c9 (x.getD i (0:Int)) (y.getD i (0:Int)) (1:Int)))):
  bh kN (fl pe zZ) (fM x y out 1 i) 7 .normal [(64,64,none)] (fM x y (out.set i (c9 (x.getD i 0) (y.getD i 0) 1)) (eo (x.getD i 0) (y.getD i 0) 1) (i+1)):=
 wy [ah h1,ah h2,ah h3,ah h4,ah h5,iW 167 aB h5,yi h6,ax h7,ax h8,ax h9,mB 167 aB h10] 3569716646146256639964958679629953
theorem ack (x y out:List Int) (i:Nat) (h1:(i:Int)<(x.length:Int)) (h2:¬(i:Int)<(y.length:Int)) (h3:i<x.length) (h4:i<out.length) (h5:i6 ((i:Int)+1)) (h6:out.length=(out.set i (c9 (x.getD i (0:Int)) (0:Int) (1:Int))).length) (h7:(bA out.length)=(bA (out.set i (c9 (x.getD i (0:Int)) (0:Int) (1:Int))).length)) (h8:(↑(if Int.toNat (x.getD i (0:Int))<(0:Int).toNat+Int.toNat (1:Int)then(1:Nat)else(0:Nat)):Int)=(eo (x.getD i (0:Int)) (0:Int) (1:Int))) (h9:(out.set i (↑(((x.getD i (0:Int)).toNat+(2:Nat)^(64:Nat)-Int.toNat (0:Int)-Int.toNat (1:Int))%(2:Nat)^(64:Nat)):Int))=(out.set i (c9 (x.getD i (0:Int)) (0:Int) (1:Int)))):
  bh kN (fl pe zZ) (fM x y out 1 i) 5 .normal [(64,64,none)] (fM x y (out.set i (c9 (x.getD i 0) 0 1)) (eo (x.getD i 0) 0 1) (i+1)):=
 wy [ah h1,aJ h2,ah h3,ah h4,iW 167 aB h4,yi h5,ax h6,ax h7,ax h8,mB 167 aB h9] 792284383521178232608283951233
theorem acm (x y out:List Int) (c:Int) (i:Nat) (h1:¬(i:Int)<(x.length:Int)):
  bh kN (fl pe zZ) (fM x y out c i) 2 (.exit 0) [(64,64,none)] (fM x y out c i):=
 wy [aJ h1] 1
theorem acn (x y out:List Int) (c:Int) (i:Nat):
  aA.path (aA.ret (R.normal ((fM x y out c i).T.set 5 (some (bE out))) ((fM x y out c i).H.drop 64) []):aA R) (dl 1) (dX prog 41 .normal [] (E0 out)):=
 wy [] 0
theorem aco (out:List Int) (h1:out.length<=1000000):
  bQ kN ((fl pe []).drop 5) (E0 out) 1 f146 false (bE (dJ out)):=
 wy [ah h1] 1
def kO (x y:List Int):Bool:=gA x&&(gA y&&(decide (x.length<=400000)&&decide (y.length<=400000)))
def vr (x y:List Int):List Int:=cM 18446744073709551616 (aj x+aj y)
def oX (x y:List Int):List Int:=cM 18446744073709551616 (aj x-aj y)
noncomputable def Rj:bn:={f:=144,ps:=[.list false aB, .list false aB],rs:=[.list false aB],fresh:=false,pre:=fun d=>kO d.1 d.2.1,fn:=fun d=>(vr d.1 d.2.1,())}
noncomputable def Rk:bn:={f:=146,ps:=[.list false aB, .list false aB],rs:=[.list false aB],fresh:=false,pre:=fun d=>kO d.1 d.2.1&&decide (aj d.2.1<=aj d.1),fn:=fun d=>(oX d.1 d.2.1,())}
theorem E1:bB prog (bD kN):=ri Kb
theorem cf {l:List Int}:gA l=true↔aP 18446744073709551616 l:=by
 unfold gA aP;simp only [List.all_eq_true,ae,bz]
theorem Cu:(1:Int)<18446744073709551616:=by decide
theorem Cv {a b c:Int} (ha:0<=a/\a<18446744073709551616) (hb:0<=b/\b<18446744073709551616) (hc:c=0\/c=1):
  cU a b c+18446744073709551616*dN a b c=a+b+c/\(0<=cU a b c/\cU a b c<18446744073709551616)/\(dN a b c=0\/dN a b c=1):=by
 unfold cU dN;rw [show(2:Nat)^64=18446744073709551616 from rfl];rcases hc with rfl |rfl<;>omega
theorem Kc {a b c:Int} (ha:0<=a/\a<18446744073709551616) (hb:0<=b/\b<18446744073709551616) (hc:c=0\/c=1):
  c9 a b c-18446744073709551616*eo a b c=a-b-c/\(0<=c9 a b c/\c9 a b c<18446744073709551616)/\(eo a b c=0\/eo a b c=1):=by
 unfold c9 eo;rw [show(2:Nat)^64=18446744073709551616 from rfl];rcases hc with rfl |rfl<;>split<;>omega
theorem gm (n:Nat):(co n).length=n:=List.length_replicate
theorem pf (n:Nat):aP 18446744073709551616 (co n):=aP.rep (by decide) n
theorem xS (n:Nat):(List.replicate n (List.map aa.raw (Array.toList #[Value.int IntKind.u64 (0:Int)]))).flatten=(co n).flatMap (fun x=>[aa.raw (Value.int IntKind.u64 x)]):=by
 unfold co;induction n with
 |zero=>rfl
 |succ n ih=>rw [List.replicate_succ,List.replicate_succ,List.flatten_cons,List.flatMap_cons,ih];rfl
theorem vt {l:List Int} (h:aP 18446744073709551616 l):dJ l=cM 18446744073709551616 (aj l):=by
 refine d9 Cu (QZ h _ (aE _)) (rn l _ (aE _)) ?_;unfold dJ aj;rw [JX l _ (aE _),dA]
theorem Rl {l:List Int} {i:Nat} (h:¬i<l.length):l.getD i 0=0:=by
 rw [ao,List.getElem?_eq_none (by omega)];rfl
theorem Rm:(fl mF []).drop 8≠[]:=fun h=>by
 have:((fl mF []).drop 8).isEmpty=false:=by kernel_rfl
 rw [h]at this;cases this
theorem Rn:(fl pe []).drop 5≠[]:=fun h=>by
 have:((fl pe []).drop 5).isEmpty=false:=by kernel_rfl
 rw [h]at this;cases this
theorem Ro {x y:List Int} (hx:aP 18446744073709551616 x) (hy:aP 18446744073709551616 y) (hxy:y.length<=x.length) (hl:x.length<=400000) (w0:World) (F:Env):
  aR prog w0 F 54 ((fl mF []).drop 6) (fD x y (co (x.length+1)) 0 0).T (fD x y (co (x.length+1)) 0 0).H (gk prog false f144 (bE (cM 18446744073709551616 (aj x+aj y)))):=by
 have hS:=E1;refine aR.loop (ι:={s:List Int×Int×Nat//s.2.2<=x.length/\s.1.length=x.length+1/\aP 18446744073709551616 s.1/\(s.2.1=0\/s.2.1=1)/\aj (s.1.take s.2.2)+18446744073709551616^s.2.2*s.2.1=aj (x.take s.2.2)+aj (y.take s.2.2)}) (id:=0) (b:=cat mF zY) (rest:=(fl mF []).drop 7) (by kernel_rfl) (fun s=>fD x y s.1.1 s.1.2.1 s.1.2.2) (fun s=>x.length-s.1.2.2)
  ⟨(co (x.length+1),0,0),Nat.zero_le _,gm _,pf _, .inl rfl,by simp [aj,vl]⟩ (fun _=>rfl) ?_
 rintro⟨⟨out,c,i⟩,hi,ho,iH,hc,hinv⟩;have hi:i<=x.length:=hi;have ho:out.length=x.length+1:=ho;have iH:aP 18446744073709551616 out:=iH;have hc:c=0\/c=1:=hc;have hinv:aj (out.take i)+18446744073709551616^i*c=aj (x.take i)+aj (y.take i):=hinv;by_cases hlt:i<x.length
 .have vu:=hx.get (by decide) i;have Ke:=hy.get (by decide) i;obtain⟨g1,g2,g3⟩:=Cv vu Ke hc;have hnext:aj ((out.set i (cU (x.getD i 0) (y.getD i 0) c)).take (i+1))+18446744073709551616^(i+1)*dN (x.getD i 0) (y.getD i 0) c=aj (x.take (i+1))+aj (y.take (i+1)):=by
   unfold aj at hinv ⊢;rw [xM (by omega),kJ x i,kJ y i,Int.pow_succ];exact J0 g1 hinv
  have n5:∃j:{s:List Int×Int×Nat//s.2.2<=x.length/\s.1.length=x.length+1/\aP 18446744073709551616 s.1/\(s.2.1=0\/s.2.1=1)/\aj (s.1.take s.2.2)+18446744073709551616^s.2.2*s.2.1=aj (x.take s.2.2)+aj (y.take s.2.2)},x.length-j.1.2.2<x.length-i/\(fD x y (out.set i (cU (x.getD i 0) (y.getD i 0) c)) (dN (x.getD i 0) (y.getD i 0) c) (i+1)).T=(fD x y j.1.1 j.1.2.1 j.1.2.2).T/\(fD x y (out.set i (cU (x.getD i 0) (y.getD i 0) c)) (dN (x.getD i 0) (y.getD i 0) c) (i+1)).H=(fD x y j.1.1 j.1.2.1 j.1.2.2).H:=
   ⟨⟨(out.set i (cU (x.getD i 0) (y.getD i 0) c),dN (x.getD i 0) (y.getD i 0) c,i+1),hlt,by rw [bY];exact ho,iH.set g2,g3,hnext⟩,by simp;omega,rfl,rfl⟩
  by_cases l7:i<y.length
  .rcases hc with rfl |rfl
   .exact bp (s:=fD x y out 0 i) (s':=fD x y (out.set i (cU (x.getD i 0) (y.getD i 0) 0)) (dN (x.getD i 0) (y.getD i 0) 0) (i+1)) hS (ab5 x y out i (by omega) (by omega) l7 hlt (by omega) (by omega) (by rw [bY]) (by rw [bY]) rfl rfl) n5
   .exact bp (s:=fD x y out 1 i) (s':=fD x y (out.set i (cU (x.getD i 0) (y.getD i 0) 1)) (dN (x.getD i 0) (y.getD i 0) 1) (i+1)) hS (ab7 x y out i (by omega) (by omega) l7 hlt (by omega) (by omega) (by rw [bY]) (by rw [bY]) rfl rfl) n5
  .rw [Rl l7]at n5;rcases hc with rfl |rfl
   .exact bp (s:=fD x y out 0 i) (s':=fD x y (out.set i (cU (x.getD i 0) 0 0)) (dN (x.getD i 0) 0 0) (i+1)) hS (ab6 x y out i (by omega) (by omega) hlt (by omega) (by omega) (by rw [bY]) (by rw [bY]) rfl rfl) n5
   .exact bp (s:=fD x y out 1 i) (s':=fD x y (out.set i (cU (x.getD i 0) 0 1)) (dN (x.getD i 0) 0 1) (i+1)) hS (ab8 x y out i (by omega) (by omega) hlt (by omega) (by omega) (by rw [bY]) (by rw [bY]) rfl rfl) n5
 .refine bp (s:=fD x y out c i) hS (ab9 x y out c i (by omega)) ?_;refine cv (cD ?_);obtain rfl:i=x.length:=by omega
  have hcd:0<=c/\c<18446744073709551616:=by rcases hc with rfl |rfl<;>decide
  refine dZ (s:=fD x y out c x.length) (s':=EY (out.set x.length c)) hS 1 (acd x y out c x.length (by omega) (by rw [bY]) (by rw [bY])) ?_;have hval:aj (out.set x.length c)=aj x+aj y:=by
   rw [dA,ef hxy]at hinv;rw [<-hinv];have:=xM (b:=18446744073709551616) (l:=out) (i:=x.length) (d:=c) (by omega);rw [ef (by rw [bY];omega)]at this;exact this
  have gy:=iH.set (k:=x.length) hcd;rw [<-hval,<-vt gy];have hlen:(out.set x.length c).length<=1000000:=by rw [bY];omega
  generalize out.set x.length c=o2 at*;refine aR.tB Rm (i:=64) (s:=5) (e2:=167) (t:=aB) (xs:=o2) (cap:=bA o2.length) (by kernel_rfl) (by kernel_rfl) ?_;refine aR.ng Rm (σ:=[]) (s:=EZ o2) (ace o2) ?_;exact bT (s:=EZ o2) hS (acf o2 hlen)
theorem acp (x y:List Int) (h:kO x y=true):Holds prog false 144 [bE x,bE y] (bE (vr x y)):=by
 unfold kO at h;simp only [ae,bz]at h;obtain⟨hx,hy,lx,ly⟩:=h;have hx:=cf.1 hx;have hy:=cf.1 hy;have hS:=E1;refine bJ (c:=mF) func144 rfl rfl fun w0 F=> ?_
 by_cases hxy:x.length<y.length
 .have e1:((y.length:Int)+1).toNat=y.length+1:=by omega
  refine cE hS 6 (ab4 x y (by omega) (by omega) (by omega) (by rw [gm,e1]) (by rw [e1]) (by rw [gm]) (by rw [e1];exact xS _) (by rw [gm])) ?_;have:=Ro hy hx (by omega) ly w0 F;unfold vr;rw [Int.add_comm];exact this
 .have e1:((x.length:Int)+1).toNat=x.length+1:=by omega
  refine cE hS 6 (ab3 x y (by omega) (by omega) (by omega) (by rw [gm,e1]) (by rw [e1]) (by rw [gm]) (by rw [e1];exact xS _) (by rw [gm])) ?_;exact Ro hx hy (by omega) lx w0 F
theorem acq:Rj.Ok prog:=fun⟨x,y,_⟩ h=>acp x y h
theorem acr {x y:List Int} (hx:aP 18446744073709551616 x) (hy:aP 18446744073709551616 y) (hle:aj y<=aj x) (hl:x.length<=400000) (w0:World) (F:Env):
  aR prog w0 F 41 ((fl pe []).drop 4) (fM x y (co x.length) 0 0).T (fM x y (co x.length) 0 0).H (gk prog false f146 (bE (cM 18446744073709551616 (aj x-aj y)))):=by
 have hS:=E1;refine aR.loop (ι:={s:List Int×Int×Nat//s.2.2<=x.length/\s.1.length=x.length/\aP 18446744073709551616 s.1/\(s.2.1=0\/s.2.1=1)/\aj (s.1.take s.2.2)-18446744073709551616^s.2.2*s.2.1=aj (x.take s.2.2)-aj (y.take s.2.2)}) (id:=0) (b:=cat pe zZ) (rest:=(fl pe []).drop 5) (by kernel_rfl) (fun s=>fM x y s.1.1 s.1.2.1 s.1.2.2) (fun s=>x.length-s.1.2.2)
  ⟨(co x.length,0,0),Nat.zero_le _,gm _,pf _, .inl rfl,by simp [aj,vl]⟩ (fun _=>rfl) ?_
 rintro⟨⟨out,c,i⟩,hi,ho,iH,hc,hinv⟩;have hi:i<=x.length:=hi;have ho:out.length=x.length:=ho;have iH:aP 18446744073709551616 out:=iH;have hc:c=0\/c=1:=hc;have hinv:aj (out.take i)-18446744073709551616^i*c=aj (x.take i)-aj (y.take i):=hinv;by_cases hlt:i<x.length
 .have vu:=hx.get (by decide) i;have Ke:=hy.get (by decide) i;obtain⟨g1,g2,g3⟩:=Kc vu Ke hc;have hnext:aj ((out.set i (c9 (x.getD i 0) (y.getD i 0) c)).take (i+1))-18446744073709551616^(i+1)*eo (x.getD i 0) (y.getD i 0) c=aj (x.take (i+1))-aj (y.take (i+1)):=by
   unfold aj at hinv ⊢;rw [xM (by omega),kJ x i,kJ y i,Int.pow_succ];exact Q7 g1 hinv
  have n5:∃j:{s:List Int×Int×Nat//s.2.2<=x.length/\s.1.length=x.length/\aP 18446744073709551616 s.1/\(s.2.1=0\/s.2.1=1)/\aj (s.1.take s.2.2)-18446744073709551616^s.2.2*s.2.1=aj (x.take s.2.2)-aj (y.take s.2.2)},x.length-j.1.2.2<x.length-i/\(fM x y (out.set i (c9 (x.getD i 0) (y.getD i 0) c)) (eo (x.getD i 0) (y.getD i 0) c) (i+1)).T=(fM x y j.1.1 j.1.2.1 j.1.2.2).T/\(fM x y (out.set i (c9 (x.getD i 0) (y.getD i 0) c)) (eo (x.getD i 0) (y.getD i 0) c) (i+1)).H=(fM x y j.1.1 j.1.2.1 j.1.2.2).H:=
   ⟨⟨(out.set i (c9 (x.getD i 0) (y.getD i 0) c),eo (x.getD i 0) (y.getD i 0) c,i+1),hlt,by rw [bY];exact ho,iH.set g2,g3,hnext⟩,by simp;omega,rfl,rfl⟩
  by_cases l7:i<y.length
  .rcases hc with rfl |rfl
   .exact bp (s:=fM x y out 0 i) (s':=fM x y (out.set i (c9 (x.getD i 0) (y.getD i 0) 0)) (eo (x.getD i 0) (y.getD i 0) 0) (i+1)) hS (ach x y out i (by omega) (by omega) l7 hlt (by omega) (by omega) (by rw [bY]) (by rw [bY]) rfl rfl) n5
   .exact bp (s:=fM x y out 1 i) (s':=fM x y (out.set i (c9 (x.getD i 0) (y.getD i 0) 1)) (eo (x.getD i 0) (y.getD i 0) 1) (i+1)) hS (acj x y out i (by omega) (by omega) l7 hlt (by omega) (by omega) (by rw [bY]) (by rw [bY]) rfl rfl) n5
  .rw [Rl l7]at n5;rcases hc with rfl |rfl
   .exact bp (s:=fM x y out 0 i) (s':=fM x y (out.set i (c9 (x.getD i 0) 0 0)) (eo (x.getD i 0) 0 0) (i+1)) hS (aci x y out i (by omega) (by omega) hlt (by omega) (by omega) (by rw [bY]) (by rw [bY]) rfl rfl) n5
   .exact bp (s:=fM x y out 1 i) (s':=fM x y (out.set i (c9 (x.getD i 0) 0 1)) (eo (x.getD i 0) 0 1) (i+1)) hS (ack x y out i (by omega) (by omega) hlt (by omega) (by omega) (by rw [bY]) (by rw [bY]) rfl rfl) n5
 .refine bp (s:=fM x y out c i) hS (acm x y out c i (by omega)) ?_;refine cv (cD ?_);obtain rfl:i=x.length:=by omega
  have hxl:aj x<18446744073709551616^x.length:=fC (by decide) hx;have l7:aj (y.take x.length)=aj y:=Cp (by decide) hy (show aj y<_ by omega);have hval:aj out=aj x-aj y:=by
   have E2:=fC (by decide) iH;rw [ho]at E2;have E2:aj out<18446744073709551616^x.length:=E2;rw [dA,l7,ef (by omega)]at hinv;rcases hc with rfl |rfl
   .omega
   .omega
  rw [<-hval,<-vt iH];refine aR.tB Rn (i:=64) (s:=5) (e2:=167) (t:=aB) (xs:=out) (cap:=bA out.length) (by kernel_rfl) (by kernel_rfl) ?_;refine aR.ng Rn (σ:=[]) (s:=E0 out) (acn x y out c x.length) ?_;exact bT (s:=E0 out) hS (aco out (by omega))
theorem acs (x y:List Int) (h:(kO x y&&decide (aj y<=aj x))=true):Holds prog false 146 [bE x,bE y] (bE (oX x y)):=by
 unfold kO at h;simp only [ae,bz]at h;obtain⟨⟨hx,hy,lx,ly⟩,hle⟩:=h;have hx:=cf.1 hx;have hy:=cf.1 hy;have hS:=E1;refine bJ (c:=pe) func146 rfl rfl fun w0 F=> ?_
 have e1:(x.length:Int).toNat=x.length:=by omega
 refine cE hS 4 (acg x y (by omega) (by rw [gm]) (by rw [gm]) (xS _)) ?_;exact acr hx hy hle lx w0 F
theorem acu:Rk.Ok prog:=fun⟨x,y,_⟩ h=>acs x y h
end
noncomputable section
noncomputable def sT:Code:=(f145.body).getD .skip
abbrev Cw:List Nat:=[1,1,0,1,0,0]
def mG (a b:List Int) (k:Nat):bC:={n:=41,sl:=[(0,bE a),(1,bE b),(5,iv ((k:Int)-1))],bG:=[],next:=64}
def E3 (a b:List Int) (k:Nat):bC:={n:=41,sl:=[(0,bE a),(1,bE b),(5,iv ((k:Int)-1-1))],bG:=[],next:=64}
theorem acv (a b:List Int) (h1:¬(a.length:Int)=(b.length:Int)) (h2:(a.length:Int)<(b.length:Int)):
  bq (a7 []) (fl sT []) 3 41 [bE a,bE b] 7 f145 true (iv (-1)):=
 wy [af (gJ.mpr h1),ah h2] 129
theorem acw (a b:List Int) (h1:¬(a.length:Int)=(b.length:Int)) (h2:¬(a.length:Int)<(b.length:Int)):
  bq (a7 []) (fl sT []) 3 41 [bE a,bE b] 5 f145 true (iv 1):=
 wy [af (gJ.mpr h1),aJ h2] 129
theorem acy (a b:List Int) (h1:(a.length:Int)=(b.length:Int)) (h2:i6 ((a.length:Int)-1)):
  cT (a7 []) (fl sT []) 4 41 [bE a,bE b] 2 .normal [] (mG a b a.length):=
 wy [af (jA.mpr h1),yi h2] 129
theorem acz (a b:List Int) (k:Nat) (h1:(k:Int)-1>=0) (h2:0<=(k:Int)-1) (h3:((k:Int)-1).toNat<a.length) (h4:((k:Int)-1).toNat<b.length) (h5:¬a.getD ((k:Int)-1).toNat 0=b.getD ((k:Int)-1).toNat 0) (h6:a.getD ((k:Int)-1).toNat 0<b.getD ((k:Int)-1).toNat 0):
  bQ (a7 []) (fl sT Cw) (mG a b k) 15 f145 true (iv (-1)):=
 wy [ah h1,ah h2,ah h3,af (aW (v:=aa.raw (Value.int IntKind.u64 (a.getD ((k:Int)-(1:Int)).toNat (0:Int)))) (by kernel_rfl)),ah h4,af (aW (v:=aa.raw (Value.int IntKind.u64 (b.getD ((k:Int)-(1:Int)).toNat (0:Int)))) (by kernel_rfl)),af (gJ.mpr h5),ah h6] 156579657712784783981949057
theorem acA (a b:List Int) (k:Nat) (h1:(k:Int)-1>=0) (h2:0<=(k:Int)-1) (h3:((k:Int)-1).toNat<a.length) (h4:((k:Int)-1).toNat<b.length) (h5:¬a.getD ((k:Int)-1).toNat 0=b.getD ((k:Int)-1).toNat 0) (h6:¬a.getD ((k:Int)-1).toNat 0<b.getD ((k:Int)-1).toNat 0):
  bQ (a7 []) (fl sT Cw) (mG a b k) 11 f145 true (iv 1):=
 wy [ah h1,ah h2,ah h3,af (aW (v:=aa.raw (Value.int IntKind.u64 (a.getD ((k:Int)-(1:Int)).toNat (0:Int)))) (by kernel_rfl)),ah h4,af (aW (v:=aa.raw (Value.int IntKind.u64 (b.getD ((k:Int)-(1:Int)).toNat (0:Int)))) (by kernel_rfl)),af (gJ.mpr h5),aJ h6] 156579657712784783981949057
theorem acB (a b:List Int) (k:Nat) (h1:(k:Int)-1>=0) (h2:0<=(k:Int)-1) (h3:((k:Int)-1).toNat<a.length) (h4:((k:Int)-1).toNat<b.length) (h5:a.getD ((k:Int)-1).toNat 0=b.getD ((k:Int)-1).toNat 0) (h6:i6 ((k:Int)-1-1)):
  bh (a7 []) (fl sT Cw) (mG a b k) 5 .normal [] (E3 a b k):=
 wy [ah h1,ah h2,ah h3,af (aW (v:=aa.raw (Value.int IntKind.u64 (a.getD ((k:Int)-(1:Int)).toNat (0:Int)))) (by kernel_rfl)),ah h4,af (aW (v:=aa.raw (Value.int IntKind.u64 (b.getD ((k:Int)-(1:Int)).toNat (0:Int)))) (by kernel_rfl)),af (jA.mpr h5),yi h6] 2283003859447937
theorem acC (a b:List Int) (k:Nat) (h1:¬(k:Int)-1>=0):
  bh (a7 []) (fl sT Cw) (mG a b k) 2 (.exit 0) [] (mG a b k):=
 wy [aJ h1] 1
theorem acD (a b:List Int) (k:Nat):
  bQ (a7 []) ((fl sT []).drop 5) (mG a b k) 1 f145 true (iv 0):=
 wy [] 0
def kP (x y:Int):Int:=if x<y then-1 else if y<x then 1 else 0
def mH (a b:List Int):Bool:=(gA a&&ju a)&&((gA b&&ju b)&&decide (a.length<=1000000))
noncomputable def Kf:bn:={f:=145,ps:=[.list false aB, .list false aB],rs:=[.int .i64],fresh:=true,pre:=fun d=>mH d.1 d.2.1,fn:=fun d=>(kP (aj d.1) (aj d.2.1),())}
theorem qq {l:List Int}:ju l=true↔eX l:=by
 unfold ju;constructor
 .intro h;have h:=ac h;have:=rn l l.length (aE _);obtain⟨m,h1,h2,_⟩:=Co l l.length (aE _);rw [h2,dK]at h;have hm:m=l.length:=by omega
  rw [h2,hm,dA]at this;exact this
 .intro h;rw [Q0 h];exact Nat.beq_refl _
theorem Rp {x y:Int} (h:x<y):kP x y= -1:=by unfold kP;rw [if_pos h]
theorem Rq {x y:Int} (h:y<x):kP x y=1:=by unfold kP;rw [if_neg (by omega),if_pos h]
theorem acE {x y:Int} (h:x=y):kP x y=0:=by unfold kP;rw [if_neg (by omega),if_neg (by omega)]
theorem acF (a b:List Int) (h:mH a b=true):Holds prog true 145 [bE a,bE b] (iv (kP (aj a) (aj b))):=by
 unfold mH at h;simp only [ae,bz]at h;obtain⟨⟨ha,ta⟩,⟨hb,tb⟩,hl⟩:=h;have ha:=cf.1 ha;have hb:=cf.1 hb;have ta:=qq.1 ta;have tb:=qq.1 tb;refine bJ (c:=sT) func145 rfl rfl fun w0 F=> ?_
 by_cases hab:a.length=b.length
 .refine cE ba 4 (acy a b (by omega) (by omega)) ?_;refine aR.loop (ι:={k:Nat//k<=a.length/\∀j,k<=j->j<a.length->a.getD j 0=b.getD j 0}) (id:=0) (b:=cat sT Cw) (rest:=(fl sT []).drop 5) (by kernel_rfl) (fun k=>mG a b k.1) (fun k=>k.1) ⟨a.length,aE _,fun j h1 h2=>by omega⟩ (fun _=>rfl) ?_;rintro⟨k,hk,heq⟩;cases k with
  |zero=>
   refine bp (s:=mG a b 0) ba (acC a b 0 (by omega)) ?_;refine cv (cD ?_);have e:a=b:=by
    refine List.ext_getElem hab fun j h1 h2=> ?_
    have:=heq j (Nat.zero_le _) h1;rwa [tC h1,tC h2]at this
   rw [acE (show aj a=aj b by rw [e])];exact bT (s:=mG a b 0) ba (acD a b 0)
  |succ k=>
   have e0:(((k+1:Nat):Int)-1).toNat=k:=by omega
   have e1:E3 a b (k+1)=mG a b k:=by
    unfold E3 mG;rw [show(((k+1:Nat):Int)-1-1)=(k:Int)-1 by omega]
   have hka:k<a.length:=by omega
   by_cases h1:a.getD k 0=b.getD k 0
   .refine bp (s:=mG a b (k+1)) (s':=E3 a b (k+1)) ba (acB a b (k+1) (by omega) (by omega) (by omega) (by omega) (by rw [e0];exact h1) (by omega)) ?_;rw [e1];exact⟨⟨k,by omega,fun j g1 g2=>by
     by_cases hj:j=k
     .rw [hj];exact h1
     .exact heq j (by omega) g2⟩,by simp,rfl,rfl⟩
   .by_cases h2:a.getD k 0<b.getD k 0
    .rw [Rp (show aj a<aj b from EM Cu ha hb hab hka h2 fun j g1 g2=>heq j (by omega) g2)];exact bT (s:=mG a b (k+1)) ba (acz a b (k+1) (by omega) (by omega) (by omega) (by omega) (by rw [e0];exact h1) (by rw [e0];exact h2))
    .rw [Rq (show aj b<aj a from EM Cu hb ha hab.symm (by omega) (show b.getD k 0<a.getD k 0 by omega) fun j g1 g2=>(heq j (by omega) (by omega)).symm)];exact bT (s:=mG a b (k+1)) ba (acA a b (k+1) (by omega) (by omega) (by omega) (by omega) (by rw [e0];exact h1) (by rw [e0];exact h2))
 .by_cases hlt:a.length<b.length
  .rw [Rp (show aj a<aj b from vk Cu ha hb tb hlt)];exact bu ba 3 (acv a b (by omega) (by omega))
  .rw [Rq (show aj b<aj a from vk Cu hb ha ta (by omega))];exact bu ba 3 (acw a b (by omega) (by omega))
theorem Rr:Kf.Ok prog:=fun⟨a,b,_⟩ h=>acF a b h
end
end Go.Proofs.YtibikmmdbdlafaaGreatDoor
