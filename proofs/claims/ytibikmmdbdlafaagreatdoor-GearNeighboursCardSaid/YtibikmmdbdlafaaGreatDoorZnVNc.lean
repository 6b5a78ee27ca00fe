import Derived.Test.YtibikmmdbdlafaaGreatDoorZnSvGive
set_option linter.defProp false
set_option linter.unusedSimpArgs false
set_option linter.unusedVariables false
set_option maxRecDepth 100000
namespace Go.Proofs.YtibikmmdbdlafaaGreatDoor
open Go.RowKit Sv Go.Proofs.Tryz
noncomputable section
abbrev mO (j:Nat) (l:List Int):af:= .bU 3 (.int .i64) j 0 l.length (bM l.length)
abbrev mP (l:List Int):fS:= .opt 3 (.int .i64) l
abbrev j8:av:= .pair .bool (.list false (.int .i64))
abbrev rv (a:Bool×List Int):af:= .agg [bv a.1,lv a.2]
def vV:=k_a f184
def Lx:=k_a f132
def vW:=k_a f71
def qN:=k_a f134
def Lz:=k_a f186
section
variable (l:List Int)
def ag:Int:=vl 1000000000 l
def Aw:Bool:=l.all fun x=>decide (0<=x)&&decide (x<1000000000)
def er:List Int:=fm l l.length
def LA:Bool:=Nat.beq (er l).length l.length
end
noncomputable def aH (z:Int):List Int:=cV 1000000000 z
def okA (l:List Int):Bool:=Aw l&&(LA l&&decide (l.length<=100000))
def okB (l:List Int):Bool:=Aw l&&decide (l.length<=300000)
def lV (w:List Int):bI:={n:=21,sl:=[(0,lv w)],bH:=[],next:=64}
abbrev FX:List Nat:=[1,0,0,0]
section
variable (w:List Int)
def adT:
  c7 (a7 []) (fl vV []) 1 21 [lv w] 1 .normal [] (lV w):=
 wy [] 0
def adU (h1:(w.length:Int)>0) (h2:i6 ((w.length:Int)-1)) (h3:0<=(w.length:Int)-1) (h4:((w.length:Int)-1).toNat<w.length) (h5:w.getD ((w.length:Int)-1).toNat 0=0) (h6:((w.take ((w.length:Int)-1).toNat).drop 0)=(w.take (w.length-1))):
  bz (a7 []) (fl vV FX) (lV w) 1023 .normal [] (lV (w.take (w.length-1))):=
 wy [aa (aL (az h1)),yi h2,ah h3,ah h4,ah h1,cM h5,ah (by omega:((w.length:Int)-(1:Int)).toNat<=w.length),ax h6] 642491796976714818348818632769
def adV (h1:(w.length:Int)>0) (h2:i6 ((w.length:Int)-1)) (h3:0<=(w.length:Int)-1) (h4:((w.length:Int)-1).toNat<w.length) (h5:¬w.getD ((w.length:Int)-1).toNat 0=0):
  bz (a7 []) (fl vV FX) (lV w) 767 (.exit 0) [] (lV w):=
 wy [aa (aL (az h1)),yi h2,ah h3,ah h4,ah h1,yn h5] 448504778965001703489
def adW (h1:¬(w.length:Int)>0):
  bz (a7 []) (fl vV FX) (lV w) 512 (.exit 0) [] (lV w):=
 wy [aa (aL (ab h1)),aF h1] 8865903284289
def S3:
  bS (a7 []) ((fl vV []).drop 2) (lV w) 1 f184 false (lv w):=
 wy [] 0
end
def FY:=IN 184 [.list false (.int .i64)] [.list false (.int .i64)] false (fun d=>decide (List.length (α:=Int) d.1<=1000000)) fun d=>(er d.1,())
noncomputable def LB:bG:=ov [FY] (a7 [])
def adX (w:List Int) (h1:w.length<=1000000) (h2:(decide ((↑(er w).length:Int)>0))=(decide (0<(↑(er w).length:Int)))):
  aV LB (fl Lx []) 9 15 [bv true,lv w] 31 f132 false (.agg [bv (decide (0<((er w).length:Int))),lv (er w)]):=
 wy [ah h1,ax h2] 2147483649
def adY (w:List Int) (h1:w.length<=1000000):
  aV LB (fl Lx []) 9 15 [bv false,lv w] 16 f132 false (.agg [bv false,lv (er w)]):=
 wy [ah h1] 1
section
variable (a b:List Int) (h1:¬(a.length:Int)=(b.length:Int))
def adZ (h2:(a.length:Int)<(b.length:Int)):
  aV (a7 []) (fl qN []) 3 41 [lv a,lv b] 7 f134 true (iv (-1)):=
 wy [aa (fA.mpr h1),ah h2] 129
def ad0 (h2:¬(a.length:Int)<(b.length:Int)):
  aV (a7 []) (fl qN []) 3 41 [lv a,lv b] 5 f134 true (iv 1):=
 wy [aa (fA.mpr h1),aF h2] 129
end
def mQ (a b:List Int) (k:Nat):bI:={n:=41,sl:=[(0,lv a),(1,lv b),(5,iv ((k:Int)-1))],bH:=[],next:=64}
def FZ (a b:List Int) (k:Nat):bI:={n:=41,sl:=[(0,lv a),(1,lv b),(5,iv ((k:Int)-1-1))],bH:=[],next:=64}
abbrev C2:List Nat:=[1,1,0,1,0,0]
section
variable (a b:List Int)
def ad1 (h1:(a.length:Int)=(b.length:Int)) (h2:i6 ((a.length:Int)-1)):
  c7 (a7 []) (fl qN []) 4 41 [lv a,lv b] 2 .normal [] (mQ a b a.length):=
 wy [aa (ef.mpr h1),yi h2] 129
def ad2 (k:Nat) (h1:(k:Int)-1>=0) (h2:0<=(k:Int)-1) (h3:((k:Int)-1).toNat<a.length) (h4:((k:Int)-1).toNat<b.length) (h5:a.getD ((k:Int)-1).toNat 0<b.getD ((k:Int)-1).toNat 0):
  bS (a7 []) (fl qN C2) (mQ a b k) 7 f134 true (iv (-1)):=
 wy [ah h1,ah h2,ah h3,aa (aD (v:=iv (a.getD ((k:Int)-(1:Int)).toNat (0:Int)))),ah h4,aa (aD (v:=iv (b.getD ((k:Int)-(1:Int)).toNat (0:Int)))),ah h5] 31204045762689
def ad3 (k:Nat) (h1:(k:Int)-1>=0) (h2:0<=(k:Int)-1) (h3:((k:Int)-1).toNat<a.length) (h4:((k:Int)-1).toNat<b.length) (h5:¬a.getD ((k:Int)-1).toNat 0<b.getD ((k:Int)-1).toNat 0) (h6:a.getD ((k:Int)-1).toNat 0>b.getD ((k:Int)-1).toNat 0):
  bS (a7 []) (fl qN C2) (mQ a b k) 13 f134 true (iv 1):=
 wy [ah h1,ah h2,ah h3,aa (aD (v:=iv (a.getD ((k:Int)-(1:Int)).toNat (0:Int)))),ah h4,aa (aD (v:=iv (b.getD ((k:Int)-(1:Int)).toNat (0:Int)))),aF h5,ah h6] 156579657712784783981949057
def ad4 (k:Nat) (h1:(k:Int)-1>=0) (h2:0<=(k:Int)-1) (h3:((k:Int)-1).toNat<a.length) (h4:((k:Int)-1).toNat<b.length) (h5:¬a.getD ((k:Int)-1).toNat 0<b.getD ((k:Int)-1).toNat 0) (h6:¬a.getD ((k:Int)-1).toNat 0>b.getD ((k:Int)-1).toNat 0) (h7:i6 ((k:Int)-1-1)):
  bz (a7 []) (fl qN C2) (mQ a b k) 9 .normal [] (FZ a b k):=
 wy [ah h1,ah h2,ah h3,aa (aD (v:=iv (a.getD ((k:Int)-(1:Int)).toNat (0:Int)))),ah h4,aa (aD (v:=iv (b.getD ((k:Int)-(1:Int)).toNat (0:Int)))),aF h5,aF h6,yi h7] 11298040011281207258074067073
def ad5 (k:Nat) (h1:¬(k:Int)-1>=0):
  bz (a7 []) (fl qN C2) (mQ a b k) 2 (.exit 0) [] (mQ a b k):=
 wy [aF h1] 1
def ad6 (k:Nat):
  bS (a7 []) ((fl qN []).drop 5) (mQ a b k) 1 f134 true (iv 0):=
 wy [] 0
end
def ad7 (a:List Int) (k:Nat) (h1:(k:Int)<(a.length:Int)) (h2:k<a.length):
  aV (a7 []) (fl Lz []) 9 13 [lv a,iv k] 3 f186 true (iv (a.getD k 0)):=
 wy [ah h1,ah h2] 8193
def ad8 (a:List Int) (k:Int) (h1:¬k<(a.length:Int)):
  aV (a7 []) (fl Lz []) 9 13 [lv a,iv k] 2 f186 true (iv 0):=
 wy [aF h1] 1
def md (x y:Int):Int:=if x<y then-1 else if y<x then 1 else 0
def bX (a:List Int) (k:Int):Int:=a.getD k.toNat 0
def LC:=IN 134 [.list false (.int .i64), .list false (.int .i64)] [.int .i64] true (fun d=>okA d.1&&okA d.2.1) fun d=>(md (ag d.1) (ag d.2.1),())
def S4:=IN 186 [.list false (.int .i64), .int .i64] [.int .i64] true (fun d=>decide (0<=d.2.1)) fun d=>(bX d.1 d.2.1,())
noncomputable def mkR (z:Int):Bool×List Int:=(decide (z<0),aH (z.natAbs:Int))
def bp (neg:Bool) (v:Int):Int:=match neg with |true=> -v|false=>v
abbrev S5:fS:= .blk (.cells 97 [bv false, .raw (.slice none 0 0)] true false false)
def me (n:Int) (neg:Bool) (w:List Int):bI:={n:=25,sl:=[(0,iv n),(2, .ptr 64 0),(3,mO 65 w),(4,bv neg)],bH:=[(64,S5),(65,mP w)],next:=66}
abbrev F0:List Nat:=[1,1,1,0,0,0]
def C3:=IN 132 [.bool, .list false (.int .i64)] [j8] false (fun d=>okB d.2.1) fun d=>(mkR (bp d.1 (ag d.2.1)),())
def ad9 (l:List Int) (hl:l.length<=1000000):Holds prog false 184 [lv l] (lv (er l)):=by
 refine bL (c:=vV) func184 rfl rfl fun w0 F=> ?_
 refine cR cC 1 (adT l) ?_;have aea:lV l=lV (l.take l.length):=by rw [dR]
 rw [aea];refine aW.loop (ι:={k:Nat//k<=l.length/\fm l k=er l}) (id:=0) (b:=cat vV FX) (rest:=(fl vV []).drop 2) (by kernel_rfl) (fun k=>lV (l.take k.1)) (fun k=>k.1) ⟨l.length,aK _,rfl⟩ (fun _=>rfl) ?_;rintro⟨k,hk,hv⟩;have hk:k<=l.length:=hk;have lk:(l.take k).length=k:=by rw [eM];omega
 cases k with
 |zero=>
  refine bC (s:=lV (l.take 0)) cC (adW _ (by omega)) ?_;refine cI (cQ ?_);have e:er l=l.take 0:=by rw [<-hv];rfl
  rw [e];exact bY (s:=lV (l.take 0)) cC (S3 _)
 |succ k=>
  have e0:((((l.take (k+1)).length:Nat):Int)-1).toNat=k:=by omega
  have e1:(l.take (k+1)).getD k 0=l.getD k 0:=by simp [ao,List.getElem?_take]
  have e2:(l.take (k+1)).take ((l.take (k+1)).length-1)=l.take k:=by rw [lk,List.take_take];congr 1;omega
  by_cases hz:l.getD k 0=0
  .refine bC (s:=lV (l.take (k+1))) cC (adU _ (by omega) (by omega) (by omega) (by omega) (by rw [e0,e1];exact hz) (by rw [e0,lk,List.drop_zero,Nat.add_sub_cancel])) ?_;have iV:fm l k=er l:=by rw [<-hv,fm,if_pos hz]
   rw [e2];exact⟨⟨k,by omega,iV⟩,fL _,rfl,rfl⟩
  .refine bC (s:=lV (l.take (k+1))) cC (adV _ (by omega) (by omega) (by omega) (by omega) (by rw [e0,e1];exact hz)) ?_;refine cI (cQ ?_);have e:er l=l.take (k+1):=by rw [<-hv,fm,if_neg hz]
   rw [e];exact bY (s:=lV (l.take (k+1))) cC (S3 _)
def LD:FY.Ok prog:=fun⟨l,_⟩ h=>ad9 l (ap h)
def S6:bD prog (bF LB):=uj (fun c hc=>by
 simp only [ew,jU,or_false]at hc;obtain rfl:=hc;exact LD) cC
def k4:(1:Int)<1000000000:=by decide
section
variable {l:List Int}
def C4:Aw l=true↔aS 1000000000 l:=by
 unfold Aw aS;simp only [List.all_eq_true,ae,bE]
def aeb:LA l=true↔fk l:=by
 unfold LA er;constructor
 .intro h;have h:=ac h;have:=FR l l.length (aK _);obtain⟨m,h1,h2,_⟩:=CY l l.length (aK _);rw [h2,eM]at h;have hm:m=l.length:=by omega
  rw [h2,hm,dR]at this;exact this
 .intro h;rw [SS h];exact Nat.beq_refl _
def fD:okA l=true↔aS 1000000000 l/\fk l/\l.length<=100000:=by
 unfold okA;rw [ae,ae,C4,aeb,bE]
def ow:okB l=true↔aS 1000000000 l/\l.length<=300000:=by
 unfold okB;rw [ae,C4,bE]
def yf (h:aS 1000000000 l):er l=aH (ag l):=by
 refine r4 k4 (SR h _ (aK _)) (FR l _ (aK _)) ?_;unfold er ag;rw [Lo l _ (aK _),dR]
def F1 (h:aS 1000000000 l) (ht:fk l):aH (ag l)=l:=(r4 k4 h ht rfl).symm
end
def gI {z:Int} (h:0<=z):aS 1000000000 (aH z)/\fk (aH z)/\ag (aH z)=z:=qM k4 h
def Ay {z:Int} (h:0<=z):aH z=[]↔z=0:=by
 obtain⟨h1,h2,h3⟩:=gI h;rw [<-FU k4 h1 h2];show ag (aH z)=0↔_;rw [h3]
def gN {l:List Int} (h:aS 1000000000 l):0<=ag l:=gv (by decide) h
def aec (neg:Bool) (w:List Int) (h:okB w=true):Holds prog false 132 [bv neg,lv w] (rv (mkR (bp neg (ag w)))):=by
 obtain⟨hd,hl⟩:=ow.1 h;have hn:=gN hd;have et:=yf hd;refine bL (c:=Lx) func132 rfl rfl fun w0 F=> ?_
 cases neg with
 |true=>
  have e:mkR (bp true (ag w))=(decide ((0:Int)<((er w).length:Int)),er w):=by
   show(decide (-ag w<0),aH ((-ag w).natAbs:Int))=_;rw [et,show((-ag w).natAbs:Int)=ag w by omega];congr 1;have hz:=Ay hn;by_cases h0:ag w=0
   .have:aH (ag w)=[]:=hz.2 h0;rw [this,h0];rfl
   .have:aH (ag w)≠[]:=fun h=>h0 (hz.1 h)
    have:=List.length_pos_iff.2 this;rw [az (by omega),az (by omega)]
  rw [e];exact aY S6 9 (adX w (by omega) rfl)
 |false=>
  have e:mkR (bp false (ag w))=(false,er w):=by
   show(decide (ag w<0),aH ((ag w).natAbs:Int))=_;rw [et,show((ag w).natAbs:Int)=ag w by omega,ab (by omega)]
  rw [e];exact aY S6 9 (adY w (by omega))
def F2:C3.Ok prog:=fun⟨neg,w,_⟩ h=>aec neg w h
def S7 {x y:Int} (h:x<y):md x y= -1:=by unfold md;rw [if_pos h]
def S8 {x y:Int} (h:y<x):md x y=1:=by unfold md;rw [if_neg (by omega),if_pos h]
def aed {x y:Int} (h:x=y):md x y=0:=by unfold md;rw [if_neg (by omega),if_neg (by omega)]
def aee (a b:List Int) (h:okA a=true) (g:okA b=true):Holds prog true 134 [lv a,lv b] (iv (md (ag a) (ag b))):=by
 obtain⟨ha,ta,la⟩:=fD.1 h;obtain⟨hb,tb,lb⟩:=fD.1 g;refine bL (c:=qN) func134 rfl rfl fun w0 F=> ?_
 by_cases hab:a.length=b.length
 .refine cR cC 4 (ad1 a b (by omega) (by omega)) ?_;refine aW.loop (ι:={k:Nat//k<=a.length/\∀j,k<=j->j<a.length->a.getD j 0=b.getD j 0}) (id:=0) (b:=cat qN C2) (rest:=(fl qN []).drop 5) (by kernel_rfl) (fun k=>mQ a b k.1) (fun k=>k.1) ⟨a.length,aK _,fun j h1 h2=>by omega⟩ (fun _=>rfl) ?_;rintro⟨k,hk,heq⟩;cases k with
  |zero=>
   refine bC (s:=mQ a b 0) cC (ad5 a b 0 (by omega)) ?_;refine cI (cQ ?_);have e:a=b:=by
    refine List.ext_getElem hab fun j h1 h2=> ?_
    have:=heq j (Nat.zero_le _) h1;rwa [uh h1,uh h2]at this
   rw [aed (show ag a=ag b by rw [e])];exact bY (s:=mQ a b 0) cC (ad6 a b 0)
  |succ k=>
   have e0:(((k+1:Nat):Int)-1).toNat=k:=by omega
   have e1:FZ a b (k+1)=mQ a b k:=by
    unfold FZ mQ;rw [show(((k+1:Nat):Int)-1-1)=(k:Int)-1 by omega]
   have hka:k<a.length:=by omega
   by_cases h2:a.getD k 0<b.getD k 0
   .rw [S7 (show ag a<ag b from FT k4 ha hb hab hka h2 fun j g1 g2=>heq j (by omega) g2)];exact bY (s:=mQ a b (k+1)) cC (ad2 a b (k+1) (by omega) (by omega) (by omega) (by omega) (by rw [e0];exact h2))
   .by_cases h3:a.getD k 0>b.getD k 0
    .rw [S8 (show ag b<ag a from FT k4 hb ha hab.symm (by omega) (show b.getD k 0<a.getD k 0 by omega) fun j g1 g2=>(heq j (by omega) (by omega)).symm)];exact bY (s:=mQ a b (k+1)) cC (ad3 a b (k+1) (by omega) (by omega) (by omega) (by omega) (by rw [e0];exact h2) (by rw [e0];exact h3))
    .refine bC (s:=mQ a b (k+1)) (s':=FZ a b (k+1)) cC (ad4 a b (k+1) (by omega) (by omega) (by omega) (by omega) (by rw [e0];exact h2) (by rw [e0];exact h3) (by omega)) ?_;rw [e1];exact⟨⟨k,by omega,fun j g1 g2=>by
      by_cases hj:j=k
      .rw [hj];omega
      .exact heq j (by omega) g2⟩,fL _,rfl,rfl⟩
 .by_cases hlt:a.length<b.length
  .rw [S7 (show ag a<ag b from ib k4 ha hb tb hlt)];exact aY cC 3 (adZ a b (by omega) (by omega))
  .rw [S8 (show ag b<ag a from ib k4 hb ha ta (by omega))];exact aY cC 3 (ad0 a b (by omega) (by omega))
def S9:LC.Ok prog:=fun⟨a,b,_⟩ h=>by
 have h:(okA a&&okA b)=true:=h;rw [ae]at h;exact aee a b h.1 h.2
def aef:S4.Ok prog:=fun⟨a,k,_⟩ h=>by
 have h0:(0:Int)<=k:=ap h;obtain⟨n,rfl⟩:=Int.eq_ofNat_of_zero_le h0;show Holds prog true 186 [lv a,iv n] (iv (a.getD (n:Int).toNat 0));rw [Int.toNat_natCast];refine bL (c:=Lz) func186 rfl rfl fun w0 F=> ?_
 by_cases h1:n<a.length
 .exact aY cC 9 (ad7 a n (by omega) h1)
 .rw [show a.getD n 0=0 by rw [ao,List.getElem?_eq_none (by omega)];rfl];exact aY cC 9 (ad8 a n (by omega))
noncomputable def Az:bG:=ov [C3] (a7 [])
def aeg (n:Int):
  c7 Az (fl vW []) 3 25 [iv n] 1 .normal [(64,64,none)] (me n (decide (n<0)) []):=
 wy [] 0
section
variable (n:Int) (neg:Bool) (w:List Int)
def aeh (h1:¬n=0) (h2:¬Int.tmod n 1000000000<0) (h3:w.length+1<=1000000) (h4:i6 (Int.tdiv n 1000000000)) (h5:(w.length+1)=(w++[Int.tmod n 1000000000]).length) (h6:(bh.full)=(bM (w++[Int.tmod n 1000000000]).length)):
  bz Az (fl vW F0) (me n neg w) 9 .normal [(64,64,none),(65,67,none)] (me (Int.tdiv n 1000000000) neg (w++[Int.tmod n 1000000000])):=
 wy [aa (fA.mpr h1),aF h2,yk 3 (.int .i64) w,lT 8 h3,yi h4,ax h5,ax h6,ot 3 (.int .i64) (Eq.refl (w++[Int.tmod n (1000000000:Int)]))] 40564821351257725478366412283905
def aei (h1:¬n=0) (h2:Int.tmod n 1000000000<0) (h3:i6 (0-Int.tmod n 1000000000)) (h4:w.length+1<=1000000) (h5:i6 (Int.tdiv n 1000000000)) (h6:(w.length+1)=(w++[0-Int.tmod n 1000000000]).length) (h7:(bh.full)=(bM (w++[0-Int.tmod n 1000000000]).length)):
  bz Az (fl vW F0) (me n neg w) 11 .normal [(64,64,none),(65,67,none)] (me (Int.tdiv n 1000000000) neg (w++[0-Int.tmod n 1000000000])):=
 wy [aa (fA.mpr h1),ah h2,yi h3,yk 3 (.int .i64) w,lT 8 h4,yi h5,ax h6,ax h7,ot 3 (.int .i64) (Eq.refl (w++[(0:Int)-Int.tmod n (1000000000:Int)]))] 2920667139783965744155195771461633
def aej (h1:n=0):
  bz Az (fl vW F0) (me n neg w) 2 (.exit 0) [(64,64,none),(65,65,none)] (me n neg w):=
 wy [aa (ef.mpr h1)] 1
def aek (h1:(Nat.beq w.length 0||bA 3 (.int .i64) (a8 3 (.int .i64) w) (w.length-1))=true) (h2:(okB ((w.drop 0).take w.length))=true):
  bS Az ((fl vW []).drop 4) (me n neg w) 1 f71 false (rv (mkR (bp neg (ag ((w.drop 0).take w.length))))):=
 wy [aa (show(Nat.beq w.length (0:Nat)||bA 3 (.int .i64) (a8 3 (.int .i64) w) ((0:Nat)+w.length-(1:Nat)))=true from(by simp only [aw]<;>exact h1)),aa (show(okB (((bP (.int .i64) (a8 3 (.int .i64) w)).drop (0:Nat)).take w.length))=true from(by simp only [eD]<;>exact h2)),ax (show((mkR (bp neg (ag (((bP (.int .i64) (a8 3 (.int .i64) w)).drop (0:Nat)).take w.length)))).1)=((mkR (bp neg (ag ((w.drop (0:Nat)).take w.length)))).1)from(by simp only [eD]<;>rfl)),ax (show((mkR (bp neg (ag (((bP (.int .i64) (a8 3 (.int .i64) w)).drop (0:Nat)).take w.length)))).2)=((mkR (bp neg (ag ((w.drop (0:Nat)).take w.length)))).2)from(by simp only [eD]<;>rfl))] 1060993
end
def LF:=IN 71 [.int .i64] [j8] false (fun d=>decide (-9223372036854775808<=d.1)&&decide (d.1<=9223372036854775807)) fun d=>(mkR d.1,())
def ael:bD prog (bF Az):=uj (fun c hc=>by
 simp only [ew,jU,or_false]at hc;obtain rfl:=hc;exact F2) cC
def uk {α:Type} (l:List α) (x:α):bh.full=bM (l++[x]).length:=by simp [bM]
def mf {α:Type} (l:List α) (x:α):l.length+1=(l++[x]).length:=by simp
def AA (e:TypeId) (l:List Int):(Nat.beq l.length 0||bA e (.int .i64) (a8 e (.int .i64) l) (l.length-1))=true:=by
 by_cases h:l.length=0
 .rw [h];rfl
 .rw [ED,az (show l.length-1<l.length by omega),Bool.or_true]
def aem {n:Int} (h0:n≠0):∃d,(if Int.tmod n 1000000000<0 then 0-Int.tmod n 1000000000 else Int.tmod n 1000000000)=d/\0<=d/\d<1000000000/\((Int.tdiv n 1000000000).natAbs:Int)*1000000000+d=n.natAbs/\(Int.tdiv n 1000000000).natAbs<n.natAbs/\(Int.tdiv n 1000000000<0->n<0)/\(0<Int.tdiv n 1000000000->0<n):=by
 refine⟨_,rfl, ?_⟩;rcases Int.lt_or_le n 0 with hn|hn
 .have e1:Int.tdiv n 1000000000= -((-n)/1000000000):=by
   have h:=Int.neg_tdiv (a:= -n) (b:=1000000000);rw [Int.neg_neg]at h;rw [h,Int.tdiv_eq_ediv_of_nonneg (show 0<= -n by omega)]
  have e2:Int.tmod n 1000000000= -((-n)%1000000000):=by
   have h:=Int.neg_tmod (a:= -n) (b:=1000000000);rw [Int.neg_neg]at h;rw [h,Int.tmod_eq_emod_of_nonneg (show 0<= -n by omega)]
  rw [e1,e2];split<;>omega
 .rw [Int.tdiv_eq_ediv_of_nonneg hn,Int.tmod_eq_emod_of_nonneg hn];rw [if_neg (by omega)];omega
def aen (n0:Int) (hl: -9223372036854775808<=n0) (hh:n0<=9223372036854775807):Holds prog false 71 [iv n0] (rv (mkR n0)):=by
 have hS:=ael;refine bL (c:=vW) func71 rfl rfl fun w0 F=> ?_
 refine cR hS 3 (aeg n0) ?_;refine aW.loop (ι:={s:Int×List Int// -9223372036854775808<=s.1/\s.1<=9223372036854775807/\aS 1000000000 s.2/\(s.1.natAbs:Int)<1000000000^(4-s.2.length)/\s.2.length<=4/\ag s.2+1000000000^s.2.length*(s.1.natAbs:Int)=n0.natAbs}) (id:=0) (b:=cat vW F0) (rest:=(fl vW []).drop 4) (by kernel_rfl) (fun s=>me s.1.1 (decide (n0<0)) s.1.2) (fun s=>s.1.1.natAbs) ⟨(n0,[]),hl,hh, .nil,by show(n0.natAbs:Int)<1000000000^4;omega,by simp,by show(0:Int)+1*_=_;omega⟩ (fun _=>rfl) ?_;rintro⟨⟨n,w⟩,b1,b2,b3,gF,F3,yg⟩;have b1: -9223372036854775808<=n:=b1;have b2:n<=9223372036854775807:=b2;have b3:aS 1000000000 w:=b3;have gF:(n.natAbs:Int)<1000000000^(4-w.length):=gF;have F3:w.length<=4:=F3;have yg:ag w+1000000000^w.length*(n.natAbs:Int)=n0.natAbs:=yg;by_cases h0:n=0
 .refine bC (s:=me n (decide (n0<0)) w) hS (aej n _ w h0) ?_;refine cI (cQ ?_);have hv:ag w=n0.natAbs:=by rw [h0]at yg;simpa using yg
  have key:=aek n (decide (n0<0)) w;rw [List.drop_zero,dR]at key;have e:mkR (bp (decide (n0<0)) (ag w))=mkR n0:=by
   rw [hv];by_cases hn:n0<0
   .rw [az hn];show mkR (-(n0.natAbs:Int))=_;congr 1;omega
   .rw [ab hn];show mkR (n0.natAbs:Int)=_;congr 1;omega
  rw [e]at key;exact bY (s:=me n (decide (n0<0)) w) hS (key (AA _ w) (ow.2 ⟨b3,by omega⟩))
 .obtain⟨d,d1,d2,d3,d4,d5,d6,d7⟩:=aem h0;have aum:w.length<4:=by
   rcases Nat.lt_or_ge w.length 4 with h|h
   .exact h
   .have:4-w.length=0:=by omega
    rw [this]at gF;simp at gF;omega
  have hp:(1000000000:Int)^(4-w.length)=1000000000^(4-(w.length+1))*1000000000:=by rw [<-Int.pow_succ];congr 1;omega
  have um:∃j:{s:Int×List Int// -9223372036854775808<=s.1/\s.1<=9223372036854775807/\aS 1000000000 s.2/\(s.1.natAbs:Int)<1000000000^(4-s.2.length)/\s.2.length<=4/\ag s.2+1000000000^s.2.length*(s.1.natAbs:Int)=n0.natAbs},j.1.1.natAbs<n.natAbs/\(me (Int.tdiv n 1000000000) (decide (n0<0)) (w++[d])).T=(me j.1.1 (decide (n0<0)) j.1.2).T/\(me (Int.tdiv n 1000000000) (decide (n0<0)) (w++[d])).H=(me j.1.1 (decide (n0<0)) j.1.2).H:=by
   refine⟨⟨(Int.tdiv n 1000000000,w++[d]),by show _<=Int.tdiv n _;omega,by show Int.tdiv n _<=_;omega,b3.app (.cons ⟨d2,d3⟩ .nil), ?_,by show(w++[d]).length<=4;simp;omega, ?_⟩,d5,rfl,rfl⟩
   .show((Int.tdiv n 1000000000).natAbs:Int)<1000000000^(4-(w++[d]).length);rw [<-mf];rw [hp]at gF;omega
   .show ag (w++[d])+1000000000^(w++[d]).length*((Int.tdiv n 1000000000).natAbs:Int)=_;have ev:ag (w++[d])=ag w+1000000000^w.length*d:=x9 _ _ _;rw [<-mf,ev,Int.pow_succ,<-yg,<-d4];grind
  by_cases hm:Int.tmod n 1000000000<0
  .rw [if_pos hm]at d1;subst d1;exact bC (s:=me n (decide (n0<0)) w) hS (aei n _ w h0 hm (by omega) (by omega) (by omega) (mf _ _) (uk _ _)) um
  .rw [if_neg hm]at d1;subst d1;exact bC (s:=me n (decide (n0<0)) w) hS (aeh n _ w h0 hm (by omega) (by omega) (mf _ _) (uk _ _)) um
def Ta:LF.Ok prog:=fun⟨n,_⟩ h=>by
 have h:(decide (-9223372036854775808<=n)&&decide (n<=9223372036854775807))=true:=h;rw [ae]at h;exact aen n (ap h.1) (ap h.2)
abbrev aG:av:= .int .u64
abbrev cu (x:Int):af:= .raw (.int .u64 x)
abbrev bJ (l:List Int):af:= .bu false aG l
abbrev qO (j:Nat) (l:List Int):af:= .bU 167 aG j 0 l.length (bM l.length)
section
variable (l:List Int)
abbrev qP:fS:= .opt 167 aG l
def gY:Bool:=l.all fun x=>decide (0<=x)&&decide (x<18446744073709551616)
def jG:Bool:=Nat.beq (fm l l.length).length l.length
def ak:Int:=vl 18446744073709551616 l
end
def sa:=k_a f188
def dQ (l:List Int):List Int:=fm l l.length
section
variable (w:List Int)
def mR (n:Nat):bI:={n:=21,sl:=[(0,bJ w),(3,iv n)],bH:=[],next:=64}
def F4 (n:Nat):bI:={n:=21,sl:=[(0,bJ w),(3,iv ((n:Int)-1))],bH:=[],next:=64}
def aeo:
  c7 (a7 []) (fl sa []) 2 21 [bJ w] 1 .normal [] (mR w w.length):=
 wy [] 0
def aep (n:Nat) (h1:(n:Int)>0) (h2:i6 ((n:Int)-1)) (h3:0<=(n:Int)-1) (h4:((n:Int)-1).toNat<w.length) (h5:w.getD ((n:Int)-1).toNat 0=0):
  bz (a7 []) (fl sa [1,1,0,0,0]) (mR w n) 511 .normal [] (F4 w n):=
 wy [aa (aL (az h1)),yi h2,ah h3,ah h4,ah h1,cM h5] 154581839761004564545
def aeq (n:Nat) (h1:(n:Int)>0) (h2:i6 ((n:Int)-1)) (h3:0<=(n:Int)-1) (h4:((n:Int)-1).toNat<w.length) (h5:¬w.getD ((n:Int)-1).toNat 0=0):
  bz (a7 []) (fl sa [1,1,0,0,0]) (mR w n) 383 (.exit 0) [] (mR w n):=
 wy [aa (aL (az h1)),yi h2,ah h3,ah h4,ah h1,yn h5] 7007887171328151617
def aer (n:Nat) (h1:¬(n:Int)>0):
  bz (a7 []) (fl sa [1,1,0,0,0]) (mR w n) 256 (.exit 0) [] (mR w n):=
 wy [aa (aL (ab h1)),aF h1] 138529738817
def Tb (n:Nat) (h1:n<=w.length) (h2:((w.take n).drop 0)=(w.take n)):
  bS (a7 []) ((fl sa []).drop 3) (mR w n) 1 f188 false (bJ (w.take n)):=
 wy [ah h1,ax h2] 528384
end
def F5:=IN 188 [.list false aG] [.list false aG] false (fun d=>decide (List.length (α:=Int) d.1<=1000000)) fun d=>(dQ d.1,())
def aes (w:List Int) (hl:w.length<=1000000):Holds prog false 188 [bJ w] (bJ (dQ w)):=by
 refine bL (c:=sa) func188 rfl rfl fun w0 F=> ?_
 refine cR cC 2 (aeo w) ?_;refine aW.loop (ι:={n:Nat//n<=w.length/\fm w n=dQ w}) (id:=0) (b:=cat sa [1,1,0,0,0]) (rest:=(fl sa []).drop 3) (by kernel_rfl) (fun n=>mR w n.1) (fun n=>n.1) ⟨w.length,aK _,rfl⟩ (fun _=>rfl) ?_;rintro⟨n,hn,hv⟩;cases n with
 |zero=>
  refine bC (s:=mR w 0) cC (aer w 0 (by omega)) ?_;refine cI (cQ ?_);have e:dQ w=w.take 0:=by rw [<-hv];rfl
  rw [e];exact bY (s:=mR w 0) cC (Tb w 0 (by omega) rfl)
 |succ k=>
  have e0:(((k+1:Nat):Int)-1).toNat=k:=by omega
  have e1:F4 w (k+1)=mR w k:=by
   unfold F4 mR;rw [show(((k+1:Nat):Int)-1)=(k:Int) by omega]
  by_cases hz:w.getD k 0=0
  .refine bC (s:=mR w (k+1)) (s':=F4 w (k+1)) cC (aep w (k+1) (by omega) (by omega) (by omega) (by omega) (by rw [e0];exact hz)) ?_;have iV:fm w k=dQ w:=by rw [<-hv,fm,if_pos hz]
   rw [e1];exact⟨⟨k,by omega,iV⟩,by simp,rfl,rfl⟩
  .refine bC (s:=mR w (k+1)) cC (aeq w (k+1) (by omega) (by omega) (by omega) (by omega) (by rw [e0];exact hz)) ?_;refine cI (cQ ?_);have e:dQ w=w.take (k+1):=by rw [<-hv,fm,if_neg hz]
   rw [e];exact bY (s:=mR w (k+1)) cC (Tb w (k+1) (by omega) rfl)
def LG:F5.Ok prog:=fun⟨w,_⟩ h=>aes w (ap h)
def k5:=a7 [F5]
def c9 (a b c:Int):Int:=(((a.toNat+b.toNat+c.toNat)%2^64:Nat):Int)
def dX (a b c:Int):Int:=(((a.toNat+b.toNat+c.toNat)/2^64:Nat):Int)
def dn (a b c:Int):Int:=(((a.toNat+2^64-b.toNat-c.toNat)%2^64:Nat):Int)
def eA (a b c:Int):Int:=((if a.toNat<b.toNat+c.toNat then 1 else 0:Nat):Int)
def cJ (n:Nat):List Int:=List.replicate n 0
def mS:=k_a f144
def ox:=k_a f146
abbrev AB:List Nat:=[1,1,1,1,0,1,0,0]
def fU (x y out:List Int) (c:Int) (i:Nat):bI:={n:=54,sl:=[(0,bJ x),(1,bJ y),(5,qO 64 out),(6,cu c),(21,iv x.length),(22,iv i)],bH:=[(64,qP out)],next:=65}
def F6 (out:List Int):bI:={n:=54,sl:=[(5,qO 64 out)],bH:=[(64,qP out)],next:=65}
def F7 (out:List Int):bI:={n:=54,sl:=[(5,bJ out)],bH:=[],next:=64}
def aet (x y:List Int) (h1:¬(x.length:Int)<(y.length:Int)) (h2: -9223372036854775808<=(x.length:Int)+1/\(x.length:Int)+1<=9223372036854775807) (h3:((x.length:Int)+1).toNat<=1000000) (h4:(((x.length:Int)+1).toNat)=(cJ (x.length+(1:Nat))).length) (h5:(bh.known ((x.length:Int)+1).toNat)=(bh.known (x.length+(1:Nat)))) (h6:(bM (cJ (x.length+(1:Nat))).length)=(bM (x.length+(1:Nat)))) (h7:(List.flatten (List.replicate ((x.length:Int)+1).toNat (List.map af.raw (Array.toList #[Value.int .u64 (0:Int)]))))=(List.flatMap (fun x=>[af.raw (Value.int .u64 x)]) (cJ (x.length+(1:Nat))))) (h8:(x.length+(1:Nat))=(cJ (x.length+(1:Nat))).length):
  aE.path (om prog k5 (fl mS []) 6 54 [bJ x,bJ y]) (dl 2) (ep prog 54 .normal [(64,64,some (x.length+1))] (fU x y (cJ (x.length+1)) 0 0)):=
 mp (Ln (ab h1) (eP h2) rt rt (show(decide (((x.length:Int)+1).toNat<=((x.length:Int)+1).toNat))=true from az (by omega)) (oq (show(bounded ((x.length:Int)+1).toNat (8:Nat))=true from pL h3 (by omega)) (rr x) (rr y) (an h4 (an h5 h6)) (rr (0:Int)) (rr (x.length:Int)) (rr (0:Int)) (an h7 h8) trivial))
def aeu (x y:List Int) (h1:(x.length:Int)<(y.length:Int)) (h2: -9223372036854775808<=(y.length:Int)+1/\(y.length:Int)+1<=9223372036854775807) (h3:((y.length:Int)+1).toNat<=1000000) (h4:(((y.length:Int)+1).toNat)=(cJ (y.length+(1:Nat))).length) (h5:(bh.known ((y.length:Int)+1).toNat)=(bh.known (y.length+(1:Nat)))) (h6:(bM (cJ (y.length+(1:Nat))).length)=(bM (y.length+(1:Nat)))) (h7:(List.flatten (List.replicate ((y.length:Int)+1).toNat (List.map af.raw (Array.toList #[Value.int .u64 (0:Int)]))))=(List.flatMap (fun x=>[af.raw (Value.int .u64 x)]) (cJ (y.length+(1:Nat))))) (h8:(y.length+(1:Nat))=(cJ (y.length+(1:Nat))).length):
  aE.path (om prog k5 (fl mS []) 6 54 [bJ x,bJ y]) (dl 3) (ep prog 54 .normal [(64,64,some (y.length+1))] (fU y x (cJ (y.length+1)) 0 0)):=
 mp (Ln (az h1) (eP h2) rt rt (show(decide (((y.length:Int)+1).toNat<=((y.length:Int)+1).toNat))=true from az (by omega)) (oq (show(bounded ((y.length:Int)+1).toNat (8:Nat))=true from pL h3 (by omega)) (rr y) (rr x) (an h4 (an h5 h6)) (rr (0:Int)) (rr (y.length:Int)) (rr (0:Int)) (an h7 h8) trivial))
section
variable (x y out:List Int) (i:Nat) (h1:(i:Int)<(x.length:Int))
def So (h2:(i:Int)<(y.length:Int)) (h3:i<y.length) (h4:i<x.length) (h5:i<out.length) (h6:i6 ((i:Int)+1)) (h7:out.length=(out.set i (c9 (x.getD i 0) (y.getD i 0) 0)).length) (h8:(bM out.length)=(bM (out.set i (c9 (x.getD i 0) (y.getD i 0) 0)).length)) (h9:(↑(((x.getD i 0).toNat+(y.getD i 0).toNat+Int.toNat 0)/(2:Nat)^(64:Nat)):Int)=(dX (x.getD i 0) (y.getD i 0) 0)) (h10:(out.set i (↑(((x.getD i 0).toNat+(y.getD i 0).toNat+Int.toNat 0)%(2:Nat)^(64:Nat)):Int))=(out.set i (c9 (x.getD i 0) (y.getD i 0) 0))):
  bz k5 (fl mS AB) (fU x y out 0 i) 7 .normal [(64,64,none)] (fU x y (out.set i (c9 (x.getD i 0) (y.getD i 0) 0)) (dX (x.getD i 0) (y.getD i 0) 0) (i+1)):=
 wy [ah h1,ah h2,ah h3,ah h4,ah h5,jl 167 aG h5,yi h6,ax h7,ax h8,ax h9,mN 167 aG h10] 3569716646146256639964958679629953
def aev (h2:¬(i:Int)<(y.length:Int)) (h3:i<x.length) (h4:i<out.length) (h5:i6 ((i:Int)+1)) (h6:out.length=(out.set i (c9 (x.getD i 0) 0 0)).length) (h7:(bM out.length)=(bM (out.set i (c9 (x.getD i 0) 0 0)).length)) (h8:(↑(((x.getD i 0).toNat+Int.toNat 0+Int.toNat 0)/(2:Nat)^(64:Nat)):Int)=(dX (x.getD i 0) 0 0)) (h9:(out.set i (↑(((x.getD i 0).toNat+Int.toNat 0+Int.toNat 0)%(2:Nat)^(64:Nat)):Int))=(out.set i (c9 (x.getD i 0) 0 0))):
  bz k5 (fl mS AB) (fU x y out 0 i) 5 .normal [(64,64,none)] (fU x y (out.set i (c9 (x.getD i 0) 0 0)) (dX (x.getD i 0) 0 0) (i+1)):=
 wy [ah h1,aF h2,ah h3,ah h4,jl 167 aG h4,yi h5,ax h6,ax h7,ax h8,mN 167 aG h9] 792284383521178232608283951233
def Sp (h2:(i:Int)<(y.length:Int)) (h3:i<y.length) (h4:i<x.length) (h5:i<out.length) (h6:i6 ((i:Int)+1)) (h7:out.length=(out.set i (c9 (x.getD i 0) (y.getD i 0) 1)).length) (h8:(bM out.length)=(bM (out.set i (c9 (x.getD i 0) (y.getD i 0) 1)).length)) (h9:(↑(((x.getD i 0).toNat+(y.getD i 0).toNat+Int.toNat 1)/(2:Nat)^(64:Nat)):Int)=(dX (x.getD i 0) (y.getD i 0) 1)) (h10:(out.set i (↑(((x.getD i 0).toNat+(y.getD i 0).toNat+Int.toNat 1)%(2:Nat)^(64:Nat)):Int))=(out.set i (c9 (x.getD i 0) (y.getD i 0) 1))):
  bz k5 (fl mS AB) (fU x y out 1 i) 7 .normal [(64,64,none)] (fU x y (out.set i (c9 (x.getD i 0) (y.getD i 0) 1)) (dX (x.getD i 0) (y.getD i 0) 1) (i+1)):=
 wy [ah h1,ah h2,ah h3,ah h4,ah h5,jl 167 aG h5,yi h6,ax h7,ax h8,ax h9,mN 167 aG h10] 3569716646146256639964958679629953
def aew (h2:¬(i:Int)<(y.length:Int)) (h3:i<x.length) (h4:i<out.length) (h5:i6 ((i:Int)+1)) (h6:out.length=(out.set i (c9 (x.getD i 0) 0 1)).length) (h7:(bM out.length)=(bM (out.set i (c9 (x.getD i 0) 0 1)).length)) (h8:(↑(((x.getD i 0).toNat+Int.toNat 0+Int.toNat 1)/(2:Nat)^(64:Nat)):Int)=(dX (x.getD i 0) 0 1)) (h9:(out.set i (↑(((x.getD i 0).toNat+Int.toNat 0+Int.toNat 1)%(2:Nat)^(64:Nat)):Int))=(out.set i (c9 (x.getD i 0) 0 1))):
  bz k5 (fl mS AB) (fU x y out 1 i) 5 .normal [(64,64,none)] (fU x y (out.set i (c9 (x.getD i 0) 0 1)) (dX (x.getD i 0) 0 1) (i+1)):=
 wy [ah h1,aF h2,ah h3,ah h4,jl 167 aG h4,yi h5,ax h6,ax h7,ax h8,mN 167 aG h9] 792284383521178232608283951233
end
def aex (x y out:List Int) (c:Int) (i:Nat) (h1:¬(i:Int)<(x.length:Int)):
  bz k5 (fl mS AB) (fU x y out c i) 2 (.exit 0) [(64,64,none)] (fU x y out c i):=
 wy [aF h1] 1
def aey (x y out:List Int) (c:Int) (i:Nat) (h1:x.length<out.length) (h2:out.length=(out.set x.length c).length) (h3:(bM out.length)=(bM (out.set x.length c).length)):
  dV k5 ((fl mS []).drop 7) 1 (fU x y out c i) 1 .normal [(64,64,none)] (F6 (out.set x.length c)):=
 wy [ah h1,jl 167 aG h1,ax h2,ax h3,mN 167 aG (Eq.refl (out.set x.length c))] 347942690880
def aez (out:List Int):
  aE.path (aE.ret (R.normal ((F6 out).T.set 5 (some (bJ out))) ((F6 out).H.drop 64) []):aE R) (dl 1) (ep prog 54 .normal [] (F7 out)):=
 wy [] 0
def aeA (out:List Int) (h1:out.length<=1000000):
  bS k5 ((fl mS []).drop 8) (F7 out) 1 f144 false (bJ (dQ out)):=
 wy [ah h1] 1
abbrev AD:List Nat:=[1,1,1,0,1,0,0]
def gh (x y out:List Int) (c:Int) (i:Nat):bI:={n:=41,sl:=[(0,bJ x),(1,bJ y),(5,qO 64 out),(6,cu c),(13,iv x.length),(14,iv i)],bH:=[(64,qP out)],next:=65}
def F8 (out:List Int):bI:={n:=41,sl:=[(5,bJ out)],bH:=[],next:=64}
def aeB (x y:List Int) (h1:x.length<=1000000) (h2:x.length=(cJ x.length).length) (h3:(bM (cJ x.length).length)=(bM x.length)) (h4:(List.flatten (List.replicate x.length (List.map af.raw (Array.toList #[Value.int .u64 (0:Int)]))))=(List.flatMap (fun x=>[af.raw (Value.int .u64 x)]) (cJ x.length))):
  aE.path (om prog k5 (fl ox []) 4 41 [bJ x,bJ y]) (dl 1) (ep prog 41 .normal [(64,64,some x.length)] (gh x y (cJ x.length) 0 0)):=
 mp (FO rt rt (show(decide (x.length<=x.length))=true from az (by omega)) (oq (show(bounded x.length (8:Nat))=true from pL h1 (by omega)) (rr x) (rr y) (an h2 (an (rr (bh.known x.length)) h3)) (rr (0:Int)) (rr (x.length:Int)) (rr (0:Int)) (an h4 h2) trivial))
section
variable (x y out:List Int) (i:Nat) (h1:(i:Int)<(x.length:Int))
def aeC (h2:(i:Int)<(y.length:Int)) (h3:i<y.length) (h4:i<x.length) (h5:i<out.length) (h6:i6 ((i:Int)+1)) (h7:out.length=(out.set i (dn (x.getD i (0:Int)) (y.getD i (0:Int)) (0:Int))).length) (h8:(bM out.length)=(bM (out.set i (dn (x.getD i (0:Int)) (y.getD i (0:Int)) (0:Int))).length)) (h9:(↑(if Int.toNat (x.getD i (0:Int))<(y.getD i (0:Int)).toNat+Int.toNat (0:Int)then(1:Nat)else(0:Nat)):Int)=(eA (x.getD i (0:Int)) (y.getD i (0:Int)) (0:Int))) (h10:(out.set i (↑(((x.getD i (0:Int)).toNat+(2:Nat)^(64:Nat)-Int.toNat (y.getD i (0:Int))-Int.toNat (0:Int))%(2:Nat)^(64:Nat)):Int))=(out.set i (dn (x.getD i (0:Int)) (y.getD i (0:Int)) (0:Int)))):
  bz k5 (fl ox AD) (gh x y out 0 i) 7 .normal [(64,64,none)] (gh x y (out.set i (dn (x.getD i 0) (y.getD i 0) 0)) (eA (x.getD i 0) (y.getD i 0) 0) (i+1)):=
 wy [ah h1,ah h2,ah h3,ah h4,ah h5,jl 167 aG h5,yi h6,ax h7,ax h8,ax h9,mN 167 aG h10] 3569716646146256639964958679629953
def aeD (h2:¬(i:Int)<(y.length:Int)) (h3:i<x.length) (h4:i<out.length) (h5:i6 ((i:Int)+1)) (h6:out.length=(out.set i (dn (x.getD i 0) 0 0)).length) (h7:(bM out.length)=(bM (out.set i (dn (x.getD i 0) 0 0)).length)) (h8:(↑(if Int.toNat (x.getD i 0)<Int.toNat 0+Int.toNat 0 then 1 else 0):Int)=(eA (x.getD i 0) 0 0)) (h9:(out.set i (↑(((x.getD i 0).toNat+(2:Nat)^(64:Nat)-Int.toNat 0-Int.toNat 0)%(2:Nat)^(64:Nat)):Int))=(out.set i (dn (x.getD i 0) 0 0))):
  bz k5 (fl ox AD) (gh x y out 0 i) 5 .normal [(64,64,none)] (gh x y (out.set i (dn (x.getD i 0) 0 0)) (eA (x.getD i 0) 0 0) (i+1)):=
 wy [ah h1,aF h2,ah h3,ah h4,jl 167 aG h4,yi h5,ax h6,ax h7,ax h8,mN 167 aG h9] 792284383521178232608283951233
def Sx (h2:(i:Int)<(y.length:Int)) (h3:i<y.length) (h4:i<x.length) (h5:i<out.length) (h6:i6 ((i:Int)+1)) (h7:out.length=(out.set i (dn (x.getD i (0:Int)) (y.getD i (0:Int)) (1:Int))).length) (h8:(bM out.length)=(bM (out.set i (dn (x.getD i (0:Int)) (y.getD i (0:Int)) (1:Int))).length)) (h9:(↑(if Int.toNat (x.getD i (0:Int))<(y.getD i (0:Int)).toNat+Int.toNat (1:Int)then(1:Nat)else(0:Nat)):Int)=(eA (x.getD i (0:Int)) (y.getD i (0:Int)) (1:Int))) (h10:(out.set i (↑(((x.getD i (0:Int)).toNat+(2:Nat)^(64:Nat)-Int.toNat (y.getD i (0:Int))-Int.toNat (1:Int))%(2:Nat)^(64:Nat)):Int))=(out.set i (dn (x.getD i (0:Int)) (y.getD i (0:Int)) (1:Int)))):
  bz k5 (fl ox AD) (gh x y out 1 i) 7 .normal [(64,64,none)] (gh x y (out.set i (dn (x.getD i 0) (y.getD i 0) 1)) (eA (x.getD i 0) (y.getD i 0) 1) (i+1)):=
 wy [ah h1,ah h2,ah h3,ah h4,ah h5,jl 167 aG h5,yi h6,ax h7,ax h8,ax h9,mN 167 aG h10] 3569716646146256639964958679629953
def aeE (h2:¬(i:Int)<(y.length:Int)) (h3:i<x.length) (h4:i<out.length) (h5:i6 ((i:Int)+1)) (h6:out.length=(out.set i (dn (x.getD i (0:Int)) (0:Int) (1:Int))).length) (h7:(bM out.length)=(bM (out.set i (dn (x.getD i (0:Int)) (0:Int) (1:Int))).length)) (h8:(↑(if Int.toNat (x.getD i (0:Int))<(0:Int).toNat+Int.toNat (1:Int)then(1:Nat)else(0:Nat)):Int)=(eA (x.getD i (0:Int)) (0:Int) (1:Int))) (h9:(out.set i (↑(((x.getD i (0:Int)).toNat+(2:Nat)^(64:Nat)-Int.toNat (0:Int)-Int.toNat (1:Int))%(2:Nat)^(64:Nat)):Int))=(out.set i (dn (x.getD i (0:Int)) (0:Int) (1:Int)))):
  bz k5 (fl ox AD) (gh x y out 1 i) 5 .normal [(64,64,none)] (gh x y (out.set i (dn (x.getD i 0) 0 1)) (eA (x.getD i 0) 0 1) (i+1)):=
 wy [ah h1,aF h2,ah h3,ah h4,jl 167 aG h4,yi h5,ax h6,ax h7,ax h8,mN 167 aG h9] 792284383521178232608283951233
end
def aeF (x y out:List Int) (c:Int) (i:Nat) (h1:¬(i:Int)<(x.length:Int)):
  bz k5 (fl ox AD) (gh x y out c i) 2 (.exit 0) [(64,64,none)] (gh x y out c i):=
 wy [aF h1] 1
def aeG (x y out:List Int) (c:Int) (i:Nat):
  aE.path (aE.ret (R.normal ((gh x y out c i).T.set 5 (some (bJ out))) ((gh x y out c i).H.drop 64) []):aE R) (dl 1) (ep prog 41 .normal [] (F8 out)):=
 wy [] 0
def aeH (out:List Int) (h1:out.length<=1000000):
  bS k5 ((fl ox []).drop 5) (F8 out) 1 f146 false (bJ (dQ out)):=
 wy [ah h1] 1
def k6 (x y:List Int):Bool:=gY x&&(gY y&&(decide (x.length<=400000)&&decide (y.length<=400000)))
def vX (x y:List Int):List Int:=cV 18446744073709551616 (ak x+ak y)
def pM (x y:List Int):List Int:=cV 18446744073709551616 (ak x-ak y)
def Tc:=IN 144 [.list false aG, .list false aG] [.list false aG] false (fun d=>k6 d.1 d.2.1) fun d=>(vX d.1 d.2.1,())
def Td:=IN 146 [.list false aG, .list false aG] [.list false aG] false (fun d=>k6 d.1 d.2.1&&decide (ak d.2.1<=ak d.1)) fun d=>(pM d.1 d.2.1,())
def F9:bD prog (bF k5):=qJ LG
def ij {l:List Int}:gY l=true↔aS 18446744073709551616 l:=by
 unfold gY aS;simp only [List.all_eq_true,ae,bE]
def C5:(1:Int)<18446744073709551616:=by decide
def C6 {a b c:Int} (ha:0<=a/\a<18446744073709551616) (hb:0<=b/\b<18446744073709551616) (hc:c=0\/c=1):
  c9 a b c+18446744073709551616*dX a b c=a+b+c/\(0<=c9 a b c/\c9 a b c<18446744073709551616)/\(dX a b c=0\/dX a b c=1):=by
 unfold c9 dX;rw [show(2:Nat)^64=18446744073709551616 from rfl];rcases hc with rfl |rfl<;>omega
def LH {a b c:Int} (ha:0<=a/\a<18446744073709551616) (hb:0<=b/\b<18446744073709551616) (hc:c=0\/c=1):
  dn a b c-18446744073709551616*eA a b c=a-b-c/\(0<=dn a b c/\dn a b c<18446744073709551616)/\(eA a b c=0\/eA a b c=1):=by
 unfold dn eA;rw [show(2:Nat)^64=18446744073709551616 from rfl];rcases hc with rfl |rfl<;>split<;>omega
def gO (n:Nat):(cJ n).length=n:=List.length_replicate
def qS (n:Nat):aS 18446744073709551616 (cJ n):=aS.rep (by decide) n
def yh (n:Nat):(List.replicate n (List.map af.raw (Array.toList #[Value.int IntKind.u64 (0:Int)]))).flatten=(cJ n).flatMap (fun x=>[af.raw (Value.int IntKind.u64 x)]):=by
 unfold cJ;induction n with
 |zero=>rfl
 |succ n ih=>rw [List.replicate_succ,List.replicate_succ,List.flatten_cons,List.flatMap_cons,ih];rfl
def mi {l:List Int} (h:aS 18446744073709551616 l):dQ l=cV 18446744073709551616 (ak l):=by
 refine r4 C5 (SR h _ (aK _)) (FR l _ (aK _)) ?_;unfold dQ ak;rw [Lo l _ (aK _),dR]
def Te {l:List Int} {i:Nat} (h:¬i<l.length):l.getD i 0=0:=by
 rw [ao,List.getElem?_eq_none (by omega)];rfl
def Tf:(fl mS []).drop 8≠[]:=fun h=>by
 have:((fl mS []).drop 8).isEmpty=false:=by kernel_rfl
 rw [h]at this;cases this
def Tg:(fl ox []).drop 5≠[]:=fun h=>by
 have:((fl ox []).drop 5).isEmpty=false:=by kernel_rfl
 rw [h]at this;cases this
def Th {x y:List Int} (hx:aS 18446744073709551616 x) (hy:aS 18446744073709551616 y) (hxy:y.length<=x.length) (hl:x.length<=400000) (w0:World) (F:Env):
  aW prog w0 F 54 ((fl mS []).drop 6) (fU x y (cJ (x.length+1)) 0 0).T (fU x y (cJ (x.length+1)) 0 0).H (hJ prog false f144 (bJ (cV 18446744073709551616 (ak x+ak y)))):=by
 have hS:=F9;refine aW.loop (ι:={s:List Int×Int×Nat//s.2.2<=x.length/\s.1.length=x.length+1/\aS 18446744073709551616 s.1/\(s.2.1=0\/s.2.1=1)/\ak (s.1.take s.2.2)+18446744073709551616^s.2.2*s.2.1=ak (x.take s.2.2)+ak (y.take s.2.2)}) (id:=0) (b:=cat mS AB) (rest:=(fl mS []).drop 7) (by kernel_rfl) (fun s=>fU x y s.1.1 s.1.2.1 s.1.2.2) (fun s=>x.length-s.1.2.2)
  ⟨(cJ (x.length+1),0,0),Nat.zero_le _,gO _,qS _, .inl rfl,by simp [ak,vl]⟩ (fun _=>rfl) ?_
 rintro⟨⟨out,c,i⟩,hi,ho,iX,hc,hinv⟩;have hi:i<=x.length:=hi;have ho:out.length=x.length+1:=ho;have iX:aS 18446744073709551616 out:=iX;have hc:c=0\/c=1:=hc;have hinv:ak (out.take i)+18446744073709551616^i*c=ak (x.take i)+ak (y.take i):=hinv;by_cases hlt:i<x.length
 .have vY:=hx.get (by decide) i;have LI:=hy.get (by decide) i;obtain⟨g1,g2,g3⟩:=C6 vY LI hc;have hnext:ak ((out.set i (c9 (x.getD i 0) (y.getD i 0) c)).take (i+1))+18446744073709551616^(i+1)*dX (x.getD i 0) (y.getD i 0) c=ak (x.take (i+1))+ak (y.take (i+1)):=by
   unfold ak at hinv ⊢;rw [yb (by omega),k3 x i,k3 y i,Int.pow_succ];exact Lr g1 hinv
  have oy:∃j:{s:List Int×Int×Nat//s.2.2<=x.length/\s.1.length=x.length+1/\aS 18446744073709551616 s.1/\(s.2.1=0\/s.2.1=1)/\ak (s.1.take s.2.2)+18446744073709551616^s.2.2*s.2.1=ak (x.take s.2.2)+ak (y.take s.2.2)},x.length-j.1.2.2<x.length-i/\(fU x y (out.set i (c9 (x.getD i 0) (y.getD i 0) c)) (dX (x.getD i 0) (y.getD i 0) c) (i+1)).T=(fU x y j.1.1 j.1.2.1 j.1.2.2).T/\(fU x y (out.set i (c9 (x.getD i 0) (y.getD i 0) c)) (dX (x.getD i 0) (y.getD i 0) c) (i+1)).H=(fU x y j.1.1 j.1.2.1 j.1.2.2).H:=
   ⟨⟨(out.set i (c9 (x.getD i 0) (y.getD i 0) c),dX (x.getD i 0) (y.getD i 0) c,i+1),hlt,by rw [b9];exact ho,iX.set g2,g3,hnext⟩,by simp;omega,rfl,rfl⟩
  by_cases mD:i<y.length
  .rcases hc with rfl |rfl
   .exact bC (s:=fU x y out 0 i) (s':=fU x y (out.set i (c9 (x.getD i 0) (y.getD i 0) 0)) (dX (x.getD i 0) (y.getD i 0) 0) (i+1)) hS (So x y out i (by omega) (by omega) mD hlt (by omega) (by omega) (by rw [b9]) (by rw [b9]) rfl rfl) oy
   .exact bC (s:=fU x y out 1 i) (s':=fU x y (out.set i (c9 (x.getD i 0) (y.getD i 0) 1)) (dX (x.getD i 0) (y.getD i 0) 1) (i+1)) hS (Sp x y out i (by omega) (by omega) mD hlt (by omega) (by omega) (by rw [b9]) (by rw [b9]) rfl rfl) oy
  .rw [Te mD]at oy;rcases hc with rfl |rfl
   .exact bC (s:=fU x y out 0 i) (s':=fU x y (out.set i (c9 (x.getD i 0) 0 0)) (dX (x.getD i 0) 0 0) (i+1)) hS (aev x y out i (by omega) (by omega) hlt (by omega) (by omega) (by rw [b9]) (by rw [b9]) rfl rfl) oy
   .exact bC (s:=fU x y out 1 i) (s':=fU x y (out.set i (c9 (x.getD i 0) 0 1)) (dX (x.getD i 0) 0 1) (i+1)) hS (aew x y out i (by omega) (by omega) hlt (by omega) (by omega) (by rw [b9]) (by rw [b9]) rfl rfl) oy
 .refine bC (s:=fU x y out c i) hS (aex x y out c i (by omega)) ?_;refine cI (cQ ?_);obtain rfl:i=x.length:=by omega
  have hcd:0<=c/\c<18446744073709551616:=by rcases hc with rfl |rfl<;>decide
  refine dP (s:=fU x y out c x.length) (s':=F6 (out.set x.length c)) hS 1 (aey x y out c x.length (by omega) (by rw [b9]) (by rw [b9])) ?_;have hval:ak (out.set x.length c)=ak x+ak y:=by
   rw [dR,eZ hxy]at hinv;rw [<-hinv];have:=yb (b:=18446744073709551616) (l:=out) (i:=x.length) (d:=c) (by omega);rw [eZ (by rw [b9];omega)]at this;exact this
  have gH:=iX.set (k:=x.length) hcd;rw [<-hval,<-mi gH];have hlen:(out.set x.length c).length<=1000000:=by rw [b9];omega
  generalize out.set x.length c=o2 at*;refine aW.vU Tf (i:=64) (s:=5) (e2:=167) (t:=aG) (xs:=o2) (cap:=bM o2.length) (by kernel_rfl) (by kernel_rfl) ?_;refine aW.od Tf (σ:=[]) (s:=F7 o2) (aez o2) ?_;exact bY (s:=F7 o2) hS (aeA o2 hlen)
def aeI (x y:List Int) (h:k6 x y=true):Holds prog false 144 [bJ x,bJ y] (bJ (vX x y)):=by
 unfold k6 at h;simp only [ae,bE]at h;obtain⟨hx,hy,lx,ly⟩:=h;have hx:=ij.1 hx;have hy:=ij.1 hy;have hS:=F9;refine bL (c:=mS) func144 rfl rfl fun w0 F=> ?_
 by_cases hxy:x.length<y.length
 .have e1:((y.length:Int)+1).toNat=y.length+1:=by omega
  refine cR hS 6 (aeu x y (by omega) (by omega) (by omega) (by rw [gO,e1]) (by rw [e1]) (by rw [gO]) (by rw [e1];exact yh _) (by rw [gO])) ?_;have:=Th hy hx (by omega) ly w0 F;unfold vX;rw [Int.add_comm];exact this
 .have e1:((x.length:Int)+1).toNat=x.length+1:=by omega
  refine cR hS 6 (aet x y (by omega) (by omega) (by omega) (by rw [gO,e1]) (by rw [e1]) (by rw [gO]) (by rw [e1];exact yh _) (by rw [gO])) ?_;exact Th hx hy (by omega) lx w0 F
def aeJ:Tc.Ok prog:=fun⟨x,y,_⟩ h=>aeI x y h
def aeK {x y:List Int} (hx:aS 18446744073709551616 x) (hy:aS 18446744073709551616 y) (hle:ak y<=ak x) (hl:x.length<=400000) (w0:World) (F:Env):
  aW prog w0 F 41 ((fl ox []).drop 4) (gh x y (cJ x.length) 0 0).T (gh x y (cJ x.length) 0 0).H (hJ prog false f146 (bJ (cV 18446744073709551616 (ak x-ak y)))):=by
 have hS:=F9;refine aW.loop (ι:={s:List Int×Int×Nat//s.2.2<=x.length/\s.1.length=x.length/\aS 18446744073709551616 s.1/\(s.2.1=0\/s.2.1=1)/\ak (s.1.take s.2.2)-18446744073709551616^s.2.2*s.2.1=ak (x.take s.2.2)-ak (y.take s.2.2)}) (id:=0) (b:=cat ox AD) (rest:=(fl ox []).drop 5) (by kernel_rfl) (fun s=>gh x y s.1.1 s.1.2.1 s.1.2.2) (fun s=>x.length-s.1.2.2)
  ⟨(cJ x.length,0,0),Nat.zero_le _,gO _,qS _, .inl rfl,by simp [ak,vl]⟩ (fun _=>rfl) ?_
 rintro⟨⟨out,c,i⟩,hi,ho,iX,hc,hinv⟩;have hi:i<=x.length:=hi;have ho:out.length=x.length:=ho;have iX:aS 18446744073709551616 out:=iX;have hc:c=0\/c=1:=hc;have hinv:ak (out.take i)-18446744073709551616^i*c=ak (x.take i)-ak (y.take i):=hinv;by_cases hlt:i<x.length
 .have vY:=hx.get (by decide) i;have LI:=hy.get (by decide) i;obtain⟨g1,g2,g3⟩:=LH vY LI hc;have hnext:ak ((out.set i (dn (x.getD i 0) (y.getD i 0) c)).take (i+1))-18446744073709551616^(i+1)*eA (x.getD i 0) (y.getD i 0) c=ak (x.take (i+1))-ak (y.take (i+1)):=by
   unfold ak at hinv ⊢;rw [yb (by omega),k3 x i,k3 y i,Int.pow_succ];exact SZ g1 hinv
  have oy:∃j:{s:List Int×Int×Nat//s.2.2<=x.length/\s.1.length=x.length/\aS 18446744073709551616 s.1/\(s.2.1=0\/s.2.1=1)/\ak (s.1.take s.2.2)-18446744073709551616^s.2.2*s.2.1=ak (x.take s.2.2)-ak (y.take s.2.2)},x.length-j.1.2.2<x.length-i/\(gh x y (out.set i (dn (x.getD i 0) (y.getD i 0) c)) (eA (x.getD i 0) (y.getD i 0) c) (i+1)).T=(gh x y j.1.1 j.1.2.1 j.1.2.2).T/\(gh x y (out.set i (dn (x.getD i 0) (y.getD i 0) c)) (eA (x.getD i 0) (y.getD i 0) c) (i+1)).H=(gh x y j.1.1 j.1.2.1 j.1.2.2).H:=
   ⟨⟨(out.set i (dn (x.getD i 0) (y.getD i 0) c),eA (x.getD i 0) (y.getD i 0) c,i+1),hlt,by rw [b9];exact ho,iX.set g2,g3,hnext⟩,by simp;omega,rfl,rfl⟩
  by_cases mD:i<y.length
  .rcases hc with rfl |rfl
   .exact bC (s:=gh x y out 0 i) (s':=gh x y (out.set i (dn (x.getD i 0) (y.getD i 0) 0)) (eA (x.getD i 0) (y.getD i 0) 0) (i+1)) hS (aeC x y out i (by omega) (by omega) mD hlt (by omega) (by omega) (by rw [b9]) (by rw [b9]) rfl rfl) oy
   .exact bC (s:=gh x y out 1 i) (s':=gh x y (out.set i (dn (x.getD i 0) (y.getD i 0) 1)) (eA (x.getD i 0) (y.getD i 0) 1) (i+1)) hS (Sx x y out i (by omega) (by omega) mD hlt (by omega) (by omega) (by rw [b9]) (by rw [b9]) rfl rfl) oy
  .rw [Te mD]at oy;rcases hc with rfl |rfl
   .exact bC (s:=gh x y out 0 i) (s':=gh x y (out.set i (dn (x.getD i 0) 0 0)) (eA (x.getD i 0) 0 0) (i+1)) hS (aeD x y out i (by omega) (by omega) hlt (by omega) (by omega) (by rw [b9]) (by rw [b9]) rfl rfl) oy
   .exact bC (s:=gh x y out 1 i) (s':=gh x y (out.set i (dn (x.getD i 0) 0 1)) (eA (x.getD i 0) 0 1) (i+1)) hS (aeE x y out i (by omega) (by omega) hlt (by omega) (by omega) (by rw [b9]) (by rw [b9]) rfl rfl) oy
 .refine bC (s:=gh x y out c i) hS (aeF x y out c i (by omega)) ?_;refine cI (cQ ?_);obtain rfl:i=x.length:=by omega
  have hxl:ak x<18446744073709551616^x.length:=dC (by decide) hx;have mD:ak (y.take x.length)=ak y:=CZ (by decide) hy (show ak y<_ by omega);have hval:ak out=ak x-ak y:=by
   have Ga:=dC (by decide) iX;rw [ho]at Ga;have Ga:ak out<18446744073709551616^x.length:=Ga;rw [dR,mD,eZ (by omega)]at hinv;rcases hc with rfl |rfl
   .omega
   .omega
  rw [<-hval,<-mi iX];refine aW.vU Tg (i:=64) (s:=5) (e2:=167) (t:=aG) (xs:=out) (cap:=bM out.length) (by kernel_rfl) (by kernel_rfl) ?_;refine aW.od Tg (σ:=[]) (s:=F8 out) (aeG x y out c x.length) ?_;exact bY (s:=F8 out) hS (aeH out (by omega))
def aeL (x y:List Int) (h:(k6 x y&&decide (ak y<=ak x))=true):Holds prog false 146 [bJ x,bJ y] (bJ (pM x y)):=by
 unfold k6 at h;simp only [ae,bE]at h;obtain⟨⟨hx,hy,lx,ly⟩,hle⟩:=h;have hx:=ij.1 hx;have hy:=ij.1 hy;have hS:=F9;refine bL (c:=ox) func146 rfl rfl fun w0 F=> ?_
 have e1:(x.length:Int).toNat=x.length:=by omega
 refine cR hS 4 (aeB x y (by omega) (by rw [gO]) (by rw [gO]) (yh _)) ?_;exact aeK hx hy hle lx w0 F
def aeM:Td.Ok prog:=fun⟨x,y,_⟩ h=>aeL x y h
def qQ:=k_a f145
abbrev C7:List Nat:=[1,1,0,1,0,0]
section
variable (a b:List Int)
def mT (k:Nat):bI:={n:=41,sl:=[(0,bJ a),(1,bJ b),(5,iv ((k:Int)-1))],bH:=[],next:=64}
def Gb (k:Nat):bI:={n:=41,sl:=[(0,bJ a),(1,bJ b),(5,iv ((k:Int)-1-1))],bH:=[],next:=64}
def aeN (h1:¬(a.length:Int)=(b.length:Int)) (h2:(a.length:Int)<(b.length:Int)):
  aV (a7 []) (fl qQ []) 3 41 [bJ a,bJ b] 7 f145 true (iv (-1)):=
 wy [aa (fA.mpr h1),ah h2] 129
def aeO (h1:¬(a.length:Int)=(b.length:Int)) (h2:¬(a.length:Int)<(b.length:Int)):
  aV (a7 []) (fl qQ []) 3 41 [bJ a,bJ b] 5 f145 true (iv 1):=
 wy [aa (fA.mpr h1),aF h2] 129
def aeP (h1:(a.length:Int)=(b.length:Int)) (h2:i6 ((a.length:Int)-1)):
  c7 (a7 []) (fl qQ []) 4 41 [bJ a,bJ b] 2 .normal [] (mT a b a.length):=
 wy [aa (ef.mpr h1),yi h2] 129
def aeQ (k:Nat) (h1:(k:Int)-1>=0) (h2:0<=(k:Int)-1) (h3:((k:Int)-1).toNat<a.length) (h4:((k:Int)-1).toNat<b.length) (h5:¬a.getD ((k:Int)-1).toNat 0=b.getD ((k:Int)-1).toNat 0) (h6:a.getD ((k:Int)-1).toNat 0<b.getD ((k:Int)-1).toNat 0):
  bS (a7 []) (fl qQ C7) (mT a b k) 15 f145 true (iv (-1)):=
 wy [ah h1,ah h2,ah h3,aa (aD (v:=af.raw (Value.int IntKind.u64 (a.getD ((k:Int)-(1:Int)).toNat (0:Int))))),ah h4,aa (aD (v:=af.raw (Value.int IntKind.u64 (b.getD ((k:Int)-(1:Int)).toNat (0:Int))))),aa (fA.mpr h5),ah h6] 156579657712784783981949057
def aeR (k:Nat) (h1:(k:Int)-1>=0) (h2:0<=(k:Int)-1) (h3:((k:Int)-1).toNat<a.length) (h4:((k:Int)-1).toNat<b.length) (h5:¬a.getD ((k:Int)-1).toNat 0=b.getD ((k:Int)-1).toNat 0) (h6:¬a.getD ((k:Int)-1).toNat 0<b.getD ((k:Int)-1).toNat 0):
  bS (a7 []) (fl qQ C7) (mT a b k) 11 f145 true (iv 1):=
 wy [ah h1,ah h2,ah h3,aa (aD (v:=af.raw (Value.int IntKind.u64 (a.getD ((k:Int)-(1:Int)).toNat (0:Int))))),ah h4,aa (aD (v:=af.raw (Value.int IntKind.u64 (b.getD ((k:Int)-(1:Int)).toNat (0:Int))))),aa (fA.mpr h5),aF h6] 156579657712784783981949057
def aeS (k:Nat) (h1:(k:Int)-1>=0) (h2:0<=(k:Int)-1) (h3:((k:Int)-1).toNat<a.length) (h4:((k:Int)-1).toNat<b.length) (h5:a.getD ((k:Int)-1).toNat 0=b.getD ((k:Int)-1).toNat 0) (h6:i6 ((k:Int)-1-1)):
  bz (a7 []) (fl qQ C7) (mT a b k) 5 .normal [] (Gb a b k):=
 wy [ah h1,ah h2,ah h3,aa (aD (v:=af.raw (Value.int IntKind.u64 (a.getD ((k:Int)-(1:Int)).toNat (0:Int))))),ah h4,aa (aD (v:=af.raw (Value.int IntKind.u64 (b.getD ((k:Int)-(1:Int)).toNat (0:Int))))),aa (ef.mpr h5),yi h6] 2283003859447937
def aeT (k:Nat) (h1:¬(k:Int)-1>=0):
  bz (a7 []) (fl qQ C7) (mT a b k) 2 (.exit 0) [] (mT a b k):=
 wy [aF h1] 1
def aeU (k:Nat):
  bS (a7 []) ((fl qQ []).drop 5) (mT a b k) 1 f145 true (iv 0):=
 wy [] 0
end
def k7 (x y:Int):Int:=if x<y then-1 else if y<x then 1 else 0
def mU (a b:List Int):Bool:=(gY a&&jG a)&&((gY b&&jG b)&&decide (a.length<=1000000))
def LJ:=IN 145 [.list false aG, .list false aG] [.int .i64] true (fun d=>mU d.1 d.2.1) fun d=>(k7 (ak d.1) (ak d.2.1),())
def gd {l:List Int}:jG l=true↔fk l:=by
 unfold jG;constructor
 .intro h;have h:=ac h;have:=FR l l.length (aK _);obtain⟨m,h1,h2,_⟩:=CY l l.length (aK _);rw [h2,eM]at h;have hm:m=l.length:=by omega
  rw [h2,hm,dR]at this;exact this
 .intro h;rw [SS h];exact Nat.beq_refl _
def Ti {x y:Int} (h:x<y):k7 x y= -1:=by unfold k7;rw [if_pos h]
def Tj {x y:Int} (h:y<x):k7 x y=1:=by unfold k7;rw [if_neg (by omega),if_pos h]
def aeV {x y:Int} (h:x=y):k7 x y=0:=by unfold k7;rw [if_neg (by omega),if_neg (by omega)]
def aeW (a b:List Int) (h:mU a b=true):Holds prog true 145 [bJ a,bJ b] (iv (k7 (ak a) (ak b))):=by
 unfold mU at h;simp only [ae,bE]at h;obtain⟨⟨ha,ta⟩,⟨hb,tb⟩,hl⟩:=h;have ha:=ij.1 ha;have hb:=ij.1 hb;have ta:=gd.1 ta;have tb:=gd.1 tb;refine bL (c:=qQ) func145 rfl rfl fun w0 F=> ?_
 by_cases hab:a.length=b.length
 .refine cR cC 4 (aeP a b (by omega) (by omega)) ?_;refine aW.loop (ι:={k:Nat//k<=a.length/\∀j,k<=j->j<a.length->a.getD j 0=b.getD j 0}) (id:=0) (b:=cat qQ C7) (rest:=(fl qQ []).drop 5) (by kernel_rfl) (fun k=>mT a b k.1) (fun k=>k.1) ⟨a.length,aK _,fun j h1 h2=>by omega⟩ (fun _=>rfl) ?_;rintro⟨k,hk,heq⟩;cases k with
  |zero=>
   refine bC (s:=mT a b 0) cC (aeT a b 0 (by omega)) ?_;refine cI (cQ ?_);have e:a=b:=by
    refine List.ext_getElem hab fun j h1 h2=> ?_
    have:=heq j (Nat.zero_le _) h1;rwa [uh h1,uh h2]at this
   rw [aeV (show ak a=ak b by rw [e])];exact bY (s:=mT a b 0) cC (aeU a b 0)
  |succ k=>
   have e0:(((k+1:Nat):Int)-1).toNat=k:=by omega
   have e1:Gb a b (k+1)=mT a b k:=by
    unfold Gb mT;rw [show(((k+1:Nat):Int)-1-1)=(k:Int)-1 by omega]
   have hka:k<a.length:=by omega
   by_cases h1:a.getD k 0=b.getD k 0
   .refine bC (s:=mT a b (k+1)) (s':=Gb a b (k+1)) cC (aeS a b (k+1) (by omega) (by omega) (by omega) (by omega) (by rw [e0];exact h1) (by omega)) ?_;rw [e1];exact⟨⟨k,by omega,fun j g1 g2=>by
     by_cases hj:j=k
     .rw [hj];exact h1
     .exact heq j (by omega) g2⟩,by simp,rfl,rfl⟩
   .by_cases h2:a.getD k 0<b.getD k 0
    .rw [Ti (show ak a<ak b from FT C5 ha hb hab hka h2 fun j g1 g2=>heq j (by omega) g2)];exact bY (s:=mT a b (k+1)) cC (aeQ a b (k+1) (by omega) (by omega) (by omega) (by omega) (by rw [e0];exact h1) (by rw [e0];exact h2))
    .rw [Tj (show ak b<ak a from FT C5 hb ha hab.symm (by omega) (show b.getD k 0<a.getD k 0 by omega) fun j g1 g2=>(heq j (by omega) (by omega)).symm)];exact bY (s:=mT a b (k+1)) cC (aeR a b (k+1) (by omega) (by omega) (by omega) (by omega) (by rw [e0];exact h1) (by rw [e0];exact h2))
 .by_cases hlt:a.length<b.length
  .rw [Ti (show ak a<ak b from ib C5 ha hb tb hlt)];exact aY cC 3 (aeN a b (by omega) (by omega))
  .rw [Tj (show ak b<ak a from ib C5 hb ha ta (by omega))];exact aY cC 3 (aeO a b (by omega) (by omega))
def Tk:LJ.Ok prog:=fun⟨a,b,_⟩ h=>aeW a b h
end
end Go.Proofs.YtibikmmdbdlafaaGreatDoor
