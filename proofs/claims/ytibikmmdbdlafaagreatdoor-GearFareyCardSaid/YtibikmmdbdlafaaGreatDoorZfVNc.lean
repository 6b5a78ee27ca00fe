import Derived.Test.YtibikmmdbdlafaaGreatDoorZfSvGive
set_option linter.defProp false
set_option linter.unusedSimpArgs false
set_option linter.unusedVariables false
set_option maxRecDepth 100000
namespace Go.Proofs.YtibikmmdbdlafaaGreatDoor
open Go.RowKit Sv Go.Proofs.Tryz
noncomputable section
abbrev mF (j:Nat) (l:List Int):af:= .bT 3 (.int .i64) j 0 l.length (bK l.length)
abbrev mG (l:List Int):fE:= .opt 3 (.int .i64) l
abbrev j5:av:= .pair .bool (.list false (.int .i64))
abbrev rv (a:Bool×List Int):af:= .agg [bv a.1,lv a.2]
def vY:=k_a f184
def LF:=k_a f132
def v7:=k_a f71
def qO:=k_a f134
def LG:=k_a f186
section
variable (l:List Int)
def ag:Int:=vl 1000000000 l
def Ay:Bool:=l.all fun x=>decide (0<=x)&&decide (x<1000000000)
def ei:List Int:=fg l l.length
def LH:Bool:=Nat.beq (ei l).length l.length
end
noncomputable def aG (z:Int):List Int:=cQ 1000000000 z
def okA (l:List Int):Bool:=Ay l&&(LH l&&decide (l.length<=100000))
def okB (l:List Int):Bool:=Ay l&&decide (l.length<=300000)
def lK (w:List Int):bH:={n:=21,sl:=[(0,lv w)],bJ:=[],next:=64}
abbrev FX:List Nat:=[1,0,0,0]
section
variable (w:List Int)
def ad0:
  dy (a8 []) (fl vY []) 1 21 [lv w] 1 .normal [] (lK w):=
 wy [] 0
def ad1 (h1:(w.length:Int)>0) (h2:i6 ((w.length:Int)-1)) (h3:0<=(w.length:Int)-1) (h4:((w.length:Int)-1).toNat<w.length) (h5:w.getD ((w.length:Int)-1).toNat 0=0) (h6:((w.take ((w.length:Int)-1).toNat).drop 0)=(w.take (w.length-1))):
  bB (a8 []) (fl vY FX) (lK w) 1023 .normal [] (lK (w.take (w.length-1))):=
 wy [aa (aL (ay h1)),yi h2,ah h3,ah h4,ah h1,cT h5,ah (by omega:((w.length:Int)-(1:Int)).toNat<=w.length),ax h6] 642491796976714818348818632769
def ad2 (h1:(w.length:Int)>0) (h2:i6 ((w.length:Int)-1)) (h3:0<=(w.length:Int)-1) (h4:((w.length:Int)-1).toNat<w.length) (h5:¬w.getD ((w.length:Int)-1).toNat 0=0):
  bB (a8 []) (fl vY FX) (lK w) 767 (.exit 0) [] (lK w):=
 wy [aa (aL (ay h1)),yi h2,ah h3,ah h4,ah h1,yn h5] 448504778965001703489
def ad3 (h1:¬(w.length:Int)>0):
  bB (a8 []) (fl vY FX) (lK w) 512 (.exit 0) [] (lK w):=
 wy [aa (aL (ab h1)),aK h1] 8865903284289
def Tg:
  bW (a8 []) ((fl vY []).drop 2) (lK w) 1 f184 false (lv w):=
 wy [] 0
end
def FY:=IN 184 [.list false (.int .i64)] [.list false (.int .i64)] false (fun d=>decide (List.length (α:=Int) d.1<=1000000)) fun d=>(ei d.1,())
noncomputable def LI:bG:=og [FY] (a8 [])
def ad4 (w:List Int) (h1:w.length<=1000000) (h2:(decide ((↑(ei w).length:Int)>0))=(decide (0<(↑(ei w).length:Int)))):
  bf LI (fl LF []) 9 15 [bv true,lv w] 31 f132 false (.agg [bv (decide (0<((ei w).length:Int))),lv (ei w)]):=
 wy [ah h1,ax h2] 2147483649
def ad5 (w:List Int) (h1:w.length<=1000000):
  bf LI (fl LF []) 9 15 [bv false,lv w] 16 f132 false (.agg [bv false,lv (ei w)]):=
 wy [ah h1] 1
section
variable (a b:List Int) (h1:¬(a.length:Int)=(b.length:Int))
def ad6 (h2:(a.length:Int)<(b.length:Int)):
  bf (a8 []) (fl qO []) 3 41 [lv a,lv b] 7 f134 true (iv (-1)):=
 wy [aa (gz.mpr h1),ah h2] 129
def ad7 (h2:¬(a.length:Int)<(b.length:Int)):
  bf (a8 []) (fl qO []) 3 41 [lv a,lv b] 5 f134 true (iv 1):=
 wy [aa (gz.mpr h1),aK h2] 129
end
def mH (a b:List Int) (k:Nat):bH:={n:=41,sl:=[(0,lv a),(1,lv b),(5,iv ((k:Int)-1))],bJ:=[],next:=64}
def FZ (a b:List Int) (k:Nat):bH:={n:=41,sl:=[(0,lv a),(1,lv b),(5,iv ((k:Int)-1-1))],bJ:=[],next:=64}
abbrev C4:List Nat:=[1,1,0,1,0,0]
section
variable (a b:List Int)
def Kx (h1:(a.length:Int)=(b.length:Int)) (h2:i6 ((a.length:Int)-1)):
  dy (a8 []) (fl qO []) 4 41 [lv a,lv b] 2 .normal [] (mH a b a.length):=
 wy [aa (eF.mpr h1),yi h2] 129
def ad8 (k:Nat) (h1:(k:Int)-1>=0) (h2:0<=(k:Int)-1) (h3:((k:Int)-1).toNat<a.length) (h4:((k:Int)-1).toNat<b.length) (h5:a.getD ((k:Int)-1).toNat 0<b.getD ((k:Int)-1).toNat 0):
  bW (a8 []) (fl qO C4) (mH a b k) 7 f134 true (iv (-1)):=
 wy [ah h1,ah h2,ah h3,aa (aF (v:=iv (a.getD ((k:Int)-(1:Int)).toNat (0:Int)))),ah h4,aa (aF (v:=iv (b.getD ((k:Int)-(1:Int)).toNat (0:Int)))),ah h5] 31204045762689
def ad9 (k:Nat) (h1:(k:Int)-1>=0) (h2:0<=(k:Int)-1) (h3:((k:Int)-1).toNat<a.length) (h4:((k:Int)-1).toNat<b.length) (h5:¬a.getD ((k:Int)-1).toNat 0<b.getD ((k:Int)-1).toNat 0) (h6:a.getD ((k:Int)-1).toNat 0>b.getD ((k:Int)-1).toNat 0):
  bW (a8 []) (fl qO C4) (mH a b k) 13 f134 true (iv 1):=
 wy [ah h1,ah h2,ah h3,aa (aF (v:=iv (a.getD ((k:Int)-(1:Int)).toNat (0:Int)))),ah h4,aa (aF (v:=iv (b.getD ((k:Int)-(1:Int)).toNat (0:Int)))),aK h5,ah h6] 156579657712784783981949057
def aea (k:Nat) (h1:(k:Int)-1>=0) (h2:0<=(k:Int)-1) (h3:((k:Int)-1).toNat<a.length) (h4:((k:Int)-1).toNat<b.length) (h5:¬a.getD ((k:Int)-1).toNat 0<b.getD ((k:Int)-1).toNat 0) (h6:¬a.getD ((k:Int)-1).toNat 0>b.getD ((k:Int)-1).toNat 0) (h7:i6 ((k:Int)-1-1)):
  bB (a8 []) (fl qO C4) (mH a b k) 9 .normal [] (FZ a b k):=
 wy [ah h1,ah h2,ah h3,aa (aF (v:=iv (a.getD ((k:Int)-(1:Int)).toNat (0:Int)))),ah h4,aa (aF (v:=iv (b.getD ((k:Int)-(1:Int)).toNat (0:Int)))),aK h5,aK h6,yi h7] 11298040011281207258074067073
def aeb (k:Nat) (h1:¬(k:Int)-1>=0):
  bB (a8 []) (fl qO C4) (mH a b k) 2 (.exit 0) [] (mH a b k):=
 wy [aK h1] 1
def aec (k:Nat):
  bW (a8 []) ((fl qO []).drop 5) (mH a b k) 1 f134 true (iv 0):=
 wy [] 0
end
def aed (a:List Int) (k:Nat) (h1:(k:Int)<(a.length:Int)) (h2:k<a.length):
  bf (a8 []) (fl LG []) 9 13 [lv a,iv k] 3 f186 true (iv (a.getD k 0)):=
 wy [ah h1,ah h2] 8193
def aee (a:List Int) (k:Int) (h1:¬k<(a.length:Int)):
  bf (a8 []) (fl LG []) 9 13 [lv a,iv k] 2 f186 true (iv 0):=
 wy [aK h1] 1
def kR (x y:Int):Int:=if x<y then-1 else if y<x then 1 else 0
def bX (a:List Int) (k:Int):Int:=a.getD k.toNat 0
def LJ:=IN 134 [.list false (.int .i64), .list false (.int .i64)] [.int .i64] true (fun d=>okA d.1&&okA d.2.1) fun d=>(kR (ag d.1) (ag d.2.1),())
def Th:=IN 186 [.list false (.int .i64), .int .i64] [.int .i64] true (fun d=>decide (0<=d.2.1)) fun d=>(bX d.1 d.2.1,())
noncomputable def mkR (z:Int):Bool×List Int:=(decide (z<0),aG (z.natAbs:Int))
def bn (neg:Bool) (v:Int):Int:=match neg with |true=> -v|false=>v
abbrev Ti:fE:= .blk (.cells 97 [bv false, .raw (.slice none 0 0)] true false false)
def kS (n:Int) (neg:Bool) (w:List Int):bH:={n:=25,sl:=[(0,iv n),(2, .ptr 64 0),(3,mF 65 w),(4,bv neg)],bJ:=[(64,Ti),(65,mG w)],next:=66}
abbrev F0:List Nat:=[1,1,1,0,0,0]
def C5:=IN 132 [.bool, .list false (.int .i64)] [j5] false (fun d=>okB d.2.1) fun d=>(mkR (bn d.1 (ag d.2.1)),())
def aef (l:List Int) (hl:l.length<=1000000):Holds prog false 184 [lv l] (lv (ei l)):=by
 refine bL (c:=vY) func184 rfl rfl fun w0 F=> ?_
 refine cP cz 1 (ad0 l) ?_;have aeg:lK l=lK (l.take l.length):=by rw [dI]
 rw [aeg];refine aW.loop (ι:={k:Nat//k<=l.length/\fg l k=ei l}) (id:=0) (b:=cat vY FX) (rest:=(fl vY []).drop 2) (by kernel_rfl) (fun k=>lK (l.take k.1)) (fun k=>k.1) ⟨l.length,aJ _,rfl⟩ (fun _=>rfl) ?_;rintro⟨k,hk,hv⟩;have hk:k<=l.length:=hk;have lk:(l.take k).length=k:=by rw [eE];omega
 cases k with
 |zero=>
  refine bE (s:=lK (l.take 0)) cz (ad3 _ ω) ?_;refine cG (cO ?_);have e:ei l=l.take 0:=by rw [<-hv];rfl
  rw [e];exact b5 (s:=lK (l.take 0)) cz (Tg _)
 |succ k=>
  have e0:((((l.take (k+1)).length:Nat):Int)-1).toNat=k:=by omega
  have e1:(l.take (k+1)).getD k 0=l.getD k 0:=by simp [ao,List.getElem?_take]
  have e2:(l.take (k+1)).take ((l.take (k+1)).length-1)=l.take k:=by rw [lk,List.take_take];congr 1;omega
  by_cases hz:l.getD k 0=0
  .refine bE (s:=lK (l.take (k+1))) cz (ad1 _ ω ω ω ω (by rw [e0,e1];exact hz) (by rw [e0,lk,List.drop_zero,Nat.add_sub_cancel])) ?_;have iM:fg l k=ei l:=by rw [<-hv,fg,if_pos hz]
   rw [e2];exact⟨⟨k,by omega,iM⟩,fB _,rfl,rfl⟩
  .refine bE (s:=lK (l.take (k+1))) cz (ad2 _ ω ω ω ω (by rw [e0,e1];exact hz)) ?_;refine cG (cO ?_);have e:ei l=l.take (k+1):=by rw [<-hv,fg,if_neg hz]
   rw [e];exact b5 (s:=lK (l.take (k+1))) cz (Tg _)
def LK:FY.Ok prog:=fun⟨l,_⟩ h=>aef l (ap h)
def Tj:bD prog (bF LI):=uf (fun c hc=>by
 simp only [ek,jO,or_false]at hc;obtain rfl:=hc;exact LK) cz
def kT:(1:Int)<1000000000:=by decide
section
variable {l:List Int}
def C6:Ay l=true↔aS 1000000000 l:=by
 unfold Ay aS;simp only [List.all_eq_true,ae,bA]
def aeh:LH l=true↔e9 l:=by
 unfold LH ei;constructor
 .intro h;have h:=ac h;have:=FR l l.length (aJ _);obtain⟨m,h1,h2,_⟩:=C0 l l.length (aJ _);rw [h2,eE]at h;have hm:m=l.length:=by omega
  rw [h2,hm,dI]at this;exact this
 .intro h;rw [S4 h];exact Nat.beq_refl _
def fk:okA l=true↔aS 1000000000 l/\e9 l/\l.length<=100000:=by
 unfold okA;rw [ae,ae,C6,aeh,bA]
def oh:okB l=true↔aS 1000000000 l/\l.length<=300000:=by
 unfold okB;rw [ae,C6,bA]
def yj (h:aS 1000000000 l):ei l=aG (ag l):=by
 refine fp kT (S3 h _ (aJ _)) (FR l _ (aJ _)) ?_;unfold ei ag;rw [Lu l _ (aJ _),dI]
def F1 (h:aS 1000000000 l) (ht:e9 l):aG (ag l)=l:=(fp kT h ht rfl).symm
end
def gx {z:Int} (h:0<=z):aS 1000000000 (aG z)/\e9 (aG z)/\ag (aG z)=z:=qN kT h
def Az {z:Int} (h:0<=z):aG z=[]↔z=0:=by
 obtain⟨h1,h2,h3⟩:=gx h;rw [<-FU kT h1 h2];show ag (aG z)=0↔_;rw [h3]
def gD {l:List Int} (h:aS 1000000000 l):0<=ag l:=gh δ h
def aei (neg:Bool) (w:List Int) (h:okB w=true):Holds prog false 132 [bv neg,lv w] (rv (mkR (bn neg (ag w)))):=by
 obtain⟨hd,hl⟩:=oh.1 h;have hn:=gD hd;have et:=yj hd;refine bL (c:=LF) func132 rfl rfl fun w0 F=> ?_
 cases neg with
 |true=>
  have e:mkR (bn true (ag w))=(decide ((0:Int)<((ei w).length:Int)),ei w):=by
   show(decide (-ag w<0),aG ((-ag w).natAbs:Int))=_;rw [et,show((-ag w).natAbs:Int)=ag w by omega];congr 1;have hz:=Az hn;by_cases h0:ag w=0
   .have:aG (ag w)=[]:=hz.2 h0;rw [this,h0];rfl
   .have:aG (ag w)≠[]:=fun h=>h0 (hz.1 h)
    have:=List.length_pos_iff.2 this;rw [ay ω,ay ω]
  rw [e];exact bg Tj 9 (ad4 w ω rfl)
 |false=>
  have e:mkR (bn false (ag w))=(false,ei w):=by
   show(decide (ag w<0),aG ((ag w).natAbs:Int))=_;rw [et,show((ag w).natAbs:Int)=ag w by omega,ab ω]
  rw [e];exact bg Tj 9 (ad5 w ω)
def F2:C5.Ok prog:=fun⟨neg,w,_⟩ h=>aei neg w h
def Tk {x y:Int} (h:x<y):kR x y= -1:=by unfold kR;rw [if_pos h]
def Tl {x y:Int} (h:y<x):kR x y=1:=by unfold kR;rw [if_neg ω,if_pos h]
def aej {x y:Int} (h:x=y):kR x y=0:=by unfold kR;rw [if_neg ω,if_neg ω]
def aek (a b:List Int) (h:okA a=true) (g:okA b=true):Holds prog true 134 [lv a,lv b] (iv (kR (ag a) (ag b))):=by
 obtain⟨ha,ta,la⟩:=fk.1 h;obtain⟨hb,tb,lb⟩:=fk.1 g;refine bL (c:=qO) func134 rfl rfl fun w0 F=> ?_
 by_cases hab:a.length=b.length
 .refine cP cz 4 (Kx a b ω ω) ?_;refine aW.loop (ι:={k:Nat//k<=a.length/\∀j,k<=j->j<a.length->a.getD j 0=b.getD j 0}) (id:=0) (b:=cat qO C4) (rest:=(fl qO []).drop 5) (by kernel_rfl) (fun k=>mH a b k.1) (fun k=>k.1) ⟨a.length,aJ _,fun j h1 h2=>by omega⟩ (fun _=>rfl) ?_;rintro⟨k,hk,heq⟩;cases k with
  |zero=>
   refine bE (s:=mH a b 0) cz (aeb a b 0 ω) ?_;refine cG (cO ?_);have e:a=b:=by
    refine List.ext_getElem hab fun j h1 h2=> ?_
    have:=heq j (Nat.zero_le _) h1;rwa [ue h1,ue h2]at this
   rw [aej (show ag a=ag b by rw [e])];exact b5 (s:=mH a b 0) cz (aec a b 0)
  |succ k=>
   have e0:(((k+1:Nat):Int)-1).toNat=k:=by omega
   have e1:FZ a b (k+1)=mH a b k:=by
    unfold FZ mH;rw [show(((k+1:Nat):Int)-1-1)=(k:Int)-1 by omega]
   have hka:k<a.length:=by omega
   by_cases h2:a.getD k 0<b.getD k 0
   .rw [Tk (show ag a<ag b from FT kT ha hb hab hka h2 fun j g1 g2=>heq j ω g2)];exact b5 (s:=mH a b (k+1)) cz (ad8 a b (k+1) ω ω ω ω (by rw [e0];exact h2))
   .by_cases h3:a.getD k 0>b.getD k 0
    .rw [Tl (show ag b<ag a from FT kT hb ha hab.symm ω (show b.getD k 0<a.getD k 0 by omega) fun j g1 g2=>(heq j ω ω).symm)];exact b5 (s:=mH a b (k+1)) cz (ad9 a b (k+1) ω ω ω ω (by rw [e0];exact h2) (by rw [e0];exact h3))
    .refine bE (s:=mH a b (k+1)) (s':=FZ a b (k+1)) cz (aea a b (k+1) ω ω ω ω (by rw [e0];exact h2) (by rw [e0];exact h3) ω) ?_;rw [e1];exact⟨⟨k,by omega,fun j g1 g2=>by
      by_cases hj:j=k
      .rw [hj];omega
      .exact heq j ω g2⟩,fB _,rfl,rfl⟩
 .by_cases hlt:a.length<b.length
  .rw [Tk (show ag a<ag b from vW kT ha hb tb hlt)];exact bg cz 3 (ad6 a b ω ω)
  .rw [Tl (show ag b<ag a from vW kT hb ha ta ω)];exact bg cz 3 (ad7 a b ω ω)
def Tm:LJ.Ok prog:=fun⟨a,b,_⟩ h=>by
 have h:(okA a&&okA b)=true:=h;rw [ae]at h;exact aek a b h.1 h.2
def ael:Th.Ok prog:=fun⟨a,k,_⟩ h=>by
 have h0:(0:Int)<=k:=ap h;obtain⟨n,rfl⟩:=Int.eq_ofNat_of_zero_le h0;show Holds prog true 186 [lv a,iv n] (iv (a.getD (n:Int).toNat 0));rw [Int.toNat_natCast];refine bL (c:=LG) func186 rfl rfl fun w0 F=> ?_
 by_cases h1:n<a.length
 .exact bg cz 9 (aed a n ω h1)
 .rw [show a.getD n 0=0 by rw [ao,List.getElem?_eq_none ω];rfl];exact bg cz 9 (aee a n ω)
noncomputable def AA:bG:=og [C5] (a8 [])
def aem (n:Int):
  dy AA (fl v7 []) 3 25 [iv n] 1 .normal [(64,64,none)] (kS n (decide (n<0)) []):=
 wy [] 0
section
variable (n:Int) (neg:Bool) (w:List Int)
def aen (h1:¬n=0) (h2:¬Int.tmod n 1000000000<0) (h3:w.length+1<=1000000) (h4:i6 (Int.tdiv n 1000000000)) (h5:(w.length+1)=(w++[Int.tmod n 1000000000]).length) (h6:(aZ.full)=(bK (w++[Int.tmod n 1000000000]).length)):
  bB AA (fl v7 F0) (kS n neg w) 9 .normal [(64,64,none),(65,67,none)] (kS (Int.tdiv n 1000000000) neg (w++[Int.tmod n 1000000000])):=
 wy [aa (gz.mpr h1),aK h2,yk 3 (.int .i64) w,lJ 8 h3,yi h4,ax h5,ax h6,od 3 (.int .i64) (Eq.refl (w++[Int.tmod n (1000000000:Int)]))] 40564821351257725478366412283905
def aeo (h1:¬n=0) (h2:Int.tmod n 1000000000<0) (h3:i6 (0-Int.tmod n 1000000000)) (h4:w.length+1<=1000000) (h5:i6 (Int.tdiv n 1000000000)) (h6:(w.length+1)=(w++[0-Int.tmod n 1000000000]).length) (h7:(aZ.full)=(bK (w++[0-Int.tmod n 1000000000]).length)):
  bB AA (fl v7 F0) (kS n neg w) 11 .normal [(64,64,none),(65,67,none)] (kS (Int.tdiv n 1000000000) neg (w++[0-Int.tmod n 1000000000])):=
 wy [aa (gz.mpr h1),ah h2,yi h3,yk 3 (.int .i64) w,lJ 8 h4,yi h5,ax h6,ax h7,od 3 (.int .i64) (Eq.refl (w++[(0:Int)-Int.tmod n (1000000000:Int)]))] 2920667139783965744155195771461633
def aep (h1:n=0):
  bB AA (fl v7 F0) (kS n neg w) 2 (.exit 0) [(64,64,none),(65,65,none)] (kS n neg w):=
 wy [aa (eF.mpr h1)] 1
def aeq (h1:(Nat.beq w.length 0||bz 3 (.int .i64) (a7 3 (.int .i64) w) (w.length-1))=true) (h2:(okB ((w.drop 0).take w.length))=true):
  bW AA ((fl v7 []).drop 4) (kS n neg w) 1 f71 false (rv (mkR (bn neg (ag ((w.drop 0).take w.length))))):=
 wy [aa (show(Nat.beq w.length (0:Nat)||bz 3 (.int .i64) (a7 3 (.int .i64) w) ((0:Nat)+w.length-(1:Nat)))=true from(by simp only [aw]<;>exact h1)),aa (show(okB (((bQ (.int .i64) (a7 3 (.int .i64) w)).drop (0:Nat)).take w.length))=true from(by simp only [ey]<;>exact h2)),ax (show((mkR (bn neg (ag (((bQ (.int .i64) (a7 3 (.int .i64) w)).drop (0:Nat)).take w.length)))).1)=((mkR (bn neg (ag ((w.drop (0:Nat)).take w.length)))).1)from(by simp only [ey]<;>rfl)),ax (show((mkR (bn neg (ag (((bQ (.int .i64) (a7 3 (.int .i64) w)).drop (0:Nat)).take w.length)))).2)=((mkR (bn neg (ag ((w.drop (0:Nat)).take w.length)))).2)from(by simp only [ey]<;>rfl))] 1060993
end
def LL:=IN 71 [.int .i64] [j5] false (fun d=>decide (-9223372036854775808<=d.1)&&decide (d.1<=9223372036854775807)) fun d=>(mkR d.1,())
def aer:bD prog (bF AA):=uf (fun c hc=>by
 simp only [ek,jO,or_false]at hc;obtain rfl:=hc;exact F2) cz
def ug {α:Type} (l:List α) (x:α):aZ.full=bK (l++[x]).length:=by simp [bK]
def qP {α:Type} (l:List α) (x:α):l.length+1=(l++[x]).length:=by simp
def AB (e:TypeId) (l:List Int):(Nat.beq l.length 0||bz e (.int .i64) (a7 e (.int .i64) l) (l.length-1))=true:=by
 by_cases h:l.length=0
 .rw [h];rfl
 .rw [EF,ay (show l.length-1<l.length by omega),Bool.or_true]
def aes {n:Int} (h0:n≠0):∃d,(if Int.tmod n 1000000000<0 then 0-Int.tmod n 1000000000 else Int.tmod n 1000000000)=d/\0<=d/\d<1000000000/\((Int.tdiv n 1000000000).natAbs:Int)*1000000000+d=n.natAbs/\(Int.tdiv n 1000000000).natAbs<n.natAbs/\(Int.tdiv n 1000000000<0->n<0)/\(0<Int.tdiv n 1000000000->0<n):=by
 refine⟨_,rfl, ?_⟩;rcases Int.lt_or_le n 0 with hn|hn
 .have e1:Int.tdiv n 1000000000= -((-n)/1000000000):=by
   have h:=Int.neg_tdiv (a:= -n) (b:=1000000000);rw [Int.neg_neg]at h;rw [h,Int.tdiv_eq_ediv_of_nonneg (show 0<= -n by omega)]
  have e2:Int.tmod n 1000000000= -((-n)%1000000000):=by
   have h:=Int.neg_tmod (a:= -n) (b:=1000000000);rw [Int.neg_neg]at h;rw [h,Int.tmod_eq_emod_of_nonneg (show 0<= -n by omega)]
  rw [e1,e2];split<;>omega
 .rw [Int.tdiv_eq_ediv_of_nonneg hn,Int.tmod_eq_emod_of_nonneg hn];rw [if_neg ω];omega
def aet (n0:Int) (hl: -9223372036854775808<=n0) (hh:n0<=9223372036854775807):Holds prog false 71 [iv n0] (rv (mkR n0)):=by
 have hS:=aer;refine bL (c:=v7) func71 rfl rfl fun w0 F=> ?_
 refine cP hS 3 (aem n0) ?_;refine aW.loop (ι:={s:Int×List Int// -9223372036854775808<=s.1/\s.1<=9223372036854775807/\aS 1000000000 s.2/\(s.1.natAbs:Int)<1000000000^(4-s.2.length)/\s.2.length<=4/\ag s.2+1000000000^s.2.length*(s.1.natAbs:Int)=n0.natAbs}) (id:=0) (b:=cat v7 F0) (rest:=(fl v7 []).drop 4) (by kernel_rfl) (fun s=>kS s.1.1 (decide (n0<0)) s.1.2) (fun s=>s.1.1.natAbs) ⟨(n0,[]),hl,hh, .nil,by show(n0.natAbs:Int)<1000000000^4;omega,by simp,by show(0:Int)+1*_=_;omega⟩ (fun _=>rfl) ?_;rintro⟨⟨n,w⟩,b1,b2,b3,gu,F3,yl⟩;have b1: -9223372036854775808<=n:=b1;have b2:n<=9223372036854775807:=b2;have b3:aS 1000000000 w:=b3;have gu:(n.natAbs:Int)<1000000000^(4-w.length):=gu;have F3:w.length<=4:=F3;have yl:ag w+1000000000^w.length*(n.natAbs:Int)=n0.natAbs:=yl;by_cases h0:n=0
 .refine bE (s:=kS n (decide (n0<0)) w) hS (aep n _ w h0) ?_;refine cG (cO ?_);have hv:ag w=n0.natAbs:=by rw [h0]at yl;simpa using yl
  have key:=aeq n (decide (n0<0)) w;rw [List.drop_zero,dI]at key;have e:mkR (bn (decide (n0<0)) (ag w))=mkR n0:=by
   rw [hv];by_cases hn:n0<0
   .rw [ay hn];show mkR (-(n0.natAbs:Int))=_;congr 1;omega
   .rw [ab hn];show mkR (n0.natAbs:Int)=_;congr 1;omega
  rw [e]at key;exact b5 (s:=kS n (decide (n0<0)) w) hS (key (AB _ w) (oh.2 ⟨b3,by omega⟩))
 .obtain⟨d,d1,d2,d3,d4,d5,d6,d7⟩:=aes h0;have aub:w.length<4:=by
   rcases Nat.lt_or_ge w.length 4 with h|h
   .exact h
   .have:4-w.length=0:=by omega
    rw [this]at gu;simp at gu;omega
  have hp:(1000000000:Int)^(4-w.length)=1000000000^(4-(w.length+1))*1000000000:=by rw [<-Int.pow_succ];congr 1;omega
  have uh:∃j:{s:Int×List Int// -9223372036854775808<=s.1/\s.1<=9223372036854775807/\aS 1000000000 s.2/\(s.1.natAbs:Int)<1000000000^(4-s.2.length)/\s.2.length<=4/\ag s.2+1000000000^s.2.length*(s.1.natAbs:Int)=n0.natAbs},j.1.1.natAbs<n.natAbs/\(kS (Int.tdiv n 1000000000) (decide (n0<0)) (w++[d])).T=(kS j.1.1 (decide (n0<0)) j.1.2).T/\(kS (Int.tdiv n 1000000000) (decide (n0<0)) (w++[d])).H=(kS j.1.1 (decide (n0<0)) j.1.2).H:=by
   refine⟨⟨(Int.tdiv n 1000000000,w++[d]),by show _<=Int.tdiv n _;omega,by show Int.tdiv n _<=_;omega,b3.app (.cons ⟨d2,d3⟩ .nil), ?_,by show(w++[d]).length<=4;simp;omega, ?_⟩,d5,rfl,rfl⟩
   .show((Int.tdiv n 1000000000).natAbs:Int)<1000000000^(4-(w++[d]).length);rw [<-qP];rw [hp]at gu;omega
   .show ag (w++[d])+1000000000^(w++[d]).length*((Int.tdiv n 1000000000).natAbs:Int)=_;have ev:ag (w++[d])=ag w+1000000000^w.length*d:=yc _ _ _;rw [<-qP,ev,Int.pow_succ,<-yl,<-d4];grind
  by_cases hm:Int.tmod n 1000000000<0
  .rw [if_pos hm]at d1;subst d1;exact bE (s:=kS n (decide (n0<0)) w) hS (aeo n _ w h0 hm ω ω ω (qP _ _) (ug _ _)) uh
  .rw [if_neg hm]at d1;subst d1;exact bE (s:=kS n (decide (n0<0)) w) hS (aen n _ w h0 hm ω ω (qP _ _) (ug _ _)) uh
def Tn:LL.Ok prog:=fun⟨n,_⟩ h=>by
 have h:(decide (-9223372036854775808<=n)&&decide (n<=9223372036854775807))=true:=h;rw [ae]at h;exact aet n (ap h.1) (ap h.2)
abbrev aE:av:= .int .u64
abbrev cr (x:Int):af:= .raw (.int .u64 x)
abbrev bI (l:List Int):af:= .bt false aE l
abbrev qQ (j:Nat) (l:List Int):af:= .bT 167 aE j 0 l.length (bK l.length)
section
variable (l:List Int)
abbrev qR:fE:= .opt 167 aE l
def gO:Bool:=l.all fun x=>decide (0<=x)&&decide (x<18446744073709551616)
def jz:Bool:=Nat.beq (fg l l.length).length l.length
def ak:Int:=vl 18446744073709551616 l
end
def v8:=k_a f188
def dK (l:List Int):List Int:=fg l l.length
section
variable (w:List Int)
def i7 (n:Nat):bH:={n:=21,sl:=[(0,bI w),(3,iv n)],bJ:=[],next:=64}
def F4 (n:Nat):bH:={n:=21,sl:=[(0,bI w),(3,iv ((n:Int)-1))],bJ:=[],next:=64}
def aeu:
  dy (a8 []) (fl v8 []) 2 21 [bI w] 1 .normal [] (i7 w w.length):=
 wy [] 0
def aev (n:Nat) (h1:(n:Int)>0) (h2:i6 ((n:Int)-1)) (h3:0<=(n:Int)-1) (h4:((n:Int)-1).toNat<w.length) (h5:w.getD ((n:Int)-1).toNat 0=0):
  bB (a8 []) (fl v8 [1,1,0,0,0]) (i7 w n) 511 .normal [] (F4 w n):=
 wy [aa (aL (ay h1)),yi h2,ah h3,ah h4,ah h1,cT h5] 154581839761004564545
def aew (n:Nat) (h1:(n:Int)>0) (h2:i6 ((n:Int)-1)) (h3:0<=(n:Int)-1) (h4:((n:Int)-1).toNat<w.length) (h5:¬w.getD ((n:Int)-1).toNat 0=0):
  bB (a8 []) (fl v8 [1,1,0,0,0]) (i7 w n) 383 (.exit 0) [] (i7 w n):=
 wy [aa (aL (ay h1)),yi h2,ah h3,ah h4,ah h1,yn h5] 7007887171328151617
def aex (n:Nat) (h1:¬(n:Int)>0):
  bB (a8 []) (fl v8 [1,1,0,0,0]) (i7 w n) 256 (.exit 0) [] (i7 w n):=
 wy [aa (aL (ab h1)),aK h1] 138529738817
def To (n:Nat) (h1:n<=w.length) (h2:((w.take n).drop 0)=(w.take n)):
  bW (a8 []) ((fl v8 []).drop 3) (i7 w n) 1 f188 false (bI (w.take n)):=
 wy [ah h1,ax h2] 528384
end
def F5:=IN 188 [.list false aE] [.list false aE] false (fun d=>decide (List.length (α:=Int) d.1<=1000000)) fun d=>(dK d.1,())
def aey (w:List Int) (hl:w.length<=1000000):Holds prog false 188 [bI w] (bI (dK w)):=by
 refine bL (c:=v8) func188 rfl rfl fun w0 F=> ?_
 refine cP cz 2 (aeu w) ?_;refine aW.loop (ι:={n:Nat//n<=w.length/\fg w n=dK w}) (id:=0) (b:=cat v8 [1,1,0,0,0]) (rest:=(fl v8 []).drop 3) (by kernel_rfl) (fun n=>i7 w n.1) (fun n=>n.1) ⟨w.length,aJ _,rfl⟩ (fun _=>rfl) ?_;rintro⟨n,hn,hv⟩;cases n with
 |zero=>
  refine bE (s:=i7 w 0) cz (aex w 0 ω) ?_;refine cG (cO ?_);have e:dK w=w.take 0:=by rw [<-hv];rfl
  rw [e];exact b5 (s:=i7 w 0) cz (To w 0 ω rfl)
 |succ k=>
  have e0:(((k+1:Nat):Int)-1).toNat=k:=by omega
  have e1:F4 w (k+1)=i7 w k:=by
   unfold F4 i7;rw [show(((k+1:Nat):Int)-1)=(k:Int) by omega]
  by_cases hz:w.getD k 0=0
  .refine bE (s:=i7 w (k+1)) (s':=F4 w (k+1)) cz (aev w (k+1) ω ω ω ω (by rw [e0];exact hz)) ?_;have iM:fg w k=dK w:=by rw [<-hv,fg,if_pos hz]
   rw [e1];exact⟨⟨k,by omega,iM⟩,by simp,rfl,rfl⟩
  .refine bE (s:=i7 w (k+1)) cz (aew w (k+1) ω ω ω ω (by rw [e0];exact hz)) ?_;refine cG (cO ?_);have e:dK w=w.take (k+1):=by rw [<-hv,fg,if_neg hz]
   rw [e];exact b5 (s:=i7 w (k+1)) cz (To w (k+1) ω rfl)
def LM:F5.Ok prog:=fun⟨w,_⟩ h=>aey w (ap h)
def kU:=a8 [F5]
def cY (a b c:Int):Int:=(((a.toNat+b.toNat+c.toNat)%2^64:Nat):Int)
def dP (a b c:Int):Int:=(((a.toNat+b.toNat+c.toNat)/2^64:Nat):Int)
def dc (a b c:Int):Int:=(((a.toNat+2^64-b.toNat-c.toNat)%2^64:Nat):Int)
def ep (a b c:Int):Int:=((if a.toNat<b.toNat+c.toNat then 1 else 0:Nat):Int)
def cD (n:Nat):List Int:=List.replicate n 0
def mI:=k_a f144
def om:=k_a f146
abbrev AD:List Nat:=[1,1,1,1,0,1,0,0]
def fM (x y out:List Int) (c:Int) (i:Nat):bH:={n:=54,sl:=[(0,bI x),(1,bI y),(5,qQ 64 out),(6,cr c),(21,iv x.length),(22,iv i)],bJ:=[(64,qR out)],next:=65}
def F6 (out:List Int):bH:={n:=54,sl:=[(5,qQ 64 out)],bJ:=[(64,qR out)],next:=65}
def F7 (out:List Int):bH:={n:=54,sl:=[(5,bI out)],bJ:=[],next:=64}
def aez (x y:List Int) (h1:¬(x.length:Int)<(y.length:Int)) (h2: -9223372036854775808<=(x.length:Int)+1/\(x.length:Int)+1<=9223372036854775807) (h3:((x.length:Int)+1).toNat<=1000000) (h4:(((x.length:Int)+1).toNat)=(cD (x.length+(1:Nat))).length) (h5:(aZ.known ((x.length:Int)+1).toNat)=(aZ.known (x.length+(1:Nat)))) (h6:(bK (cD (x.length+(1:Nat))).length)=(bK (x.length+(1:Nat)))) (h7:(List.flatten (List.replicate ((x.length:Int)+1).toNat (List.map af.raw (Array.toList #[Value.int .u64 (0:Int)]))))=(List.flatMap (fun x=>[af.raw (Value.int .u64 x)]) (cD (x.length+(1:Nat))))) (h8:(x.length+(1:Nat))=(cD (x.length+(1:Nat))).length):
  aD.path (pG prog kU (fl mI []) 6 54 [bI x,bI y]) (dl 2) (dU prog 54 .normal [(64,64,some (x.length+1))] (fM x y (cD (x.length+1)) 0 0)):=
 mp (Ls (ab h1) (eL h2) rt rt (show(decide (((x.length:Int)+1).toNat<=((x.length:Int)+1).toNat))=true from ay ω) (oc (show(bounded ((x.length:Int)+1).toNat (8:Nat))=true from pI h3 ω) (rr x) (rr y) (an h4 (an h5 h6)) (rr (0:Int)) (rr (x.length:Int)) (rr (0:Int)) (an h7 h8) trivial))
def aeA (x y:List Int) (h1:(x.length:Int)<(y.length:Int)) (h2: -9223372036854775808<=(y.length:Int)+1/\(y.length:Int)+1<=9223372036854775807) (h3:((y.length:Int)+1).toNat<=1000000) (h4:(((y.length:Int)+1).toNat)=(cD (y.length+(1:Nat))).length) (h5:(aZ.known ((y.length:Int)+1).toNat)=(aZ.known (y.length+(1:Nat)))) (h6:(bK (cD (y.length+(1:Nat))).length)=(bK (y.length+(1:Nat)))) (h7:(List.flatten (List.replicate ((y.length:Int)+1).toNat (List.map af.raw (Array.toList #[Value.int .u64 (0:Int)]))))=(List.flatMap (fun x=>[af.raw (Value.int .u64 x)]) (cD (y.length+(1:Nat))))) (h8:(y.length+(1:Nat))=(cD (y.length+(1:Nat))).length):
  aD.path (pG prog kU (fl mI []) 6 54 [bI x,bI y]) (dl 3) (dU prog 54 .normal [(64,64,some (y.length+1))] (fM y x (cD (y.length+1)) 0 0)):=
 mp (Ls (ay h1) (eL h2) rt rt (show(decide (((y.length:Int)+1).toNat<=((y.length:Int)+1).toNat))=true from ay ω) (oc (show(bounded ((y.length:Int)+1).toNat (8:Nat))=true from pI h3 ω) (rr y) (rr x) (an h4 (an h5 h6)) (rr (0:Int)) (rr (y.length:Int)) (rr (0:Int)) (an h7 h8) trivial))
section
variable (x y out:List Int) (i:Nat) (h1:(i:Int)<(x.length:Int))
def aeB (h2:(i:Int)<(y.length:Int)) (h3:i<y.length) (h4:i<x.length) (h5:i<out.length) (h6:i6 ((i:Int)+1)) (h7:out.length=(out.set i (cY (x.getD i 0) (y.getD i 0) 0)).length) (h8:(bK out.length)=(bK (out.set i (cY (x.getD i 0) (y.getD i 0) 0)).length)) (h9:(↑(((x.getD i 0).toNat+(y.getD i 0).toNat+Int.toNat 0)/(2:Nat)^(64:Nat)):Int)=(dP (x.getD i 0) (y.getD i 0) 0)) (h10:(out.set i (↑(((x.getD i 0).toNat+(y.getD i 0).toNat+Int.toNat 0)%(2:Nat)^(64:Nat)):Int))=(out.set i (cY (x.getD i 0) (y.getD i 0) 0))):
  bB kU (fl mI AD) (fM x y out 0 i) 7 .normal [(64,64,none)] (fM x y (out.set i (cY (x.getD i 0) (y.getD i 0) 0)) (dP (x.getD i 0) (y.getD i 0) 0) (i+1)):=
 wy [ah h1,ah h2,ah h3,ah h4,ah h5,ja 167 aE h5,yi h6,ax h7,ax h8,ax h9,mE 167 aE h10] 3569716646146256639964958679629953
def aeC (h2:¬(i:Int)<(y.length:Int)) (h3:i<x.length) (h4:i<out.length) (h5:i6 ((i:Int)+1)) (h6:out.length=(out.set i (cY (x.getD i 0) 0 0)).length) (h7:(bK out.length)=(bK (out.set i (cY (x.getD i 0) 0 0)).length)) (h8:(↑(((x.getD i 0).toNat+Int.toNat 0+Int.toNat 0)/(2:Nat)^(64:Nat)):Int)=(dP (x.getD i 0) 0 0)) (h9:(out.set i (↑(((x.getD i 0).toNat+Int.toNat 0+Int.toNat 0)%(2:Nat)^(64:Nat)):Int))=(out.set i (cY (x.getD i 0) 0 0))):
  bB kU (fl mI AD) (fM x y out 0 i) 5 .normal [(64,64,none)] (fM x y (out.set i (cY (x.getD i 0) 0 0)) (dP (x.getD i 0) 0 0) (i+1)):=
 wy [ah h1,aK h2,ah h3,ah h4,ja 167 aE h4,yi h5,ax h6,ax h7,ax h8,mE 167 aE h9] 792284383521178232608283951233
def aeD (h2:(i:Int)<(y.length:Int)) (h3:i<y.length) (h4:i<x.length) (h5:i<out.length) (h6:i6 ((i:Int)+1)) (h7:out.length=(out.set i (cY (x.getD i 0) (y.getD i 0) 1)).length) (h8:(bK out.length)=(bK (out.set i (cY (x.getD i 0) (y.getD i 0) 1)).length)) (h9:(↑(((x.getD i 0).toNat+(y.getD i 0).toNat+Int.toNat 1)/(2:Nat)^(64:Nat)):Int)=(dP (x.getD i 0) (y.getD i 0) 1)) (h10:(out.set i (↑(((x.getD i 0).toNat+(y.getD i 0).toNat+Int.toNat 1)%(2:Nat)^(64:Nat)):Int))=(out.set i (cY (x.getD i 0) (y.getD i 0) 1))):
  bB kU (fl mI AD) (fM x y out 1 i) 7 .normal [(64,64,none)] (fM x y (out.set i (cY (x.getD i 0) (y.getD i 0) 1)) (dP (x.getD i 0) (y.getD i 0) 1) (i+1)):=
 wy [ah h1,ah h2,ah h3,ah h4,ah h5,ja 167 aE h5,yi h6,ax h7,ax h8,ax h9,mE 167 aE h10] 3569716646146256639964958679629953
def aeE (h2:¬(i:Int)<(y.length:Int)) (h3:i<x.length) (h4:i<out.length) (h5:i6 ((i:Int)+1)) (h6:out.length=(out.set i (cY (x.getD i 0) 0 1)).length) (h7:(bK out.length)=(bK (out.set i (cY (x.getD i 0) 0 1)).length)) (h8:(↑(((x.getD i 0).toNat+Int.toNat 0+Int.toNat 1)/(2:Nat)^(64:Nat)):Int)=(dP (x.getD i 0) 0 1)) (h9:(out.set i (↑(((x.getD i 0).toNat+Int.toNat 0+Int.toNat 1)%(2:Nat)^(64:Nat)):Int))=(out.set i (cY (x.getD i 0) 0 1))):
  bB kU (fl mI AD) (fM x y out 1 i) 5 .normal [(64,64,none)] (fM x y (out.set i (cY (x.getD i 0) 0 1)) (dP (x.getD i 0) 0 1) (i+1)):=
 wy [ah h1,aK h2,ah h3,ah h4,ja 167 aE h4,yi h5,ax h6,ax h7,ax h8,mE 167 aE h9] 792284383521178232608283951233
end
def aeF (x y out:List Int) (c:Int) (i:Nat) (h1:¬(i:Int)<(x.length:Int)):
  bB kU (fl mI AD) (fM x y out c i) 2 (.exit 0) [(64,64,none)] (fM x y out c i):=
 wy [aK h1] 1
def aeG (x y out:List Int) (c:Int) (i:Nat) (h1:x.length<out.length) (h2:out.length=(out.set x.length c).length) (h3:(bK out.length)=(bK (out.set x.length c).length)):
  cV kU ((fl mI []).drop 7) 1 (fM x y out c i) 1 .normal [(64,64,none)] (F6 (out.set x.length c)):=
 wy [ah h1,ja 167 aE h1,ax h2,ax h3,mE 167 aE (Eq.refl (out.set x.length c))] 347942690880
def So (out:List Int):
  aD.path (aD.ret (R.normal ((F6 out).T.set 5 (some (bI out))) ((F6 out).H.drop 64) []):aD R) (dl 1) (dU prog 54 .normal [] (F7 out)):=
 wy [] 0
def Sp (out:List Int) (h1:out.length<=1000000):
  bW kU ((fl mI []).drop 8) (F7 out) 1 f144 false (bI (dK out)):=
 wy [ah h1] 1
abbrev AE:List Nat:=[1,1,1,0,1,0,0]
def fT (x y out:List Int) (c:Int) (i:Nat):bH:={n:=41,sl:=[(0,bI x),(1,bI y),(5,qQ 64 out),(6,cr c),(13,iv x.length),(14,iv i)],bJ:=[(64,qR out)],next:=65}
def F8 (out:List Int):bH:={n:=41,sl:=[(5,bI out)],bJ:=[],next:=64}
def aeH (x y:List Int) (h1:x.length<=1000000) (h2:x.length=(cD x.length).length) (h3:(bK (cD x.length).length)=(bK x.length)) (h4:(List.flatten (List.replicate x.length (List.map af.raw (Array.toList #[Value.int .u64 (0:Int)]))))=(List.flatMap (fun x=>[af.raw (Value.int .u64 x)]) (cD x.length))):
  aD.path (pG prog kU (fl om []) 4 41 [bI x,bI y]) (dl 1) (dU prog 41 .normal [(64,64,some x.length)] (fT x y (cD x.length) 0 0)):=
 mp (FO rt rt (show(decide (x.length<=x.length))=true from ay ω) (oc (show(bounded x.length (8:Nat))=true from pI h1 ω) (rr x) (rr y) (an h2 (an (rr (aZ.known x.length)) h3)) (rr (0:Int)) (rr (x.length:Int)) (rr (0:Int)) (an h4 h2) trivial))
section
variable (x y out:List Int) (i:Nat) (h1:(i:Int)<(x.length:Int))
def aeI (h2:(i:Int)<(y.length:Int)) (h3:i<y.length) (h4:i<x.length) (h5:i<out.length) (h6:i6 ((i:Int)+1)) (h7:out.length=(out.set i (dc (x.getD i (0:Int)) (y.getD i (0:Int)) (0:Int))).length) (h8:(bK out.length)=(bK (out.set i (dc (x.getD i (0:Int)) (y.getD i (0:Int)) (0:Int))).length)) (h9:(↑(if Int.toNat (x.getD i (0:Int))<(y.getD i (0:Int)).toNat+Int.toNat (0:Int)then(1:Nat)else(0:Nat)):Int)=(ep (x.getD i (0:Int)) (y.getD i (0:Int)) (0:Int))) (h10:(out.set i (↑(((x.getD i (0:Int)).toNat+(2:Nat)^(64:Nat)-Int.toNat (y.getD i (0:Int))-Int.toNat (0:Int))%(2:Nat)^(64:Nat)):Int))=(out.set i (dc (x.getD i (0:Int)) (y.getD i (0:Int)) (0:Int)))):
  bB kU (fl om AE) (fT x y out 0 i) 7 .normal [(64,64,none)] (fT x y (out.set i (dc (x.getD i 0) (y.getD i 0) 0)) (ep (x.getD i 0) (y.getD i 0) 0) (i+1)):=
 wy [ah h1,ah h2,ah h3,ah h4,ah h5,ja 167 aE h5,yi h6,ax h7,ax h8,ax h9,mE 167 aE h10] 3569716646146256639964958679629953
def aeJ (h2:¬(i:Int)<(y.length:Int)) (h3:i<x.length) (h4:i<out.length) (h5:i6 ((i:Int)+1)) (h6:out.length=(out.set i (dc (x.getD i 0) 0 0)).length) (h7:(bK out.length)=(bK (out.set i (dc (x.getD i 0) 0 0)).length)) (h8:(↑(if Int.toNat (x.getD i 0)<Int.toNat 0+Int.toNat 0 then 1 else 0):Int)=(ep (x.getD i 0) 0 0)) (h9:(out.set i (↑(((x.getD i 0).toNat+(2:Nat)^(64:Nat)-Int.toNat 0-Int.toNat 0)%(2:Nat)^(64:Nat)):Int))=(out.set i (dc (x.getD i 0) 0 0))):
  bB kU (fl om AE) (fT x y out 0 i) 5 .normal [(64,64,none)] (fT x y (out.set i (dc (x.getD i 0) 0 0)) (ep (x.getD i 0) 0 0) (i+1)):=
 wy [ah h1,aK h2,ah h3,ah h4,ja 167 aE h4,yi h5,ax h6,ax h7,ax h8,mE 167 aE h9] 792284383521178232608283951233
def aeK (h2:(i:Int)<(y.length:Int)) (h3:i<y.length) (h4:i<x.length) (h5:i<out.length) (h6:i6 ((i:Int)+1)) (h7:out.length=(out.set i (dc (x.getD i (0:Int)) (y.getD i (0:Int)) (1:Int))).length) (h8:(bK out.length)=(bK (out.set i (dc (x.getD i (0:Int)) (y.getD i (0:Int)) (1:Int))).length)) (h9:(↑(if Int.toNat (x.getD i (0:Int))<(y.getD i (0:Int)).toNat+Int.toNat (1:Int)then(1:Nat)else(0:Nat)):Int)=(ep (x.getD i (0:Int)) (y.getD i (0:Int)) (1:Int))) (h10:(out.set i (↑(((x.getD i (0:Int)).toNat+(2:Nat)^(64:Nat)-Int.toNat (y.getD i (0:Int))-Int.toNat (1:Int))%(2:Nat)^(64:Nat)):Int))=(out.set i (dc (x.getD i (0:Int)) (y.getD i (0:Int)) (1:Int)))):
  bB kU (fl om AE) (fT x y out 1 i) 7 .normal [(64,64,none)] (fT x y (out.set i (dc (x.getD i 0) (y.getD i 0) 1)) (ep (x.getD i 0) (y.getD i 0) 1) (i+1)):=
 wy [ah h1,ah h2,ah h3,ah h4,ah h5,ja 167 aE h5,yi h6,ax h7,ax h8,ax h9,mE 167 aE h10] 3569716646146256639964958679629953
def aeL (h2:¬(i:Int)<(y.length:Int)) (h3:i<x.length) (h4:i<out.length) (h5:i6 ((i:Int)+1)) (h6:out.length=(out.set i (dc (x.getD i (0:Int)) (0:Int) (1:Int))).length) (h7:(bK out.length)=(bK (out.set i (dc (x.getD i (0:Int)) (0:Int) (1:Int))).length)) (h8:(↑(if Int.toNat (x.getD i (0:Int))<(0:Int).toNat+Int.toNat (1:Int)then(1:Nat)else(0:Nat)):Int)=(ep (x.getD i (0:Int)) (0:Int) (1:Int))) (h9:(out.set i (↑(((x.getD i (0:Int)).toNat+(2:Nat)^(64:Nat)-Int.toNat (0:Int)-Int.toNat (1:Int))%(2:Nat)^(64:Nat)):Int))=(out.set i (dc (x.getD i (0:Int)) (0:Int) (1:Int)))):
  bB kU (fl om AE) (fT x y out 1 i) 5 .normal [(64,64,none)] (fT x y (out.set i (dc (x.getD i 0) 0 1)) (ep (x.getD i 0) 0 1) (i+1)):=
 wy [ah h1,aK h2,ah h3,ah h4,ja 167 aE h4,yi h5,ax h6,ax h7,ax h8,mE 167 aE h9] 792284383521178232608283951233
end
def aeM (x y out:List Int) (c:Int) (i:Nat) (h1:¬(i:Int)<(x.length:Int)):
  bB kU (fl om AE) (fT x y out c i) 2 (.exit 0) [(64,64,none)] (fT x y out c i):=
 wy [aK h1] 1
def aeN (x y out:List Int) (c:Int) (i:Nat):
  aD.path (aD.ret (R.normal ((fT x y out c i).T.set 5 (some (bI out))) ((fT x y out c i).H.drop 64) []):aD R) (dl 1) (dU prog 41 .normal [] (F8 out)):=
 wy [] 0
def aeO (out:List Int) (h1:out.length<=1000000):
  bW kU ((fl om []).drop 5) (F8 out) 1 f146 false (bI (dK out)):=
 wy [ah h1] 1
def kV (x y:List Int):Bool:=gO x&&(gO y&&(decide (x.length<=400000)&&decide (y.length<=400000)))
def we (x y:List Int):List Int:=cQ 18446744073709551616 (ak x+ak y)
def pJ (x y:List Int):List Int:=cQ 18446744073709551616 (ak x-ak y)
def Tp:=IN 144 [.list false aE, .list false aE] [.list false aE] false (fun d=>kV d.1 d.2.1) fun d=>(we d.1 d.2.1,())
def Tq:=IN 146 [.list false aE, .list false aE] [.list false aE] false (fun d=>kV d.1 d.2.1&&decide (ak d.2.1<=ak d.1)) fun d=>(pJ d.1 d.2.1,())
def F9:bD prog (bF kU):=qK LM
def hG {l:List Int}:gO l=true↔aS 18446744073709551616 l:=by
 unfold gO aS;simp only [List.all_eq_true,ae,bA]
def C7:(1:Int)<18446744073709551616:=by decide
def C8 {a b c:Int} (ha:0<=a/\a<18446744073709551616) (hb:0<=b/\b<18446744073709551616) (hc:c=0\/c=1):
  cY a b c+18446744073709551616*dP a b c=a+b+c/\(0<=cY a b c/\cY a b c<18446744073709551616)/\(dP a b c=0\/dP a b c=1):=by
 unfold cY dP;rw [show(2:Nat)^64=18446744073709551616 from rfl];rcases hc with rfl |rfl<;>omega
def LN {a b c:Int} (ha:0<=a/\a<18446744073709551616) (hb:0<=b/\b<18446744073709551616) (hc:c=0\/c=1):
  dc a b c-18446744073709551616*ep a b c=a-b-c/\(0<=dc a b c/\dc a b c<18446744073709551616)/\(ep a b c=0\/ep a b c=1):=by
 unfold dc ep;rw [show(2:Nat)^64=18446744073709551616 from rfl];rcases hc with rfl |rfl<;>split<;>omega
def cf (n:Nat):(cD n).length=n:=List.length_replicate
def AF (n:Nat):aS 18446744073709551616 (cD n):=aS.rep δ n
def ym (n:Nat):(List.replicate n (List.map af.raw (Array.toList #[Value.int IntKind.u64 (0:Int)]))).flatten=(cD n).flatMap (fun x=>[af.raw (Value.int IntKind.u64 x)]):=by
 unfold cD;induction n with
 |zero=>rfl
 |succ n ih=>rw [List.replicate_succ,List.replicate_succ,List.flatten_cons,List.flatMap_cons,ih];rfl
def wg {l:List Int} (h:aS 18446744073709551616 l):dK l=cQ 18446744073709551616 (ak l):=by
 refine fp C7 (S3 h _ (aJ _)) (FR l _ (aJ _)) ?_;unfold dK ak;rw [Lu l _ (aJ _),dI]
def Tr {l:List Int} {i:Nat} (h:¬i<l.length):l.getD i 0=0:=by
 rw [ao,List.getElem?_eq_none ω];rfl
def Ts:(fl mI []).drop 8≠[]:=fun h=>by
 have:((fl mI []).drop 8).isEmpty=false:=by kernel_rfl
 rw [h]at this;cases this
def Tt:(fl om []).drop 5≠[]:=fun h=>by
 have:((fl om []).drop 5).isEmpty=false:=by kernel_rfl
 rw [h]at this;cases this
def Tu {x y:List Int} (hx:aS 18446744073709551616 x) (hy:aS 18446744073709551616 y) (hxy:y.length<=x.length) (hl:x.length<=400000) (w0:World) (F:Env):
  aW prog w0 F 54 ((fl mI []).drop 6) (fM x y (cD (x.length+1)) 0 0).T (fM x y (cD (x.length+1)) 0 0).H (gZ prog false f144 (bI (cQ 18446744073709551616 (ak x+ak y)))):=by
 have hS:=F9;refine aW.loop (ι:={s:List Int×Int×Nat//s.2.2<=x.length/\s.1.length=x.length+1/\aS 18446744073709551616 s.1/\(s.2.1=0\/s.2.1=1)/\ak (s.1.take s.2.2)+18446744073709551616^s.2.2*s.2.1=ak (x.take s.2.2)+ak (y.take s.2.2)}) (id:=0) (b:=cat mI AD) (rest:=(fl mI []).drop 7) (by kernel_rfl) (fun s=>fM x y s.1.1 s.1.2.1 s.1.2.2) (fun s=>x.length-s.1.2.2)
  ⟨(cD (x.length+1),0,0),Nat.zero_le _,cf _,AF _, .inl rfl,by simp [ak,vl]⟩ (fun _=>rfl) ?_
 rintro⟨⟨out,c,i⟩,hi,ho,iO,hc,hinv⟩;have hi:i<=x.length:=hi;have ho:out.length=x.length+1:=ho;have iO:aS 18446744073709551616 out:=iO;have hc:c=0\/c=1:=hc;have hinv:ak (out.take i)+18446744073709551616^i*c=ak (x.take i)+ak (y.take i):=hinv;by_cases hlt:i<x.length
 .have wh:=hx.get δ i;have LP:=hy.get δ i;obtain⟨g1,g2,g3⟩:=C8 wh LP hc;have hnext:ak ((out.set i (cY (x.getD i 0) (y.getD i 0) c)).take (i+1))+18446744073709551616^(i+1)*dP (x.getD i 0) (y.getD i 0) c=ak (x.take (i+1))+ak (y.take (i+1)):=by
   unfold ak at hinv ⊢;rw [ye ω,kQ x i,kQ y i,Int.pow_succ];exact Lx g1 hinv
  have oo:∃j:{s:List Int×Int×Nat//s.2.2<=x.length/\s.1.length=x.length+1/\aS 18446744073709551616 s.1/\(s.2.1=0\/s.2.1=1)/\ak (s.1.take s.2.2)+18446744073709551616^s.2.2*s.2.1=ak (x.take s.2.2)+ak (y.take s.2.2)},x.length-j.1.2.2<x.length-i/\(fM x y (out.set i (cY (x.getD i 0) (y.getD i 0) c)) (dP (x.getD i 0) (y.getD i 0) c) (i+1)).T=(fM x y j.1.1 j.1.2.1 j.1.2.2).T/\(fM x y (out.set i (cY (x.getD i 0) (y.getD i 0) c)) (dP (x.getD i 0) (y.getD i 0) c) (i+1)).H=(fM x y j.1.1 j.1.2.1 j.1.2.2).H:=
   ⟨⟨(out.set i (cY (x.getD i 0) (y.getD i 0) c),dP (x.getD i 0) (y.getD i 0) c,i+1),hlt,by rw [b9];exact ho,iO.set g2,g3,hnext⟩,by simp;omega,rfl,rfl⟩
  by_cases mb:i<y.length
  .rcases hc with rfl |rfl
   .exact bE (s:=fM x y out 0 i) (s':=fM x y (out.set i (cY (x.getD i 0) (y.getD i 0) 0)) (dP (x.getD i 0) (y.getD i 0) 0) (i+1)) hS (aeB x y out i ω ω mb hlt ω ω (by rw [b9]) (by rw [b9]) rfl rfl) oo
   .exact bE (s:=fM x y out 1 i) (s':=fM x y (out.set i (cY (x.getD i 0) (y.getD i 0) 1)) (dP (x.getD i 0) (y.getD i 0) 1) (i+1)) hS (aeD x y out i ω ω mb hlt ω ω (by rw [b9]) (by rw [b9]) rfl rfl) oo
  .rw [Tr mb]at oo;rcases hc with rfl |rfl
   .exact bE (s:=fM x y out 0 i) (s':=fM x y (out.set i (cY (x.getD i 0) 0 0)) (dP (x.getD i 0) 0 0) (i+1)) hS (aeC x y out i ω ω hlt ω ω (by rw [b9]) (by rw [b9]) rfl rfl) oo
   .exact bE (s:=fM x y out 1 i) (s':=fM x y (out.set i (cY (x.getD i 0) 0 1)) (dP (x.getD i 0) 0 1) (i+1)) hS (aeE x y out i ω ω hlt ω ω (by rw [b9]) (by rw [b9]) rfl rfl) oo
 .refine bE (s:=fM x y out c i) hS (aeF x y out c i ω) ?_;refine cG (cO ?_);obtain rfl:i=x.length:=by omega
  have hcd:0<=c/\c<18446744073709551616:=by rcases hc with rfl |rfl<;>decide
  refine cX (s:=fM x y out c x.length) (s':=F6 (out.set x.length c)) hS 1 (aeG x y out c x.length ω (by rw [b9]) (by rw [b9])) ?_;have hval:ak (out.set x.length c)=ak x+ak y:=by
   rw [dI,eT hxy]at hinv;rw [<-hinv];have:=ye (b:=18446744073709551616) (l:=out) (i:=x.length) (d:=c) ω;rw [eT (by rw [b9];omega)]at this;exact this
  have gw:=iO.set (k:=x.length) hcd;rw [<-hval,<-wg gw];have hlen:(out.set x.length c).length<=1000000:=by rw [b9];omega
  generalize out.set x.length c=o2 at*;refine aW.vV Ts (i:=64) (s:=5) (e2:=167) (t:=aE) (xs:=o2) (cap:=bK o2.length) (by kernel_rfl) (by kernel_rfl) ?_;refine aW.n7 Ts (σ:=[]) (s:=F7 o2) (So o2) ?_;exact b5 (s:=F7 o2) hS (Sp o2 hlen)
def aeP (x y:List Int) (h:kV x y=true):Holds prog false 144 [bI x,bI y] (bI (we x y)):=by
 unfold kV at h;simp only [ae,bA]at h;obtain⟨hx,hy,lx,ly⟩:=h;have hx:=hG.1 hx;have hy:=hG.1 hy;have hS:=F9;refine bL (c:=mI) func144 rfl rfl fun w0 F=> ?_
 by_cases hxy:x.length<y.length
 .have e1:((y.length:Int)+1).toNat=y.length+1:=by omega
  refine cP hS 6 (aeA x y ω ω ω (by rw [cf,e1]) (by rw [e1]) (by rw [cf]) (by rw [e1];exact ym _) (by rw [cf])) ?_;have:=Tu hy hx ω ly w0 F;unfold we;rw [Int.add_comm];exact this
 .have e1:((x.length:Int)+1).toNat=x.length+1:=by omega
  refine cP hS 6 (aez x y ω ω ω (by rw [cf,e1]) (by rw [e1]) (by rw [cf]) (by rw [e1];exact ym _) (by rw [cf])) ?_;exact Tu hx hy ω lx w0 F
def aeQ:Tp.Ok prog:=fun⟨x,y,_⟩ h=>aeP x y h
def aeR {x y:List Int} (hx:aS 18446744073709551616 x) (hy:aS 18446744073709551616 y) (hle:ak y<=ak x) (hl:x.length<=400000) (w0:World) (F:Env):
  aW prog w0 F 41 ((fl om []).drop 4) (fT x y (cD x.length) 0 0).T (fT x y (cD x.length) 0 0).H (gZ prog false f146 (bI (cQ 18446744073709551616 (ak x-ak y)))):=by
 have hS:=F9;refine aW.loop (ι:={s:List Int×Int×Nat//s.2.2<=x.length/\s.1.length=x.length/\aS 18446744073709551616 s.1/\(s.2.1=0\/s.2.1=1)/\ak (s.1.take s.2.2)-18446744073709551616^s.2.2*s.2.1=ak (x.take s.2.2)-ak (y.take s.2.2)}) (id:=0) (b:=cat om AE) (rest:=(fl om []).drop 5) (by kernel_rfl) (fun s=>fT x y s.1.1 s.1.2.1 s.1.2.2) (fun s=>x.length-s.1.2.2)
  ⟨(cD x.length,0,0),Nat.zero_le _,cf _,AF _, .inl rfl,by simp [ak,vl]⟩ (fun _=>rfl) ?_
 rintro⟨⟨out,c,i⟩,hi,ho,iO,hc,hinv⟩;have hi:i<=x.length:=hi;have ho:out.length=x.length:=ho;have iO:aS 18446744073709551616 out:=iO;have hc:c=0\/c=1:=hc;have hinv:ak (out.take i)-18446744073709551616^i*c=ak (x.take i)-ak (y.take i):=hinv;by_cases hlt:i<x.length
 .have wh:=hx.get δ i;have LP:=hy.get δ i;obtain⟨g1,g2,g3⟩:=LN wh LP hc;have hnext:ak ((out.set i (dc (x.getD i 0) (y.getD i 0) c)).take (i+1))-18446744073709551616^(i+1)*ep (x.getD i 0) (y.getD i 0) c=ak (x.take (i+1))-ak (y.take (i+1)):=by
   unfold ak at hinv ⊢;rw [ye ω,kQ x i,kQ y i,Int.pow_succ];exact Tb g1 hinv
  have oo:∃j:{s:List Int×Int×Nat//s.2.2<=x.length/\s.1.length=x.length/\aS 18446744073709551616 s.1/\(s.2.1=0\/s.2.1=1)/\ak (s.1.take s.2.2)-18446744073709551616^s.2.2*s.2.1=ak (x.take s.2.2)-ak (y.take s.2.2)},x.length-j.1.2.2<x.length-i/\(fT x y (out.set i (dc (x.getD i 0) (y.getD i 0) c)) (ep (x.getD i 0) (y.getD i 0) c) (i+1)).T=(fT x y j.1.1 j.1.2.1 j.1.2.2).T/\(fT x y (out.set i (dc (x.getD i 0) (y.getD i 0) c)) (ep (x.getD i 0) (y.getD i 0) c) (i+1)).H=(fT x y j.1.1 j.1.2.1 j.1.2.2).H:=
   ⟨⟨(out.set i (dc (x.getD i 0) (y.getD i 0) c),ep (x.getD i 0) (y.getD i 0) c,i+1),hlt,by rw [b9];exact ho,iO.set g2,g3,hnext⟩,by simp;omega,rfl,rfl⟩
  by_cases mb:i<y.length
  .rcases hc with rfl |rfl
   .exact bE (s:=fT x y out 0 i) (s':=fT x y (out.set i (dc (x.getD i 0) (y.getD i 0) 0)) (ep (x.getD i 0) (y.getD i 0) 0) (i+1)) hS (aeI x y out i ω ω mb hlt ω ω (by rw [b9]) (by rw [b9]) rfl rfl) oo
   .exact bE (s:=fT x y out 1 i) (s':=fT x y (out.set i (dc (x.getD i 0) (y.getD i 0) 1)) (ep (x.getD i 0) (y.getD i 0) 1) (i+1)) hS (aeK x y out i ω ω mb hlt ω ω (by rw [b9]) (by rw [b9]) rfl rfl) oo
  .rw [Tr mb]at oo;rcases hc with rfl |rfl
   .exact bE (s:=fT x y out 0 i) (s':=fT x y (out.set i (dc (x.getD i 0) 0 0)) (ep (x.getD i 0) 0 0) (i+1)) hS (aeJ x y out i ω ω hlt ω ω (by rw [b9]) (by rw [b9]) rfl rfl) oo
   .exact bE (s:=fT x y out 1 i) (s':=fT x y (out.set i (dc (x.getD i 0) 0 1)) (ep (x.getD i 0) 0 1) (i+1)) hS (aeL x y out i ω ω hlt ω ω (by rw [b9]) (by rw [b9]) rfl rfl) oo
 .refine bE (s:=fT x y out c i) hS (aeM x y out c i ω) ?_;refine cG (cO ?_);obtain rfl:i=x.length:=by omega
  have hxl:ak x<18446744073709551616^x.length:=fK δ hx;have mb:ak (y.take x.length)=ak y:=C1 δ hy (show ak y<_ by omega);have hval:ak out=ak x-ak y:=by
   have Ga:=fK δ iO;rw [ho]at Ga;have Ga:ak out<18446744073709551616^x.length:=Ga;rw [dI,mb,eT ω]at hinv;rcases hc with rfl |rfl
   .omega
   .omega
  rw [<-hval,<-wg iO];refine aW.vV Tt (i:=64) (s:=5) (e2:=167) (t:=aE) (xs:=out) (cap:=bK out.length) (by kernel_rfl) (by kernel_rfl) ?_;refine aW.n7 Tt (σ:=[]) (s:=F8 out) (aeN x y out c x.length) ?_;exact b5 (s:=F8 out) hS (aeO out ω)
def aeS (x y:List Int) (h:(kV x y&&decide (ak y<=ak x))=true):Holds prog false 146 [bI x,bI y] (bI (pJ x y)):=by
 unfold kV at h;simp only [ae,bA]at h;obtain⟨⟨hx,hy,lx,ly⟩,hle⟩:=h;have hx:=hG.1 hx;have hy:=hG.1 hy;have hS:=F9;refine bL (c:=om) func146 rfl rfl fun w0 F=> ?_
 have e1:(x.length:Int).toNat=x.length:=by omega
 refine cP hS 4 (aeH x y ω (by rw [cf]) (by rw [cf]) (ym _)) ?_;exact aeR hx hy hle lx w0 F
def aeT:Tq.Ok prog:=fun⟨x,y,_⟩ h=>aeS x y h
def qT:=k_a f145
abbrev C9:List Nat:=[1,1,0,1,0,0]
section
variable (a b:List Int)
def mJ (k:Nat):bH:={n:=41,sl:=[(0,bI a),(1,bI b),(5,iv ((k:Int)-1))],bJ:=[],next:=64}
def Gb (k:Nat):bH:={n:=41,sl:=[(0,bI a),(1,bI b),(5,iv ((k:Int)-1-1))],bJ:=[],next:=64}
def Sx (h1:¬(a.length:Int)=(b.length:Int)) (h2:(a.length:Int)<(b.length:Int)):
  bf (a8 []) (fl qT []) 3 41 [bI a,bI b] 7 f145 true (iv (-1)):=
 wy [aa (gz.mpr h1),ah h2] 129
def aeU (h1:¬(a.length:Int)=(b.length:Int)) (h2:¬(a.length:Int)<(b.length:Int)):
  bf (a8 []) (fl qT []) 3 41 [bI a,bI b] 5 f145 true (iv 1):=
 wy [aa (gz.mpr h1),aK h2] 129
def aeV (h1:(a.length:Int)=(b.length:Int)) (h2:i6 ((a.length:Int)-1)):
  dy (a8 []) (fl qT []) 4 41 [bI a,bI b] 2 .normal [] (mJ a b a.length):=
 wy [aa (eF.mpr h1),yi h2] 129
def aeW (k:Nat) (h1:(k:Int)-1>=0) (h2:0<=(k:Int)-1) (h3:((k:Int)-1).toNat<a.length) (h4:((k:Int)-1).toNat<b.length) (h5:¬a.getD ((k:Int)-1).toNat 0=b.getD ((k:Int)-1).toNat 0) (h6:a.getD ((k:Int)-1).toNat 0<b.getD ((k:Int)-1).toNat 0):
  bW (a8 []) (fl qT C9) (mJ a b k) 15 f145 true (iv (-1)):=
 wy [ah h1,ah h2,ah h3,aa (aF (v:=af.raw (Value.int IntKind.u64 (a.getD ((k:Int)-(1:Int)).toNat (0:Int))))),ah h4,aa (aF (v:=af.raw (Value.int IntKind.u64 (b.getD ((k:Int)-(1:Int)).toNat (0:Int))))),aa (gz.mpr h5),ah h6] 156579657712784783981949057
def aeX (k:Nat) (h1:(k:Int)-1>=0) (h2:0<=(k:Int)-1) (h3:((k:Int)-1).toNat<a.length) (h4:((k:Int)-1).toNat<b.length) (h5:¬a.getD ((k:Int)-1).toNat 0=b.getD ((k:Int)-1).toNat 0) (h6:¬a.getD ((k:Int)-1).toNat 0<b.getD ((k:Int)-1).toNat 0):
  bW (a8 []) (fl qT C9) (mJ a b k) 11 f145 true (iv 1):=
 wy [ah h1,ah h2,ah h3,aa (aF (v:=af.raw (Value.int IntKind.u64 (a.getD ((k:Int)-(1:Int)).toNat (0:Int))))),ah h4,aa (aF (v:=af.raw (Value.int IntKind.u64 (b.getD ((k:Int)-(1:Int)).toNat (0:Int))))),aa (gz.mpr h5),aK h6] 156579657712784783981949057
def aeY (k:Nat) (h1:(k:Int)-1>=0) (h2:0<=(k:Int)-1) (h3:((k:Int)-1).toNat<a.length) (h4:((k:Int)-1).toNat<b.length) (h5:a.getD ((k:Int)-1).toNat 0=b.getD ((k:Int)-1).toNat 0) (h6:i6 ((k:Int)-1-1)):
  bB (a8 []) (fl qT C9) (mJ a b k) 5 .normal [] (Gb a b k):=
 wy [ah h1,ah h2,ah h3,aa (aF (v:=af.raw (Value.int IntKind.u64 (a.getD ((k:Int)-(1:Int)).toNat (0:Int))))),ah h4,aa (aF (v:=af.raw (Value.int IntKind.u64 (b.getD ((k:Int)-(1:Int)).toNat (0:Int))))),aa (eF.mpr h5),yi h6] 2283003859447937
def aeZ (k:Nat) (h1:¬(k:Int)-1>=0):
  bB (a8 []) (fl qT C9) (mJ a b k) 2 (.exit 0) [] (mJ a b k):=
 wy [aK h1] 1
def ae0 (k:Nat):
  bW (a8 []) ((fl qT []).drop 5) (mJ a b k) 1 f145 true (iv 0):=
 wy [] 0
end
def kW (x y:Int):Int:=if x<y then-1 else if y<x then 1 else 0
def mK (a b:List Int):Bool:=(gO a&&jz a)&&((gO b&&jz b)&&decide (a.length<=1000000))
def LQ:=IN 145 [.list false aE, .list false aE] [.int .i64] true (fun d=>mK d.1 d.2.1) fun d=>(kW (ak d.1) (ak d.2.1),())
def qU {l:List Int}:jz l=true↔e9 l:=by
 unfold jz;constructor
 .intro h;have h:=ac h;have:=FR l l.length (aJ _);obtain⟨m,h1,h2,_⟩:=C0 l l.length (aJ _);rw [h2,eE]at h;have hm:m=l.length:=by omega
  rw [h2,hm,dI]at this;exact this
 .intro h;rw [S4 h];exact Nat.beq_refl _
def Tv {x y:Int} (h:x<y):kW x y= -1:=by unfold kW;rw [if_pos h]
def Tw {x y:Int} (h:y<x):kW x y=1:=by unfold kW;rw [if_neg ω,if_pos h]
def ae1 {x y:Int} (h:x=y):kW x y=0:=by unfold kW;rw [if_neg ω,if_neg ω]
def ae2 (a b:List Int) (h:mK a b=true):Holds prog true 145 [bI a,bI b] (iv (kW (ak a) (ak b))):=by
 unfold mK at h;simp only [ae,bA]at h;obtain⟨⟨ha,ta⟩,⟨hb,tb⟩,hl⟩:=h;have ha:=hG.1 ha;have hb:=hG.1 hb;have ta:=qU.1 ta;have tb:=qU.1 tb;refine bL (c:=qT) func145 rfl rfl fun w0 F=> ?_
 by_cases hab:a.length=b.length
 .refine cP cz 4 (aeV a b ω ω) ?_;refine aW.loop (ι:={k:Nat//k<=a.length/\∀j,k<=j->j<a.length->a.getD j 0=b.getD j 0}) (id:=0) (b:=cat qT C9) (rest:=(fl qT []).drop 5) (by kernel_rfl) (fun k=>mJ a b k.1) (fun k=>k.1) ⟨a.length,aJ _,fun j h1 h2=>by omega⟩ (fun _=>rfl) ?_;rintro⟨k,hk,heq⟩;cases k with
  |zero=>
   refine bE (s:=mJ a b 0) cz (aeZ a b 0 ω) ?_;refine cG (cO ?_);have e:a=b:=by
    refine List.ext_getElem hab fun j h1 h2=> ?_
    have:=heq j (Nat.zero_le _) h1;rwa [ue h1,ue h2]at this
   rw [ae1 (show ak a=ak b by rw [e])];exact b5 (s:=mJ a b 0) cz (ae0 a b 0)
  |succ k=>
   have e0:(((k+1:Nat):Int)-1).toNat=k:=by omega
   have e1:Gb a b (k+1)=mJ a b k:=by
    unfold Gb mJ;rw [show(((k+1:Nat):Int)-1-1)=(k:Int)-1 by omega]
   have hka:k<a.length:=by omega
   by_cases h1:a.getD k 0=b.getD k 0
   .refine bE (s:=mJ a b (k+1)) (s':=Gb a b (k+1)) cz (aeY a b (k+1) ω ω ω ω (by rw [e0];exact h1) ω) ?_;rw [e1];exact⟨⟨k,by omega,fun j g1 g2=>by
     by_cases hj:j=k
     .rw [hj];exact h1
     .exact heq j ω g2⟩,by simp,rfl,rfl⟩
   .by_cases h2:a.getD k 0<b.getD k 0
    .rw [Tv (show ak a<ak b from FT C7 ha hb hab hka h2 fun j g1 g2=>heq j ω g2)];exact b5 (s:=mJ a b (k+1)) cz (aeW a b (k+1) ω ω ω ω (by rw [e0];exact h1) (by rw [e0];exact h2))
    .rw [Tw (show ak b<ak a from FT C7 hb ha hab.symm ω (show b.getD k 0<a.getD k 0 by omega) fun j g1 g2=>(heq j ω ω).symm)];exact b5 (s:=mJ a b (k+1)) cz (aeX a b (k+1) ω ω ω ω (by rw [e0];exact h1) (by rw [e0];exact h2))
 .by_cases hlt:a.length<b.length
  .rw [Tv (show ak a<ak b from vW C7 ha hb tb hlt)];exact bg cz 3 (Sx a b ω ω)
  .rw [Tw (show ak b<ak a from vW C7 hb ha ta ω)];exact bg cz 3 (aeU a b ω ω)
def Tx:LQ.Ok prog:=fun⟨a,b,_⟩ h=>ae2 a b h
end
end Go.Proofs.YtibikmmdbdlafaaGreatDoor
