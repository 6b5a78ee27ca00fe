import Derived.Test.YtibikmmdbdlafaaGreatDoorZnN14
set_option linter.defProp false
set_option linter.unusedSimpArgs false
set_option linter.unusedVariables false
set_option maxRecDepth 100000
namespace Go.Proofs.YtibikmmdbdlafaaGreatDoor
open Go.RowKit Sv Go.Proofs.Tryz
section
set_option maxHeartbeats 1000000
noncomputable section
def IA (r:Rat):aq (aU r)=Lib.itoa r.num++dE r:=by
 rw [za,wJ];by_cases hn:r.num<0
 .rw [az hn];rfl
 .rw [ab hn];rfl
def as8 (r:Rat):bl (aq (aU r))=(Lib.itoa r.num).length:=by
 have sV:bl (Lib.decDigits r.num.natAbs++dE r)=(Lib.decDigits r.num.natAbs).length:=by
  unfold dE;split
  .rw [List.append_nil];exact G1 _ (oN _)
  .exact po _ _ (oN _)
 rw [za,Ou,sV,wJ];by_cases hn:r.num<0
 .rw [az hn];rfl
 .rw [ab hn];rfl
def PU {r:Rat} (h:r.den=1):dE r=[]:=by unfold dE;rw [if_pos h]
def Y8 (r:Rat):kj (aU r)=aU ((r.den:Int):Rat):=by
 unfold kj;rw [c6,as8,IA];by_cases h:r.den=1
 .rw [PU h,List.append_nil,if_pos rfl,h];refine gy ?_;show [49]=aq (aU (((1:Nat):Int):Rat));rw [IA,PU (Rat.den_intCast _),List.append_nil,Rat.num_intCast];show [49]=Lib.itoa ((1:Nat):Int);rw [Dec.q8,q9 (by decide)];rfl
 .have e:dE r=47::Lib.decDigits r.den:=by unfold dE;rw [if_neg h]
  rw [if_neg (by rw [e,dy,List.length_cons];omega)];refine gy ?_;show aq ((aU r).extract ((Lib.itoa r.num).length+1) (Lib.itoa r.num++dE r).length)=aq (aU ((r.den:Int):Rat));rw [lp,IA,dR,IA,PU (r:=((r.den:Int):Rat)) (Rat.den_intCast _),List.append_nil,Rat.num_intCast,e,Dec.q8,show Lib.itoa r.num++47::Lib.decDigits r.den=(Lib.itoa r.num++[47])++Lib.decDigits r.den by simp];exact List.drop_left' (by simp)
def BG {n k:Nat} {q:bO} {r:Rat} (h:QR n q r) (hn:1<=n) (hk:(18446744073709551616:Int)^n<=1000000000^k):fR k r:=by
 have a:=iY h.o1 hn;have b:=iY h.o2 hn;rw [h.num]at a;rw [h.den]at b;exact⟨Int.lt_of_lt_of_le a hk,Int.lt_of_lt_of_le (by rw [show(r.den:Int)=((r.den:Int).natAbs:Int) by omega];exact b) hk⟩
def NE {a b:AT} (td:a.size<=24) (as9:b.size<=24) (ca:ckR a=0) (cb:ckR b=0):lA (aX a) (aX b)=gk a b:=by
 have f:=Eb td ca;have g:=Eb as9 cb;have h:=Ed (k:=3) (m:=3) (by decide) (by decide) f.i g.i;rw [<-f.tx,<-g.tx]at h;rw [V0 f.qr g.qr,h];by_cases c:toQ a<toQ b
 .rw [if_pos c,if_pos (show toQ a-toQ b<0 by grind)]
 .rw [if_neg c,if_neg (show¬toQ a-toQ b<0 by grind)];by_cases c2:toQ a=toQ b
  .rw [if_pos c2,if_pos (show toQ a-toQ b=0 by grind)]
  .rw [if_neg c2,if_neg (show¬toQ a-toQ b=0 by grind)]
attribute [local irreducible] ckR
def ata {l:List AT} (h:nT l=true):l.length<=1000/\∀s∈l,s.size<=1000000000:=by
 unfold nT at h;rw [ae,bE,List.all_eq_true]at h;exact⟨h.1,fun s hs=>ap (h.2 s hs)⟩
def atb (l:List AT) (h:nT l=true):Holds prog true 190 [sl l,HW 54] (iv (lC l)):=by
 have hS:bD prog (bF Bv):=qJ XM;obtain⟨hn,hl⟩:=ata h;obtain⟨E,hE⟩:∃E,lC l=E:=⟨_,rfl⟩;rw [hE];refine bL (c:=wP) func190 rfl rfl fun w F=> ?_
 refine cR hS 2 (aqs l) ?_;refine aW.loop (ι:={k:Nat//k<=l.length/\lC (l.drop k)=E}) (id:=0) (b:=cat wP [1,0,1,0,0]) (rest:=(fl wP []).drop 3) (by kernel_rfl) (fun k=>p7 l k.1) (fun k=>l.length-k.1) ⟨0,Nat.zero_le _,hE⟩ (fun _=>rfl) ?_;rintro⟨k,hk,hd⟩;have hd:lC (l.drop k)=E:=hd;by_cases hlt:k<l.length
 .have eg:l.getD k ByteArray.empty=l[k]:=by simp [ao,hlt]
  have hsz:(l.getD k ByteArray.empty).size<=1000000000:=by rw [eg];exact hl _ (List.getElem_mem _)
  rw [List.drop_eq_getElem_cons hlt,<-eg]at hd;have atc:∀(s:AT) (r:List AT),lC (s::r)=if ckR s=0 then lC r else ckR s:=fun _ _=>rfl
  rw [atc]at hd;by_cases h0:ckR (l.getD k ByteArray.empty)=0
  .rw [if_pos h0]at hd;refine bC (s:=p7 l k) hS (aqt l k (by omega) hlt hsz h0 (by omega)) ?_;exact⟨⟨k+1,hlt,hd⟩,by show l.length-(k+1)<l.length-k;omega,rfl,rfl⟩
  .rw [if_neg h0]at hd;subst hd;exact bY (s:=p7 l k) hS (asV l k (by omega) hlt hsz h0)
 .refine bC (s:=p7 l k) hS (aqu l k (by omega)) ?_;refine cI (cQ ?_);rw [List.drop_eq_nil_of_le (by omega)]at hd;subst hd;exact bY (s:=p7 l k) hS (aqv l k)
def atd:Y0.Ok prog:=by
 intro args v hv w F xs hF cv hd;change (PT args).gr=_ at hv;unfold PT at hv;split at hv
 .rename_i l g;have hv:(match(Nat.beq g 54&&nT l)with |true=>some (some (iv (lC l)))|false=>none)=some (some v):=hv;cases hm:(Nat.beq g 54&&nT l)with
  |false=>rw [hm]at hv;cases hv
  |true=>
  rw [hm]at hv;cases hv;rw [ae]at hm;obtain rfl:=ac hm.1;have gH:aI (⟨fun i=>if i<64 then some (i,0)else none,F.fz⟩:Env) [sl l,HW 54] xs:=by
   cases hd with
   |cons d1 d2=>
    cases d2 with
    |cons d2 d3=>
     cases d3;have h1:=pG (ρ:=F) (ρ':=(⟨fun i=>if i<64 then some (i,0)else none,F.fz⟩:Env)) (fun b A h=>h) (.list false .str) l [_] (.cons d1 .nil);cases h1 with
     |cons h1 _=>exact .cons h1 (.cons (by rw [d2.cc];exact .raw _) .nil)
  refine(atb l hm.2 w ⟨fun i=>if i<64 then some (i,0)else none,F.fz⟩ xs ⟨fun i x h=> ?_,fun g hg=>⟨0,if_pos hg⟩,hF⟩ cv gH).mono fun e w' ⟨x,F',h1,h2,_,_,h5⟩=> ?_
  .have h:(if i<64 then some (i,0)else none)=some x:=h;split at h
   .assumption
   .cases h
  .refine⟨x,h1, ?_,h5⟩;rw [h2.cc];exact .raw _
 .cases hv
def ate:bD prog (bF Y1):=SI (fun c hc=>by
 simp only [ew,jU,or_false]at hc;rcases hc with rfl
 exact atd) cC
def atf:Y2.Ok prog:=fun⟨l,_⟩ h=>by
 have h:nT l=true:=h;show Holds prog true 153 [sl l] (iv (lC l));refine bL (c:=XN) func153 rfl rfl fun w F=> ?_
 exact aY ate 3 (asW l (by rw [h];rfl))
def atg:bD prog (bF Iz):=cN (aQ atf (aQ DH (aQ Ho dW)))
def ath (lo hi:AT):lC [lo,hi]=if ckR lo=0 then ckR hi else ckR lo:=by
 show(if ckR lo=0 then(if ckR hi=0 then 0 else ckR hi)else ckR lo)=_;by_cases h:ckR lo=0
 .rw [if_pos h,if_pos h];by_cases g:ckR hi=0
  .rw [if_pos g,g]
  .rw [if_neg g]
 .rw [if_neg h,if_neg h]
def ati (lo hi:AT) (oT:lo.size<=24) (qb:hi.size<=24):Holds prog true 94 [iy lo hi] (iv (jd lo hi)):=by
 have hS:=atg;have IB:nT [lo,hi]=true:=by
  unfold nT;rw [List.all_cons,List.all_cons,az (show lo.size<=1000000000 by omega),az (show hi.size<=1000000000 by omega)];rfl
 refine bL (c:=Iy) func94 rfl rfl fun w F=> ?_
 have hr:=ath lo hi;unfold jd;by_cases cX:ckR lo=0
 .rw [if_pos cX]at hr ⊢;by_cases ch:ckR hi=0
  .rw [if_pos ch];have f:=Eb oT cX;have g:=Eb qb ch;have o:(okQ 20000 (aX lo)&&okQ 20000 (aX hi))=true:=bZ (f.qr.mono (by decide)).ok (g.qr.mono (by decide)).ok;have hc:=NE oT qb cX ch;by_cases c:0<gk lo hi
   .rw [if_pos c];exact aY hS 9 (asX lo hi IB (by rw [hr,ch]) f.fr g.fr o (by omega))
   .rw [if_neg c];exact aY hS 9 (asY lo hi IB (by rw [hr,ch]) f.fr g.fr o (by omega))
  .rw [if_neg ch];have key:=Y3 lo hi IB (by rw [hr];exact ch);rw [hr]at key;exact aY hS 9 key
 .rw [if_neg cX]at hr ⊢;have key:=Y3 lo hi IB (by rw [hr];exact cX);rw [hr]at key;exact aY hS 9 key
def ip {lo hi:AT}:(decide (lo.size<=24)&&decide (hi.size<=24))=true↔lo.size<=24/\hi.size<=24:=by rw [ae,bE,bE]
def atj:Y4.Ok prog:=fun⟨⟨lo,hi⟩,_⟩ h=>ati lo hi (ip.1 h).1 (ip.1 h).2
def atk:bD prog (bF Eu):=cN (aQ Xz (aQ Pn dW))
def PV {a:AT} (h:ckR a=0):isQ a=true:=fj.2 (HY h)
def atl (lo hi:AT) (oT:lo.size<=24) (qb:hi.size<=24):Holds prog true 41 [iy lo hi] (iv (jd lo hi)):=by
 have hS:=atk;refine bL (c:=Es) func41 rfl rfl fun w F=> ?_
 unfold jd;have oT:lo.size<=1000000000:=by omega
 have qb:hi.size<=1000000000:=by omega
 by_cases cX:ckR lo=0
 .rw [if_pos cX];by_cases ch:ckR hi=0
  .rw [if_pos ch];have q:=bZ (PV cX) (PV ch);by_cases c:0<gk lo hi
   .rw [if_pos c];exact aY hS 9 (asZ lo hi oT cX qb ch q c)
   .rw [if_neg c];have key:=as0 lo hi oT cX qb ch q c;rw [ch]at key;exact aY hS 9 key
  .rw [if_neg ch];exact aY hS 9 (as1 lo hi oT cX qb ch)
 .rw [if_neg cX];exact aY hS 9 (as2 lo hi oT cX)
def atm:Y5.Ok prog:=fun⟨⟨lo,hi⟩,_⟩ h=>atl lo hi (ip.1 h).1 (ip.1 h).2
def atn:bD prog (bF BF):=cN (aQ PL (aQ atj (aQ DH (aQ lc (aQ PI (aQ O9 dW))))))
def ato (a:AT) (n:Int) (lo hi:AT) (td:a.size<=24) (oT:lo.size<=24) (qb:hi.size<=24):Holds prog true 38 [sv a,iv n,iy lo hi] (iv (oS a n lo hi)):=by
 have hS:=atn;refine bL (c:=BE) func38 rfl rfl fun w F=> ?_
 unfold oS;have z9:a.size<=1000000000:=by omega
 by_cases h:cF a n=0
 .obtain⟨fr,qr,ok,⟨x,l1⟩,⟨y,l2⟩,_⟩:=BD td h;have z:=ip.2 ⟨oT,qb⟩;have e1:(bK a n).1=eS (bx (aX a) (aT n)).1:=by unfold bK;rw [if_pos h]
  have e2:(bK a n).2=eS (bx (aX a) (aT n)).2:=by unfold bK;rw [if_pos h]
  rw [if_pos h,e1,e2];by_cases s:jd lo hi=0
  .rw [if_pos s];by_cases c1:lo=eS (bx (aX a) (aT n)).1
   .by_cases c2:hi=eS (bx (aX a) (aT n)).2
    .rw [if_pos ⟨c1,c2⟩];exact aY hS 16 (as5 a n lo hi z9 h z s fr ok (l1.rd (by decide)) (congrArg aq c1) (l2.rd (by decide)) (congrArg aq c2))
    .rw [if_neg fun g=>c2 g.2];exact aY hS 16 (as6 a n lo hi z9 h z s fr ok (l1.rd (by decide)) (congrArg aq c1) (l2.rd (by decide)) (fun g=>c2 (gy g)))
   .rw [if_neg fun g=>c1 g.1];exact aY hS 16 (as7 a n lo hi z9 h z s fr ok (l1.rd (by decide)) (fun g=>c1 (gy g)))
  .rw [if_neg s];exact aY hS 16 (as4 a n lo hi z9 h z s)
 .rw [if_neg h];exact aY hS 16 (as3 a n lo hi z9 h)
def atp:Y6.Ok prog:=fun⟨a,n,⟨lo,hi⟩,_⟩ h=>by
 have h:(decide (a.size<=24)&&(decide (lo.size<=24)&&decide (hi.size<=24)))=true:=h;rw [ae,bE]at h;exact ato a n lo hi h.1 (ip.1 h.2).1 (ip.1 h.2).2
def atq {a b:aC}:fp a b<0↔aj a<aj b:=by
 unfold fp jI;constructor
 .intro h;split at h
  .omega
  .split at h<;>omega
 .intro h;rw [if_pos (by omega)];decide
def atr:bD prog (bF Et):=cN (aQ YZ (aQ X6 (aQ Pn (aQ W0 dW))))
attribute [local irreducible] aU isQ toQ
def att (a:AT) (n:Int) (hz:a.size<=24) (h:cF a n=0):Holds prog true 40 [sv a,iv n] (sv (jN a n)):=by
 have hS:=atr;have hk:=kw.2 ⟨hz,h⟩;obtain⟨fr,qr,ok,⟨x,l1⟩,⟨y,l2⟩,_⟩:=BD hz h;have hc:ckR a=0:=by
  unfold cF at h;by_cases c:ckR a=0
  .exact c
  .rw [if_neg c]at h;exact absurd h c
 have f:=Eb hz hc;have q1:=tk (qr.mono (show 2<=3 by decide)) l1 (by decide);have aP:=tk l2 (qr.mono (show 2<=3 by decide)) (by decide);have e1:(bK a n).1=aU x:=by unfold bK;rw [if_pos h];show aU (Bw _)=_;rw [l1.val]
 have e2:(bK a n).2=aU y:=by unfold bK;rw [if_pos h];show aU (Bw _)=_;rw [l2.val]
 have i1:=BG (k:=7) l1 (by decide) (by decide);have i2:=BG (k:=7) l2 (by decide) (by decide);have j1:=BG (k:=15) q1 (by decide) (by decide);have j2:=BG (k:=15) aP (by decide) (by decide);have t1:=iL (k:=7) (by decide) i1;have t2:=iL (k:=7) (by decide) i2;have g1:=cf (k:=7) (by decide) i1;have g2:=cf (k:=7) (by decide) i2;have s1:gA a (aU x)=aU (toQ a-x):=by unfold gA;rw [t1]
 have s2:gA (aU y) a=aU (y-toQ a):=by unfold gA;rw [t2]
 have xw:=PV hc;have v1:=cf (k:=15) (by decide) j1;have v2:=cf (k:=15) (by decide) j2;have Cf:=Ed (k:=15) (m:=15) (by decide) (by decide) j1 j2;have atu:=V0 q1 aP;have iR:(aU x).size<=1000000000:=by have:=tw (k:=7) (by decide) i1;omega
 have jB:(aU y).size<=1000000000:=by have:=tw (k:=7) (by decide) i2;omega
 have w1:eS (bx (aX a) (aT n)).1=aU x:=by unfold eS;rw [l1.val]
 have w2:eS (bx (aX a) (aT n)).2=aU y:=by unfold eS;rw [l2.val]
 have Y9:∀{r:Rat},fR 7 r->fR 7 ((r.den:Int):Rat):=fun {r} i=>⟨by rw [Rat.num_intCast];have:=i.2;show((r.den:Int).natAbs:Int)<_;omega,by rw [Rat.den_intCast];decide⟩
 have yK:=Y9 i1;have uF:=Y9 i2;have atv:=Ed (k:=7) (m:=7) (by decide) (by decide) yK uF;have gz:(fp (bx (aX a) (aT n)).2.2 (bx (aX a) (aT n)).1.2<0)↔(y.den:Int)<(x.den:Int):=by
  rw [atq,l1.den,l2.den]
 refine bL (c:=Er) func40 rfl rfl fun w F=> ?_
 unfold jN;rw [if_pos h,w1,w2,atu];have k1:=asR a n hk;have k2:=asS a n hk;have c8:=asT a n hk;have jh:=asU a n hk;rw [e1,e2]at k1 k2 c8 jh;rw [s1,s2,Cf]at k1 k2 c8 jh;rw [Y8,Y8,atv]at k1 k2;have p1:=bZ xw g1;have p2:=bZ g2 xw;have p3:=bZ v1 v2;have dM:=bZ (cf (k:=7) (by decide) yK) (cf (k:=7) (by decide) uF);have hd:∀a b:Int,((if(a:Rat)-(b:Rat)<0 then-1 else if(a:Rat)-(b:Rat)=0 then 0 else 1)<=(0:Int))↔a<=b:=fun a b=>by
  by_cases c:a<b
  .have c':=Rat.intCast_lt_intCast.2 c;rw [if_pos (by grind)];omega
  .have c':¬(a:Rat)<(b:Rat):=fun g=>c (Rat.intCast_lt_intCast.1 g)
   rw [if_neg (by grind)];by_cases e:a=b
   .subst e;rw [if_pos (by grind)];omega
   .have e':¬(a:Rat)=(b:Rat):=fun g=>e (Rat.intCast_inj.1 g)
    rw [if_neg (by grind)];omega
 generalize toQ a=r at*;by_cases c1:r-x<y-r
 .rw [if_pos (show r-x-(y-r)<0 by grind)]at c8;rw [if_pos c1,if_neg (by omega)];exact aY hS 9 (c8 p1 p2 p3 (by decide) (by decide))
 .rw [if_neg (show¬r-x-(y-r)<0 by grind)]at k1 k2 jh;rw [if_neg c1];by_cases c2:r-x=y-r
  .rw [if_pos (show r-x-(y-r)=0 by grind)]at k1 k2;rw [if_pos c2];by_cases c3:(y.den:Int)<(x.den:Int)
   .rw [if_pos (Or.inr ⟨rfl,gz.2 c3⟩)];exact aY hS 9 (k2 p1 p2 p3 rfl iR jB dM (fun g=>by have:=(hd _ _).1 g;omega))
   .rw [if_neg fun g=>g.elim (by omega) fun g=>c3 (gz.1 g.2)];exact aY hS 9 (k1 p1 p2 p3 rfl iR jB dM ((hd _ _).2 (by omega)))
  .rw [if_neg (show¬r-x-(y-r)=0 by grind)]at jh;rw [if_neg c2,if_pos (Or.inl (by decide))];exact aY hS 9 (jh p1 p2 p3 (by decide) (by decide))
def atw:Y7.Ok prog:=fun⟨a,n,_⟩ h=>att a n (kw.1 h).1 (kw.1 h).2
end
end
section
noncomputable section
def atx:=IN 8 [] [.bool] true (fun d=>true) fun d=>(true,())
end
set_option maxHeartbeats 4000000
noncomputable section
def qc:=k_a Tryz.f6
def ls:=a7 [atx,YQ,YR,Y6,OV,Xt,Yx,PS,Y7,Y5]
section
variable (a:AT) (n:Int) (lo hi:AT)
def th (bad:Int):bI:={n:=119,sl:=[(0,sv a),(1,iv n),(5, .ptr 64 0),(7, .ptr 65 0),(8,iv (cF a n)),(9,sv (jN a n)),(10,iv (cF a n)),(11,iv (oS a n lo hi)),(12,iv bad)],bH:=[(64,Ib lo hi),(65,Ib (bK a n).1 (bK a n).2)],next:=66}
def aty (h1:(a.size:Int)>20):
  aV ls (fl qc []) 4 119 [sv a,iv n,iy lo hi] 1843463 Tryz.f6 true (bv true):=
 wy [aa (bg (az h1)),ah h1] 36314739835404288
def atz (h1:¬(a.size:Int)>20) (h2:(lo.size:Int)>20):
  aV ls (fl qc []) 4 119 [sv a,iv n,iy lo hi] 1843447 Tryz.f6 true (bv true):=
 wy [aa (bg (ab h1)),aF h1,aa (bg (az h2)),ah h2] 78292338775503986168430592
def atA (h1:¬(a.size:Int)>20) (h2:¬(lo.size:Int)>20) (h3:(hi.size:Int)>20):
  aV ls (fl qc []) 4 119 [sv a,iv n,iy lo hi] 1842935 Tryz.f6 true (bv true):=
 wy [aa (bg (ab h1)),aF h1,aa (bg (ab h2)),aF h2,aa (bg (az h3)),ah h3] 126263472793937667830770954452074496
def atB (h1:¬(a.size:Int)>20) (h2:¬(lo.size:Int)>20) (h3:¬(hi.size:Int)>20) (h4:n>40) (h5:n<=999999999):
  aV ls (fl qc []) 4 119 [sv a,iv n,iy lo hi] 14671607 Tryz.f6 true (bv true):=
 wy [aa (bg (ab h1)),aF h1,aa (bg (ab h2)),aF h2,aa (bg (ab h3)),aa (aL (az h4)),ah h4,aF h3,ah h5] 3180200703379330917088292313994859636588544
def atC (h1:¬(a.size:Int)>20) (h2:¬(lo.size:Int)>20) (h3:¬(hi.size:Int)>20) (h4:n>40) (h5:¬n<=999999999) (h6:a.size<=24) (h7:(decide (a.size<=24)&&(decide (lo.size<=24)&&decide (hi.size<=24)))=true) (h8:a.size<=1000000000) (h9:¬n<1) (h10:n>999999999) (h11:List.length [ckR a,3]<=1000000):
  c7 ls (fl qc []) 7 119 [sv a,iv n,iy lo hi] 228581111 .normal zc (th a n lo hi (gm [ckR a,3])):=
 wy [aa (bg (ab h1)),aF h1,aa (bg (ab h2)),aF h2,aa (bg (ab h3)),aa (aL (az h4)),ah h4,aF h3,aF h5,ah h6,aa h7,ah h8,aa (bg (ab h9)),aF h9,ah h10,ah h11] 101926594646195815022461010711284897586868715937095816839168
def atD (h1:¬(a.size:Int)>20) (h2:¬(lo.size:Int)>20) (h3:¬(hi.size:Int)>20) (h4:¬n>40) (h5:a.size<=24) (h6:(decide (a.size<=24)&&(decide (lo.size<=24)&&decide (hi.size<=24)))=true) (h7:a.size<=1000000000) (h8:n<1) (h9:List.length [ckR a,3]<=1000000):
  c7 ls (fl qc []) 7 119 [sv a,iv n,iy lo hi] 235527927 .normal zc (th a n lo hi (gm [ckR a,3])):=
 wy [aa (bg (ab h1)),aF h1,aa (bg (ab h2)),aF h2,aa (bg (ab h3)),aa (aL (ab h4)),aF h4,aF h3,ah h5,aa h6,ah h7,aa (bg (az h8)),ah h8,ah h9] 87899638635324286029545510323386952497198945675005839540224
def atE (h1:¬(a.size:Int)>20) (h2:¬(lo.size:Int)>20) (h3:¬(hi.size:Int)>20) (h4:¬n>40) (h5:a.size<=24) (h6:(decide (a.size<=24)&&(decide (lo.size<=24)&&decide (hi.size<=24)))=true) (h7:a.size<=1000000000) (h8:¬n<1) (h9:¬n>999999999) (h10:List.length [ckR a,0]<=1000000):
  c7 ls (fl qc []) 7 119 [sv a,iv n,iy lo hi] 160030455 .normal zc (th a n lo hi (gm [ckR a,0])):=
 wy [aa (bg (ab h1)),aF h1,aa (bg (ab h2)),aF h2,aa (bg (ab h3)),aa (aL (ab h4)),aF h4,aF h3,ah h5,aa h6,ah h7,aa (bg (ab h8)),aF h8,aF h9,ah h10] 95549856375326803210470378682921295941823691372946381602816
def atF (bad:Int) (h1:¬bad=0) (h2:(ByteArray.toList (bK a n).1==ByteArray.toList (ByteArray.mk #[])&&ByteArray.toList (bK a n).2==ByteArray.toList (ByteArray.mk #[]))=true) (h3:cF a n=bad) (h4:(ByteArray.mk #[]).size<=1000000000) (h5:(rq (jN a n) (cF a n) bad (ByteArray.mk #[]))=true):
  bS ls ((fl qc []).drop 7) (th a n lo hi bad) 32767 Tryz.f6 true (bv (oS a n lo hi==bad)):=
 wy [aa (fA.mpr h1),aa (aL (aL (h2))),aa (aL (h2)),aa (aL (fW.mpr h3)),ah h4,cM h3,aa (aL (h5)),aa h5] 156891705177957078307184769
def atG (bad:Int) (h1:bad=0) (h2:(wt a n)=true) (h3:cF a n=0) (h4:(ByteArray.toList (bK a n).1==ByteArray.toList (bK a n).1&&ByteArray.toList (bK a n).2==ByteArray.toList (bK a n).2)=true) (h5:(jN a n).size<=1000000000) (h6:(rq (jN a n) (cF a n) 0 (jN a n))=true) (h7:(decide (lo.size<=24)&&decide (hi.size<=24))=true) (h8:(ByteArray.toList lo==ByteArray.toList (bK a n).1&&ByteArray.toList hi==ByteArray.toList (bK a n).2)=false) (h9:List.length [jd lo hi,20]<=1000000):
  bS ls ((fl qc []).drop 7) (th a n lo hi bad) 53230 Tryz.f6 true (bv (oS a n lo hi==gm [jd lo hi,20])):=
 wy [aa (ef.mpr h1),aa h2,aa (bg (ef.mpr h3)),aa (ef.mpr h3),aa (bg (bg (h4))),ah h5,aa (bg (h4)),aa (cj (h6)),aa (aD (v:=af.agg [af.raw (Value.string lo),af.raw (Value.string hi)])),aa h7,aa (aD (v:=af.agg [af.raw (Value.string (bK a n).1),af.raw (Value.string (bK a n).2)])),aa (bg (h8)),ah h9] 14060775048264460854056611106644791506418687625990516865
def atH (bad:Int) (h1:bad=0) (h2:(wt a n)=true) (h3:cF a n=0) (h4:(ByteArray.toList (bK a n).1==ByteArray.toList (bK a n).1&&ByteArray.toList (bK a n).2==ByteArray.toList (bK a n).2)=true) (h5:(jN a n).size<=1000000000) (h6:(rq (jN a n) (cF a n) 0 (jN a n))=true) (h7:(decide (lo.size<=24)&&decide (hi.size<=24))=true) (h8:(ByteArray.toList lo==ByteArray.toList (bK a n).1&&ByteArray.toList hi==ByteArray.toList (bK a n).2)=true) (h9:List.length [jd lo hi,0]<=1000000):
  bS ls ((fl qc []).drop 7) (th a n lo hi bad) 36846 Tryz.f6 true (bv (oS a n lo hi==gm [jd lo hi,0])):=
 wy [aa (ef.mpr h1),aa h2,aa (bg (ef.mpr h3)),aa (ef.mpr h3),aa (bg (bg (h4))),ah h5,aa (bg (h4)),aa (cj (h6)),aa (aD (v:=af.agg [af.raw (Value.string lo),af.raw (Value.string hi)])),aa h7,aa (aD (v:=af.agg [af.raw (Value.string (bK a n).1),af.raw (Value.string (bK a n).2)])),aa (bg (h8)),ah h9] 14060775048264460854056611106644791506418687625990516865
end
end
set_option maxHeartbeats 1000000
noncomputable section
def atI:bD prog (bF ls):=cN (aQ (fun _ _=>arJ) (aQ asL (aQ asN (aQ atp (aQ Xz (aQ UV (aQ arR (aQ YZ (aQ atw (aQ atm dW))))))))))
def Za {k:Nat} (hk:k<=30) {r:Rat} (h:fR k r):(aU r).size<=600:=by
 have l1:=Bq h.1;have l2:=Bq h.2;rw [c6,za];have:(dE r).length<=9*k+2:=by unfold dE;split<;>simp;omega
 split
 .rw [List.length_cons,dy];omega
 .rw [dy];omega
def Zb {w:AT} (h:w.size<=600):rq w 0 0 w=true:=by
 have e:zg 0 w=0:=by unfold zg;rw [if_pos rfl];exact aox h
 unfold rq;rw [if_pos e,az rfl];rfl
def atJ {e:Int} (h:e≠0):rq (ByteArray.mk #[]) e e (ByteArray.mk #[])=true:=by
 have e1:zg e (ByteArray.mk #[])=e:=by unfold zg;rw [if_neg h]
 unfold rq;rw [e1,if_neg h,beq_self_eq_true,az (show(ByteArray.mk #[]).size=0 from rfl)];rfl
def Zc (e:Int):gm [0,e]=e:=by
 unfold gm gm gm;rw [if_neg (by omega)];by_cases g:e=0
 .rw [if_neg (by omega),g]
 .rw [if_pos g]
def Zd {v:Int} (h:v≠0) (e:Int):gm [v,e]=v:=by
 unfold gm;rw [if_pos h]
def Ze (e:Int):gm [e,0]=e:=by
 unfold gm gm gm;by_cases g:e=0
 .rw [if_neg (by omega),if_neg (by omega),g]
 .rw [if_pos g]
def atK {a:AT} {n:Int} (hz:a.size<=24) (h:cF a n=0):(jN a n).size<=600:=by
 obtain⟨fr,qr,ok,⟨x,l1⟩,⟨y,l2⟩,_⟩:=BD hz h;have w1:eS (bx (aX a) (aT n)).1=aU x:=by unfold eS;rw [l1.val]
 have w2:eS (bx (aX a) (aT n)).2=aU y:=by unfold eS;rw [l2.val]
 have s1:=Za (k:=7) (by decide) (BG (k:=7) l1 (by decide) (by decide));have s2:=Za (k:=7) (by decide) (BG (k:=7) l2 (by decide) (by decide));unfold jN;rw [if_pos h,w1,w2];split
 .exact s2
 .exact s1
def IC (a b:AT):(a.toList==b.toList)=decide (a=b):=by
 rw [ByteArray.toList_eq,ByteArray.toList_eq];by_cases h:a=b
 .rw [az h,h,beq_self_eq_true]
 .rw [ab h,eB.2 fun g=>h (gy g)]
attribute [local irreducible] ckR bK jN aU
def atL (a:AT) (n:Int) (lo hi:AT):Holds prog true 6 [sv a,iv n,iy lo hi] (bv true):=by
 have hS:=atI;refine bL (c:=qc) func6 rfl rfl fun w F=> ?_
 by_cases cT:(a.size:Int)>20
 .exact aY hS 4 (aty a n lo hi cT)
 by_cases z2:(lo.size:Int)>20
 .exact aY hS 4 (atz a n lo hi cT z2)
 by_cases z3:(hi.size:Int)>20
 .exact aY hS 4 (atA a n lo hi cT z2 z3)
 by_cases z4:n>40/\n<=999999999
 .exact aY hS 4 (atB a n lo hi cT z2 z3 z4.1 z4.2)
 have td:a.size<=24:=by omega
 have oT:lo.size<=24:=by omega
 have qb:hi.size<=24:=by omega
 have z24:=bZ (az td) (bZ (az oT) (az qb));have z9:a.size<=1000000000:=by omega
 have kl:∀v:Int,List.length [ckR a,v]<=1000000:=fun v=>by show 2<=1000000;decide
 have step:∀(R:Prop),(∀L P bad,aE.path (om prog ls (fl qc []) 7 119 [sv a,iv n,iy lo hi]) L P->P=ep prog 119 .normal zc (th a n lo hi bad)->bad=cF a n->R)->R:=fun R k=>by
  have e3:¬(1<=n/\n<=999999999)->gm [ckR a,3]=cF a n:=fun g=>by
   unfold cF;by_cases c:ckR a=0
   .rw [if_pos c,if_neg g,c,Zc]
   .rw [if_neg c,Zd c]
  by_cases c1:n>40
  .exact k _ _ _ (atC a n lo hi cT z2 z3 c1 (by omega) td z24 z9 (by omega) (by omega) (kl 3)) rfl (e3 (by omega))
  by_cases c2:n<1
  .exact k _ _ _ (atD a n lo hi cT z2 z3 c1 td z24 z9 c2 (kl 3)) rfl (e3 (by omega))
  .refine k _ _ _ (atE a n lo hi cT z2 z3 c1 td z24 z9 c2 (by omega) (kl 0)) rfl ?_;rw [Ze];unfold cF;by_cases c:ckR a=0
   .rw [if_pos c,if_pos (by omega),c]
   .rw [if_neg c]
 refine step _ fun L P bad hP e hb=> ?_
 subst e;subst hb;refine cR hS 7 hP ?_;by_cases h:cF a n=0
 .have hk:=kw.2 ⟨td,h⟩;have hs:=atK td h;have hsp:=ip.2 ⟨oT,qb⟩;have hnm:=Zb hs;rw [<-h]at hnm;have hnm:rq (jN a n) (cF a n) 0 (jN a n)=true:=by rw [h];exact Zb hs
  have hsame:(ByteArray.toList (bK a n).1==ByteArray.toList (bK a n).1&&ByteArray.toList (bK a n).2==ByteArray.toList (bK a n).2)=true:=bZ (beq_self_eq_true _) (beq_self_eq_true _);by_cases c:lo=(bK a n).1/\hi=(bK a n).2
  .have key:=atH a n lo hi (cF a n) h hk h hsame (by omega) hnm hsp (by rw [IC,IC,az c.1,az c.2];rfl) (by show 2<=1000000;decide);have e:(oS a n lo hi==gm [jd lo hi,0])=true:=by
    rw [Ze];unfold oS;rw [if_pos h,if_pos c];by_cases s:jd lo hi=0
    .rw [if_pos s,s];rfl
    .rw [if_neg s,beq_self_eq_true]
   rw [e]at key;exact bY (s:=th a n lo hi (cF a n)) hS key
  .have key:=atG a n lo hi (cF a n) h hk h hsame (by omega) hnm hsp (by
    rw [IC,IC];by_cases c1:lo=(bK a n).1
    .rw [az c1,ab fun g=>c ⟨c1,g⟩];rfl
    .rw [ab c1];rfl) (by show 2<=1000000;decide)
   have e:(oS a n lo hi==gm [jd lo hi,20])=true:=by
    unfold oS;rw [if_pos h,if_neg c];by_cases s:jd lo hi=0
    .rw [if_pos s,s,Zc];rfl
    .rw [if_neg s,Zd s,beq_self_eq_true]
   rw [e]at key;exact bY (s:=th a n lo hi (cF a n)) hS key
 .have bH:bK a n=(ByteArray.mk #[],ByteArray.mk #[]):=by unfold bK;rw [if_neg h]
  have ea:jN a n=ByteArray.mk #[]:=by unfold jN;rw [if_neg h]
  have key:=atF a n lo hi (cF a n) h (by rw [bH];exact bZ (beq_self_eq_true _) (beq_self_eq_true _)) rfl (by decide) (by rw [ea];exact atJ h);have e:(oS a n lo hi==cF a n)=true:=by
   unfold oS;rw [if_neg h,beq_self_eq_true]
  rw [e]at key;exact bY (s:=th a n lo hi (cF a n)) hS key
end
end
end Go.Proofs.YtibikmmdbdlafaaGreatDoor
