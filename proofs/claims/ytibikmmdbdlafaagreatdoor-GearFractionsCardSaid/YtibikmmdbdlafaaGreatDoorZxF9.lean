/- The reference of chapter 5: Expansion, Convergents; the law GearFractions: the steps. -/
import Derived.Test.YtibikmmdbdlafaaGreatDoorZxGDel
import Derived.Test.YtibikmmdbdlafaaGreatDoorZxGAw2
import Derived.Test.YtibikmmdbdlafaaGreatDoorZxA19
set_option linter.unusedVariables false
set_option linter.unusedSimpArgs false
set_option maxRecDepth 100000
namespace Go.Proofs.YtibikmmdbdlafaaGreatDoor
open Go.RowKit Sv Go.Proofs.Tryz
noncomputable section
noncomputable def yJ:Code:=(Tryz.f84.body).getD .skip
noncomputable def yK:Code:=(Tryz.f52.body).getD .skip
noncomputable def Hk:Code:=(Tryz.f26.body).getD .skip
noncomputable def lS:Code:=(Tryz.f27.body).getD .skip
noncomputable def N2:Code:=(Tryz.f25.body).getD .skip
noncomputable def G0:Code:=(Tryz.f4.body).getD .skip
abbrev N3:List Nat:=[1,0,1,0,0]
noncomputable def Dy:bF:=a7 [Vj]
def sw (l:List ByteArray) (k:Nat):bC:={n:=16,sl:=[(0,e5 l),(3,iv k)],bG:=[],next:=64}
theorem apz (l:List ByteArray):
  cT Dy (fl yJ []) 2 16 [e5 l] 1 .normal [] (sw l 0):=
 wy [] 0
theorem apA (l:List ByteArray) (k:Nat) (h1:(k:Int)<(l.length:Int)) (h2:k<l.length) (h3:(l.getD k ByteArray.empty).size<=1000000000) (h4:A1 (l.getD k ByteArray.empty)=0) (h5:i6 ((k:Int)+1)):
  bh Dy (fl yJ N3) (sw l k) 5 .normal [] (sw l (k+1)):=
 wy [ah h1,ah h2,ah h3,af (jA.mpr h4),yi h5] 5436612609
theorem apB (l:List ByteArray) (k:Nat) (h1:¬(k:Int)<(l.length:Int)):
  bh Dy (fl yJ N3) (sw l k) 2 (.exit 0) [] (sw l k):=
 wy [aJ h1] 1
theorem apC (l:List ByteArray) (k:Nat):
  bQ Dy ((fl yJ []).drop 3) (sw l k) 1 Tryz.f84 true (iv 0):=
 wy [] 0
def wD (l:List ByteArray):Bool:=decide (l.length<=1000000)&&l.all fun s=>decide (s.size<=600)
noncomputable def WY:bn:={f:=84,ps:=[.list false .str],rs:=[.int .i64],fresh:=true,pre:=fun d=>wD d.1,fn:=fun d=>((0:Int),())}
abbrev N4:List Nat:=[1,1,0,1,0,0]
def sx (a:List ByteArray) (k:Nat):bC:={n:=26,sl:=[(0,e5 a),(1,e5 a),(5,iv k)],bG:=[],next:=64}
theorem Hm (a:List ByteArray) (h1:(a.length:Int)=(a.length:Int)):
  cT (a7 []) (fl yK []) 4 26 [e5 a,e5 a] 2 .normal [] (sx a 0):=
 wy [af (jA.mpr h1)] 1
theorem apD (a:List ByteArray) (k:Nat) (h1:(k:Int)<(a.length:Int)) (h2:k<a.length) (h3:((a.getD k ByteArray.empty).data).toList=((a.getD k ByteArray.empty).data).toList) (h4:i6 ((k:Int)+1)):
  bh (a7 []) (fl yK N4) (sx a k) 5 .normal [] (sx a (k+1)):=
 wy [ah h1,ah h2,af (aW (v:=aa.raw (Value.string (a.getD k ByteArray.empty))) (by kernel_rfl)),af (cm (az h3)),yi h4] 1425175376306177
theorem apE (a:List ByteArray) (k:Nat) (h1:¬(k:Int)<(a.length:Int)):
  bh (a7 []) (fl yK N4) (sx a k) 2 (.exit 0) [] (sx a k):=
 wy [aJ h1] 1
theorem ON (a:List ByteArray) (k:Nat):
  bQ (a7 []) ((fl yK []).drop 5) (sx a k) 1 Tryz.f52 true (bv true):=
 wy [] 0
def Hn (a b:List ByteArray):Bool:=decide (a=b)&&decide (a.length<=1000000)
noncomputable def WZ:bn:={f:=52,ps:=[.list false .str, .list false .str],rs:=[.bool],fresh:=true,pre:=fun d=>Hn d.1 d.2.1,fn:=fun d=>(true,())}
noncomputable def G1:bF:=a7 [WA,Wz,Ww,Gw]
abbrev N5:List Nat:=[1,1,0,0]
def yL (s:ByteArray) (o:List ByteArray):bC:={n:=19,sl:=[(0,sv s),(3,Dw 64 o)],bG:=[(64,Dx o)],next:=65}
theorem apF (s:ByteArray):
  cT G1 (fl Hk []) 2 19 [sv s] 1 .normal [] (yL s []):=
 wy [] 0
theorem apG (s:ByteArray) (o:List ByteArray) (h1:(eL s)=true) (h2:o.length+1<=1000000) (h3:(eL s&&eL (gI s))=true) (h4:(wB (wC s (gI s)))=false) (h5:(eL (wC s (gI s))&& !ptN (wC s (gI s))==0)=true) (h6:(o.length+1)=(o++[gI s]).length) (h7:(aS.full)=(bA (o++[gI s]).length)):
  bh G1 (fl Hk N5) (yL s o) 4 .normal [(64,66,none)] (yL (aU (toQ (wC s (gI s)))⁻¹) (o++[gI s])):=
 wy [af h1,yk 22 au.str o,ia 16 h2,af h3,af h4,af h5,ax h6,ax h7,jN 22 (au.str) (Eq.refl (o++[gI s]))] 2758378536540781110886401
theorem apH (s:ByteArray) (o:List ByteArray) (h1:(eL s)=true) (h2:o.length+1<=1000000) (h3:(eL s&&eL (gI s))=true) (h4:(wB (wC s (gI s)))=true) (h5:(o.length+1)=(o++[gI s]).length) (h6:(o++[gI s])=(((o++[gI s]).drop 0).take (o.length+1))) (h7:o.length+1=0\/bt 22 au.str (some (bf.own 22 au.str (bI au.str (bM 22 au.str o)++[gI s]))) (0+(o.length+1)-1)=true) (h8:false=true->o.length+1≠0):
  bQ G1 (fl Hk N5) (yL s o) 6 Tryz.f26 true (e5 (o++[gI s])):=
 wy [af h1,yk 22 au.str o,ia 16 h2,af h3,af h4,oT (an h5 (an (show(o++[gI s])=(((bI au.str (bM 22 au.str o)++[gI s]).drop (0:Nat)).take (o.length+(1:Nat)))from(by simp only [dI]<;>exact h6)) (an h7 h8)))] 1710844438642689
noncomputable def t6 (a:ByteArray):Bool:=decide (a.size<=24)&&decide (ckR a=0)
noncomputable def sy (a:ByteArray):List ByteArray:=(mO a).map cZ
noncomputable def N6:bn:={f:=26,ps:=[.str],rs:=[.list false .str],fresh:=true,pre:=fun d=>t6 d.1,fn:=fun d=>(sy d.1,())}
noncomputable def sA:bF:=a7 [N6,Gw,MV]
abbrev Dz:List Nat:=[1,1,1,0,1,0,0]
abbrev G2:List Nat:=[1,1,1,0,1,0,0,1,0,0]
abbrev N7:List Nat:=[1,1,1,0,1,0,0,1,0,0,1,0,1,0,0]
def lT (l o:List ByteArray) (i:Nat):bC:={n:=38,sl:=[(3,e5 l),(4,Dw 64 o),(5,iv i)],bG:=[(64,Dx o)],next:=65}
def rc (l o:List ByteArray) (i:Nat) (x:ByteArray) (z:Int):bC:={n:=38,sl:=[(3,e5 l),(4,Dw 64 o),(5,iv i),(6,sv x),(7,iv z)],bG:=[(64,Dx o)],next:=65}
abbrev Ba:Sv.Ren:=[(64,64,none)]
noncomputable def G3 (n x:ByteArray):ByteArray:=aU (toQ n+toQ (aU (toQ x)⁻¹))
theorem apI (s:ByteArray) (h1:(t6 s)=true):
  cT sA (fl lS []) 4 38 [sv s] 1 .normal [] (lT (sy s) [] 0):=
 wy [af h1] 1
theorem apJ (l o:List ByteArray) (i:Nat) (h1:(i:Int)<(l.length:Int)):
  en sA (fl lS Dz) 2 (lT l o i) 3 .normal Ba (lT l o i):=
 wy [ah h1] 1
theorem apK (l o:List ByteArray) (i:Nat) (h1:¬(i:Int)<(l.length:Int)):
  en sA (fl lS Dz) 2 (lT l o i) 2 (.exit 0) Ba (lT l o i):=
 wy [aJ h1] 1
theorem apL (l o:List ByteArray) (i:Nat) (h1:i<l.length) (h2:i6 ((i:Int)-1)):
  en sA (fl lS G2) 2 (lT l o i) 1 .normal Ba (rc l o i (l.getD i ByteArray.empty) ((i:Int)-1)):=
 wy [ah h1,yi h2] 8256
theorem apM (l o:List ByteArray) (i:Nat) (x:ByteArray) (z:Int) (h1:z>=0) (h2:0<=z) (h3:z.toNat<l.length) (h4:(eL x&& !ptN x==0)=true) (h5:(eL (l.getD z.toNat ByteArray.empty)&&eL (aU (Rat.divInt (ptN x) (ptD x))⁻¹))=true) (h6:i6 (z-1)) (h7:(aU (Rat.divInt (ptN (l.getD z.toNat ByteArray.empty)) (ptD (l.getD z.toNat ByteArray.empty))+Rat.divInt (ptN (aU (Rat.divInt (ptN x) (ptD x))⁻¹)) (ptD (aU (Rat.divInt (ptN x) (ptD x))⁻¹))))=(G3 (l.getD z.toNat ByteArray.empty) x)):
  bh sA (fl lS N7) (rc l o i x z) 3 .normal Ba (rc l o i (G3 (l.getD z.toNat ByteArray.empty) x) (z-1)):=
 wy [ah h1,ah h2,ah h3,af (aW (v:=aa.raw (Value.string (l.getD z.toNat ByteArray.empty))) (by kernel_rfl)),af h4,af h5,yi h6,ax h7] 2417851639260461371764865
theorem OR (l o:List ByteArray) (i:Nat) (x:ByteArray) (z:Int) (h1:¬z>=0):
  bh sA (fl lS N7) (rc l o i x z) 2 (.exit 2) Ba (rc l o i x z):=
 wy [aJ h1] 1
theorem apN (l o:List ByteArray) (i:Nat) (x:ByteArray) (z:Int) (h1:o.length+1<=1000000) (h2:(o.length+1)=(o++[x]).length) (h3:(aS.full)=(bA (o++[x]).length)):
  bh sA ((fl lS G2).drop 3) (rc l o i x z) 2 .normal [(64,66,none)] (lT l (o++[x]) i):=
 wy [yk 22 au.str o,ia 16 h1,ax h2,ax h3,jN 22 (au.str) (Eq.refl (o++[x]))] 90089790892412928
theorem apO (l o:List ByteArray) (i:Nat) (h1:i6 ((i:Int)+1)):
  bh sA ((fl lS Dz).drop 3) (lT l o i) 1 .normal Ba (lT l o (i+1)):=
 wy [yi h1] 1
theorem apP (l o:List ByteArray) (i:Nat) (h1:(o)=((o.drop 0).take o.length)) (h2:o.length=0\/bt 22 au.str (bM 22 au.str o) (0+o.length-1)=true) (h3:false=true->o.length≠0):
  bQ sA ((fl lS []).drop 5) (lT l o i) 1 Tryz.f27 true (e5 o):=
 wy [oT (an (rr o.length) (an (show(o)=(((bI au.str (bM 22 au.str o)).drop (0:Nat)).take o.length)from(by simp only [dI]<;>exact h1)) (an h2 h3)))] 1
noncomputable def yM (a:ByteArray):List ByteArray:=dS (mO a)
noncomputable def W0:bn:={f:=27,ps:=[.str],rs:=[.list false .str],fresh:=true,pre:=fun d=>t6 d.1,fn:=fun d=>(yM d.1,())}
noncomputable def N8:bF:=a7 [WY,WZ]
theorem apQ (h w:List ByteArray) (e bad:Int) (h1:bad=0) (h2:(wD w)=true) (h3:e=0) (h4:(Hn h w)=true):
  bq N8 (fl N2 []) 9 30 [e5 h,iv e,iv bad,e5 w] 125 Tryz.f25 true (bv true):=
 wy [c8 h1,af h2,af (aQ (fU.mpr h3)),af h4,c8 h3] 22268382806145
theorem apR (h w:List ByteArray) (e bad:Int) (h1:¬bad=0) (h2:(h.length:Int)=0):
  bq N8 (fl N2 []) 9 30 [e5 h,iv e,iv bad,e5 w] 126 Tryz.f25 true (bv (e==bad)):=
 wy [yn h1,af (gJ.mpr h1),af (aQ (fU.mpr h2)),c8 h2] 4346097793
def t7 (h w:List ByteArray) (e bad:Int):Bool:=(e==bad)&&((bad==0&&(wD w&&Hn h w))||(!(bad==0)&&Nat.beq h.length 0))
noncomputable def W1:bn:={f:=25,ps:=[.list false .str, .int .i64, .int .i64, .list false .str],rs:=[.bool],fresh:=true,pre:=fun d=>t7 d.1 d.2.2.2.1 d.2.1 d.2.2.1,fn:=fun d=>(true,())}
noncomputable def apS:bn:={f:=8,ps:=[],rs:=[.bool],fresh:=true,pre:=fun d=>true,fn:=fun d=>(true,())}
noncomputable def G4:bF:=a7 [apS,Wn,Wo,VK,W1,N6,W0]
theorem apT (a:ByteArray) (h1:(a.size:Int)>24):
  bq G4 (fl G0 []) 20 52 [sv a] 55 Tryz.f4 true (bv true):=
 wy [ah h1] 1073741824
theorem apU (a:ByteArray) (h1:¬(a.size:Int)>24) (h2:a.size<=24) (h3:a.size<=1000000000) (h4:¬ckR a=0) (h5:(t7 (uz a) [] (ckR a) (ckR a))=true) (h6:(t7 (uA a) [] (ckR a) (ckR a))=true):
  bq G4 (fl G0 []) 20 52 [sv a] 4071 Tryz.f4 true (bv true):=
 wy [aJ h1,ah h2,ah h3,af (gJ.mpr h4),af h5,af h6] 7427640241549800126002757632
theorem apV (a:ByteArray) (h1:¬(a.size:Int)>24) (h2:a.size<=24) (h3:a.size<=1000000000) (h4:ckR a=0) (h5:(t6 a)=true) (h6:(t7 (uz a) (sy a) (ckR a) 0)=true) (h7:(t7 (uA a) (yM a) (ckR a) 0)=true):
  bq G4 (fl G0 []) 20 52 [sv a] 8135 Tryz.f4 true (bv true):=
 wy [aJ h1,ah h2,ah h3,af (jA.mpr h4),af h5,af h6,af h7] 2272026016422006968546305501036544
end
set_option maxHeartbeats 1000000
noncomputable section
theorem G5 {l:List ByteArray}:wD l=true↔l.length<=1000000/\∀s∈l,s.size<=600:=by
 unfold wD;rw [ae,bz,List.all_eq_true];exact⟨fun h=>⟨h.1,fun s hs=>ap (h.2 s hs)⟩,fun h=>⟨h.1,fun s hs=>az (h.2 s hs)⟩⟩
theorem apW:WY.Ok prog:=fun⟨l,_⟩ h=>by
 have hS:bB prog (bD Dy):=ri amm;obtain⟨hl,hx⟩:=G5.1 h;have hl:l.length<=1000000:=hl;show Holds prog true 84 [e5 l] (iv 0);refine bJ (c:=yJ) func84 rfl rfl fun w F=> ?_
 refine cE hS 2 (apz l) ?_;refine aR.loop (ι:={k:Nat//k<=l.length}) (id:=0) (b:=cat yJ N3) (rest:=(fl yJ []).drop 3) (by kernel_rfl) (fun k=>sw l k.1) (fun k=>l.length-k.1) ⟨0,Nat.zero_le _⟩ (fun _=>rfl) ?_;rintro⟨k,hk⟩;by_cases hlt:k<l.length
 .have hm:(l.getD k ByteArray.empty).size<=600:=hx _ (by rw [ao,mP hlt];exact List.getElem_mem _);refine bp (s:=sw l k) hS (apA l k (by omega) hlt (by omega) (aml hm) (by omega)) ?_;exact⟨⟨k+1,hlt⟩,by show l.length-(k+1)<l.length-k;omega,rfl,rfl⟩
 .refine bp (s:=sw l k) hS (apB l k (by omega)) ?_;refine cv (cD ?_);exact bT (s:=sw l k) hS (apC l k)
theorem apX:WZ.Ok prog:=fun⟨a,b,_⟩ h=>by
 have hS:=ba;have h:Hn a b=true:=h;unfold Hn at h;rw [ae,bz,bz]at h;obtain⟨rfl,hl⟩:=h;show Holds prog true 52 [e5 a,e5 a] (bv true);refine bJ (c:=yK) func52 rfl rfl fun w F=> ?_
 refine cE hS 4 (Hm a rfl) ?_;refine aR.loop (ι:={k:Nat//k<=a.length}) (id:=0) (b:=cat yK N4) (rest:=(fl yK []).drop 5) (by kernel_rfl) (fun k=>sx a k.1) (fun k=>a.length-k.1) ⟨0,Nat.zero_le _⟩ (fun _=>rfl) ?_;rintro⟨k,hk⟩;by_cases hlt:k<a.length
 .refine bp (s:=sx a k) hS (apD a k (by omega) hlt rfl (by omega)) ?_;exact⟨⟨k+1,hlt⟩,by show a.length-(k+1)<a.length-k;omega,rfl,rfl⟩
 .refine bp (s:=sx a k) hS (apE a k (by omega)) ?_;refine cv (cD ?_);exact bT (s:=sx a k) hS (ON a k)
theorem apY:bB prog (bD G1):=cR (aT aph (aT apc (aT apf (aT MX dY))))
theorem N9 {a:ByteArray}:t6 a=true↔a.size<=24/\ckR a=0:=by
 unfold t6;rw [ae,bz,bz]
theorem pI:(1000000000:Int)^3=1000000000000000000000000000:=by decide
abbrev yN (r:Rat):Prop:=r.num.natAbs<1000000000000000000000000/\r.den<1000000000000000000000000
theorem apZ {r:Rat} (h:yN r):mK 3 r:=by
 obtain⟨h1,h2⟩:=h;exact⟨by rw [pI];omega,by rw [pI];omega⟩
theorem W2 {r:Rat} (h:yN r):mK 3 ((r.floor:Int):Rat):=by
 have h1:=WK r;have h2:=h.1;refine⟨?_, ?_⟩
 .rw [Rat.num_intCast,Rat.floor_def,pI];omega
 .rw [Rat.den_intCast,pI];decide
theorem Ly {r:Rat} (h:yN r) (hz:r.num%r.den≠0):yN (r-(r.floor:Rat))⁻¹ :=by
 obtain⟨g1,g2⟩:=Dv hz;have h2:=h.2;have hd:=r.den_pos;have:=cS r.num (show(0:Int)<r.den by omega);exact⟨by rw [g1];omega,by omega⟩
theorem ap0 {r:Rat} (h:yN r):mK 3 (r-(r.floor:Rat)):=by
 by_cases hz:r.num%r.den=0
 .rw [(A6 r).2 hz];exact⟨by rw [pI];decide,by rw [pI];decide⟩
 .obtain⟨g1,g2⟩:=aok r;have h2:=h.2;have hd:=r.den_pos;have a:=c6 r.num (show(r.den:Int)≠0 by omega);have b:=cS r.num (show(0:Int)<r.den by omega);exact⟨by rw [g1,pI];omega,by rw [g2,pI];omega⟩
theorem ap1 {a:ByteArray} {cL:Rat} (hf:yI a cL):Holds prog true 26 [sv a] (e5 ((cy cL.num cL.den).map cZ)):=by
 have hS:=apY;have hl0:(cy cL.num cL.den).length<=160:=by
  have h:=wb hf;have e:=congrArg List.length h.1;rw [gW]at e;omega
 rw [hf.tx];refine bJ (c:=Hk) func26 rfl rfl fun w F=> ?_
 refine cE hS 2 (apF (aU cL)) ?_;refine aR.loop (ι:={x:Rat×List Int//yN x.1/\cy cL.num cL.den=x.2++cy x.1.num x.1.den}) (id:=0) (b:=cat Hk N5) (rest:=(fl Hk []).drop 3) (by kernel_rfl) (fun x=>yL (aU x.1.1) (x.1.2.map cZ)) (fun x=>x.1.1.den)
  ⟨(cL,[]),⟨hf.n,hf.d⟩,rfl⟩ (fun _=>rfl) ?_
 rintro⟨⟨r,ls⟩,hb,he⟩;have hb:yN r:=hb;have he:cy cL.num cL.den=ls++cy r.num r.den:=he;have hd:=r.den_pos;have hlen:=hl0;rw [he,ot (by omega),cG,List.length_cons]at hlen;have hi:=apZ hb;have q1:=il (k:=3) (by decide) hi;have e1:toQ (aU r)=r:=pG (k:=3) (by decide) hi;have e2:gI (aU r)=aU ((r.floor:Int):Rat):=by unfold gI;rw [e1]
 have aO:eL (gI (aU r))=true:=by rw [e2];exact il (k:=3) (by decide) (W2 hb)
 have e3:toQ (gI (aU r))=((r.floor:Int):Rat):=by rw [e2];exact pG (k:=3) (by decide) (W2 hb)
 have bP:wC (aU r) (gI (aU r))=aU (r-((r.floor:Int):Rat)):=by unfold wC;rw [e1,e3]
 have hi4:=ap0 hb;have hm:(ls.map cZ).length+1<=1000000:=by rw [gW];omega
 have kC:ls.map cZ++[gI (aU r)]=(ls++[r.num/(r.den:Int)]).map cZ:=by
  rw [List.map_append,e2,Rat.floor_def];rfl
 by_cases hz:r.num%r.den=0
 .have iT:=(A6 r).2 hz;have key:=apH (aU r) (ls.map cZ) q1 hm (by rw [q1,aO];rfl) (by rw [bP,WI];exact az iT) (by rw [cG];rfl) (by rw [List.drop_zero,ef (by rw [cG];exact aE _)]) (.inr (by
   rw [dI,wV];exact az (by rw [cG,List.length_singleton];omega))) (fun h=>by cases h)
  rw [kC]at key;have jt:(cy cL.num cL.den).map cZ=(ls++[r.num/(r.den:Int)]).map cZ:=by
   rw [he,ot (by omega),if_pos hz]
  rw [jt];exact bT (s:=yL (aU r) (ls.map cZ)) hS key
 .have iT:r-((r.floor:Int):Rat)≠0:=fun e=>hz ((A6 r).1 e)
  have qC:toQ (aU (r-((r.floor:Int):Rat)))=r-((r.floor:Int):Rat):=pG (k:=3) (by decide) hi4;have hp:ptN (aU (r-((r.floor:Int):Rat)))≠0:=by
   rw [(uj (k:=3) (by decide) hi4).n];exact fun e=>iT (Rat.num_eq_zero.1 e)
  have key:=apG (aU r) (ls.map cZ) q1 hm (by rw [q1,aO];rfl) (by rw [bP,WI];exact ab iT) (by rw [bP,il (k:=3) (by decide) hi4,fP.2 hp];rfl) (by rw [cG];rfl) (uv _ _);rw [kC,bP,qC]at key;refine bp (s:=yL (aU r) (ls.map cZ)) hS key ?_;obtain⟨g1,g2⟩:=Dv hz;have b:=cS r.num (show(0:Int)<r.den by omega);refine⟨⟨((r-((r.floor:Int):Rat))⁻¹,ls++[r.num/(r.den:Int)]),Ly hb hz, ?_⟩, ?_,rfl,rfl⟩
  .show cy cL.num cL.den=(ls++[r.num/(r.den:Int)])++cy ((r-((r.floor:Int):Rat))⁻¹).num (((r-((r.floor:Int):Rat))⁻¹).den:Int);rw [he,ot (by omega),if_neg hz,g1,g2,ou];rfl
  .show((r-((r.floor:Int):Rat))⁻¹).den<r.den;omega
theorem W3:N6.Ok prog:=fun⟨a,_⟩ h=>by
 obtain⟨h1,h2⟩:=N9.1 h;exact ap1 (wa h1 h2)
end
set_option maxHeartbeats 1000000
noncomputable section
theorem ap2:bB prog (bD sA):=cR (aT W3 (aT MX (aT U' dY)))
structure W4 (t:List Int):Prop where
 i:mK 3 (gV t)
 n:(gV t).num=(kk t).1
 p:1<=(kk t).2
theorem G6 {t:List Int} (h: -2000000000000000000000000<=(kk t).1/\(kk t).1<=2000000000000000000000000/\1<=(kk t).2/\(kk t).2<=2000000000000000000000000):W4 t:=by
 obtain⟨h1,h2,h3,h4⟩:=h;obtain⟨c1,c2⟩:=AQ h3 (NB t);exact⟨⟨by unfold gV;rw [c1,pI];omega,by unfold gV;rw [c2,pI];omega⟩,c1,h3⟩
theorem wd {A:List Int} {j i:Nat} (hj:j<A.length) (hi:j<=i):(A.drop j).take (i+1-j)=A.getD j 0::(A.drop (j+1)).take (i-j):=by
 rw [List.drop_eq_getElem_cons hj,show i+1-j=(i-j)+1 by omega,List.take_succ_cons,ao,mP hj];rfl
theorem ap3 {A:List Int} {j i:Nat} (hi:i<A.length) (hj:j<=i):sg ((A.drop j).take (i+1-j)) (A.drop j):=
 ⟨fun e=>by have:=congrArg List.length e;rw [dK,mQ,List.length_nil]at this;omega,(A.drop j).drop (i+1-j),(List.take_append_drop _ _).symm⟩
theorem ap4 {a:ByteArray} {cL:Rat} (hf:yI a cL) (ho:t6 a=true) (hA:mO a=cy cL.num cL.den):Holds prog true 27 [sv a] (e5 (dS (cy cL.num cL.den))):=by
 have hS:=ap2;have hpart:=fun(k:Nat) (t:List Int)=>NV (t:=t) hf k
 obtain⟨c1,_,c3⟩:=wb hf;have hl0:(cy cL.num cL.den).length<=160:=by
  have e:=congrArg List.length c1;rw [gW]at e;omega
 refine bJ (c:=lS) func27 rfl rfl fun w F=> ?_
 refine cE hS 4 (apI a ho) ?_;have hR:sy a=(cy cL.num cL.den).map cZ:=by unfold sy;rw [hA]
 rw [hR];generalize cy cL.num cL.den=A at*;have hX:(dS A).length=A.length:=by unfold dS;rw [gW,List.length_range]
 have gM:∀k,k<A.length->(A.map cZ).getD k ByteArray.empty=cZ (A.getD k 0):=fun k hk=>by
  rw [ao,ao,List.getElem?_map,mP hk];rfl
 have hone:∀k,k<A.length->W4 [A.getD k 0]/\gV [A.getD k 0]=((A.getD k 0:Int):Rat):=fun k hk=>by
  have hb:=hpart k [A.getD k 0] ⟨List.cons_ne_nil _ _,A.drop (k+1),by
   rw [List.drop_eq_getElem_cons hk,ao,mP hk];rfl⟩
  refine⟨G6 ⟨hb.1,hb.2.1,hb.2.2.1,hb.2.2.2.1⟩, ?_⟩;rw [Wb];show Rat.divInt (A.getD k 0*1+0) 1=_;rw [Int.mul_one,Int.add_zero]
 refine aR.loop (ι:={i:Nat//i<=A.length}) (id:=0) (b:=cat lS Dz) (rest:=(fl lS []).drop 5) (by kernel_rfl) (fun i=>lT (A.map cZ) ((dS A).take i.1) i.1) (fun i=>A.length-i.1) ⟨0,Nat.zero_le _⟩ (fun _=>rfl) ?_;rintro⟨i,hi⟩;have hol:((dS A).take i).length<=160:=by rw [dK];omega
 by_cases hlt:i<A.length
 .refine dZ (s:=lT (A.map cZ) ((dS A).take i) i) hS 2 (apJ _ _ i (by rw [gW];omega)) ?_;refine EK (id:=1) (c:=cat lS G2) (rest:=(fl lS Dz).drop 3) (by kernel_rfl) ?_;refine dZ (s:=lT (A.map cZ) ((dS A).take i) i) hS 2 (apL _ _ i (by rw [gW];omega) (by omega)) ?_;have e0:(A.map cZ).getD i ByteArray.empty=aU (gV ((A.drop i).take (i+1-i))):=by
   rw [gM i hlt,wd hlt (aE i),Nat.sub_self,List.take_zero,(hone i hlt).2];rfl
  rw [e0];refine aR.loop (ι:={j:Nat//j<=i}) (id:=2) (b:=cat lS N7) (rest:=(fl lS G2).drop 3) (by kernel_rfl) (fun j=>rc (A.map cZ) ((dS A).take i) i (aU (gV ((A.drop j.1).take (i+1-j.1)))) ((j.1:Int)-1)) (fun j=>j.1) ⟨i,aE _⟩ (fun _=>rfl) ?_;rintro⟨j,hj⟩;have hj:j<=i:=hj;have hb:=hpart j _ (ap3 hlt hj);have C:=G6 ⟨hb.1,hb.2.1,hb.2.2.1,hb.2.2.2.1⟩;cases j with
  |zero=>
   refine bp (s:=rc (A.map cZ) ((dS A).take i) i (aU (gV ((A.drop 0).take (i+1-0)))) (((0:Nat):Int)-1)) hS (OR _ _ i _ _ (by omega)) ?_;refine cv (cD ?_);rw [List.drop_zero,Nat.sub_zero];have key:=apN (A.map cZ) ((dS A).take i) i (aU (gV (A.take (i+1)))) (((0:Nat):Int)-1) (by omega) (by rw [cG];rfl) (uv _ _);have ex:aU (gV (A.take (i+1)))=(dS A).getD i ByteArray.empty:=by
    unfold dS;rw [ao,List.getElem?_map,List.getElem?_range hlt];rfl
   rw [ex,<-m8 ByteArray.empty (by omega)]at key;rw [ex];refine bp (s:=rc (A.map cZ) ((dS A).take i) i ((dS A).getD i ByteArray.empty) (((0:Nat):Int)-1)) hS key ?_;refine bp (s:=lT (A.map cZ) ((dS A).take (i+1)) i) hS (apO _ _ i (by omega)) ?_;exact⟨⟨i+1,hlt⟩,by show A.length-(i+1)<A.length-i;omega,rfl,rfl⟩
  |succ j=>
   have AY:(((j+1:Nat):Int)-1)=(j:Int):=by omega
   have et:(j:Int).toNat=j:=by omega
   have hjl:j<A.length:=by omega
   obtain⟨O,o2⟩:=hone j hjl;have hp:=hb.2.2.2.2 (by omega);have e1:=pG (k:=3) (by decide) C.i;have hinv:mK 3 (gV ((A.drop (j+1)).take (i+1-(j+1))))⁻¹ :=by
    have:(gV ((A.drop (j+1)).take (i+1-(j+1))))⁻¹ =Rat.divInt (kk ((A.drop (j+1)).take (i+1-(j+1)))).2 (kk ((A.drop (j+1)).take (i+1-(j+1)))).1:=by unfold gV;rw [Rat.inv_divInt]
    rw [this];obtain⟨d1,d2⟩:=AQ (p:=(kk ((A.drop (j+1)).take (i+1-(j+1)))).2) hp (by rw [Int.gcd_comm];exact NB _);exact⟨by rw [d1,pI];omega,by rw [d2,pI];omega⟩
   have e2:G3 ((A.map cZ).getD j ByteArray.empty) (aU (gV ((A.drop (j+1)).take (i+1-(j+1)))))=aU (gV ((A.drop j).take (i+1-j))):=by
    unfold G3;rw [e1,pG (k:=3) (by decide) hinv,gM j hjl];show aU (toQ (aU ((A.getD j 0:Int):Rat))+_)=_;rw [<-o2,pG (k:=3) (by decide) O.i,o2];congr 1;rw [wd hjl (by omega),show i+1-(j+1)=i-j by omega];rw [show i+1-(j+1)=i-j by omega]at hp;unfold gV;rw [aol hp];rfl
   have key:=apM (A.map cZ) ((dS A).take i) i (aU (gV ((A.drop (j+1)).take (i+1-(j+1))))) (j:Int) (by omega) (by omega);rw [et]at key;have key:=key (by rw [gW];omega) (by rw [il (k:=3) (by decide) C.i,fP.2 (show ptN (aU (gV ((A.drop (j+1)).take (i+1-(j+1)))))≠0 by rw [(uj (k:=3) (by decide) C.i).n,C.n];omega)];rfl)
    (by
      have:eL (aU (toQ (aU (gV ((A.drop (j+1)).take (i+1-(j+1))))))⁻¹)=true:=by rw [e1];exact il (k:=3) (by decide) hinv
      have h2:eL ((A.map cZ).getD j ByteArray.empty)=true:=by rw [gM j hjl];show eL (aU ((A.getD j 0:Int):Rat))=true;rw [<-o2];exact il (k:=3) (by decide) O.i
      rw [ae];exact⟨h2,this⟩) (by omega) rfl
   rw [e2]at key;show a8 _ _ _ _ _ _ (rc (A.map cZ) ((dS A).take i) i (aU (gV ((A.drop (j+1)).take (i+1-(j+1))))) (((j+1:Nat):Int)-1)).T (rc (A.map cZ) ((dS A).take i) i (aU (gV ((A.drop (j+1)).take (i+1-(j+1))))) (((j+1:Nat):Int)-1)).H _;rw [AY];refine bp (s:=rc (A.map cZ) ((dS A).take i) i (aU (gV ((A.drop (j+1)).take (i+1-(j+1))))) (j:Int)) hS key ?_;exact⟨⟨j,by omega⟩,e7 _,rfl,rfl⟩
 .refine dZ (s:=lT (A.map cZ) ((dS A).take i) i) hS 2 (apK _ _ i (by rw [gW];omega)) ?_;refine cv (cv (cD ?_));have e:(dS A).take i=dS A:=ef (by omega);rw [e];exact bT (s:=lT (A.map cZ) (dS A) i) hS (apP _ _ i (by rw [List.drop_zero,dA]) (NU _ .str _) (fun h=>by cases h))
theorem ap5:W0.Ok prog:=fun⟨a,_⟩ h=>by
 obtain⟨h1,h2⟩:=N9.1 h;exact ap4 (wa h1 h2) h rfl
theorem W5:bB prog (bD N8):=cR (aT apW (aT apX dY))
theorem ap6:W1.Ok prog:=fun⟨h,e,bad,w,_⟩ hp=>by
 have hp:t7 h w e bad=true:=hp;unfold t7 at hp;rw [ae,fU,Bool.or_eq_true,ae,ae,ae,Bool.not_eq_true',fU,fP]at hp;obtain⟨rfl,hp⟩:=hp;show Holds prog true 25 [e5 h,iv e,iv e,e5 w] (bv true);refine bJ (c:=N2) func25 rfl rfl fun w0 F=> ?_
 rcases hp with⟨h0,h1,h2⟩|⟨h0,h1⟩
 .exact bu W5 9 (apQ h w e e h0 h1 h0 h2)
 .have key:=apR h w e e h0 (by have:=ac h1;omega);rw [beq_self_eq_true]at key;exact bu W5 9 key
theorem ap7:bB prog (bD G4):=cR (aT (fun _ _=>apy) (aT aoT (aT aoX (aT anl (aT ap6 (aT W3 (aT ap5 dY)))))))
theorem W6 {r:Rat} (h:mK 3 r):(aU r).size<=600:=by
 have l1:=AW h.1;have l2:=AW h.2;rw [bd,lj];have:(eK r).length<=9*3+2:=by unfold eK;split<;>simp;omega
 split
 .rw [List.length_cons,cG];omega
 .rw [cG];omega
theorem ap8 (a:ByteArray):Holds prog true 4 [sv a] (bv true):=by
 have hS:=ap7;refine bJ (c:=G0) func4 rfl rfl fun w F=> ?_
 by_cases h1:(a.size:Int)>24
 .exact bu hS 20 (apT a h1)
 .by_cases hc:ckR a=0
  .have hf:=wa (a:=a) (by omega) hc;have e1:uz a=sy a:=by unfold uz sy;rw [if_pos hc]
   have e2:uA a=yM a:=by unfold uA yM;rw [if_pos hc]
   obtain⟨c1,_,c3⟩:=wb hf;have hl0:(mO a).length<=160:=by
    have e:=congrArg List.length c1;rw [gW]at e;unfold mO;omega
   have hpart:=fun(k:Nat) (t:List Int)=>NV (t:=t) hf k
   have w1:wD (sy a)=true:=G5.2 ⟨by unfold sy;rw [gW];omega,fun s hs=>by
    unfold sy at hs;obtain⟨n,hn,rfl⟩:=List.mem_map.1 hs;obtain⟨k,hk,rfl⟩:=List.getElem_of_mem hn;have hb:=hpart k [(mO a)[k]] ⟨List.cons_ne_nil _ _,(mO a).drop (k+1),by show(mO a).drop k=_;rw [List.drop_eq_getElem_cons hk];rfl⟩;have C:=G6 ⟨hb.1,hb.2.1,hb.2.2.1,hb.2.2.2.1⟩;have e:gV [(mO a)[k]]=(((mO a)[k]:Int):Rat):=by
     rw [Wb];show Rat.divInt ((mO a)[k]*1+0) 1=_;rw [Int.mul_one,Int.add_zero]
    unfold cZ;rw [<-e];exact W6 C.i⟩
   have w2:wD (yM a)=true:=G5.2 ⟨by unfold yM dS;rw [gW,List.length_range];omega,fun s hs=>by
    unfold yM dS at hs;obtain⟨k,hk,rfl⟩:=List.mem_map.1 hs;have hk:=List.mem_range.1 hk;have hb:=hpart 0 _ (Wp hk);exact W6 (G6 ⟨hb.1,hb.2.1,hb.2.2.1,hb.2.2.2.1⟩).i⟩
   have s1:∀{l:List ByteArray},wD l=true->t7 l l 0 0=true:=fun {l} h=>by
    unfold t7 Hn;rw [h,az rfl,az (G5.1 h).1];rfl
   refine bu hS 20 (apV a h1 (by omega) (by omega) hc (N9.2 ⟨by omega,hc⟩) (by rw [e1,hc];exact s1 w1) (by rw [e2,hc];exact s1 w2))
  .have e1:uz a=[]:=by unfold uz;rw [if_neg hc]
   have e2:uA a=[]:=by unfold uA;rw [if_neg hc]
   have s1:t7 [] [] (ckR a) (ckR a)=true:=by
    unfold t7;rw [beq_self_eq_true,fP.2 hc];rfl
   exact bu hS 20 (apU a h1 (by omega) (by omega) hc (by rw [e1];exact s1) (by rw [e2];exact s1))
end
end Go.Proofs.YtibikmmdbdlafaaGreatDoor
