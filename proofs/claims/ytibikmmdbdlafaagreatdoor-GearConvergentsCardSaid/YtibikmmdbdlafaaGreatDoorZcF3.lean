import Derived.Test.YtibikmmdbdlafaaGreatDoorZcTcK
set_option linter.defProp false
set_option linter.unusedSimpArgs false
set_option linter.unusedVariables false
set_option maxRecDepth 100000
namespace Go.Proofs.YtibikmmdbdlafaaGreatDoor
open Go.RowKit Sv Go.Proofs.Tryz
noncomputable section
def vo:=k_a f169
def Ie:=k_a f120
def xu:=k_a f13
def nT (s:AT) (k:Nat):bD:={n:=22,sl:=[(0,sv s),(5,iv s.size),(6,iv k)],bJ:=[],next:=64}
abbrev vp:List Nat:=[1,0,1,0,0]
def aph (s:AT):
  cZ (bc []) (fl vo []) 2 22 [sv s] 1 .normal [] (nT s 0):=
 wy [] 0
section
variable (s:AT) (k:Nat) (h1:(k:Int)<(s.size:Int)) (h2:k<s.size)
def api (h3:(↑(UInt8.toNat (s.data.toList.getD k (0:UInt8))):Int)<48):
  bS (bc []) (fl vo vp) (nT s k) 225 f169 true (bv false):=
 wy [ah h1,ah h2,af (bq (az h3)),ah h3] 17801616826369
def apj (h3:¬(↑(UInt8.toNat (s.data.toList.getD k (0:UInt8))):Int)<48) (h4:(↑(UInt8.toNat (s.data.toList.getD k (0:UInt8))):Int)>57):
  bS (bc []) (fl vo vp) (nT s k) 223 f169 true (bv false):=
 wy [ah h1,ah h2,af (bq (ab h3)),aJ h3,ah h4] 5837518341367668737
def apk (h3:¬(↑(UInt8.toNat (s.data.toList.getD k (0:UInt8))):Int)<48) (h4:¬(↑(UInt8.toNat (s.data.toList.getD k (0:UInt8))):Int)>57) (h5:i6 ((k:Int)+1)):
  bt (bc []) (fl vo vp) (nT s k) 159 .normal [] (nT s (k+1)):=
 wy [ah h1,ah h2,af (bq (ab h3)),aJ h3,aJ h4,yi h5] 448559376110396907521
end
def apl (s:AT) (k:Nat) (h1:¬(k:Int)<(s.size:Int)):
  bt (bc []) (fl vo vp) (nT s k) 2 (.exit 0) [] (nT s k):=
 wy [aJ h1] 1
def apm (s:AT) (k:Nat):
  bS (bc []) ((fl vo []).drop 3) (nT s k) 1 f169 true (bv (!(decide (aq s=[])))):=
 wy [] 0
def XA:=IN 169 [.str] [.bool] true (fun d=>decide (d.1.size<=1000000000)) fun d=>(bZ (aq d.1)&&decide (0<d.1.size),())
def Ig:=bc [XA]
section
variable (s:AT) (h1:s.size<=1000000000)
def apn (h2:(bZ s.data.toList&&decide (0<s.size))=false):
  bh Ig (fl Ie []) 9 14 [sv s] 32 f120 true (bv false):=
 wy [ah h1,af (aM (h2)),af h2] 3255312513
def apo (h2:(bZ s.data.toList&&decide (0<s.size))=true) (h3:(s.data).toList=((ByteArray.mk (#[(48:UInt8)])).data).toList):
  bh Ig (fl Ie []) 9 14 [sv s] 967 f120 true (bv true):=
 wy [ah h1,af (aM (h2)),af (bq (az h3)),ah h3,af h2] 91206897977794689
def apq (h2:(bZ s.data.toList&&decide (0<s.size))=true) (h3:¬(s.data).toList=((ByteArray.mk (#[(48:UInt8)])).data).toList) (h4:Int.toNat 0<s.size) (h5:((↑(UInt8.toNat (s.data.toList.getD (Int.toNat 0) (0:UInt8))):Int) != 48)=(!decide ((↑(UInt8.toNat (s.data.toList.getD 0 (0:UInt8))):Int)=48))):
  bh Ig (fl Ie []) 9 14 [sv s] 895 f120 true (bv (!(decide (((b9 s 0).toNat:Int)=48)))):=
 wy [ah h1,af (aM (h2)),af (bq (ab h3)),ah h4,aJ h3,af h2,ax h5] 33505088736196987199617
end
def p7 (l:List AT) (k:Nat):bD:={n:=19,sl:=[(0, .bn false .str l),(3,iv k)],bJ:=[],next:=64}
def BR:=bc [OY]
section
variable (l:List AT)
def apr:
  cZ BR (fl xu []) 2 19 [.bn false .str l] 1 .normal [] (p7 l 0):=
 wy [] 0
def aps (k:Nat) (h1:(k:Int)<(l.length:Int)) (h2:k<l.length) (h3:(l.getD k ByteArray.empty).size<=1000000000) (h4:¬ckR (l.getD k ByteArray.empty)=0):
  bS BR (fl xu vp) (p7 l k) 7 f13 true (iv (ckR (l.getD k ByteArray.empty))):=
 wy [ah h1,ah h2,ah h3,af (gC.mpr h4)] 67903489
def apt (k:Nat) (h1:(k:Int)<(l.length:Int)) (h2:k<l.length) (h3:(l.getD k ByteArray.empty).size<=1000000000) (h4:ckR (l.getD k ByteArray.empty)=0) (h5:i6 ((k:Int)+1)):
  bt BR (fl xu vp) (p7 l k) 5 .normal [] (p7 l (k+1)):=
 wy [ah h1,ah h2,ah h3,af (eR.mpr h4),yi h5] 5436612609
def apu (k:Nat) (h1:¬(k:Int)<(l.length:Int)):
  bt BR (fl xu vp) (p7 l k) 2 (.exit 0) [] (p7 l k):=
 wy [aJ h1] 1
def apv (k:Nat):
  bS BR ((fl xu []).drop 3) (p7 l k) 1 f13 true (iv 0):=
 wy [] 0
end
def XB:=IN 120 [.str] [.bool] true (fun d=>decide (d.1.size<=1000000000)) fun d=>(cA d.1,())
def p8:List AT->Int
 |[]=>0
 |s::r=>if ckR s=0 then p8 r else ckR s
def XC:=IN 13 [.list false .str] [.int .i64] true (fun d=>decide (List.length (α:=AT) d.1<=1000000)&&List.all (α:=AT) d.1 fun s=>decide (s.size<=1000000000)) fun d=>(p8 d.1,())
def apw (s:AT) (hl:s.size<=1000000000):Holds prog true 169 [sv s] (bv (bZ (aq s)&&decide (0<s.size))):=by
 have hS:=cC;have hz:=cP s;refine bL (c:=vo) func169 rfl rfl fun w F=> ?_
 refine cJ hS 2 (aph s) ?_;refine aU.loop (ι:={k:Nat//k<=s.size/\bZ ((aq s).take k)=true}) (id:=0) (b:=cat vo vp) (rest:=(fl vo []).drop 3) (by kernel_rfl) (fun k=>nT s k.1) (fun k=>s.size-k.1) ⟨0,Nat.zero_le _,by rw [List.take_zero];rfl⟩ (fun _=>rfl) ?_;rintro⟨k,hk,hd⟩;by_cases hlt:k<s.size
 .have hmem:b9 s k∈aq s:=by rw [zo ω];exact List.getElem_mem _
  have hno:¬(48<=(b9 s k).toNat/\(b9 s k).toNat<=57)->bZ (aq s)=false:=fun hn=>by
   rw [Bool.eq_false_iff];intro h;have:=List.all_eq_true.1 h _ hmem;rw [ae,bE,bE]at this;exact hn this
  by_cases h1:(b9 s k).toNat<48
  .rw [hno ω];exact bX (s:=nT s k) hS (api s k ω hlt (by show((b9 s k).toNat:Int)<48;omega))
  .by_cases h2:57<(b9 s k).toNat
   .rw [hno ω];exact bX (s:=nT s k) hS (apj s k ω hlt (by show¬((b9 s k).toNat:Int)<48;omega) (by show((b9 s k).toNat:Int)>57;omega))
   .refine bx (s:=nT s k) hS (apk s k ω hlt (by show¬((b9 s k).toNat:Int)<48;omega) (by show¬((b9 s k).toNat:Int)>57;omega) ω) ?_;refine⟨⟨k+1,hlt, ?_⟩,by show s.size-(k+1)<s.size-k;omega,rfl,rfl⟩;rw [zt ω,HW];refine⟨hd, ?_⟩;show bZ [b9 s k]=true;rw [BE,az ω,az ω];rfl
 .refine bx (s:=nT s k) hS (apl s k ω) ?_;refine cy (cF ?_);rw [eH ω]at hd;have e:(bZ (aq s)&&decide (0<s.size))= !(decide (aq s=[])):=by
   rw [hd,Bool.true_and];by_cases h0:aq s=[]
   .rw [az h0,ab (by rw [cP,h0];decide)];rfl
   .rw [ab h0,az (by rw [cP];exact List.length_pos_iff.2 h0)];rfl
  rw [e];exact bX (s:=nT s k) hS (apm s k)
def apx:XA.Ok prog:=fun⟨s,_⟩ h=>apw s (ap h)
def apy:bC prog (bF Ig):=cK (aP apx dQ)
def apz (s:AT) (hl:s.size<=1000000000):Holds prog true 120 [sv s] (bv (cA s)):=by
 have hS:=apy;refine bL (c:=Ie) func120 rfl rfl fun w F=> ?_
 cases hd:bZ (aq s)&&decide (0<s.size)with
 |false=>
  have e:cA s=false:=by
   rw [Bool.eq_false_iff];intro h;obtain⟨h1,h2⟩:=xp h;rw [h1,az h2]at hd;cases hd
  rw [e];exact bw hS 9 (apn s hl hd)
 |true=>
  have gP:=hd;rw [ae,bE]at gP;by_cases hz:aq s=[48]
  .have e:cA s=true:=by
    unfold cA;have h1:s.size=1:=by rw [cP,hz];rfl
    rw [gP.1,az gP.2,az (show s.size<=1 by omega)];rfl
   rw [e];exact bw hS 9 (apo s hl hd hz)
  .have e:cA s= !(decide (((b9 s 0).toNat:Int)=48)):=by
    unfold cA;rw [gP.1,az gP.2,Bool.true_and,Bool.and_true];by_cases h1:s.size<=1
    .rw [az h1,Bool.true_or];have h48:¬((b9 s 0).toNat:Int)=48:=fun h=>hz (by
      obtain⟨b,hb⟩:∃b,aq s=[b]:=List.length_eq_one_iff.1 (by rw [<-cP];omega);have h2:(b.toNat:Int)=48:=by
       have h3:(((aq s).getD 0 0).toNat:Int)=48:=h;rw [hb]at h3;exact h3
      rw [hb];congr 1;exact UInt8.toNat_inj.1 (by show b.toNat=48;omega))
     rw [ab h48];rfl
    .rw [ab h1,Bool.false_or];congr 1;by_cases h4:(b9 s 0).toNat=48
     .rw [az h4,az ω]
     .rw [ab h4,ab ω]
   rw [e];exact bw hS 9 (apq s hl hd hz (by show 0<s.size;exact gP.2) rfl)
def apA:XB.Ok prog:=fun⟨s,_⟩ h=>apz s (ap h)
def apB:bC prog (bF BR):=cK (aP Xx dQ)
attribute [local irreducible] ckR
def apC (l:List AT) (hn:l.length<=1000000) (hl:∀s∈l,s.size<=1000000000):Holds prog true 13 [.bn false .str l] (iv (p8 l)):=by
 have hS:=apB;obtain⟨E,hE⟩:∃E,p8 l=E:=⟨_,rfl⟩;rw [hE];refine bL (c:=xu) func13 rfl rfl fun w F=> ?_
 refine cJ hS 2 (apr l) ?_;refine aU.loop (ι:={k:Nat//k<=l.length/\p8 (l.drop k)=E}) (id:=0) (b:=cat xu vp) (rest:=(fl xu []).drop 3) (by kernel_rfl) (fun k=>p7 l k.1) (fun k=>l.length-k.1) ⟨0,Nat.zero_le _,hE⟩ (fun _=>rfl) ?_;rintro⟨k,hk,hd⟩;have hd:p8 (l.drop k)=E:=hd;by_cases hlt:k<l.length
 .have eg:l.getD k ByteArray.empty=l[k]:=by simp [ao,hlt]
  have hsz:(l.getD k ByteArray.empty).size<=1000000000:=by rw [eg];exact hl _ (List.getElem_mem _)
  rw [List.drop_eq_getElem_cons hlt,<-eg]at hd;have apD:∀(s:AT) (r:List AT),p8 (s::r)=if ckR s=0 then p8 r else ckR s:=fun _ _=>rfl
  rw [apD]at hd;by_cases h0:ckR (l.getD k ByteArray.empty)=0
  .rw [if_pos h0]at hd;refine bx (s:=p7 l k) hS (apt l k ω hlt hsz h0 ω) ?_;exact⟨⟨k+1,hlt,hd⟩,by show l.length-(k+1)<l.length-k;omega,rfl,rfl⟩
  .rw [if_neg h0]at hd;subst hd;exact bX (s:=p7 l k) hS (aps l k ω hlt hsz h0)
 .refine bx (s:=p7 l k) hS (apu l k ω) ?_;refine cy (cF ?_);rw [List.drop_eq_nil_of_le ω]at hd;subst hd;exact bX (s:=p7 l k) hS (apv l k)
def apE:XC.Ok prog:=fun⟨l,_⟩ h=>by
 have h:(decide (List.length (α:=AT) l<=1000000)&&List.all (α:=AT) l fun s=>decide (s.size<=1000000000))=true:=h;rw [ae,bE]at h;exact apC l h.1 fun s hs=>ap (List.all_eq_true.1 h.2 s hs)
end
noncomputable section
def O2:=k_a f218
def O3:=k_a f168
def XD:=k_a f119
def apF (s:AT) (h1:¬(s.size:Int)>=(↑(ByteArray.mk (#[(45:UInt8)])).size:Int)):
  bh (bc []) (fl O2 []) 9 18 [sv s,sv fq] 128 f218 true (bv false):=
 wy [af (aM (ab h1)),aJ h1] 138529738817
def apG (s:AT) (h1:(s.size:Int)>=(↑(ByteArray.mk (#[(45:UInt8)])).size:Int)) (h2:(ByteArray.mk (#[(45:UInt8)])).size<=s.size) (h3:(decide ((s.extract 0 (ByteArray.mk (#[(45:UInt8)])).size).data.toList=((ByteArray.mk (#[(45:UInt8)])).data).toList))=(b5 s)):
  bh (bc []) (fl O2 []) 9 18 [sv s,sv fq] 255 f218 true (bv (b5 s)):=
 wy [af (aM (az h1)),ah h2,ah h1,ax h3] 4666015224418275393
def Ih:=IN 218 [.str, .str] [.bool] true (fun d=>decide (d.2.1=fq)) fun d=>(b5 d.1,())
def O4:=IN 168 [.str, .str] [.str, .bool] true (fun d=>decide (d.2.1=fq)) fun d=>(bO d.1,b5 d.1,())
def XE:=IN 119 [.str, .str] [.str, .bool] true (fun d=>decide (d.2.1=fq)) fun d=>(bO d.1,b5 d.1,())
section
variable (s:AT) (h1:(ByteArray.mk (#[(45:UInt8)]))=(ByteArray.mk (#[(45:UInt8)])))
def apH (h2:(b5 s)=false):
  bh (bc [Ih]) (fl O3 []) 9 15 [sv s,sv fq] 3 f168 true (.tuple [sv s,bv false]):=
 wy [ah h1,af (cj (h2))] 129
def apI (h2:(b5 s)=true) (h3:(ByteArray.mk (#[(45:UInt8)])).size<=s.size) (h4:(s.extract (ByteArray.mk (#[(45:UInt8)])).size s.size)=(s.extract 1 s.size)):
  bh (bc [Ih]) (fl O3 []) 9 15 [sv s,sv fq] 2 f168 true (.tuple [sv (s.extract 1 s.size),bv true]):=
 wy [ah h1,af (cj (h2)),ah h3,ah (by omega:s.size<=s.size),ax h4] 5436604545
def apJ:
  bh (bc [O4]) (fl XD []) 9 11 [sv s,sv fq] 1 f119 true (.tuple [sv (bO s),bv (b5 s)]):=
 wy [ah h1] 1
end
def O5:=k_a f123
def apK (z:Int):
  bh (bc []) (fl O5 []) 9 (f123.ntmps) [aA (z,[])] 1 f123 true (.tuple [iv z,bv true]):=
 wy [af (aF (v:=iv (z))),af (aF (v:=aa.bn true aE []))] 129
def apL (z x:Int) (r:List Int) (h1:(x::r).isEmpty=false):
  bh (bc []) (fl O5 []) 9 (f123.ntmps) [aA (z,x::r)] 1 f123 true (.tuple [iv z,bv false]):=
 wy [af (aF (v:=iv (z))),af (aF (v:=aa.bn true aE (x::r))),ax (aM (h1))] 786561
def apM (s:AT):Holds prog true 218 [sv s,sv fq] (bv (b5 s)):=by
 have dD:(ByteArray.mk (#[(45:UInt8)])).size=1:=rfl;refine bL (c:=O2) func218 rfl rfl fun w F=> ?_
 by_cases h0:0<s.size
 .refine bw cC 9 (apG s (by rw [dD];omega) (by rw [dD];omega) ?_);rw [dD,show Array.toList (s.extract 0 1).data=(aq s).take 1 from by rw [show Array.toList (s.extract 0 1).data=aq (s.extract 0 1)from rfl,jQ,List.drop_zero]];show decide ((aq s).take 1=[45])=b5 s;unfold b5;rw [az h0,Bool.true_and];cases hb:aq s with
  |nil=>rw [cP,hb]at h0;cases h0
  |cons b r=>
   have e0:b9 s 0=b:=by show(aq s).getD 0 0=b;rw [hb];rfl
   rw [e0];show decide ([b]=[45])=_;by_cases h:b.toNat=45
   .have:b=45:=UInt8.toNat_inj.1 h;subst this;rfl
   .rw [ab h,ab (fun e=>h (by rw [(List.cons.inj e).1];rfl))]
 .have e:b5 s=false:=by unfold b5;rw [ab h0];rfl
  rw [e];exact bw cC 9 (apF s (by rw [dD];omega))
def apN:Ih.Ok prog:=fun⟨s,p,_⟩ h=>by
 have h:decide (p=fq)=true:=h;rw [ap h];exact apM s
def apO (s:AT):Holds prog true 168 [sv s,sv fq] (.tuple [sv (bO s),bv (b5 s)]):=by
 have hS:bC prog (bF (bc [Ih])):=cK fun c hc=>by rw [List.mem_singleton.1 hc];exact apN
 refine bL (c:=O3) func168 rfl rfl fun w F=> ?_
 cases hn:b5 s with
 |true=>
  have e:bO s=s.extract 1 s.size:=by unfold bO;rw [hn]
  have h0:0<s.size:=by unfold b5 at hn;rw [ae,bE]at hn;exact hn.1
  rw [e];exact bw hS 9 (apI s rfl hn (by show 1<=s.size;omega) rfl)
 |false=>
  have e:bO s=s:=by unfold bO;rw [hn]
  rw [e];exact bw hS 9 (apH s rfl hn)
def apP:O4.Ok prog:=fun⟨s,p,_⟩ h=>by
 have h:decide (p=fq)=true:=h;rw [ap h];exact apO s
def apQ:XE.Ok prog:=fun⟨s,p,_⟩ h=>by
 have h:decide (p=fq)=true:=h;rw [ap h];have hS:bC prog (bF (bc [O4])):=cK fun c hc=>by rw [List.mem_singleton.1 hc];exact apP
 refine bL (c:=XD) func119 rfl rfl fun w F=> ?_
 exact bw hS 9 (apJ s rfl)
def iF:=k_a f54
def Es (l:List Int):Bool:=List.isEmpty l
def XF:=IN 123 [cS] [.int .i64, .bool] true (fun d=>true) fun d=>(d.1.1,Es d.1.2,())
def js:=bc [MZ,XE,XB,MY,GZ,XF]
def dc (u d:AT) (fr cU:Bool):bD:={n:=71,sl:=[(4,sv d),(5,bv fr),(6,sv u),(7,bv cU)],bJ:=[],next:=64}
def apR (s:AT) (h1:(nf s)=true) (h2:(ByteArray.mk (#[(45:UInt8)]))=(ByteArray.mk (#[(45:UInt8)]))):
  cZ js (fl iF []) 3 71 [sv s] 1 .normal [] (dc (bO (iV s iC)) (sR s iC) (oy s iC) (b5 (iV s iC))):=
 wy [af h1,ah h2] 129
section
variable (u d:AT)
def apS (fr cU:Bool) (h1:u.size<=1000000000) (h2:(cA u)=false):
  bS js ((fl iF []).drop 3) (dc u d fr cU) 904 f54 true (iv 1):=
 wy [ah h1,af (bq (cj (h2))),af (cj (h2))] 50864257
def apT (fr:Bool) (h1:u.size<=1000000000) (h2:(cA u)=true) (h3:(u.data).toList=((ByteArray.mk (#[(48:UInt8)])).data).toList):
  bS js ((fl iF []).drop 3) (dc u d fr true) 7231 f54 true (iv 1):=
 wy [ah h1,af (bq (cj (h2))),af (cj (h2)),af (bq (az h3)),ah h3] 373619764182850216065
def apU (h1:u.size<=1000000000) (h2:(cA u)=true):
  cY js ((fl iF []).drop 3) 2 (dc u d false false) 1114515 .normal [] (dc u d false false):=
 wy [ah h1,af (bq (cj (h2))),af (cj (h2))] 13196287025281
def apV (h1:u.size<=1000000000) (h2:(cA u)=true) (h3:d.size<=1000000000) (h4:(cA d)=false):
  bS js ((fl iF []).drop 3) (dc u d true false) 116629395 f54 true (iv 1):=
 wy [ah h1,af (bq (cj (h2))),af (cj (h2)),ah h3,af (bq (cj (h4))),af (cj (h4))] 1947513652482217575232953206710401
def apW (h1:u.size<=1000000000) (h2:(cA u)=true) (h3:d.size<=1000000000) (h4:(cA d)=true) (h5:(d.data).toList=((ByteArray.mk (#[(48:UInt8)])).data).toList):
  bS js ((fl iF []).drop 3) (dc u d true false) 116588435 f54 true (iv 1):=
 wy [ah h1,af (bq (cj (h2))),af (cj (h2)),ah h3,af (bq (cj (h4))),af (cj (h4)),af (bq (az h5)),ah h5] 2788197950501923681896353591526425951740033
def apX (h1:u.size<=1000000000) (h2:(cA u)=true) (h3:d.size<=1000000000) (h4:(cA d)=true) (h5:¬(d.data).toList=((ByteArray.mk (#[(48:UInt8)])).data).toList) (h6:(d.data).toList=((ByteArray.mk (#[(49:UInt8)])).data).toList):
  bS js ((fl iF []).drop 3) (dc u d true false) 115277715 f54 true (iv 1):=
 wy [ah h1,af (bq (cj (h2))),af (cj (h2)),ah h3,af (bq (cj (h4))),af (cj (h4)),af (bq (ab h5)),aJ h5,ah h6] 52614061732110455557256335874139780234039523287169
def apY (h1:u.size<=1000000000) (h2:(cA u)=true) (h3:d.size<=1000000000) (h4:(cA d)=true) (h5:¬(d.data).toList=((ByteArray.mk (#[(48:UInt8)])).data).toList) (h6:¬(d.data).toList=((ByteArray.mk (#[(49:UInt8)])).data).toList):
  cY js ((fl iF []).drop 3) 2 (dc u d true false) 81723283 .normal [] (dc u d true false):=
 wy [ah h1,af (bq (cj (h2))),af (cj (h2)),ah h3,af (bq (cj (h4))),af (cj (h4)),af (bq (ab h5)),aJ h5,aJ h6] 52614061732110455557256335874139780234039523287169
def apZ (h1:u.size<=1000000000) (h2:(cA u)=true) (h3:¬(u.data).toList=((ByteArray.mk (#[(48:UInt8)])).data).toList):
  cY js ((fl iF []).drop 3) 2 (dc u d false true) 1114559 .normal [] (dc u d false true):=
 wy [ah h1,af (bq (cj (h2))),af (cj (h2)),af (bq (ab h3)),aJ h3] 103866219580300204314230564067483777
def ap0 (h1:u.size<=1000000000) (h2:(cA u)=true) (h3:¬(u.data).toList=((ByteArray.mk (#[(48:UInt8)])).data).toList) (h4:d.size<=1000000000) (h5:(cA d)=false):
  bS js ((fl iF []).drop 3) (dc u d true true) 116629439 f54 true (iv 1):=
 wy [ah h1,af (bq (cj (h2))),af (cj (h2)),af (bq (ab h3)),ah h4,af (bq (cj (h5))),af (cj (h5)),aJ h3] 730840021646247853707080807151523503615250538625
def ap1 (h1:u.size<=1000000000) (h2:(cA u)=true) (h3:¬(u.data).toList=((ByteArray.mk (#[(48:UInt8)])).data).toList) (h4:d.size<=1000000000) (h5:(cA d)=true) (h6:(d.data).toList=((ByteArray.mk (#[(48:UInt8)])).data).toList):
  bS js ((fl iF []).drop 3) (dc u d true true) 116588479 f54 true (iv 1):=
 wy [ah h1,af (bq (cj (h2))),af (cj (h2)),af (bq (ab h3)),ah h4,af (bq (cj (h5))),af (cj (h5)),af (bq (az h6)),ah h6,aJ h3] 913530863046102819659576943611420643593858064513
def ap2 (h1:u.size<=1000000000) (h2:(cA u)=true) (h3:¬(u.data).toList=((ByteArray.mk (#[(48:UInt8)])).data).toList) (h4:d.size<=1000000000) (h5:(cA d)=true) (h6:¬(d.data).toList=((ByteArray.mk (#[(48:UInt8)])).data).toList) (h7:(d.data).toList=((ByteArray.mk (#[(49:UInt8)])).data).toList):
  bS js ((fl iF []).drop 3) (dc u d true true) 115277759 f54 true (iv 1):=
 wy [ah h1,af (bq (cj (h2))),af (cj (h2)),af (bq (ab h3)),ah h4,af (bq (cj (h5))),af (cj (h5)),af (bq (ab h6)),aJ h6,aJ h3,ah h7] 65219602905605831220621709583127873508454889955457
def ap3 (h1:u.size<=1000000000) (h2:(cA u)=true) (h3:¬(u.data).toList=((ByteArray.mk (#[(48:UInt8)])).data).toList) (h4:d.size<=1000000000) (h5:(cA d)=true) (h6:¬(d.data).toList=((ByteArray.mk (#[(48:UInt8)])).data).toList) (h7:¬(d.data).toList=((ByteArray.mk (#[(49:UInt8)])).data).toList):
  cY js ((fl iF []).drop 3) 2 (dc u d true true) 81723327 .normal [] (dc u d true true):=
 wy [ah h1,af (bq (cj (h2))),af (cj (h2)),af (bq (ab h3)),ah h4,af (bq (cj (h5))),af (cj (h5)),af (bq (ab h6)),aJ h6,aJ h3,aJ h7] 65219602905605831220621709583127873508454889955457
def ap4 (fr cU:Bool) (h1:(u.size:Int)>600):
  bS js ((fl iF []).drop 5) (dc u d fr cU) 56 f54 true (iv 4):=
 wy [af (bq (az h1)),ah h1] 528449
def ap5 (fr cU:Bool) (h1:¬(u.size:Int)>600) (h2:(d.size:Int)>600):
  bS js ((fl iF []).drop 5) (dc u d fr cU) 55 f54 true (iv 4):=
 wy [af (bq (ab h1)),aJ h1,ah h2] 50860097
def ap6 (fr cU:Bool) (h1:¬(u.size:Int)>600) (h2:¬(d.size:Int)>600):
  cY js ((fl iF []).drop 5) 2 (dc u d fr cU) 39 .normal [] (dc u d fr cU):=
 wy [af (bq (ab h1)),aJ h1,aJ h2] 50860097
def ap7 (cU:Bool):
  bS js ((fl iF []).drop 7) (dc u d false cU) 2 f54 true (iv 0):=
 wy [] 0
def ap8 (cU:Bool) (h1:(jM u)=true) (h2:(jM d)=true) (h3:(ay (dj u)&&ay (dj d))=true) (h4:(Es (d9 (dj u) (dj d)).2)=false):
  bS js ((fl iF []).drop 7) (dc u d true cU) 57 f54 true (iv 1):=
 wy [af h1,af h2,af h3,af (bq (cj (h4))),af (cj (h4))] 22269406224448
def ap9 (cU:Bool) (h1:(jM u)=true) (h2:(jM d)=true) (h3:(ay (dj u)&&ay (dj d))=true) (h4:(Es (d9 (dj u) (dj d)).2)=true) (h5:¬(d9 (dj u) (dj d)).1=1):
  bS js ((fl iF []).drop 7) (dc u d true cU) 55 f54 true (iv 1):=
 wy [af h1,af h2,af h3,af (bq (cj (h4))),af (cj (h4)),af (gC.mpr h5)] 1711119266488384
def aqa (cU:Bool) (h1:(jM u)=true) (h2:(jM d)=true) (h3:(ay (dj u)&&ay (dj d))=true) (h4:(Es (d9 (dj u) (dj d)).2)=true) (h5:(d9 (dj u) (dj d)).1=1):
  bS js ((fl iF []).drop 7) (dc u d true cU) 39 f54 true (iv 0):=
 wy [af h1,af h2,af h3,af (bq (cj (h4))),af (cj (h4)),af (eR.mpr h5)] 1711119266488384
end
def aqb:XF.Ok prog:=fun⟨⟨z,l⟩,_⟩ _=>by
 show Holds prog true 123 [aA (z,l)] (.tuple [iv z,bv (Es l)]);refine bL (c:=O5) func123 rfl rfl fun w F=> ?_
 cases l with
 |nil=>exact bw cC 9 (apK z)
 |cons x r=>exact bw cC 9 (apL z x r rfl)
end
def O6:∀l:List UInt8,(∀b∈l.take (bf l),b≠47)/\(bf l<l.length->l=l.take (bf l)++47::l.drop (bf l+1))
 |[]=>⟨fun b h=>(by cases h),fun h=>(by cases h)⟩
 |b::r=>by
  obtain⟨h1,h2⟩:=O6 r;by_cases hb:b.toNat=47
  .have e:bf (b::r)=0:=by unfold bf;rw [if_pos hb]
   have aqc:b=47:=UInt8.toNat_inj.1 hb;rw [e];exact⟨fun c h=>(by cases h),fun _=>(by rw [aqc];rfl)⟩
  .have e:bf (b::r)=bf r+1:=by show(if b.toNat=47 then 0 else bf r+1)=_;rw [if_neg hb]
   rw [e];refine⟨fun c h=> ?_,fun h=> ?_⟩
   .rw [List.take_succ_cons]at h;rcases en.1 h with rfl |h
    .exact fun e=>hb (by rw [e];rfl)
    .exact h1 c h
   .have h:=h2 (by rw [List.length_cons]at h;omega);rw [List.take_succ_cons,List.drop_succ_cons,List.cons_append];exact congrArg (b:: ·) h
def O7 (l:List UInt8):Lib.cut l [47]=(l.take (bf l),l.drop (bf l+1),decide (bf l<l.length)):=by
 obtain⟨h1,h2⟩:=O6 l;by_cases h:bf l<l.length
 .have e:=h2 h;have key:=WT (l:=l.take (bf l)) (r:=l.drop (bf l+1)) h1;rw [<-e]at key;rw [key,az h]
 .have hl:l.length<=bf l:=by omega
  rw [eH hl]at h1 ⊢;rw [WS h1,List.drop_eq_nil_of_le ω,ab h]
def XG {s:AT} (h:bZ (aq s)=true):∀k,k<=(aq s).length->Lib.decFrom 0 ((aq s).take k)=some (bg ((aq s).take k)).toNat
 |0,_=>by rw [List.take_zero];rfl
 |k+1,hk=>by
  have ih:=XG h k ω;have hv:=BB h k ω;have hm:b9 s k∈aq s:=by rw [zo ω];exact List.getElem_mem _
  have hb:=List.all_eq_true.1 h _ hm;rw [ae,bE,bE]at hb;have eb:b9 s k=UInt8.ofNat (48+((b9 s k).toNat-48)):=by
   rw [show 48+((b9 s k).toNat-48)=(b9 s k).toNat by omega];simp
  have key:=Dec.M5 _ 0 _ ((b9 s k).toNat-48) ω ih;rw [<-eb]at key;have et:(aq s).take (k+1)=(aq s).take k++[b9 s k]:=zt ω;rw [rh ω,et,key];congr 1;omega
def XH {s:AT} (h:bZ (aq s)=true):Lib.decFrom 0 (aq s)=some (bg (aq s)).toNat:=by
 have:=XG h (aq s).length (aI _);rw [dK]at this;exact this
def O8 (s:AT):aq (iV s iC)=(aq s).take (bf (aq s)):=by
 show(Lib.cut (aq s) [47]).1=_;rw [O7]
def XI (s:AT):aq (sR s iC)=(aq s).drop (bf (aq s)+1):=by
 show(Lib.cut (aq s) [47]).2.1=_;rw [O7]
def XJ (s:AT):oy s iC=decide (bf (aq s)<(aq s).length):=by
 show(Lib.cut (aq s) [47]).2.2=_;rw [O7]
def Et (s:AT):(b5 s=true/\aq s=45::aq (bO s))\/(b5 s=false/\bO s=s/\∀b r,aq s=b::r->b.toNat≠45):=by
 cases hn:b5 s with
 |true=>
  left;refine⟨rfl, ?_⟩;have e:bO s=s.extract 1 s.size:=by unfold bO;rw [hn]
  unfold b5 at hn;rw [ae,bE,bE]at hn;rw [e,jQ,cP,dK];cases hb:aq s with
  |nil=>rw [cP,hb]at hn;exact absurd hn.1 δ
  |cons b r=>
   have h2:(b9 s 0).toNat=45:=hn.2;have h3:b9 s 0=b:=by show(aq s).getD 0 0=b;rw [hb];rfl
   rw [h3]at h2;have:b=45:=UInt8.toNat_inj.1 h2;rw [this];rfl
 |false=>
  right;refine⟨rfl,by unfold bO;rw [hn],fun b r hb h=> ?_⟩;have h3:b9 s 0=b:=by show(aq s).getD 0 0=b;rw [hb];rfl
  unfold b5 at hn;rw [az (by rw [cP,hb];exact Nat.succ_pos _),h3,az h]at hn;cases hn
def aqd {s:AT} (h:∀b r,aq s=b::r->b.toNat≠45):b5 s=false/\bO s=s:=by
 rcases Et s with⟨_,h2⟩|⟨h1,h2,_⟩
 .exact absurd rfl (h 45 _ h2)
 .exact⟨h1,h2⟩
def aqe (s:AT):bO (iV s iC)=(bO s).extract 0 (bf (aq (bO s)))/\sR s iC=(bO s).extract (bf (aq (bO s))+1) (bO s).size/\oy s iC=decide (bf (aq (bO s))<(bO s).size)/\b5 (iV s iC)=b5 s:=by
 rcases Et s with⟨h1,h2⟩|⟨h1,h2,h3⟩
 .have hk:bf (aq s)=bf (aq (bO s))+1:=by
   rw [h2];show(if(45:UInt8).toNat=47 then 0 else bf (aq (bO s))+1)=_;rw [if_neg δ]
  have ha:aq (iV s iC)=45::(aq (bO s)).take (bf (aq (bO s))):=by rw [O8,hk,h2,List.take_succ_cons]
  rcases Et (iV s iC)with⟨g1,g2⟩|⟨_,_,g3⟩
  .rw [ha]at g2;refine⟨gA ?_,gA ?_, ?_,by rw [g1,h1]⟩
   .show aq _=aq _;rw [jQ,List.drop_zero];exact(List.cons.inj g2).2.symm
   .show aq _=aq _;rw [XI,jQ,cP,dK,hk,h2,List.drop_succ_cons]
   .rw [XJ,hk,h2,cP,List.length_cons];by_cases h:bf (aq (bO s))<(aq (bO s)).length
    .rw [az h,az ω]
    .rw [ab h,ab ω]
  .exact absurd rfl (g3 45 _ ha)
 .have hp:b5 (iV s iC)=false/\bO (iV s iC)=iV s iC:=aqd fun b r hb=>by
   rw [O8]at hb;cases hc:aq s with
   |nil=>rw [hc]at hb;rw [List.take_nil]at hb;cases hb
   |cons c t=>
    have h4:=h3 c t hc;rw [hc]at hb;cases hm:bf (c::t)with
    |zero=>rw [hm]at hb;cases hb
    |succ m=>
     rw [hm,List.take_succ_cons]at hb;rw [<-(List.cons.inj hb).1];exact h4
  rw [hp.1,hp.2,h1,h2];refine⟨gA ?_,gA ?_, ?_,rfl⟩
  .show aq _=aq _;rw [O8,jQ,List.drop_zero]
  .show aq _=aq _;rw [XI,jQ,cP,dK]
  .rw [XJ,cP]
noncomputable section
def O9:=IN 54 [.str] [.int .i64] true (fun d=>decide (d.1.size<=1000000000)) fun d=>(ckR d.1,())
--{
def Pa:bC prog (bF js):=cK (aP U4 (aP apQ (aP apA (aP BT (aP MF (aP aqb dQ))))))
def XK {u:AT} (h:bZ (aq u)=true):Lib.hasPrefix (aq u) [45]=false:=Dec.U7 _ fun b hb=>by
 have:=List.all_eq_true.1 h b hb;rw [ae,bE,bE]at this;exact this
def XL:∀n:Nat,(10:Int)^n<=18446744073709551616^n
 |0=>by simp
 |n+1=>by
  rw [Int.pow_succ,Int.pow_succ];have h1:=XL n;have h2:=dR (b:=10) δ n;omega
def XM {u:AT} (h:bZ (aq u)=true) (hl:u.size<=600):jM u=true/\dj u=aY (bg (aq u))/\ay (aY (bg (aq u)))=true/\aj (aY (bg (aq u)))=bg (aq u):=by
 have hb:=u7 h;have e1:(ga u fq).data.toList=aq u:=by
  show Lib.trimPrefix (aq u) [45]=aq u;unfold Lib.trimPrefix;rw [XK h];rfl
 have e2:uU u=bg (aq u):=by
  unfold uU;rw [e1,XH h];show((bg (aq u)).toNat:Int)=_;omega
 have e3:Bq u=bg (aq u):=by
  unfold Bq;rw [show pS u fq=false from XK h,e2];rfl
 have h0:((bg (aq u)).natAbs:Int)<18446744073709551616^u.size:=by
  have h1:=XL u.size;omega
 obtain⟨m1,m2⟩:=jJ (n:=100000) (Int.lt_of_lt_of_le h0 (iQ δ ω));refine⟨?_,by unfold dj;rw [e3],m1,m2⟩;unfold jM;rw [e1,XH h,e2];exact m1
def Eu (u d:AT) (fr cU:Bool):Int:=
 if cA u=false then 1
 else if cU=true/\aq u=[48]then 1
 else if fr=true/\(cA d=false\/aq d=[48]\/aq d=[49])then 1
 else if 600<u.size\/600<d.size then 4
 else if fr=true/\Int.gcd (bg (aq u)) (bg (aq d))≠1 then 1
 else 0
def aqf {t:AT} {k:Nat} {cU:Bool} (hk:k<=t.size):Eu (t.extract 0 k) (t.extract (k+1) t.size) (decide (k<t.size)) cU=zK cU t k:=by
 have dD:=lu t 0 k hk;have z2:=lu t (k+1) t.size (aI _);unfold Eu zK;simp only [bE];have e:(600<(t.extract 0 k).size\/600<(t.extract (k+1) t.size).size)↔(600<k\/601+k<t.size):=by omega
 simp only [e]
def Ii (u d:AT) (fr cU:Bool) (hu:bZ (aq u)=true) (hd:fr=true->bZ (aq d)=true) (w:World) (F:Sv.Env):
  aU prog w F 71 ((fl iF []).drop 5) (dc u d fr cU).T (dc u d fr cU).H (hG prog true f54 (iv (if 600<u.size\/600<d.size then 4 else if fr=true/\Int.gcd (bg (aq u)) (bg (aq d))≠1 then 1 else 0))):=by
 have hS:=Pa;by_cases h1:600<u.size
 .rw [if_pos (.inl h1)];exact bX (s:=dc u d fr cU) hS (ap4 u d fr cU ω)
 .by_cases h2:600<d.size
  .rw [if_pos (.inr h2)];exact bX (s:=dc u d fr cU) hS (ap5 u d fr cU ω ω)
  .rw [if_neg ω];refine c6 (s:=dc u d fr cU) hS 2 (ap6 u d fr cU ω ω) ?_;cases fr with
   |false=>
    rw [if_neg (fun h=>by cases h.1)];exact bX (s:=dc u d false cU) hS (ap7 u d cU)
   |true=>
    obtain⟨a1,a2,a3,a4⟩:=XM hu ω;obtain⟨b1,b2,b3,b4⟩:=XM (hd rfl) ω;have k1:=ap8 u d cU a1 b1;have k2:=ap9 u d cU a1 b1;have dN:=aqa u d cU a1 b1;rw [a2,b2]at k1 k2 dN;have hg:d9 (aY (bg (aq u))) (aY (bg (aq d)))=aY (Int.gcd (bg (aq u)) (bg (aq d))):=by unfold d9;rw [a4,b4]
    have hg':d9 ((aY (bg (aq u))).1,(aY (bg (aq u))).2) ((aY (bg (aq d))).1,(aY (bg (aq d))).2)=aY (Int.gcd (bg (aq u)) (bg (aq d))):=hg;rw [hg']at k1 k2 dN;have kr:=cq a3 b3;generalize Int.gcd (bg (aq u)) (bg (aq d))=g at*;by_cases qD:g=1
    .rw [if_neg (fun h=>h.2 qD)];have em:aY ((g:Nat):Int)=(1,[]):=by rw [qD];exact sw δ
     rw [em]at dN;exact bX (s:=dc u d true cU) hS (dN kr rfl rfl)
    .rw [if_pos ⟨rfl,qD⟩];by_cases kQ:(-9223372036854775807:Int)<=(g:Int)/\(g:Int)<=9223372036854775807
     .have em:aY ((g:Nat):Int)=((g:Int),[]):=sw kQ;rw [em]at k2;exact bX (s:=dc u d true cU) hS (k2 kr rfl (by show¬(g:Int)=1;omega))
     .have em:aY ((g:Nat):Int)=(if(g:Int)<0 then-1 else 1,cO 18446744073709551616 (g:Int).natAbs):=by unfold aY;rw [if_neg kQ]
      rw [em]at k1;refine bX (s:=dc u d true cU) hS (k1 kr ?_);show List.isEmpty (cO 18446744073709551616 ((g:Int).natAbs:Int))=false;have hne:=A2 (b:=18446744073709551616) δ (show(0:Int)<((g:Int).natAbs:Int) by omega);cases hc:cO 18446744073709551616 ((g:Int).natAbs:Int)with
      |nil=>exact absurd hc hne
      |cons x r=>rfl
def aqg (u d:AT) (fr cU:Bool) (fN:u.size<=1000000000) (xw:d.size<=1000000000) (w:World) (F:Sv.Env):
  aU prog w F 71 ((fl iF []).drop 3) (dc u d fr cU).T (dc u d fr cU).H (hG prog true f54 (iv (Eu u d fr cU))):=by
 have hS:=Pa;unfold Eu;cases ha:cA u with
 |false=>
  rw [if_pos rfl];exact bX (s:=dc u d fr cU) hS (apS u d fr cU fN ha)
 |true=>
  rw [if_neg δ];have du:=(xp ha).1;by_cases hz:cU=true/\aq u=[48]
  .rw [if_pos hz];obtain⟨rfl,h48⟩:=hz;exact bX (s:=dc u d fr true) hS (apT u d fr fN ha h48)
  .rw [if_neg hz];cases fr with
   |false=>
    rw [if_neg (fun h=>by cases h.1)];cases cU with
    |false=>
     refine c6 (s:=dc u d false false) hS 2 (apU u d fN ha) ?_;exact Ii u d false false du (fun h=>by cases h) w F
    |true=>
     refine c6 (s:=dc u d false true) hS 2 (apZ u d fN ha (fun h=>hz ⟨rfl,h⟩)) ?_;exact Ii u d false true du (fun h=>by cases h) w F
   |true=>
    cases hb:cA d with
    |false=>
     rw [if_pos ⟨rfl, .inl rfl⟩];cases cU with
     |false=>exact bX (s:=dc u d true false) hS (apV u d fN ha xw hb)
     |true=>exact bX (s:=dc u d true true) hS (ap0 u d fN ha (fun h=>hz ⟨rfl,h⟩) xw hb)
    |true=>
     have dd:=(xp hb).1;by_cases h8:aq d=[48]
     .rw [if_pos ⟨rfl, .inr (.inl h8)⟩];cases cU with
      |false=>exact bX (s:=dc u d true false) hS (apW u d fN ha xw hb h8)
      |true=>exact bX (s:=dc u d true true) hS (ap1 u d fN ha (fun h=>hz ⟨rfl,h⟩) xw hb h8)
     .by_cases h9:aq d=[49]
      .rw [if_pos ⟨rfl, .inr (.inr h9)⟩];cases cU with
       |false=>exact bX (s:=dc u d true false) hS (apX u d fN ha xw hb h8 h9)
       |true=>exact bX (s:=dc u d true true) hS (ap2 u d fN ha (fun h=>hz ⟨rfl,h⟩) xw hb h8 h9)
      .rw [if_neg (fun h=>by
        rcases h.2 with h|h|h
        .cases h
        .exact h8 h
        .exact h9 h)]
       cases cU with
       |false=>
        refine c6 (s:=dc u d true false) hS 2 (apY u d fN ha xw hb h8 h9) ?_;exact Ii u d true false du (fun _=>dd) w F
       |true=>
        refine c6 (s:=dc u d true true) hS 2 (ap3 u d fN ha (fun h=>hz ⟨rfl,h⟩) xw hb h8 h9) ?_;exact Ii u d true true du (fun _=>dd) w F
def aqh (s:AT) (hl:s.size<=1000000000):Holds prog true 54 [sv s] (iv (ckR s)):=by
 have hS:=Pa;refine bL (c:=iF) func54 rfl rfl fun w F=> ?_
 obtain⟨e1,e2,e3,bV⟩:=aqe s;have hle:bf (aq (bO s))<=(bO s).size:=by rw [cP];exact BD _
 have hps:(bO s).size<=s.size:=by
  rcases Et s with⟨_,h2⟩|⟨_,h2,_⟩
  .have:=congrArg List.length h2;rw [List.length_cons,<-cP,<-cP]at this;omega
  .rw [h2];exact aI _
 have hc:nf s=true:=az ω;have key:=apR s hc rfl;rw [e1,e2,e3,bV]at key;have ev:ckR s=Eu ((bO s).extract 0 (bf (aq (bO s)))) ((bO s).extract (bf (aq (bO s))+1) (bO s).size) (decide (bf (aq (bO s))<(bO s).size)) (b5 s):=(aqf hle).symm;rw [ev];refine cJ hS 3 key ?_;exact aqg _ _ _ _ (by rw [lu _ _ _ hle];omega) (by rw [lu _ _ _ (aI _)];omega) w F
attribute [local irreducible] ckR
def XN:O9.Ok prog:=fun⟨s,_⟩ h=>by
 have h:decide (s.size<=1000000000)=true:=h;exact aqh s (ap h)
--}
end
section
set_option maxHeartbeats 4000000
noncomputable section
def smI2 (a:aC):Bool:=List.isEmpty (α:=Int) a.2&&gI a.1
abbrev sl (l:List AT):aa:= .bn false .str l
def RJ (l:List AT):Bool:=decide (l.length<=1000)&&l.all fun s=>decide (s.size<=1000000000)&&decide (ckR s=0)
def QV (s:AT):Prop:=∃r,p4 r/\s=textQ r
def BS {r:Rat} (h:p4 r):toQ (textQ r)=r:=p6 (k:=2) δ ⟨by have:=h.1;show(r.num.natAbs:Int)<1000000000000000000;omega,by have:=h.2;show(r.den:Int)<1000000000000000000;omega⟩
attribute [local irreducible] Ib zf aW txS okTx smI2 textQ toQ fh RJ okQ
attribute [local semireducible] Ib zf aW txS okTx smI2 textQ toQ fh RJ okQ
end
end
noncomputable section
def Pb:=bc [WK,G6]
def aqi (q:bB) (h1:(hO q)=true) (h2:(aT 10000 q.1)=true):
  bh Pb (fl Oh []) 9 16 [bM q] 3 f61 true (sv (ip q.1)):=
 wy [af h1,af h2] 8256
def aqj (q:bB) (h1:(hO q)=false) (h2:(aT 10000 q.1)=true) (h3:(ip q.1).size+(ByteArray.mk #[47]).size<=9223372036854775807) (h4:(aT 10000 q.2)=true) (h5:(ip q.1++ByteArray.mk #[47]).size+(ip q.2).size<=9223372036854775807):
  bh Pb (fl Oh []) 9 16 [bM q] 2 f61 true (sv (ip q.1++ByteArray.mk #[47]++ip q.2)):=
 wy [af h1,af (aF (v:=aA q.1)),af h2,ah h3,af (aF (v:=aA q.2)),af h4,ah h5] 1997062150037568
def xx (q:bB):Rat:=Rat.divInt (aj q.1) (aj q.2)
noncomputable def lD (n:Nat) (q:bB):Bool:= @decide (QR n q (xx q)) (Classical.propDecidable _)
noncomputable def gu (q:bB):AT:=textQ (xx q)
def Ev:=IN 61 [fT] [.str] true (fun d=>lD 10000 d.1) fun d=>(gu d.1,())
def Pc {n:Nat} {q:bB}:lD n q=true↔QR n q (xx q):= @decide_eq_true_iff _ (Classical.propDecidable _)
def QR.val {n:Nat} {q:bB} {r:Rat} (h:QR n q r):xx q=r:=h.self
def QR.rd {n m:Nat} {q:bB} {r:Rat} (h:QR n q r) (hm:n<=m):lD m q=true:=Pc.2 (by rw [h.val];exact h.mono hm)
def XO {m n:Nat} {a:aC} (h:aT m a=true) (hv:((aj a).natAbs:Int)<18446744073709551616^n):aT n a=true:=by
 by_cases hw:a.2=[]
 .rw [nH hw]at h ⊢;exact h
 .obtain⟨h1,h2,h3,h4,h5⟩:=(pM hw).1 h;refine(pM hw).2 ⟨h1,h2,h3,h4, ?_⟩;obtain⟨_,_,p3,_,_⟩:=cf h;unfold aB at p3;rw [if_neg hw]at p3;have hz:=fY (b:=18446744073709551616) δ h2;have e:a.2=cO 18446744073709551616 (ak a.2):=qY δ h2 h3 rfl;rw [e];exact jn δ hz (by rw [p3];exact hv)
def QR.shrink {m n:Nat} {q:bB} {r:Rat} (h:QR m q r) (h1:(r.num.natAbs:Int)<18446744073709551616^n) (h2:(r.den:Int)<18446744073709551616^n):QR n q r:=
 ⟨XO h.o1 (by rw [h.num];exact h1),XO h.o2 (by rw [h.den];omega),h.num,h.den⟩
def XP {n:Nat} {a:aC} (h:aT n a=true) (hn:1<=n):(ip a).size<=20*n+2:=by
 have hB:=jI h hn;have h1:=Wz (n:=n) (m:=((aj a).natAbs:Int)) ω hB;unfold ip;rw [cP,xt h,cQ];have:(zz (bY a)).length<=1:=by cases bY a<;>decide
 rw [Int.toNat_natCast]at h1;omega
def aqk:bC prog (bF Pb):=cK (aP anQ (aP MP dQ))
def XQ {n:Nat} {q:bB} {r:Rat} (h:QR n q r):hO q=true↔r.den=1:=by
 have hd:=h.den;unfold hO;rw [ae,fU];constructor
 .rintro⟨h1,h2⟩;have h1:q.2.2=[]:=List.isEmpty_iff.1 h1;rw [lT h1]at hd;omega
 .intro e;rw [e]at hd;have hs:q.2.2=[]:=by
   refine Classical.byContradiction fun hne=> ?_
   obtain⟨h1,_,_,h4,_⟩:=(pM hne).1 h.o2;have hv:aj q.2=q.2.1*ak q.2.2:=by unfold aj;rw [if_neg hne]
   rw [hv]at hd;rcases h1 with h1|h1<;>rw [h1]at hd<;>omega
  rw [lT hs]at hd;exact⟨List.isEmpty_iff.2 hs,by omega⟩
def aql {q:bB} {r:Rat} (h:QR 10000 q r):Holds prog true 61 [bM q] (sv (textQ r)):=by
 have hS:=aqk;have l1:=XP h.o1 δ;have l2:=XP h.o2 δ;refine bL (c:=Oh) func61 rfl rfl fun w F=> ?_
 by_cases hd:r.den=1
 .have key:=aqi q ((XQ h).2 hd) h.o1;have e:ip q.1=textQ r:=by unfold ip textQ;rw [if_pos hd,h.num]
  rw [e]at key;exact bw hS 9 key
 .have hw:hO q=false:=by
   cases hq:hO q with
   |false=>rfl
   |true=>exact absurd ((XQ h).1 hq) hd
  have dD:(ByteArray.mk #[47]).size=1:=rfl;have key:=aqj q hw h.o1 (by rw [dD];omega) h.o2 (by rw [ByteArray.size_append,dD];omega);have e:ip q.1++ByteArray.mk #[47]++ip q.2=textQ r:=by
   refine gA ?_;rw [dp,dp];unfold ip textQ;rw [if_neg hd,jm,jm,h.num,h.den,qh];rfl
  rw [e]at key;exact bw hS 9 key
def tp:Ev.Ok prog:=fun⟨q,_⟩ h=>aql (Pc.1 h)
end
end Go.Proofs.YtibikmmdbdlafaaGreatDoor
namespace Go.Proofs.YtibikmmdbdlafaaGreatDoor
def Ew:Nat->Int->Int->List Int
 |0,_,_=>[]
 |k+1,u,v=>u/v::(if u%v=0 then []else Ew k v (u%v))
def XR:∀(k m:Nat) (u v:Int),0<v->v.toNat<=k->v.toNat<=m->Ew k u v=Ew m u v
 |0,m,u,v,h,h1,_=>by omega
 |k+1,0,u,v,h,_,h2=>by omega
 |k+1,m+1,u,v,h,h1,h2=>by
  unfold Ew;have a:=dr u (show v≠0 by omega);have b:=c7 u h;by_cases hz:u%v=0
  .rw [if_pos hz,if_pos hz]
  .rw [if_neg hz,if_neg hz,XR k m v (u%v) ω ω ω]
def cfI (u v:Int):List Int:=Ew v.toNat u v
def oH {u v:Int} (h:0<v):cfI u v=u/v::(if u%v=0 then []else cfI v (u%v)):=by
 unfold cfI;obtain⟨k,hk⟩:∃k,v.toNat=k+1:=⟨v.toNat-1,by omega⟩;rw [hk];have a:=dr u (show v≠0 by omega);have b:=c7 u h;show u/v::_=_;by_cases hz:u%v=0
 .rw [if_pos hz,if_pos hz]
 .rw [if_neg hz,if_neg hz,XR k (u%v).toNat v (u%v) ω ω ω]
def Pd {C:Int->Int->Prop} (h0:∀u v,0<v->u%v=0->C u v) (h1:∀u v,0<v->0<u%v->C v (u%v)->C u v) (u v:Int) (hv:0<v):C u v:=by
 have key:∀(k:Nat) (u v:Int),0<v->v.toNat<=k->C u v:=fun k=>by
  induction k with
  |zero=>intro u v h g;omega
  |succ k ih=>
   intro u v h g;have a:=dr u (show v≠0 by omega);have b:=c7 u h;by_cases hz:u%v=0
   .exact h0 u v h hz
   .exact h1 u v h ω (ih v (u%v) ω ω)
 exact key _ u v hv (aI _)
def EQ:∀(k:Nat) (u v:Int),0<v->v<2^k->(cfI u v).length<=2*k
 |0,u,v,h,h1=>by simp at h1;omega
 |k+1,u,v,h,h1=>by
  rw [oH h];have a:=dr u (show v≠0 by omega);have b:=c7 u h;by_cases hz:u%v=0
  .rw [if_pos hz,List.length_cons,List.length_nil];omega
  .rw [if_neg hz,oH (show 0<u%v by omega)];have a2:=dr v (show u%v≠0 by omega);have b2:=c7 v (show 0<u%v by omega);by_cases k6:v%(u%v)=0
   .rw [if_pos k6,List.length_cons,List.length_cons,List.length_nil];omega
   .rw [if_neg k6,List.length_cons,List.length_cons];have e:=Int.mul_ediv_add_emod v (u%v);have q1:1<=v/(u%v):=(Int.le_ediv_iff_mul_le ω).2 ω;have aQ:=dn q1 a;have:=EQ k (u%v) (v%(u%v)) ω (by rw [Int.pow_succ]at h1;omega);omega
def kk:List Int->Int×Int
 |[]=>(1,0)
 |n::t=>(n*(kk t).1+(kk t).2,(kk t).1)
def gg:Int×Int->List Int->Int×Int
 |x,[]=>x
 |x,n::t=>gg (n*x.1+x.2,x.1) t
def Ex:∀(t:List Int) (a b:Int),(gg (a,b) t).1=a*(gg (1,0) t).1+b*(gg (0,1) t).1
 |[],a,b=>by simp [gg]
 |n::t,a,b=>by
  unfold gg;simp only [];rw [Ex t (n*a+b) a,Ex t (n*1+0) 1,Ex t (n*0+1) 0];grind
def Ey:∀t:List Int,kk t=((gg (1,0) t).1,(gg (0,1) t).1)
 |[]=>rfl
 |n::t=>by
  unfold kk gg;rw [Ey t];simp only [];rw [Ex t (n*1+0) 1,Ex t (n*0+1) 0];refine Prod.ext ?_ ?_
  .simp only [];grind
  .simp only [];grind
def XS:∀(t s:List Int) (x:Int×Int),gg x (t++s)=gg (gg x t) s
 |[],s,x=>rfl
 |n::t,s,x=>XS t s _
def BU (t:List Int) (n:Int) (x:Int×Int):gg x (t++[n])=(n*(gg x t).1+(gg x t).2,(gg x t).1):=by rw [XS];rfl
def XT:∀t:List Int,Int.gcd (kk t).1 (kk t).2=1
 |[]=>rfl
 |n::t=>by
  show Int.gcd (n*(kk t).1+(kk t).2) (kk t).1=1;rw [Int.gcd_comm,Int.add_comm,Int.gcd_add_mul_right_right,XT t]
def Ij:∀t:List Int,(∀n∈t,1<=n)->1<=(kk t).1/\0<=(kk t).2
 |[],_=>by decide
 |n::t,h=>by
  obtain⟨h1,h2⟩:=Ij t fun m hm=>h m (kJ _ hm)
  have:=ar (h n kK) (show 0<=(kk t).1 by omega);show 1<=n*(kk t).1+(kk t).2/\0<=(kk t).1;omega
def Pe {u v:Int} (h:0<v):∀n∈(if u%v=0 then []else cfI v (u%v)),1<=n:=by
 refine Pd (C:=fun u v=>∀n∈(if u%v=0 then []else cfI v (u%v)),1<=n) (fun u v _ hz n hn=> ?_) (fun u v hv hw ih n hn=> ?_) u v h
 .rw [if_pos hz]at hn;cases hn
 .rw [if_neg ω,oH hw,en]at hn;have b:=c7 u hv;rcases hn with rfl |hn
  .exact(Int.le_ediv_iff_mul_le ω).2 ω
  .exact ih n hn
def s9 (t l:List Int):Prop:=t≠[]/\∃s,l=t++s
def Pf {t:List Int} {n:Int} {l:List Int} (h:s9 t (n::l)):∃t',t=n::t'/\(t'=[]\/s9 t' l):=by
 obtain⟨h1,s,h2⟩:=h;cases t with
 |nil=>exact absurd rfl h1
 |cons m t'=>
  obtain⟨e,g⟩:=List.cons.inj (show n::l=m::(t'++s)from h2);subst e;refine⟨t',rfl, ?_⟩;by_cases h0:t'=[]
  .exact .inl h0
  .exact .inr ⟨h0,s,g⟩
def aqm {u v:Int} (hv:0<v) (hu:0<=u) {t:List Int} (ht:s9 t (cfI u v)):0<=(kk t).1/\(kk t).1<=u/\1<=(kk t).2/\(kk t).2<=v:=by
 revert hu t;refine Pd (C:=fun u v=>0<=u->∀{t:List Int},s9 t (cfI u v)->0<=(kk t).1/\(kk t).1<=u/\1<=(kk t).2/\(kk t).2<=v) (fun u v hv hz hu t ht=> ?_) (fun u v hv hw ih hu t ht=> ?_) u v hv
 .rw [oH hv,if_pos hz]at ht;obtain⟨t',rfl,h|h⟩:=Pf ht
  .subst h;have h0:0<=u/v:=Int.ediv_nonneg hu ω;have h1:u/v<=u:=Int.ediv_le_self _ hu;show 0<=u/v*1+0/\u/v*1+0<=u/\(1:Int)<=1/\(1:Int)<=v;omega
  .obtain⟨g1,s,g2⟩:=h;cases t' with
   |nil=>exact absurd rfl g1
   |cons a b=>cases g2
 .rw [oH hv,if_neg ω]at ht;have b:=c7 u hv;have e:=Int.mul_ediv_add_emod u v;have h0:0<=u/v:=Int.ediv_nonneg hu ω;obtain⟨t',rfl,h|h⟩:=Pf ht
  .subst h;have h1:u/v<=u:=Int.ediv_le_self _ hu;show 0<=u/v*1+0/\u/v*1+0<=u/\(1:Int)<=1/\(1:Int)<=v;omega
  .obtain⟨i1,i2,i3,i4⟩:=ih ω h;have m1:=dn i2 h0;have m2:=Int.mul_nonneg h0 i1;rw [Int.mul_comm (u/v) v]at m1;have i5:=Ij t' fun m hm=>by
    obtain⟨_,s,hs⟩:=h;have:=Pe (u:=u) hv m;rw [if_neg ω,hs]at this;exact this (List.mem_append_left _ hm)
   show 0<=u/v*(kk t').1+(kk t').2/\u/v*(kk t').1+(kk t').2<=u/\1<=(kk t').1/\(kk t').1<=v;omega
def XU {B u v:Int} (hv:0<v) (h1: -B<=u-v/\u+v<=B) (h2:2*v<=B) {t:List Int} (ht:s9 t (cfI u v)): -B<=(kk t).1/\(kk t).1<=B/\1<=(kk t).2/\(kk t).2<=v:=by
 have e:=Int.mul_ediv_add_emod u v;have a:=dr u (show v≠0 by omega);have b:=c7 u hv;rw [oH hv]at ht;obtain⟨t',rfl,h|h⟩:=Pf ht
 .subst h;show-B<=u/v*1+0/\u/v*1+0<=B/\(1:Int)<=1/\(1:Int)<=v;have c1:u/v<=B:=by
   by_cases hn:0<=u
   .have:=Int.ediv_le_self v hn;omega
   .have:=Int.ediv_neg_of_neg_of_pos (show u<0 by omega) hv;omega
  have c2: -B<=u/v:=by
   by_cases hn:0<=u
   .have:=Int.ediv_nonneg hn (show 0<=v by omega);omega
   .have h3:u<=u/v:=by
     have h0:=Int.ediv_neg_of_neg_of_pos (show u<0 by omega) hv;have:=dn (show(1:Int)<=v by omega) (show 0<= -(u/v)-1 by omega);rw [Int.mul_one,Int.sub_mul,Int.neg_mul,Int.mul_comm (u/v) v,Int.one_mul]at this;omega
    omega
  omega
 .by_cases hz:u%v=0
  .rw [if_pos hz]at h;obtain⟨g1,s,g2⟩:=h;cases t' with
   |nil=>exact absurd rfl g1
   |cons a b=>cases g2
  .rw [if_neg hz]at h;obtain⟨i1,i2,i3,i4⟩:=aqm (show 0<u%v by omega) (show 0<=v by omega) h;have i5:=Ij t' fun m hm=>by
    obtain⟨_,s,hs⟩:=h;have:=Pe (u:=u) hv m;rw [if_neg hz,hs]at this;exact this (List.mem_append_left _ hm)
   show-B<=u/v*(kk t').1+(kk t').2/\u/v*(kk t').1+(kk t').2<=B/\1<=(kk t').1/\(kk t').1<=v;generalize (kk t').1=p at*;generalize (kk t').2=q at*;generalize u/v=n at*;have m1:n*p<=B/\ -B<=n*p+q/\n*p+q<=B:=by
    by_cases hn:0<=n
    .have m1:=dn i2 hn;have m2:=Int.mul_nonneg hn i1;rw [Int.mul_comm n v]at m1;omega
    .have m1:=dn i2 (show 0<= -n by omega);have m2:=Int.mul_nonneg (show 0<= -n by omega) i1;rw [Int.neg_mul,Int.neg_mul,Int.mul_comm n v]at m1;rw [Int.neg_mul]at m2;omega
   omega
def XV {u v:Int} (h:0<v):cfI u v≠[]:=by rw [oH h];exact List.cons_ne_nil _ _
def XW {B u v:Int} (hv:0<v) (h1: -B<=u-v/\u+v<=B) (h2:2*v<=B):∀(k:Nat) {t:List Int},s9 t ((cfI u v).drop k)-> -B<=(kk t).1/\(kk t).1<=B/\1<=(kk t).2/\(kk t).2<=B/\(1<=k->1<=(kk t).1):=by
 intro k;revert h1 h2 k;refine Pd (C:=fun u v=> -B<=u-v/\u+v<=B->2*v<=B->∀(k:Nat) {t:List Int},s9 t ((cfI u v).drop k)-> -B<=(kk t).1/\(kk t).1<=B/\1<=(kk t).2/\(kk t).2<=B/\(1<=k->1<=(kk t).1)) (fun u v hv hz h1 h2 k t ht=> ?_) (fun u v hv hw ih h1 h2 k t ht=> ?_) u v hv
 .cases k with
  |zero=>
   rw [List.drop_zero]at ht;have:=XU hv h1 h2 ht;omega
  |succ k=>
   rw [oH hv,if_pos hz,List.drop_succ_cons,List.drop_nil]at ht;obtain⟨g1,s,g2⟩:=ht;cases t with
   |nil=>exact absurd rfl g1
   |cons a b=>cases g2
 .have b:=c7 u hv;cases k with
  |zero=>
   rw [List.drop_zero]at ht;have:=XU hv h1 h2 ht;omega
  |succ k=>
   have hpos:∀n∈t,1<=n:=fun n hn=>by
    obtain⟨_,s,hs⟩:=ht;have h3:=Pe (u:=u) hv n;rw [oH hv,List.drop_succ_cons]at hs;refine h3 (List.mem_of_mem_drop (i:=k) ?_);rw [hs];exact List.mem_append_left _ hn
   have h5:=Ij t hpos;rw [oH hv,if_neg ω,List.drop_succ_cons]at ht;have:=ih ω ω k ht;omega
def Ez {n:Int} (h:n≠0):(n:Rat)≠0:=by
 intro e;exact h (by exact_mod_cast e)
def aqn (r:Rat):r=(r.num:Rat)/(r.den:Int):=by
 rw [<-Rat.divInt_eq_div];exact(Rat.num_divInt_den r).symm
def XX (r:Rat):r-(r.floor:Rat)=((r.num%r.den:Int):Rat)/((r.den:Int):Rat):=by
 have hd:((r.den:Int):Rat)≠0:=Ez (by have:=r.den_pos;omega);have e:=Int.mul_ediv_add_emod r.num r.den;have e2:((r.den:Int):Rat)*((r.num/r.den:Int):Rat)+((r.num%r.den:Int):Rat)=(r.num:Rat):=by
  rw [<-Rat.intCast_mul,<-Rat.intCast_add,e]
 have e3:=aqn r;rw [Rat.floor_def];generalize hq:r.num/(r.den:Int)=q at*;generalize hm:r.num%(r.den:Int)=m at*;generalize hn:(r.num:Rat)=n at*;generalize ((r.den:Int):Rat)=d at*;subst e2;rw [e3];grind
def Pg (r:Rat):r-(r.floor:Rat)=0↔r.num%r.den=0:=by
 have hd:((r.den:Int):Rat)≠0:=Ez (by have:=r.den_pos;omega);rw [XX];constructor
 .intro h;refine Classical.byContradiction fun hm=> ?_
  have:=Ez hm;grind
 .intro h;rw [h];grind
def Ph {r:Rat} (h:r.num%r.den≠0):((r-(r.floor:Rat))⁻¹).num=r.den/\(((r-(r.floor:Rat))⁻¹).den:Int)=r.num%r.den:=by
 have hd:((r.den:Int):Rat)≠0:=Ez (by have:=r.den_pos;omega);have hm:=Ez h;have hp:0<r.num%r.den:=by
  have:=dr r.num (show(r.den:Int)≠0 by have:=r.den_pos;omega);omega
 have e:(r-(r.floor:Rat))⁻¹ =Rat.divInt r.den (r.num%r.den):=by
  rw [Rat.divInt_eq_div,XX];grind
 rw [e];refine pD ω ?_;have hr:Int.gcd r.num r.den=1:=r.reduced;have iR:=Int.mul_ediv_add_emod r.num r.den;have Be:Int.gcd r.den (r.num%r.den+r.num/r.den*r.den)=Int.gcd r.den (r.num%r.den):=Int.gcd_add_mul_right_right ..;rw [Int.mul_comm,Int.add_comm]at iR;rw [iR,Int.gcd_comm,hr]at Be;exact Be.symm
section
open Go.RowKit Sv Go.Proofs.Tryz
def Pj {b:UInt8} (h:48<=b.toNat/\b.toNat<=57):[b]=Lib.decDigits (bg [b]).toNat/\bg [b]=(b.toNat:Int)-48:=by
 have e:bg [b]=(b.toNat:Int)-48:=by rw [rk];simp [bg]
 refine⟨?_,e⟩;rw [e,mZ ω];congr 1;rw [show 48+((b.toNat:Int)-48).toNat=b.toNat by omega];simp
def Pk {b:UInt8} (h:bZ [b]=true):48<=b.toNat/\b.toNat<=57:=by
 rw [BE,ae,ae,bE,bE]at h;exact h.1
def XY:∀(n:Nat) (L:List UInt8),L.length=n+1->bZ L=true->(L.getD 0 0).toNat≠48->L=Lib.decDigits (bg L).toNat/\0<bg L
 |0,L,hl,hd,h0=>by
  obtain⟨b,rfl⟩:∃b,L=[b]:=List.length_eq_one_iff.1 hl;have hb:=Pk hd;obtain⟨h1,h2⟩:=Pj hb;have h3:b.toNat≠48:=h0;exact⟨h1,by omega⟩
 |n+1,L,hl,hd,h0=>by
  have hne:L≠[]:=fun e=>by rw [e]at hl;cases hl
  obtain⟨M,b,rfl⟩:∃M b,L=M++[b]:=⟨L.dropLast,L.getLast hne,(List.dropLast_concat_getLast hne).symm⟩;have eB:M.length=n+1:=by rw [cQ,List.length_singleton]at hl;omega
  rw [HW]at hd;have hb:=Pk hd.2;have hf:(M.getD 0 0).toNat≠48:=by
   cases M with
   |nil=>cases eB
   |cons c r=>exact h0
  obtain⟨i1,i2⟩:=XY n M eB hd.1 hf;obtain⟨_,e2⟩:=Pj hb;have ev:bg (M++[b])=bg M*10+((b.toNat:Int)-48):=by
   rw [OE,e2];rfl
  refine⟨?_,by omega⟩;rw [ev,s5 ω,show(bg M*10+((b.toNat:Int)-48)).toNat/10=(bg M).toNat by omega,<-i1,show(bg M*10+((b.toNat:Int)-48)).toNat%10=b.toNat-48 by omega,show 48+(b.toNat-48)=b.toNat by omega];simp
def XZ {u:AT} (h:cA u=true):aq u=Lib.decDigits (bg (aq u)).toNat:=by
 unfold cA at h;rw [ae,ae,bE]at h;obtain⟨h1,h2,h3⟩:=h;by_cases hs:u.size=1
 .obtain⟨b,hb⟩:∃b,aq u=[b]:=List.length_eq_one_iff.1 (by rw [<-cP];exact hs);rw [hb]at h3 ⊢;exact(Pj (Pk h3)).1
 .rw [ab ω,Bool.false_or,Bool.not_eq_true',decide_eq_false_iff_not]at h2;exact(XY (u.size-1) (aq u) (by rw [<-cP];omega) h3 h2).1
def Pm {s:AT} (h:ckR s=0):xo s:=by
 unfold ckR zK at h;split at h
 .cases h
 rename_i c1;split at h
 .cases h
 rename_i c2;split at h
 .cases h
 rename_i c3;split at h
 .cases h
 rename_i c4;split at h
 .cases h
 rename_i c5;obtain⟨t,ht⟩:∃t,bO s=t:=⟨_,rfl⟩;obtain⟨k,hk⟩:∃k,bf (aq t)=k:=⟨_,rfl⟩;rw [ht,hk]at c1 c2 c3 c4 c5;have hle:k<=t.size:=by rw [<-hk,cP];exact BD _
 have ha:cA (t.extract 0 k)=true:=by cases hd:cA (t.extract 0 k)with
  |true=>rfl
  |false=>exact absurd hd c1
 have BV:=XZ ha;have aqo:=u7 (xp ha).1;have au6:=lu t 0 k hle;obtain⟨A,hA⟩:∃A:Nat,bg (aq (t.extract 0 k))=(A:Int):=⟨(bg (aq (t.extract 0 k))).toNat,by omega⟩;rw [hA,Int.toNat_natCast]at BV;rw [hA]at aqo c5;have hneg:b5 s=true->0<A:=fun hn=>by
  rcases Nat.eq_zero_or_pos A with h0|h0
  .rw [h0,mZ δ]at BV;exact absurd ⟨hn,BV⟩ c2
  .exact h0
 have zB:bk (b5 s) (A:Int)<0↔b5 s=true:=by
  cases hn:b5 s with
  |true=>have:=hneg hn;constructor;exact fun _=>rfl;exact fun _=>by show-(A:Int)<0;omega
  |false=>constructor;(intro h;have:(A:Int)<0:=h;omega);exact fun h=>by cases h
 have X0:(bk (b5 s) (A:Int)).natAbs=A:=by cases b5 s with
  |true=>show(-(A:Int)).natAbs=A;omega
  |false=>show(A:Int).natAbs=A;omega
 have hit:Lib.itoa (bk (b5 s) (A:Int))=if b5 s then 45::Lib.decDigits A else Lib.decDigits A:=by
  rw [rE,X0];cases hn:b5 s with
  |true=>rw [az (by rw [hn]at zB;exact zB.2 rfl)]
  |false=>rw [ab (by rw [hn]at zB;exact fun h=>by cases zB.1 h)]
 have hs:aq s=if b5 s then 45::aq t else aq t:=by
  rcases Et s with⟨h1,h2⟩|⟨h1,h2,_⟩
  .rw [h1,h2,ht];rfl
  .rw [h1,<-ht,h2];rfl
 have X1:((bk (b5 s) (A:Int)).natAbs:Int)<1000000000^(k+(t.size-k)):=by
  rw [X0];have h1:=tn (t.extract 0 k).size;have h2:=iQ (b:=1000000000) δ (show(t.extract 0 k).size<=k+(t.size-k) by omega);omega
 by_cases hlt:k<t.size
 .have hb:cA (t.extract (k+1) t.size)=true:=by cases hd:cA (t.extract (k+1) t.size)with
   |true=>rfl
   |false=>exact absurd ⟨hlt, .inl hd⟩ c3
  have Pn:=XZ hb;have aqp:=u7 (xp hb).1;have au7:=lu t (k+1) t.size (aI _);obtain⟨B,hB⟩:∃B:Nat,bg (aq (t.extract (k+1) t.size))=(B:Int):=⟨(bg (aq (t.extract (k+1) t.size))).toNat,by omega⟩;rw [hB,Int.toNat_natCast]at Pn;rw [hB]at aqp c5;have hg:Int.gcd (A:Int) (B:Int)=1:=by
   by_cases hg:Int.gcd (A:Int) (B:Int)=1
   .exact hg
   .exact absurd ⟨hlt,hg⟩ c5
  have D4:2<=B:=by
   rcases Nat.lt_or_ge B 2 with h2|h2
   .refine absurd ⟨hlt, .inr ?_⟩ c3;rw [Pn,mZ ω];rcases (show B=0\/B=1 by omega)with rfl |rfl
    .exact .inl rfl
    .exact .inr rfl
   .exact h2
  obtain⟨r1,r2⟩:=pD (p:=bk (b5 s) (A:Int)) (q:=(B:Int)) ω (by rw [HX];exact hg);have aqq:(B:Int)<1000000000^(k+(t.size-k)):=by
   have h1:=tn (t.extract (k+1) t.size).size;have h2:=iQ (b:=1000000000) δ (show(t.extract (k+1) t.size).size<=k+(t.size-k) by omega);omega
  refine⟨Rat.divInt (bk (b5 s) (A:Int)) (B:Int),k+(t.size-k),gA ?_,by omega,by rw [r1];exact X1,by rw [r2];exact aqq⟩;have Po:=(O6 (aq t)).2 (by rw [hk,<-cP];exact hlt);rw [hk]at Po;have x1:aq (t.extract 0 k)=(aq t).take k:=by rw [jQ,List.drop_zero]
  have x2:aq (t.extract (k+1) t.size)=(aq t).drop (k+1):=by rw [jQ,cP,dK]
  rw [<-x1,<-x2,BV,Pn]at Po;show aq s=aq (textQ _);have eq:aq (textQ (Rat.divInt (bk (b5 s) (A:Int)) (B:Int)))=Lib.itoa (bk (b5 s) (A:Int))++47::Lib.decDigits B:=by
   unfold textQ;rw [if_neg ω,r1,r2,Dec.oz]
  rw [eq,hit,hs,Po];cases b5 s<;>rfl
 .have r1:((bk (b5 s) (A:Int):Int):Rat).num=bk (b5 s) (A:Int):=Rat.num_intCast _;have r2:((bk (b5 s) (A:Int):Int):Rat).den=1:=Rat.den_intCast _;have aqr:(1:Int)<1000000000^(k+(t.size-k)):=by
   have hp:=(xp ha).2;have h2:=iQ (b:=1000000000) δ (show 1<=k+(t.size-k) by omega);rw [Int.pow_succ,Int.pow_zero]at h2;omega
  refine⟨((bk (b5 s) (A:Int):Int):Rat),k+(t.size-k),gA ?_,by omega,by rw [r1];exact X1,by rw [r2];exact aqr⟩;have x1:aq (t.extract 0 k)=aq t:=by rw [jQ,List.drop_zero,eH (by rw [<-cP];omega)]
  rw [x1]at BV;show aq s=aq (textQ _);have eq:aq (textQ ((bk (b5 s) (A:Int):Int):Rat))=Lib.itoa (bk (b5 s) (A:Int)):=by
   unfold textQ;rw [if_pos r2,r1];exact jm _
  rw [eq,hit,hs,BV]
noncomputable section
def vq:=k_a f138
def Pp:=k_a f78
def xy:=k_a f23
def xz:=k_a f24
def BW:=bc [G9,Bm,Hh,MJ,G7]
abbrev Pq:List Nat:=[1,0,1,1,0,0,0]
abbrev aqs (j:Nat) (ls:List (Int×List Int)):aa:= .bR 83 cS j 0 ls.length (bH ls.length)
abbrev aqt (ls:List (Int×List Int)):fJ:= .opt 83 cS ls
abbrev vr (ls:List (Int×List Int)):aa:= .bn false cS ls
noncomputable def iG (q:bB):(Int×List Int)×(Int×List Int):=c9 q (dH (cn q.1 q.2))
def Pr (q:bB):bD:={n:=21,sl:=[(1, .ptr 64 0)],bJ:=[(64,BJ q)],next:=65}
def td (q:bB) (ls:List (Int×List Int)):bD:={n:=21,sl:=[(1, .ptr 64 0),(3,aqs 65 ls)],bJ:=[(64,BJ q),(65,aqt ls)],next:=66}
def Ik (ls:List (Int×List Int)):bD:={n:=21,sl:=[(3,vr ls)],bJ:=[],next:=64}
def aqu (q:bB):
  cZ BW (fl vq []) 1 21 [bM q] 1 .normal [(64,64,none)] (Pr q):=
 wy [] 0
def aqv (q:bB):
  cY BW (fl vq [1,0]) 2 (Pr q) 1 .normal [(64,64,none)] (td q []):=
 wy [] 0
section
variable (q:bB) (ls:List (Int×List Int)) (h1:(lf q.1 q.2)=true) (h2:ls.length+1<=1000000) (h3:(okQ 20000 q&&okQ 20000 (dH (cn q.1 q.2)))=true) (h4:(ay (c9 q (dH (cn q.1 q.2))).1)=true)
def aqw (h5:¬fk (c9 q (dH (cn q.1 q.2))).1=0) (h6:(eO (c9 q (dH (cn q.1 q.2))).2 (c9 q (dH (cn q.1 q.2))).1)=true) (h7:(ls.length+1)=(ls++[cn q.1 q.2]).length) (h8:(aX.full)=(bH (ls++[cn q.1 q.2]).length)) (h9:(kf (c9 q (dH (cn q.1 q.2)))).1.1=(kf (iG q)).1.1) (h10:(kf (c9 q (dH (cn q.1 q.2)))).1.2=(kf (iG q)).1.2) (h11:(kf (c9 q (dH (cn q.1 q.2)))).2.1=(kf (iG q)).2.1) (h12:(kf (c9 q (dH (cn q.1 q.2)))).2.2=(kf (iG q)).2.2):
  bt BW (fl vq Pq) (td q ls) 4 .normal [(64,64,none),(65,68,none)] (td (kf (iG q)) (ls++[cn q.1 q.2])):=
 wy [af h1,yk 83 cS ls,jF 32 h2,af (aF (v:=bM q)),af (aF (v:=aA (cn q.1 q.2))),af h3,af h4,yn h5,af h6,ax h7,ax h8,ax h9,ax h10,ax h11,ax h12,kW 83 (av.pair (.int .i64) (av.list true aE)) (Eq.refl (ls++[cn q.1 q.2]))] 1381362936716921143946248031930377830401
def aqx (h5:fk (c9 q (dH (cn q.1 q.2))).1=0) (h6:(ls.length+1)=(ls++[cn q.1 q.2]).length) (h7:(aX.full)=(bH (ls++[cn q.1 q.2]).length)) (h8:(c9 q (dH (cn q.1 q.2))).1.1=(iG q).1.1) (h9:(c9 q (dH (cn q.1 q.2))).1.2=(iG q).1.2) (h10:(c9 q (dH (cn q.1 q.2))).2.1=(iG q).2.1) (h11:(c9 q (dH (cn q.1 q.2))).2.2=(iG q).2.2):
  bt BW (fl vq Pq) (td q ls) 6 (.exit 0) [(64,64,none),(65,68,none)] (td (iG q) (ls++[cn q.1 q.2])):=
 wy [af h1,yk 83 cS ls,jF 32 h2,af (aF (v:=bM q)),af (aF (v:=aA (cn q.1 q.2))),af h3,af h4,cX h5,ax h6,ax h7,ax h8,ax h9,ax h10,ax h11,kW 83 (av.pair (.int .i64) (av.list true aE)) (Eq.refl (ls++[cn q.1 q.2]))] 20233469033341332909475762977655750657
end
def aqy (q:bB) (ls:List (Int×List Int)):
  aD.path (aD.ret (R.normal ((td q ls).T.set 3 (some (vr ls))) ((td q ls).H.drop 65) []):aD R) (dl 1) (ef prog 21 .normal [] (Ik ls)):=
 wy [] 0
def aqz (ls:List (Int×List Int)):
  bS BW ((fl vq [1,0]).drop 3) (Ik ls) 1 f138 false (vr ls):=
 wy [] 0
noncomputable def xA:Nat->bB->List (Int×List Int)
 |0,_=>[]
 |k+1,q=>cn q.1 q.2::(if fk (iG q).1=0 then []else xA k (kf (iG q)))
noncomputable def iX (q:bB):List (Int×List Int):=xA (aj q.2).toNat q
def X2:=IN 138 [fT] [.list false cS] false (fun d=>lD 4 d.1) fun d=>(iX d.1,())
def Pt:=bc [O9,DO,X2]
noncomputable def p9 (a:AT):List (Int×List Int):=if ckR a=0 then iX (aW a)else []
def aqA (a:AT) (h1:a.size<=1000000000) (h2:¬ckR a=0):
  bh Pt (fl Pp []) 9 18 [sv a] 3 f78 false (.tuple [vr [],iv (ckR a)]):=
 wy [ah h1,af (gC.mpr h2)] 129
def aqB (a:AT) (h1:a.size<=1000000000) (h2:ckR a=0) (h3:(fh a)=true) (h4:(lD 4 (aW a))=true) (h5:¬(↑(iX (aW a)).length:Int)>256):
  bh Pt (fl Pp []) 9 18 [sv a] 4 f78 false (.tuple [vr (iX (aW a)),iv 0]):=
 wy [ah h1,af (eR.mpr h2),af h3,af h4,aJ h5] 84947073
def Pu:=IN 78 [.str] [.list false cS, .int .i64] false (fun d=>decide (d.1.size<=24)) fun d=>(p9 d.1,ckR d.1,())
def BX:=bc [Pu,Bm,Ev]
abbrev Pv:List Nat:=[1,1,1,1,0,1,0,0]
abbrev X3 (j:Nat) (ls:List AT):aa:= .bR 22 .str j 0 ls.length (bH ls.length)
abbrev X4 (ls:List AT):fJ:= .opt 22 .str ls
abbrev ng:Int×List Int:=(0,[])
def th (l:List (Int×List Int)) (o:List AT) (k:Nat):bD:={n:=31,sl:=[(6,X3 64 o),(17,vr l),(18,iv l.length),(19,iv k)],bJ:=[(64,X4 o)],next:=65}
def aqC (a:AT) (h1:a.size<=24) (h2:¬ckR a=0):
  bh BX (fl xy []) 9 31 [sv a] 3 f23 true (.tuple [mU [],iv (ckR a)]):=
 wy [ah h1,af (gC.mpr h2)] 129
def aqD (a:AT) (h1:a.size<=24) (h2:ckR a=0):
  cZ BX (fl xy []) 6 31 [sv a] 2 .normal [] (th (p9 a) [] 0):=
 wy [ah h1,af (eR.mpr h2)] 129
section
variable (l:List (Int×List Int)) (o:List AT) (k:Nat)
def aqE (h1:(k:Int)<(l.length:Int)) (h2:k<l.length) (h3:(lD 10000 (dH (l.getD k (0,[]))))=true) (h4:o.length+1<=1000000) (h5:i6 ((k:Int)+1)) (h6:(o.length+1)=(o++[gu (dH (l.getD k (0,[])))]).length) (h7:(aX.full)=(bH (o++[gu (dH (l.getD k (0,[])))]).length)):
  bt BX (fl xy Pv) (th l o k) 5 .normal [(64,67,none)] (th l (o++[gu (dH (l.getD k ng))]) (k+1)):=
 wy [ah h1,ah h2,af h3,yk 22 av.str o,jF 16 h4,yi h5,ax h6,ax h7,kW 22 (av.str) (Eq.refl (o++[gu (dH (l.getD k ((0:Int),[])))]))] 713053500923929246721101537281
def aqF (h1:¬(k:Int)<(l.length:Int)):
  bt BX (fl xy Pv) (th l o k) 2 (.exit 0) [(64,64,none)] (th l o k):=
 wy [aJ h1] 1
def aqG (h1:(o)=((o.drop 0).take o.length)) (h2:o.length=0\/bz 22 av.str (bU 22 av.str o) (0+o.length-1)=true) (h3:false=true->o.length≠0):
  bS BX ((fl xy []).drop 7) (th l o k) 1 f23 true (.tuple [mU o,iv 0]):=
 wy [r9 (an (rr o.length) (an (show(o)=(((bN av.str (bU 22 av.str o)).drop (0:Nat)).take o.length)from(by simp only [ep]<;>exact h1)) (an h2 h3)))] 1
end
def BZ:=bc [Pu,ru,wM,uE,Bk,Ev]
abbrev Pw:List Nat:=[1,1,1,1,1,1,0,1,0,0]
abbrev Px:Sv.Ren:=[(64,64,none),(65,65,none),(66,66,none),(67,67,none)]
def tj (l:List (Int×List Int)) (p q r s:aC) (o:List AT) (k:Nat):bD:={n:=52,sl:=[(6, .ptr 64 0),(7, .ptr 65 0),(8, .ptr 66 0),(9, .ptr 67 0),(10,X3 68 o),(25,vr l),(26,iv l.length),(27,iv k)],bJ:=[(64,eu p),(65,eu q),(66,eu r),(67,eu s),(68,X4 o)],next:=69}
noncomputable def fu (n p r:aC):Int×List Int:=b8 (a7 n p) r
def aqH (a:AT) (h1:a.size<=24) (h2:¬ckR a=0):
  bh BZ (fl xz []) 11 52 [sv a] 3 f24 true (.tuple [mU [],iv (ckR a)]):=
 wy [ah h1,af (gC.mpr h2)] 129
def aqI (a:AT) (h1:a.size<=24) (h2:ckR a=0):
  cZ BZ (fl xz []) 8 52 [sv a] 2 .normal Px (tj (p9 a) (aV 1) (aV 0) (aV 0) (aV 1) [] 0):=
 wy [ah h1,af (eR.mpr h2)] 129
section
variable (l:List (Int×List Int)) (p q r s:aC) (o:List AT) (k:Nat)
def aqJ (h1:(k:Int)<(l.length:Int)) (h2:k<l.length) (h3:(ay (l.getD k (0,[]))&&ay p)=true) (h4:(ay (a7 (l.getD k (0,[])) p)&&ay r)=true) (h5:(ay (l.getD k (0,[]))&&ay q)=true) (h6:(ay (a7 (l.getD k (0,[])) q)&&ay s)=true) (h7:(eO (b8 (a7 (l.getD k (0,[])) p) r) (b8 (a7 (l.getD k (0,[])) q) s))=true) (h8:(lD 10000 (cT (b8 (a7 (l.getD k (0,[])) p) r) (b8 (a7 (l.getD k (0,[])) q) s)))=true) (h9:o.length+1<=1000000) (h10:i6 ((k:Int)+1)) (h11:(o.length+1)=(o++[gu (cT (fu (l.getD k (0,[])) p r) (fu (l.getD k (0,[])) q s))]).length) (h12:(aX.full)=(bH (o++[gu (cT (fu (l.getD k (0,[])) p r) (fu (l.getD k (0,[])) q s))]).length)) (dF:(b8 (a7 (l.getD k (0,[])) p) r).1=(fu (l.getD k (0,[])) p r).1) (gb:(b8 (a7 (l.getD k (0,[])) p) r).2=(fu (l.getD k (0,[])) p r).2) (iA:(b8 (a7 (l.getD k (0,[])) q) s).1=(fu (l.getD k (0,[])) q s).1) (k8:(b8 (a7 (l.getD k (0,[])) q) s).2=(fu (l.getD k (0,[])) q s).2) (uX:(o++[gu (cT (b8 (a7 (l.getD k (0,[])) p) r) (b8 (a7 (l.getD k (0,[])) q) s))])=(o++[gu (cT (fu (l.getD k (0,[])) p r) (fu (l.getD k (0,[])) q s))])):
  bt BZ (fl xz Pw) (tj l p q r s o k) 5 .normal (Px++[(68,71,none)]) (tj l (fu (l.getD k ng) p r) (fu (l.getD k ng) q s) p q (o++[gu (cT (fu (l.getD k ng) p r) (fu (l.getD k ng) q s))]) (k+1)):=
 wy [ah h1,ah h2,af (aF (v:=aA (l.getD k ((0:Int),[])))),af (aF (v:=aA p)),af h3,af (aF (v:=aA r)),af h4,af (aF (v:=aA q)),af h5,af (aF (v:=aA s)),af h6,af h7,af h8,yk 22 av.str o,jF 16 h9,yi h10,ax h11,ax h12,ax dF,ax gb,ax iA,ax k8,kW 22 (av.str) uX] 2792586535099870330547037384574267700935930258364106369315266308192139511734192578561
def aqK (h1:¬(k:Int)<(l.length:Int)):
  bt BZ (fl xz Pw) (tj l p q r s o k) 2 (.exit 0) (Px++[(68,68,none)]) (tj l p q r s o k):=
 wy [aJ h1] 1
def aqL (h1:(o)=((o.drop 0).take o.length)) (h2:o.length=0\/bz 22 av.str (bU 22 av.str o) (0+o.length-1)=true) (h3:false=true->o.length≠0):
  bS BZ ((fl xz []).drop 9) (tj l p q r s o k) 1 f24 true (.tuple [mU o,iv 0]):=
 wy [r9 (an (rr o.length) (an (show(o)=(((bN av.str (bU 22 av.str o)).drop (0:Nat)).take o.length)from(by simp only [ep]<;>exact h1)) (an h2 h3)))] 1
end
def Py {n:Nat} {q:bB} {r:Rat} (h:QR n q r) (hn:1<=n):(r.num.natAbs:Int)<18446744073709551616^n/\(r.den:Int)<18446744073709551616^n:=by
 have h1:=jI h.o1 hn;have h2:=jI h.o2 hn;rw [h.num]at h1;rw [h.den]at h2;exact⟨h1,by omega⟩
section
variable {q:bB} {r:Rat} (h:QR 4 q r)
def Il:aT 4 (cn q.1 q.2)=true/\aj (cn q.1 q.2)=r.floor/\QR 9 (iG q) (r-(r.floor:Rat)):=by
 have h1:=DJ h.o1 h.o2 h.pos δ;have h2:=aiE h δ;have h3:=DN h1;rw [h2]at h3;exact⟨h1,h2,pe h h3 δ⟩
def X5 (hz:r.num%r.den≠0):QR 4 (kf (iG q)) (r-(r.floor:Rat))⁻¹ :=by
 obtain⟨_,_,h3⟩:=Il h;have hne:r-(r.floor:Rat)≠0:=fun e=>hz ((Pg r).1 e)
 have h4:=aiD h3 δ hne;obtain⟨g1,g2⟩:=Ph hz;obtain⟨l1,l2⟩:=Py h δ;have hd:=r.den_pos;have:=c7 r.num (show(0:Int)<r.den by omega);exact h4.shrink (by rw [g1];omega) (by rw [g2];omega)
def Im:fk (iG q).1=0↔r.num%r.den=0:=by
 obtain⟨_,_,h3⟩:=Il h;rw [aiF h3,<-Pg r];constructor
 .intro hs;refine Classical.byContradiction fun hne=> ?_
  by_cases hl:r-(r.floor:Rat)<0
  .rw [if_pos hl]at hs;cases hs
  .rw [if_neg hl,if_neg hne]at hs;cases hs
 .intro e;rw [e];rfl
end
def X6:∀(k:Nat) (q:bB) (r:Rat),QR 4 q r->r.den<=k->(xA k q).map aj=cfI r.num r.den/\∀a∈xA k q,aT 4 a=true
 |0,q,r,h,hk=>absurd r.den_pos ω
 |k+1,q,r,h,hk=>by
  obtain⟨h1,h2,h3⟩:=Il h;have hd:=r.den_pos;rw [oH ω];unfold xA;rw [List.map_cons,h2,Rat.floor_def];by_cases hz:r.num%r.den=0
  .rw [if_pos ((Im h).2 hz),if_pos hz];exact⟨rfl,fun a ha=>by rw [List.mem_singleton.1 ha];exact h1⟩
  .rw [if_neg (fun e=>hz ((Im h).1 e)),if_neg hz];obtain⟨g1,g2⟩:=Ph hz;have:=c7 r.num (show(0:Int)<r.den by omega);obtain⟨i1,i2⟩:=X6 k _ _ (X5 h hz) ω;rw [i1,g1,g2];refine⟨rfl,fun a ha=> ?_⟩;rcases en.1 ha with rfl |ha
   .exact h1
   .exact i2 a ha
def X7 {q:bB} {r:Rat} (h:QR 4 q r):(iX q).map aj=cfI r.num r.den/\∀a∈iX q,aT 4 a=true:=by
 unfold iX;exact X6 _ q r h (by rw [h.den];omega)
def aqM {q:bB} {r:Rat} (h:QR 4 q r):(iX q).length<=512:=by
 have h1:=congrArg List.length (X7 h).1;rw [kL]at h1;rw [h1];have:=r.den_pos;refine EQ 256 _ _ ω ?_;have h2:=(Py h δ).2;have e:(18446744073709551616:Int)^4=2^256:=(by decide);omega
def aqN:bC prog (bF BW):=cK (aP MR (aP DM (aP Nb (aP UM (aP u4 dQ)))))
def aqO {X:Ext} {P:Program} {w0:World} {F:Env} {n:Nat} {T:au aa} {H:ai} {Q:Exit->au aa->ai->Prop} {l:List Code} {c:Code} (hl:l=[.scope c])
  (h:ba X P w0 F n (r8 c) T H (fun e T H=>e= .ret/\Q e T H)):ba X P w0 F n l T H Q:=by
 subst hl;refine Goal.scope (x:=c) rfl (uu (aU.mono (fun e T H h=> ?_) h));obtain⟨rfl,h⟩:=h;exact⟨fun l e=>(by cases e),h⟩
def aqP {q:bB} {r:Rat} (h:QR 4 q r):Holds prog false 138 [bM q] (vr (iX q)):=by
 have hS:=aqN;refine bL (c:=vq) func138 rfl rfl fun w F=> ?_
 refine cJ hS 1 (aqu q) ?_;refine aqO (c:=cat vq [1,0]) (by kernel_rfl) ?_;refine c6 (s:=Pr q) hS 2 (aqv q) ?_;refine aU.loop (ι:={x:bB×List (Int×List Int)// ∃(r:Rat) (k:Nat),QR 4 x.1 r/\r.den<=k/\iX q=x.2++xA k x.1}) (id:=0) (b:=cat vq Pq) (rest:=(fl vq [1,0]).drop 3) (by kernel_rfl) (fun x=>td x.1.1 x.1.2) (fun x=>(aj x.1.1.2).toNat)
  ⟨(q,[]),r,_,h,by rw [h.den];omega,rfl⟩ (fun _=>rfl) ?_
 rintro⟨⟨y,ls⟩,s,k,hy,hk,he⟩;have hy:QR 4 y s:=hy;have he:iX q=ls++xA k y:=he;obtain⟨h1,h2,h3⟩:=Il hy;have hlen:=aqM h;rw [he,cQ]at hlen;have hd:=s.den_pos;obtain⟨k,rfl⟩:∃j,k=j+1:=⟨k-1,by omega⟩;unfold xA at he hlen;have o1:lf y.1 y.2=true:=yZ.2 ⟨a8 δ hy.o1,a8 δ hy.o2,hy.pos⟩;have o2:(okQ 20000 y&&okQ 20000 (dH (cn y.1 y.2)))=true:=by
  have h4:=DN h1;rw [(hy.mono (show 4<=20000 by decide)).ok,(h4.mono (show 4<=20000 by decide)).ok];rfl
 have o3:ay (iG y).1=true:=a8 δ h3.o1;by_cases hz:s.num%s.den=0
 .have hs:=(Im hy).2 hz;rw [if_pos hs]at he hlen;refine bx (s:=td y ls) hS (aqx y ls o1 ω o2 o3 hs (by rw [cQ];rfl) (zA _ _) rfl rfl rfl rfl) ?_;refine cy (cF ?_);rw [<-he];generalize iG y=y2;refine aU.uA (BK (by kernel_rfl)) (i:=65) (s:=3) (e2:=83) (t:=cS) (xs:=iX q) (cap:=bH (iX q).length) (by kernel_rfl) (by kernel_rfl) ?_;refine aU.nD (BK (by kernel_rfl)) (σ:=[]) (s:=Ik (iX q)) (aqy y2 _) ?_;exact aU.uw (s:=Ik (iX q)) known mixed hS _ (aqz (iX q)) fun T H h=>⟨rfl,h⟩
 .have hs:¬fk (iG y).1=0:=fun e=>hz ((Im hy).1 e)
  rw [if_neg hs]at he hlen;have hnx:=X5 hy hz;have hne:aj (iG y).1≠0:=by
   rw [h3.num];intro e;exact hz ((Pg s).1 (Rat.num_eq_zero.1 e))
  have MX:eO (iG y).2 (iG y).1=true:=fa.2 ⟨a8 δ h3.o2,o3,hne⟩;refine bx (s:=td y ls) hS (aqw y ls o1 (by simp only [List.length_cons]at hlen;omega) o2 o3 hs MX (by rw [cQ];rfl) (zA _ _) rfl rfl rfl rfl) ?_;obtain⟨g1,g2⟩:=Ph hz;have hlt:=c7 s.num (show(0:Int)<s.den by omega);refine⟨⟨(kf (iG y),ls++[cn y.1 y.2]),_,k,hnx,by omega,by rw [he,qh];rfl⟩, ?_,rfl,rfl⟩;show(aj (kf (iG y)).2).toNat<(aj y.2).toNat;rw [hnx.den,hy.den];omega
def aqQ:X2.Ok prog:=fun⟨q,_⟩ h=>aqP (Pc.1 h)
end
set_option maxHeartbeats 1000000
noncomputable section
def mn:∀(n:Nat) (u:Nat),(Lib.decDigits u).length<=n->u<10^n
 |0,u,h=>by have:=tk u;omega
 |n+1,u,h=>by
  have hp:0<10^n:=Nat.pow_pos δ;by_cases hu:u<10
  .rw [Nat.pow_succ];omega
  .rw [s5 hu,cQ,List.length_singleton]at h;have:=mn n (u/10) ω;rw [Nat.pow_succ];omega
def X8 {r:Rat} {n:Nat} (h:(textQ r).size<=n):r.num.natAbs<10^n/\r.den<10^n:=by
 have hb:aq (textQ r)=Lib.itoa r.num++(if r.den=1 then []else 47::Lib.decDigits r.den):=by
  unfold textQ;by_cases h1:r.den=1
  .rw [if_pos h1,if_pos h1,List.append_nil];exact jm _
  .rw [if_neg h1,if_neg h1,<-Dec.oz]
 rw [cP,hb,cQ,rE]at h;have hl:(Lib.decDigits r.num.natAbs).length<=(if decide (r.num<0)then 45::Lib.decDigits r.num.natAbs else Lib.decDigits r.num.natAbs).length:=by split<;>simp
 refine⟨mn _ _ ω, ?_⟩;by_cases h1:r.den=1
 .rw [h1];cases n with
  |zero=>have:=tk r.num.natAbs;omega
  |succ n=>exact Nat.one_lt_pow ω δ
 .rw [if_neg h1,List.length_cons]at h;exact mn _ _ ω
structure EA (a:AT) (r:Rat):Prop where
 tx:a=textQ r
 n:r.num.natAbs<1000000000000000000000000
 d:r.den<1000000000000000000000000
 fr:fh a=true
 qr:QR 2 (aW a) r
 q:toQ a=r
 i:l7 3 r
def aqR {r:Rat} (h:(textQ r).size<=24):EA (textQ r) r:=by
 have e:(10:Nat)^24=1000000000000000000000000:=by decide
 obtain⟨h1,h2⟩:=X8 h;rw [e]at h1 h2;have i:l7 3 r:=⟨by have:(1000000000:Int)^3=1000000000000000000000000000:=(by decide);omega,by have:(1000000000:Int)^3=1000000000000000000000000000:=(by decide);omega⟩
 have e2:(18446744073709551616:Int)^2=340282366920938463463374607431768211456:=by decide
 obtain⟨f1,f2⟩:=WU (n:=2) (r:=r) δ δ (jJ ω).1 (jJ ω).1 ω;exact⟨rfl,h1,h2,f1,f2,p6 (k:=3) δ i,i⟩
def EB {a:AT} (hs:a.size<=24) (hc:ckR a=0):EA a (toQ a):=by
 obtain⟨r,k,rfl,_,_⟩:=Pm hc;have h:=aqR hs;rw [h.q];exact h
def dI (a:AT):List Int:=cfI (toQ a).num (toQ a).den
def lF (n:Int):AT:=textQ (n:Rat)
def vt (a:AT):List AT:=if ckR a=0 then(dI a).map lF else []
def EC {a:AT} {r:Rat} (h:EA a r):(iX (aW a)).map aj=cfI r.num r.den/\(∀x∈iX (aW a),aT 4 x=true)/\(iX (aW a)).length<=160:=by
 obtain⟨h1,h2⟩:=X7 (h.qr.mono (show 2<=4 by decide));refine⟨h1,h2, ?_⟩;have e:=congrArg List.length h1;rw [kL]at e;rw [e];have:=r.den_pos;have hd:=h.d;refine EQ 80 _ _ ω ?_;have:(2:Int)^80=1208925819614629174706176:=(by decide);omega
def X9:bC prog (bF Pt):=cK (aP XN (aP pc (aP aqQ dQ)))
def Ya:Pu.Ok prog:=fun⟨a,_⟩ h=>by
 have hs:a.size<=24:=ap h;show Holds prog false 78 [sv a] (.tuple [vr (p9 a),iv (ckR a)]);refine bL (c:=Pp) func78 rfl rfl fun w F=> ?_
 unfold p9;by_cases hc:ckR a=0
 .have hf:=EB hs hc;have hl:=(EC hf).2.2;rw [if_pos hc,hc];exact bw X9 9 (aqB a ω hc hf.fr (hf.qr.rd δ) ω)
 .rw [if_neg hc];exact bw X9 9 (aqA a ω hc)
def aqS:bC prog (bF BX):=cK (aP Ya (aP DM (aP tp dQ)))
def Yb:=IN 23 [.str] [.list false .str, .int .i64] true (fun d=>decide (d.1.size<=24)) fun d=>(vt d.1,ckR d.1,())
def RK (e:TypeId) (t:av) (l:List t.den):l.length=0\/bz e t (bU e t l) (0+l.length-1)=true:=by
 by_cases h:l.length=0
 .exact .inl h
 .right;rw [fm,az (show 0+l.length-1<l.length by omega)]
def aqT {x:aC} (h:aT 4 x=true):gu (dH x)=lF (aj x)/\lD 10000 (dH x)=true:=by
 have q:=DN h;exact⟨by unfold gu lF;rw [q.val],q.rd δ⟩
def aqU {α β:Type} (f:α->β) {l:List α} {k:Nat} (d:α) (h:k<l.length):(l.map f).take (k+1)=(l.map f).take k++[f (l.getD k d)]:=by
 rw [List.take_succ_eq_append_getElem (by rw [kL];exact h),List.getElem_map,ao,rJ h];rfl
def aqV:Yb.Ok prog:=fun⟨a,_⟩ h=>by
 have hs:a.size<=24:=ap h;have hS:=aqS;show Holds prog true 23 [sv a] (.tuple [mU (vt a),iv (ckR a)]);refine bL (c:=xy) func23 rfl rfl fun w F=> ?_
 unfold vt;by_cases hc:ckR a=0
 .have hf:=EB hs hc;obtain⟨c1,c2,c3⟩:=EC hf;have hx:(dI a).map lF=(p9 a).map fun x=>lF (aj x):=by
   unfold p9 dI;rw [if_pos hc,<-c1,List.map_map];rfl
  have hL:(p9 a).length<=160/\∀x∈p9 a,aT 4 x=true:=by unfold p9;rw [if_pos hc];exact⟨c3,c2⟩
  rw [if_pos hc,hc,hx];refine cJ hS 6 (aqD a hs hc) ?_;obtain⟨L,aqW⟩:∃L,L=p9 a:=⟨_,rfl⟩;rw [<-aqW]at hL ⊢;obtain⟨l1,l2⟩:=hL;refine aU.loop (ι:={k:Nat//k<=L.length}) (id:=0) (b:=cat xy Pv) (rest:=(fl xy []).drop 7) (by kernel_rfl) (fun k=>th L ((L.map fun x=>lF (aj x)).take k.1) k.1) (fun k=>L.length-k.1) ⟨0,Nat.zero_le _⟩ (fun _=>rfl) ?_;rintro⟨k,hk⟩;have hol:((L.map fun x=>lF (aj x)).take k).length<=160:=by rw [ek];omega
  by_cases hlt:k<L.length
  .have hm:L.getD k ng∈L:=by rw [ao,rJ hlt];exact List.getElem_mem _
   obtain⟨t1,t2⟩:=aqT (l2 _ hm);have hnx:=aqU (fun x:Int×List Int=>lF (aj x)) ng hlt;have key:=aqE L ((L.map fun x=>lF (aj x)).take k) k ω hlt t2 ω ω (by rw [cQ];rfl) (zA _ _);rw [t1,<-hnx]at key;refine bx (s:=th L ((L.map fun x=>lF (aj x)).take k) k) hS key ?_;exact⟨⟨k+1,hlt⟩,by show L.length-(k+1)<L.length-k;omega,rfl,rfl⟩
  .refine bx (s:=th L ((L.map fun x=>lF (aj x)).take k) k) hS (aqF L _ k ω) ?_;refine cy (cF ?_);have e:(L.map fun x=>lF (aj x)).take k=L.map fun x=>lF (aj x):=eH (by rw [kL];omega)
   rw [e];exact bX (s:=th L (L.map fun x=>lF (aj x)) k) hS (aqG L _ k (by rw [List.drop_zero,dK]) (RK _ .str _) (fun h=>by cases h))
 .rw [if_neg hc];exact bw hS 9 (aqC a hs hc)
end
end
end Go.Proofs.YtibikmmdbdlafaaGreatDoor
