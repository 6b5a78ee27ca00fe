import Derived.Test.YtibikmmdbdlafaaGreatDoorZnA18
set_option linter.defProp false
set_option linter.unusedSimpArgs false
set_option linter.unusedVariables false
set_option maxRecDepth 100000
namespace Go.Proofs.YtibikmmdbdlafaaGreatDoor
open Go.RowKit Sv Go.Proofs.Tryz
noncomputable section
def Bu (neg:Bool) (u:AT) (k:Nat):Int:=
 if cE (u.extract 0 k)=false then 1
 else if neg=true/\aq (u.extract 0 k)=[48]then 1
 else if k<u.size/\(cE (u.extract (k+1) u.size)=false\/aq (u.extract (k+1) u.size)=[48]\/aq (u.extract (k+1) u.size)=[49])then 1
 else if 600<k\/601+k<u.size then 4
 else if k<u.size/\Int.gcd (bt (aq (u.extract 0 k))) (bt (aq (u.extract (k+1) u.size)))≠1 then 1
 else 0
def ckR (s:AT):Int:=Bu (b7 s) (bT s) (bl (aq (bT s)))
def OV:=IN 20 [.str] [.int .i64] true (fun d=>decide (d.1.size<=1000000000)) fun d=>(ckR d.1,())
--{
def Xu:bD prog (bF jT):=cN (aQ Dw (aQ aod (aQ Og (aQ FSz dW))))
def OW {t:AT} (h:b6 (aq t)=true):b7 t=false/\bT t=t:=by
 have e:b7 t=false:=by
  unfold b7;by_cases h0:0<t.size
  .have hm:ck t 0∈aq t:=by rw [yN (by rw [<-c6];exact h0)];exact List.getElem_mem _
   have:=List.all_eq_true.1 h _ hm;rw [ae,bE,bE]at this;rw [ab (show¬(ck t 0).toNat=45 by omega),Bool.and_false]
  .rw [ab h0];rfl
 refine⟨e, ?_⟩;unfold bT;rw [e]
def Xv {t:AT} (h:b6 (aq t)=true):lq t=bt (aq t):=by
 obtain⟨h1,h2⟩:=OW h;unfold lq;rw [h1,h2];rfl
def HQ:∀n:Nat,(10:Int)^n<=1000000000^n
 |0=>by simp
 |n+1=>by
  rw [Int.pow_succ,Int.pow_succ];have h1:=HQ n;have h2:=dK (b:=10) (by decide) n;omega
def Xw {z:Int} (h:0<=z):ag (mkR z).2=z:=by
 show ag (aH (z.natAbs:Int))=z;rw [(gI (Int.natCast_nonneg _)).2.2];omega
def Xx {t:AT} (h:b6 (aq t)=true) (hl:t.size<=100000):okA (mkR (bt (aq t))).2=true:=by
 have h1:=uO h;have h2:=HQ t.size;show okA (aH ((bt (aq t)).natAbs:Int))=true;exact vf (k:=t.size) (Int.natCast_nonneg _) (by omega) hl
def wN {t:AT} (h:cE t=true):b6 (aq t)=true/\0<t.size:=by
 unfold cE at h;rw [ae,ae,bE]at h;exact⟨h.2.2,h.1⟩
abbrev OX (e:Int):Exit->au af->ai->Prop:=hJ prog true f20 (iv e)
def OY (s u:AT) (neg:Bool) (hl:u.size<=1000000000) (hs:0<u.size->0<s.size) (hn:neg=true↔(0<s.size/\(ck s 0).toNat=45)) (w:World) (F:Sv.Env):
  aW prog w F 96 ((fl iM []).drop 5) (dx s u (bl (aq u))).T (dx s u (bl (aq u))).H (OX (Bu neg u (bl (aq u)))):=by
 have hS:=Xu;have hle:bl (aq u)<=u.size:=by rw [c6];exact A6 _
 obtain⟨k,hk⟩:∃k,bl (aq u)=k:=⟨_,rfl⟩;rw [hk]at hle ⊢;have uP:(k:Int).toNat=k:=by omega
 have Hz:((k:Int)+1).toNat=k+1:=by omega
 have hz:=lg u 0 k hle;have nE:=lg u (k+1) u.size (aK _);have avf:((ByteArray.mk (#[(48:UInt8)])).data).toList=[48]:=rfl;have avg:((ByteArray.mk (#[(49:UInt8)])).data).toList=[49]:=rfl;unfold Bu;cases ha:cE (u.extract 0 k)with
 |false=>
  rw [if_pos rfl];have key:=apl s u (k:Int) (by omega);rw [uP]at key;exact bY (s:=dx s u k) hS (key hle (by omega) ha)
 |true=>
  rw [if_neg (by decide)];obtain⟨da,pa⟩:=wN ha;have hs0:0<s.size:=hs (by omega)
  -- behind the second part
  have rest:(¬(k<u.size/\(cE (u.extract (k+1) u.size)=false\/aq (u.extract (k+1) u.size)=[48]\/aq (u.extract (k+1) u.size)=[49])))->aW prog w F 96 ((fl iM []).drop 9) (dx s u k).T (dx s u k).H (OX (if 600<k\/601+k<u.size then 4 else if k<u.size/\Int.gcd (bt (aq (u.extract 0 k))) (bt (aq (u.extract (k+1) u.size)))≠1 then 1 else 0)):=fun hno=>by
   by_cases h6:600<k
   .rw [if_pos (.inl h6)];exact bY (s:=dx s u k) hS (apv s u (k:Int) (by omega))
   .by_cases h7:601+k<u.size
    .rw [if_pos (.inr h7)];exact bY (s:=dx s u k) hS (apw s u (k:Int) (by omega) (by omega) (by omega) (by omega))
    .rw [if_neg (by omega)];refine dP (s:=dx s u k) hS 2 (apx s u (k:Int) (by omega) (by omega) (by omega) (by omega)) ?_;by_cases hlt:k<u.size
     .have db:b6 (aq (u.extract (k+1) u.size))=true:=by
       cases hb:cE (u.extract (k+1) u.size)with
       |false=>exact absurd ⟨hlt, .inl hb⟩ hno
       |true=>exact(wN hb).1
      have hpt:jn u=true:=by
       unfold jn;rw [hk,(OW da).2,(OW db).2,da,db,az (by omega)];rfl
      have e1:ptN u=bt (aq (u.extract 0 k)):=by unfold ptN;rw [hk];exact Xv da
      have e2:ptD u=bt (aq (u.extract (k+1) u.size)):=by unfold ptD;rw [hk,if_pos hlt];exact Xv db
      have o1:=Xx da (by omega);have o2:=Xx db (by omega);have b1:=uO da;have b2:=uO db;have k1:=apz s u (k:Int) (by omega) hpt;have k2:=apA s u (k:Int) (by omega) hpt;have c8:=apB s u (k:Int) (by omega) hpt;rw [e1,e2,Xw b1.1,Xw b2.1]at k1 k2 c8;generalize bt (aq (u.extract 0 k))=A at*;generalize bt (aq (u.extract (k+1) u.size))=B at*;have kB:=bZ o1 o2;by_cases hg:Int.gcd A B=1
      .rw [if_neg (fun h=>h.2 hg)];have e3:aH ((Int.gcd A B:Nat):Int)=[1]:=by
        rw [hg];have h11:fk [(1:Int)]:=fun k hk=>by
         obtain rfl:k=0:=by simpa using hk.symm
         show(1:Int)≠0;decide
        have:=F1 (l:=[(1:Int)]) (.cons (show(0:Int)<=1/\(1:Int)<1000000000 by decide) .nil) h11;rw [show ag [(1:Int)]=1 from rZ _ _]at this;exact this
       rw [e3]at c8;exact bY (s:=dx s u k) hS (c8 kB rfl (by decide) rfl)
      .rw [if_pos ⟨hlt,hg⟩];by_cases vv:((aH ((Int.gcd A B:Nat):Int)).length:Int)=1
       .refine bY (s:=dx s u k) hS (k2 kB vv (by show 0<_;omega) fun h=> ?_);obtain⟨c,hc⟩:∃c,aH ((Int.gcd A B:Nat):Int)=[c]:=List.length_eq_one_iff.1 (by omega);have h:(aH ((Int.gcd A B:Nat):Int)).getD 0 0=1:=h;rw [hc]at h;have h:c=1:=h;have hv:=(gI (Int.natCast_nonneg (Int.gcd A B))).2.2;rw [hc,h,show ag [(1:Int)]=1 from rZ _ _]at hv;omega
       .exact bY (s:=dx s u k) hS (k1 kB vv)
     .rw [if_neg (fun h=>hlt h.1)];exact bY (s:=dx s u k) hS (apy s u (k:Int) (by omega))
  -- the second part
  have second:aW prog w F 96 ((fl iM []).drop 7) (dx s u k).T (dx s u k).H (OX (if k<u.size/\(cE (u.extract (k+1) u.size)=false\/aq (u.extract (k+1) u.size)=[48]\/aq (u.extract (k+1) u.size)=[49])then 1 else if 600<k\/601+k<u.size then 4 else if k<u.size/\Int.gcd (bt (aq (u.extract 0 k))) (bt (aq (u.extract (k+1) u.size)))≠1 then 1 else 0)):=by
   by_cases hlt:k<u.size
   .have Xy:=apr s u (k:Int) (by omega) (by omega) (by omega);have kY:=aps s u (k:Int) (by omega) (by omega) (by omega);have D5:=apt s u (k:Int) (by omega) (by omega) (by omega);have D6:=apu s u (k:Int) (by omega) (by omega) (by omega);rw [Hz]at Xy kY D5 D6;cases hb:cE (u.extract (k+1) u.size)with
    |false=>
     rw [if_pos ⟨hlt, .inl rfl⟩];exact bY (s:=dx s u k) hS (Xy (by omega) (by omega) hb)
    |true=>
     by_cases h8:aq (u.extract (k+1) u.size)=[48]
     .rw [if_pos ⟨hlt, .inr (.inl h8)⟩];exact bY (s:=dx s u k) hS (kY (by omega) (by omega) hb h8)
     .by_cases h9:aq (u.extract (k+1) u.size)=[49]
      .rw [if_pos ⟨hlt, .inr (.inr h9)⟩];exact bY (s:=dx s u k) hS (D5 (by omega) (by omega) hb h8 h9)
      .have hno:¬(k<u.size/\(cE (u.extract (k+1) u.size)=false\/aq (u.extract (k+1) u.size)=[48]\/aq (u.extract (k+1) u.size)=[49])):=fun h=>by
        rcases h.2 with h|h|h
        .rw [hb]at h;cases h
        .exact h8 h
        .exact h9 h
       have EX:=hno;rw [hb]at EX;rw [if_neg EX];refine dP (s:=dx s u k) hS 2 (D6 (by omega) (by omega) hb h8 h9) ?_;exact rest hno
   .have hno:¬(k<u.size/\(cE (u.extract (k+1) u.size)=false\/aq (u.extract (k+1) u.size)=[48]\/aq (u.extract (k+1) u.size)=[49])):=fun h=>hlt h.1
    rw [if_neg hno];refine dP (s:=dx s u k) hS 2 (apq s u (k:Int) (by omega)) ?_;exact rest hno
  have kY:=apm s u (k:Int) (by omega);have D5:=apn s u (k:Int) (by omega);have D6:=apo s u (k:Int) (by omega);rw [uP]at kY D5 D6;by_cases lu:(ck s 0).toNat=45
  .have hneg:neg=true:=hn.2 ⟨hs0,lu⟩;have HR:((ck s 0).toNat:Int)=45:=by omega
   by_cases h0:aq (u.extract 0 k)=[48]
   .rw [if_pos ⟨hneg,h0⟩];exact bY (s:=dx s u k) hS (kY hle (by omega) ha hs0 HR h0)
   .rw [if_neg (fun h=>h0 h.2)];refine dP (s:=dx s u k) hS 2 (D5 hle (by omega) ha hs0 HR h0) ?_;exact second
  .have HR:¬((ck s 0).toNat:Int)=45:=by omega
   rw [if_neg (fun h=>lu (hn.1 h.1).2)];refine dP (s:=dx s u k) hS 2 (D6 hle (by omega) ha hs0 HR) ?_;exact second
def IS (s:AT) (hl:s.size<=1000000000):Holds prog true 20 [sv s] (iv (ckR s)):=by
 have hS:=Xu;refine bL (c:=iM) func20 rfl rfl fun w F=> ?_
 unfold ckR;by_cases h0:0<s.size
 .by_cases lu:(ck s 0).toNat=45
  .have e1:b7 s=true:=by unfold b7;rw [az h0,az lu];rfl
   have e2:bT s=s.extract 1 s.size:=by unfold bT;rw [e1]
   have hz:=lg s 1 s.size (aK _);rw [e1,e2];refine cR hS 5 (apj s (by omega) (by show 0<s.size;exact h0) (by show((ck s 0).toNat:Int)=45;omega) (by show 1<=s.size;omega) (by show(s.extract 1 s.size).size<=_;omega) rfl rfl) ?_;exact OY s _ true (by omega) (fun _=>h0) ⟨fun _=>⟨h0,lu⟩,fun _=>rfl⟩ w F
  .have e1:b7 s=false:=by unfold b7;rw [az h0,ab lu];rfl
   have e2:bT s=s:=by unfold bT;rw [e1]
   rw [e1,e2];refine cR hS 5 (api s (by omega) (by show 0<s.size;exact h0) (by show¬((ck s 0).toNat:Int)=45;omega) hl) ?_;exact OY s s false hl id ⟨fun h=>(by cases h),fun h=>absurd h.2 lu⟩ w F
 .have e1:b7 s=false:=by unfold b7;rw [ab h0];rfl
  have e2:bT s=s:=by unfold bT;rw [e1]
  rw [e1,e2];refine cR hS 5 (apk s (by omega) hl) ?_;exact OY s s false hl id ⟨fun h=>(by cases h),fun h=>absurd h.1 h0⟩ w F
attribute [local irreducible] ckR
def Xz:OV.Ok prog:=fun⟨s,_⟩ h=>by
 have h:decide (s.size<=1000000000)=true:=h;exact IS s (ap h)
--}
end
noncomputable section
def uX:=k_a f169
def HS:=k_a f120
def nS (s:AT) (k:Nat):bI:={n:=22,sl:=[(0,sv s),(5,iv s.size),(6,iv k)],bH:=[],next:=64}
abbrev D7:List Nat:=[1,0,1,0,0]
def IT (s:AT):
  c7 (a7 []) (fl uX []) 2 22 [sv s] 1 .normal [] (nS s 0):=
 wy [] 0
section
variable (s:AT) (k:Nat) (h1:(k:Int)<(s.size:Int)) (h2:k<s.size)
def apC (h3:(↑(UInt8.toNat (s.data.toList.getD k (0:UInt8))):Int)<48):
  bS (a7 []) (fl uX D7) (nS s k) 225 f169 true (bv false):=
 wy [ah h1,ah h2,aa (bg (az h3)),ah h3] 17801616826369
def apD (h3:¬(↑(UInt8.toNat (s.data.toList.getD k (0:UInt8))):Int)<48) (h4:(↑(UInt8.toNat (s.data.toList.getD k (0:UInt8))):Int)>57):
  bS (a7 []) (fl uX D7) (nS s k) 223 f169 true (bv false):=
 wy [ah h1,ah h2,aa (bg (ab h3)),aF h3,ah h4] 5837518341367668737
def apE (h3:¬(↑(UInt8.toNat (s.data.toList.getD k (0:UInt8))):Int)<48) (h4:¬(↑(UInt8.toNat (s.data.toList.getD k (0:UInt8))):Int)>57) (h5:i6 ((k:Int)+1)):
  bz (a7 []) (fl uX D7) (nS s k) 159 .normal [] (nS s (k+1)):=
 wy [ah h1,ah h2,aa (bg (ab h3)),aF h3,aF h4,yi h5] 448559376110396907521
end
def apF (s:AT) (k:Nat) (h1:¬(k:Int)<(s.size:Int)):
  bz (a7 []) (fl uX D7) (nS s k) 2 (.exit 0) [] (nS s k):=
 wy [aF h1] 1
def apG (s:AT) (k:Nat):
  bS (a7 []) ((fl uX []).drop 3) (nS s k) 1 f169 true (bv (!(decide (aq s=[])))):=
 wy [] 0
def XA:=IN 169 [.str] [.bool] true (fun d=>decide (d.1.size<=1000000000)) fun d=>(b6 (aq d.1)&&decide (0<d.1.size),())
def HT:=a7 [XA]
section
variable (s:AT) (h1:s.size<=1000000000)
def apH (h2:(b6 s.data.toList&&decide (0<s.size))=false):
  aV HT (fl HS []) 9 14 [sv s] 32 f120 true (bv false):=
 wy [ah h1,aa (aL (h2)),aa h2] 3255312513
def apI (h2:(b6 s.data.toList&&decide (0<s.size))=true) (h3:(s.data).toList=((ByteArray.mk (#[(48:UInt8)])).data).toList):
  aV HT (fl HS []) 9 14 [sv s] 967 f120 true (bv true):=
 wy [ah h1,aa (aL (h2)),aa (bg (az h3)),ah h3,aa h2] 91206897977794689
def apJ (h2:(b6 s.data.toList&&decide (0<s.size))=true) (h3:¬(s.data).toList=((ByteArray.mk (#[(48:UInt8)])).data).toList) (h4:Int.toNat 0<s.size) (h5:((↑(UInt8.toNat (s.data.toList.getD (Int.toNat 0) (0:UInt8))):Int) != 48)=(!decide ((↑(UInt8.toNat (s.data.toList.getD 0 (0:UInt8))):Int)=48))):
  aV HT (fl HS []) 9 14 [sv s] 895 f120 true (bv (!(decide (((ck s 0).toNat:Int)=48)))):=
 wy [ah h1,aa (aL (h2)),aa (bg (ab h3)),ah h4,aF h3,aa h2,ax h5] 33505088736196987199617
end
def XB:=IN 120 [.str] [.bool] true (fun d=>decide (d.1.size<=1000000000)) fun d=>(cE d.1,())
def lC:List AT->Int
 |[]=>0
 |s::r=>if ckR s=0 then lC r else ckR s
def apK (s:AT) (hl:s.size<=1000000000):Holds prog true 169 [sv s] (bv (b6 (aq s)&&decide (0<s.size))):=by
 have hS:=cC;have hz:=c6 s;refine bL (c:=uX) func169 rfl rfl fun w F=> ?_
 refine cR hS 2 (IT s) ?_;refine aW.loop (ι:={k:Nat//k<=s.size/\b6 ((aq s).take k)=true}) (id:=0) (b:=cat uX D7) (rest:=(fl uX []).drop 3) (by kernel_rfl) (fun k=>nS s k.1) (fun k=>s.size-k.1) ⟨0,Nat.zero_le _,by rw [List.take_zero];rfl⟩ (fun _=>rfl) ?_;rintro⟨k,hk,hd⟩;by_cases hlt:k<s.size
 .have hmem:ck s k∈aq s:=by rw [yN (by omega)];exact List.getElem_mem _
  have hno:¬(48<=(ck s k).toNat/\(ck s k).toNat<=57)->b6 (aq s)=false:=fun hn=>by
   rw [Bool.eq_false_iff];intro h;have:=List.all_eq_true.1 h _ hmem;rw [ae,bE,bE]at this;exact hn this
  by_cases h1:(ck s k).toNat<48
  .rw [hno (by omega)];exact bY (s:=nS s k) hS (apC s k (by omega) hlt (by show((ck s k).toNat:Int)<48;omega))
  .by_cases h2:57<(ck s k).toNat
   .rw [hno (by omega)];exact bY (s:=nS s k) hS (apD s k (by omega) hlt (by show¬((ck s k).toNat:Int)<48;omega) (by show((ck s k).toNat:Int)>57;omega))
   .refine bC (s:=nS s k) hS (apE s k (by omega) hlt (by show¬((ck s k).toNat:Int)<48;omega) (by show¬((ck s k).toNat:Int)>57;omega) (by omega)) ?_;refine⟨⟨k+1,hlt, ?_⟩,by show s.size-(k+1)<s.size-k;omega,rfl,rfl⟩;rw [GZ (by omega),Hv];refine⟨hd, ?_⟩;show b6 [ck s k]=true;rw [A7,az (by omega),az (by omega)];rfl
 .refine bC (s:=nS s k) hS (apF s k (by omega)) ?_;refine cI (cQ ?_);rw [eZ (by omega)]at hd;have e:(b6 (aq s)&&decide (0<s.size))= !(decide (aq s=[])):=by
   rw [hd,Bool.true_and];by_cases h0:aq s=[]
   .rw [az h0,ab (by rw [c6,h0];decide)];rfl
   .rw [ab h0,az (by rw [c6];exact List.length_pos_iff.2 h0)];rfl
  rw [e];exact bY (s:=nS s k) hS (apG s k)
def apL:XA.Ok prog:=fun⟨s,_⟩ h=>apK s (ap h)
def apM:bD prog (bF HT):=cN (aQ apL dW)
def apN (s:AT) (hl:s.size<=1000000000):Holds prog true 120 [sv s] (bv (cE s)):=by
 have hS:=apM;refine bL (c:=HS) func120 rfl rfl fun w F=> ?_
 cases hd:b6 (aq s)&&decide (0<s.size)with
 |false=>
  have e:cE s=false:=by
   rw [Bool.eq_false_iff];intro h;obtain⟨h1,h2⟩:=wN h;rw [h1,az h2]at hd;cases hd
  rw [e];exact aY hS 9 (apH s hl hd)
 |true=>
  have gH:=hd;rw [ae,bE]at gH;by_cases hz:aq s=[48]
  .have e:cE s=true:=by
    unfold cE;have h1:s.size=1:=by rw [c6,hz];rfl
    rw [gH.1,az gH.2,az (show s.size<=1 by omega)];rfl
   rw [e];exact aY hS 9 (apI s hl hd hz)
  .have e:cE s= !(decide (((ck s 0).toNat:Int)=48)):=by
    unfold cE;rw [gH.1,az gH.2,Bool.true_and,Bool.and_true];by_cases h1:s.size<=1
    .rw [az h1,Bool.true_or];have h48:¬((ck s 0).toNat:Int)=48:=fun h=>hz (by
      obtain⟨b,hb⟩:∃b,aq s=[b]:=List.length_eq_one_iff.1 (by rw [<-c6];omega);have h2:(b.toNat:Int)=48:=by
       have h3:(((aq s).getD 0 0).toNat:Int)=48:=h;rw [hb]at h3;exact h3
      rw [hb];congr 1;exact UInt8.toNat_inj.1 (by show b.toNat=48;omega))
     rw [ab h48];rfl
    .rw [ab h1,Bool.false_or];congr 1;by_cases h4:(ck s 0).toNat=48
     .rw [az h4,az (by omega)]
     .rw [ab h4,ab (by omega)]
   rw [e];exact aY hS 9 (apJ s hl hd hz (by show 0<s.size;exact gH.2) rfl)
def apO:XB.Ok prog:=fun⟨s,_⟩ h=>apN s (ap h)
attribute [local irreducible] ckR
end
noncomputable section
def OZ:=k_a f218
def O0:=k_a f168
def XC:=k_a f119
def apP (s:AT) (h1:¬(s.size:Int)>=(↑(ByteArray.mk (#[(45:UInt8)])).size:Int)):
  aV (a7 []) (fl OZ []) 9 18 [sv s,sv fq] 128 f218 true (bv false):=
 wy [aa (aL (ab h1)),aF h1] 138529738817
def apQ (s:AT) (h1:(s.size:Int)>=(↑(ByteArray.mk (#[(45:UInt8)])).size:Int)) (h2:(ByteArray.mk (#[(45:UInt8)])).size<=s.size) (h3:(decide ((s.extract 0 (ByteArray.mk (#[(45:UInt8)])).size).data.toList=((ByteArray.mk (#[(45:UInt8)])).data).toList))=(b7 s)):
  aV (a7 []) (fl OZ []) 9 18 [sv s,sv fq] 255 f218 true (bv (b7 s)):=
 wy [aa (aL (az h1)),ah h2,ah h1,ax h3] 4666015224418275393
def HU:=IN 218 [.str, .str] [.bool] true (fun d=>decide (d.2.1=fq)) fun d=>(b7 d.1,())
def O1:=IN 168 [.str, .str] [.str, .bool] true (fun d=>decide (d.2.1=fq)) fun d=>(bT d.1,b7 d.1,())
def XD:=IN 119 [.str, .str] [.str, .bool] true (fun d=>decide (d.2.1=fq)) fun d=>(bT d.1,b7 d.1,())
section
variable (s:AT) (h1:(ByteArray.mk (#[(45:UInt8)]))=(ByteArray.mk (#[(45:UInt8)])))
def apR (h2:(b7 s)=false):
  aV (a7 [HU]) (fl O0 []) 9 15 [sv s,sv fq] 3 f168 true (.tuple [sv s,bv false]):=
 wy [ah h1,aa (cj (h2))] 129
def apS (h2:(b7 s)=true) (h3:(ByteArray.mk (#[(45:UInt8)])).size<=s.size) (h4:(s.extract (ByteArray.mk (#[(45:UInt8)])).size s.size)=(s.extract 1 s.size)):
  aV (a7 [HU]) (fl O0 []) 9 15 [sv s,sv fq] 2 f168 true (.tuple [sv (s.extract 1 s.size),bv true]):=
 wy [ah h1,aa (cj (h2)),ah h3,ah (by omega:s.size<=s.size),ax h4] 5436604545
def apT:
  aV (a7 [O1]) (fl XC []) 9 11 [sv s,sv fq] 1 f119 true (.tuple [sv (bT s),bv (b7 s)]):=
 wy [ah h1] 1
end
def O2:=k_a f123
def apU (z:Int):
  aV (a7 []) (fl O2 []) 9 (f123.ntmps) [aB (z,[])] 1 f123 true (.tuple [iv z,bv true]):=
 wy [aa (aD (v:=iv (z))),aa (aD (v:=af.bu true aG []))] 129
def apV (z x:Int) (r:List Int) (h1:(x::r).isEmpty=false):
  aV (a7 []) (fl O2 []) 9 (f123.ntmps) [aB (z,x::r)] 1 f123 true (.tuple [iv z,bv false]):=
 wy [aa (aD (v:=iv (z))),aa (aD (v:=af.bu true aG (x::r))),ax (aL (h1))] 786561
def apW (s:AT):Holds prog true 218 [sv s,sv fq] (bv (b7 s)):=by
 have cT:(ByteArray.mk (#[(45:UInt8)])).size=1:=rfl;refine bL (c:=OZ) func218 rfl rfl fun w F=> ?_
 by_cases h0:0<s.size
 .refine aY cC 9 (apQ s (by rw [cT];omega) (by rw [cT];omega) ?_);rw [cT,show Array.toList (s.extract 0 1).data=(aq s).take 1 from by rw [show Array.toList (s.extract 0 1).data=aq (s.extract 0 1)from rfl,lp,List.drop_zero]];show decide ((aq s).take 1=[45])=b7 s;unfold b7;rw [az h0,Bool.true_and];cases hb:aq s with
  |nil=>rw [c6,hb]at h0;cases h0
  |cons b r=>
   have e0:ck s 0=b:=by show(aq s).getD 0 0=b;rw [hb];rfl
   rw [e0];show decide ([b]=[45])=_;by_cases h:b.toNat=45
   .have:b=45:=UInt8.toNat_inj.1 h;subst this;rfl
   .rw [ab h,ab (fun e=>h (by rw [(List.cons.inj e).1];rfl))]
 .have e:b7 s=false:=by unfold b7;rw [ab h0];rfl
  rw [e];exact aY cC 9 (apP s (by rw [cT];omega))
def apX:HU.Ok prog:=fun⟨s,p,_⟩ h=>by
 have h:decide (p=fq)=true:=h;rw [ap h];exact apW s
def apY (s:AT):Holds prog true 168 [sv s,sv fq] (.tuple [sv (bT s),bv (b7 s)]):=by
 have hS:bD prog (bF (a7 [HU])):=cN fun c hc=>by rw [List.mem_singleton.1 hc];exact apX
 refine bL (c:=O0) func168 rfl rfl fun w F=> ?_
 cases hn:b7 s with
 |true=>
  have e:bT s=s.extract 1 s.size:=by unfold bT;rw [hn]
  have h0:0<s.size:=by unfold b7 at hn;rw [ae,bE]at hn;exact hn.1
  rw [e];exact aY hS 9 (apS s rfl hn (by show 1<=s.size;omega) rfl)
 |false=>
  have e:bT s=s:=by unfold bT;rw [hn]
  rw [e];exact aY hS 9 (apR s rfl hn)
def apZ:O1.Ok prog:=fun⟨s,p,_⟩ h=>by
 have h:decide (p=fq)=true:=h;rw [ap h];exact apY s
def ap0:XD.Ok prog:=fun⟨s,p,_⟩ h=>by
 have h:decide (p=fq)=true:=h;rw [ap h];have hS:bD prog (bF (a7 [O1])):=cN fun c hc=>by rw [List.mem_singleton.1 hc];exact apZ
 refine bL (c:=XC) func119 rfl rfl fun w F=> ?_
 exact aY hS 9 (apT s rfl)
def jj:=k_a f54
def D8 (l:List Int):Bool:=List.isEmpty l
def XE:=IN 123 [dL] [.int .i64, .bool] true (fun d=>true) fun d=>(d.1.1,D8 d.1.2,())
def jw:=a7 [NJ,XD,XB,NI,GU,XE]
def de (u d:AT) (fr cW:Bool):bI:={n:=71,sl:=[(4,sv d),(5,bv fr),(6,sv u),(7,bv cW)],bH:=[],next:=64}
def ap1 (s:AT) (h1:(sR s)=true) (h2:(ByteArray.mk (#[(45:UInt8)]))=(ByteArray.mk (#[(45:UInt8)]))):
  c7 jw (fl jj []) 3 71 [sv s] 1 .normal [] (de (bT (jc s iJ)) (wl s iJ) (oM s iJ) (b7 (jc s iJ))):=
 wy [aa h1,ah h2] 129
section
variable (u d:AT)
def ap2 (fr cW:Bool) (h1:u.size<=1000000000) (h2:(cE u)=false):
  bS jw ((fl jj []).drop 3) (de u d fr cW) 904 f54 true (iv 1):=
 wy [ah h1,aa (bg (cj (h2))),aa (cj (h2))] 50864257
def ap3 (fr:Bool) (h1:u.size<=1000000000) (h2:(cE u)=true) (h3:(u.data).toList=((ByteArray.mk (#[(48:UInt8)])).data).toList):
  bS jw ((fl jj []).drop 3) (de u d fr true) 7231 f54 true (iv 1):=
 wy [ah h1,aa (bg (cj (h2))),aa (cj (h2)),aa (bg (az h3)),ah h3] 373619764182850216065
def ap4 (h1:u.size<=1000000000) (h2:(cE u)=true):
  dV jw ((fl jj []).drop 3) 2 (de u d false false) 1114515 .normal [] (de u d false false):=
 wy [ah h1,aa (bg (cj (h2))),aa (cj (h2))] 13196287025281
def ap5 (h1:u.size<=1000000000) (h2:(cE u)=true) (h3:d.size<=1000000000) (h4:(cE d)=false):
  bS jw ((fl jj []).drop 3) (de u d true false) 116629395 f54 true (iv 1):=
 wy [ah h1,aa (bg (cj (h2))),aa (cj (h2)),ah h3,aa (bg (cj (h4))),aa (cj (h4))] 1947513652482217575232953206710401
def ap6 (h1:u.size<=1000000000) (h2:(cE u)=true) (h3:d.size<=1000000000) (h4:(cE d)=true) (h5:(d.data).toList=((ByteArray.mk (#[(48:UInt8)])).data).toList):
  bS jw ((fl jj []).drop 3) (de u d true false) 116588435 f54 true (iv 1):=
 wy [ah h1,aa (bg (cj (h2))),aa (cj (h2)),ah h3,aa (bg (cj (h4))),aa (cj (h4)),aa (bg (az h5)),ah h5] 2788197950501923681896353591526425951740033
def ap7 (h1:u.size<=1000000000) (h2:(cE u)=true) (h3:d.size<=1000000000) (h4:(cE d)=true) (h5:¬(d.data).toList=((ByteArray.mk (#[(48:UInt8)])).data).toList) (h6:(d.data).toList=((ByteArray.mk (#[(49:UInt8)])).data).toList):
  bS jw ((fl jj []).drop 3) (de u d true false) 115277715 f54 true (iv 1):=
 wy [ah h1,aa (bg (cj (h2))),aa (cj (h2)),ah h3,aa (bg (cj (h4))),aa (cj (h4)),aa (bg (ab h5)),aF h5,ah h6] 52614061732110455557256335874139780234039523287169
def ap8 (h1:u.size<=1000000000) (h2:(cE u)=true) (h3:d.size<=1000000000) (h4:(cE d)=true) (h5:¬(d.data).toList=((ByteArray.mk (#[(48:UInt8)])).data).toList) (h6:¬(d.data).toList=((ByteArray.mk (#[(49:UInt8)])).data).toList):
  dV jw ((fl jj []).drop 3) 2 (de u d true false) 81723283 .normal [] (de u d true false):=
 wy [ah h1,aa (bg (cj (h2))),aa (cj (h2)),ah h3,aa (bg (cj (h4))),aa (cj (h4)),aa (bg (ab h5)),aF h5,aF h6] 52614061732110455557256335874139780234039523287169
def ap9 (h1:u.size<=1000000000) (h2:(cE u)=true) (h3:¬(u.data).toList=((ByteArray.mk (#[(48:UInt8)])).data).toList):
  dV jw ((fl jj []).drop 3) 2 (de u d false true) 1114559 .normal [] (de u d false true):=
 wy [ah h1,aa (bg (cj (h2))),aa (cj (h2)),aa (bg (ab h3)),aF h3] 103866219580300204314230564067483777
def aqa (h1:u.size<=1000000000) (h2:(cE u)=true) (h3:¬(u.data).toList=((ByteArray.mk (#[(48:UInt8)])).data).toList) (h4:d.size<=1000000000) (h5:(cE d)=false):
  bS jw ((fl jj []).drop 3) (de u d true true) 116629439 f54 true (iv 1):=
 wy [ah h1,aa (bg (cj (h2))),aa (cj (h2)),aa (bg (ab h3)),ah h4,aa (bg (cj (h5))),aa (cj (h5)),aF h3] 730840021646247853707080807151523503615250538625
def aqb (h1:u.size<=1000000000) (h2:(cE u)=true) (h3:¬(u.data).toList=((ByteArray.mk (#[(48:UInt8)])).data).toList) (h4:d.size<=1000000000) (h5:(cE d)=true) (h6:(d.data).toList=((ByteArray.mk (#[(48:UInt8)])).data).toList):
  bS jw ((fl jj []).drop 3) (de u d true true) 116588479 f54 true (iv 1):=
 wy [ah h1,aa (bg (cj (h2))),aa (cj (h2)),aa (bg (ab h3)),ah h4,aa (bg (cj (h5))),aa (cj (h5)),aa (bg (az h6)),ah h6,aF h3] 913530863046102819659576943611420643593858064513
def aqc (h1:u.size<=1000000000) (h2:(cE u)=true) (h3:¬(u.data).toList=((ByteArray.mk (#[(48:UInt8)])).data).toList) (h4:d.size<=1000000000) (h5:(cE d)=true) (h6:¬(d.data).toList=((ByteArray.mk (#[(48:UInt8)])).data).toList) (h7:(d.data).toList=((ByteArray.mk (#[(49:UInt8)])).data).toList):
  bS jw ((fl jj []).drop 3) (de u d true true) 115277759 f54 true (iv 1):=
 wy [ah h1,aa (bg (cj (h2))),aa (cj (h2)),aa (bg (ab h3)),ah h4,aa (bg (cj (h5))),aa (cj (h5)),aa (bg (ab h6)),aF h6,aF h3,ah h7] 65219602905605831220621709583127873508454889955457
def aqd (h1:u.size<=1000000000) (h2:(cE u)=true) (h3:¬(u.data).toList=((ByteArray.mk (#[(48:UInt8)])).data).toList) (h4:d.size<=1000000000) (h5:(cE d)=true) (h6:¬(d.data).toList=((ByteArray.mk (#[(48:UInt8)])).data).toList) (h7:¬(d.data).toList=((ByteArray.mk (#[(49:UInt8)])).data).toList):
  dV jw ((fl jj []).drop 3) 2 (de u d true true) 81723327 .normal [] (de u d true true):=
 wy [ah h1,aa (bg (cj (h2))),aa (cj (h2)),aa (bg (ab h3)),ah h4,aa (bg (cj (h5))),aa (cj (h5)),aa (bg (ab h6)),aF h6,aF h3,aF h7] 65219602905605831220621709583127873508454889955457
def aqe (fr cW:Bool) (h1:(u.size:Int)>600):
  bS jw ((fl jj []).drop 5) (de u d fr cW) 56 f54 true (iv 4):=
 wy [aa (bg (az h1)),ah h1] 528449
def aqf (fr cW:Bool) (h1:¬(u.size:Int)>600) (h2:(d.size:Int)>600):
  bS jw ((fl jj []).drop 5) (de u d fr cW) 55 f54 true (iv 4):=
 wy [aa (bg (ab h1)),aF h1,ah h2] 50860097
def aqg (fr cW:Bool) (h1:¬(u.size:Int)>600) (h2:¬(d.size:Int)>600):
  dV jw ((fl jj []).drop 5) 2 (de u d fr cW) 39 .normal [] (de u d fr cW):=
 wy [aa (bg (ab h1)),aF h1,aF h2] 50860097
def aqh (cW:Bool):
  bS jw ((fl jj []).drop 7) (de u d false cW) 2 f54 true (iv 0):=
 wy [] 0
def aqi (cW:Bool) (h1:(jP u)=true) (h2:(jP d)=true) (h3:(ay (fV u)&&ay (fV d))=true) (h4:(D8 (eJ (fV u) (fV d)).2)=false):
  bS jw ((fl jj []).drop 7) (de u d true cW) 57 f54 true (iv 1):=
 wy [aa h1,aa h2,aa h3,aa (bg (cj (h4))),aa (cj (h4))] 22269406224448
def aqj (cW:Bool) (h1:(jP u)=true) (h2:(jP d)=true) (h3:(ay (fV u)&&ay (fV d))=true) (h4:(D8 (eJ (fV u) (fV d)).2)=true) (h5:¬(eJ (fV u) (fV d)).1=1):
  bS jw ((fl jj []).drop 7) (de u d true cW) 55 f54 true (iv 1):=
 wy [aa h1,aa h2,aa h3,aa (bg (cj (h4))),aa (cj (h4)),aa (fA.mpr h5)] 1711119266488384
def aqk (cW:Bool) (h1:(jP u)=true) (h2:(jP d)=true) (h3:(ay (fV u)&&ay (fV d))=true) (h4:(D8 (eJ (fV u) (fV d)).2)=true) (h5:(eJ (fV u) (fV d)).1=1):
  bS jw ((fl jj []).drop 7) (de u d true cW) 39 f54 true (iv 0):=
 wy [aa h1,aa h2,aa h3,aa (bg (cj (h4))),aa (cj (h4)),aa (ef.mpr h5)] 1711119266488384
end
def aql:XE.Ok prog:=fun⟨⟨z,l⟩,_⟩ _=>by
 show Holds prog true 123 [aB (z,l)] (.tuple [iv z,bv (D8 l)]);refine bL (c:=O2) func123 rfl rfl fun w F=> ?_
 cases l with
 |nil=>exact aY cC 9 (apU z)
 |cons x r=>exact aY cC 9 (apV z x r rfl)
end
def O3:∀l:List UInt8,(∀b∈l.take (bl l),b≠47)/\(bl l<l.length->l=l.take (bl l)++47::l.drop (bl l+1))
 |[]=>⟨fun b h=>(by cases h),fun h=>(by cases h)⟩
 |b::r=>by
  obtain⟨h1,h2⟩:=O3 r;by_cases hb:b.toNat=47
  .have e:bl (b::r)=0:=by unfold bl;rw [if_pos hb]
   have aqm:b=47:=UInt8.toNat_inj.1 hb;rw [e];exact⟨fun c h=>(by cases h),fun _=>(by rw [aqm];rfl)⟩
  .have e:bl (b::r)=bl r+1:=by show(if b.toNat=47 then 0 else bl r+1)=_;rw [if_neg hb]
   rw [e];refine⟨fun c h=> ?_,fun h=> ?_⟩
   .rw [List.take_succ_cons]at h;rcases ew.1 h with rfl |h
    .exact fun e=>hb (by rw [e];rfl)
    .exact h1 c h
   .have h:=h2 (by rw [List.length_cons]at h;omega);rw [List.take_succ_cons,List.drop_succ_cons,List.cons_append];exact congrArg (b:: ·) h
def O4 (l:List UInt8):Lib.cut l [47]=(l.take (bl l),l.drop (bl l+1),decide (bl l<l.length)):=by
 obtain⟨h1,h2⟩:=O3 l;by_cases h:bl l<l.length
 .have e:=h2 h;have key:=Wj (l:=l.take (bl l)) (r:=l.drop (bl l+1)) h1;rw [<-e]at key;rw [key,az h]
 .have hl:l.length<=bl l:=by omega
  rw [eZ hl]at h1 ⊢;rw [Wi h1,List.drop_eq_nil_of_le (by omega),ab h]
def XF {s:AT} (h:b6 (aq s)=true):∀k,k<=(aq s).length->Lib.decFrom 0 ((aq s).take k)=some (bt ((aq s).take k)).toNat
 |0,_=>by rw [List.take_zero];rfl
 |k+1,hk=>by
  have ih:=XF h k (by omega);have hv:=A4 h k (by omega);have hm:ck s k∈aq s:=by rw [yN (by omega)];exact List.getElem_mem _
  have hb:=List.all_eq_true.1 h _ hm;rw [ae,bE,bE]at hb;have eb:ck s k=UInt8.ofNat (48+((ck s k).toNat-48)):=by
   rw [show 48+((ck s k).toNat-48)=(ck s k).toNat by omega];simp
  have key:=Dec.N1 _ 0 _ ((ck s k).toNat-48) (by omega) ih;rw [<-eb]at key;have et:(aq s).take (k+1)=(aq s).take k++[ck s k]:=GZ (by omega);rw [rp (by omega),et,key];congr 1;omega
def XG {s:AT} (h:b6 (aq s)=true):Lib.decFrom 0 (aq s)=some (bt (aq s)).toNat:=by
 have:=XF h (aq s).length (aK _);rw [dR]at this;exact this
def O5 (s:AT):aq (jc s iJ)=(aq s).take (bl (aq s)):=by
 show(Lib.cut (aq s) [47]).1=_;rw [O4]
def XH (s:AT):aq (wl s iJ)=(aq s).drop (bl (aq s)+1):=by
 show(Lib.cut (aq s) [47]).2.1=_;rw [O4]
def XI (s:AT):oM s iJ=decide (bl (aq s)<(aq s).length):=by
 show(Lib.cut (aq s) [47]).2.2=_;rw [O4]
def D9 (s:AT):(b7 s=true/\aq s=45::aq (bT s))\/(b7 s=false/\bT s=s/\∀b r,aq s=b::r->b.toNat≠45):=by
 cases hn:b7 s with
 |true=>
  left;refine⟨rfl, ?_⟩;have e:bT s=s.extract 1 s.size:=by unfold bT;rw [hn]
  unfold b7 at hn;rw [ae,bE,bE]at hn;rw [e,lp,c6,dR];cases hb:aq s with
  |nil=>rw [c6,hb]at hn;exact absurd hn.1 (by decide)
  |cons b r=>
   have h2:(ck s 0).toNat=45:=hn.2;have h3:ck s 0=b:=by show(aq s).getD 0 0=b;rw [hb];rfl
   rw [h3]at h2;have:b=45:=UInt8.toNat_inj.1 h2;rw [this];rfl
 |false=>
  right;refine⟨rfl,by unfold bT;rw [hn],fun b r hb h=> ?_⟩;have h3:ck s 0=b:=by show(aq s).getD 0 0=b;rw [hb];rfl
  unfold b7 at hn;rw [az (by rw [c6,hb];exact Nat.succ_pos _),h3,az h]at hn;cases hn
def aqn {s:AT} (h:∀b r,aq s=b::r->b.toNat≠45):b7 s=false/\bT s=s:=by
 rcases D9 s with⟨_,h2⟩|⟨h1,h2,_⟩
 .exact absurd rfl (h 45 _ h2)
 .exact⟨h1,h2⟩
def aqo (s:AT):bT (jc s iJ)=(bT s).extract 0 (bl (aq (bT s)))/\wl s iJ=(bT s).extract (bl (aq (bT s))+1) (bT s).size/\oM s iJ=decide (bl (aq (bT s))<(bT s).size)/\b7 (jc s iJ)=b7 s:=by
 rcases D9 s with⟨h1,h2⟩|⟨h1,h2,h3⟩
 .have hk:bl (aq s)=bl (aq (bT s))+1:=by
   rw [h2];show(if(45:UInt8).toNat=47 then 0 else bl (aq (bT s))+1)=_;rw [if_neg (by decide)]
  have ha:aq (jc s iJ)=45::(aq (bT s)).take (bl (aq (bT s))):=by rw [O5,hk,h2,List.take_succ_cons]
  rcases D9 (jc s iJ)with⟨g1,g2⟩|⟨_,_,g3⟩
  .rw [ha]at g2;refine⟨gy ?_,gy ?_, ?_,by rw [g1,h1]⟩
   .show aq _=aq _;rw [lp,List.drop_zero];exact(List.cons.inj g2).2.symm
   .show aq _=aq _;rw [XH,lp,c6,dR,hk,h2,List.drop_succ_cons]
   .rw [XI,hk,h2,c6,List.length_cons];by_cases h:bl (aq (bT s))<(aq (bT s)).length
    .rw [az h,az (by omega)]
    .rw [ab h,ab (by omega)]
  .exact absurd rfl (g3 45 _ ha)
 .have hp:b7 (jc s iJ)=false/\bT (jc s iJ)=jc s iJ:=aqn fun b r hb=>by
   rw [O5]at hb;cases hc:aq s with
   |nil=>rw [hc]at hb;rw [List.take_nil]at hb;cases hb
   |cons c t=>
    have h4:=h3 c t hc;rw [hc]at hb;cases hm:bl (c::t)with
    |zero=>rw [hm]at hb;cases hb
    |succ m=>
     rw [hm,List.take_succ_cons]at hb;rw [<-(List.cons.inj hb).1];exact h4
  rw [hp.1,hp.2,h1,h2];refine⟨gy ?_,gy ?_, ?_,rfl⟩
  .show aq _=aq _;rw [O5,lp,List.drop_zero]
  .show aq _=aq _;rw [XH,lp,c6,dR]
  .rw [XI,c6]
noncomputable section
def O6:=IN 54 [.str] [.int .i64] true (fun d=>decide (d.1.size<=1000000000)) fun d=>(ckR d.1,())
--{
def O7:bD prog (bF jw):=cN (aQ VR (aQ ap0 (aQ apO (aQ VN (aQ zp (aQ aql dW))))))
def XJ {u:AT} (h:b6 (aq u)=true):Lib.hasPrefix (aq u) [45]=false:=Dec.V4 _ fun b hb=>by
 have:=List.all_eq_true.1 h b hb;rw [ae,bE,bE]at this;exact this
def XK:∀n:Nat,(10:Int)^n<=18446744073709551616^n
 |0=>by simp
 |n+1=>by
  rw [Int.pow_succ,Int.pow_succ];have h1:=XK n;have h2:=dK (b:=10) (by decide) n;omega
def XL {u:AT} (h:b6 (aq u)=true) (hl:u.size<=600):jP u=true/\fV u=bf (bt (aq u))/\ay (bf (bt (aq u)))=true/\aj (bf (bt (aq u)))=bt (aq u):=by
 have hb:=uO h;have e1:(gf u fq).data.toList=aq u:=by
  show Lib.trimPrefix (aq u) [45]=aq u;unfold Lib.trimPrefix;rw [XJ h];rfl
 have e2:uL u=bt (aq u):=by
  unfold uL;rw [e1,XG h];show((bt (aq u)).toNat:Int)=_;omega
 have e3:Bk u=bt (aq u):=by
  unfold Bk;rw [show p0 u fq=false from XJ h,e2];rfl
 have h0:((bt (aq u)).natAbs:Int)<18446744073709551616^u.size:=by
  have h1:=XK u.size;omega
 obtain⟨m1,m2⟩:=jJ (n:=100000) (Int.lt_of_lt_of_le h0 (iW (by decide) (by omega)));refine⟨?_,by unfold fV;rw [e3],m1,m2⟩;unfold jP;rw [e1,XG h,e2];exact m1
def Ea (u d:AT) (fr cW:Bool):Int:=
 if cE u=false then 1
 else if cW=true/\aq u=[48]then 1
 else if fr=true/\(cE d=false\/aq d=[48]\/aq d=[49])then 1
 else if 600<u.size\/600<d.size then 4
 else if fr=true/\Int.gcd (bt (aq u)) (bt (aq d))≠1 then 1
 else 0
def aqp {t:AT} {k:Nat} {cW:Bool} (hk:k<=t.size):Ea (t.extract 0 k) (t.extract (k+1) t.size) (decide (k<t.size)) cW=Bu cW t k:=by
 have cT:=lg t 0 k hk;have z2:=lg t (k+1) t.size (aK _);unfold Ea Bu;simp only [bE];have e:(600<(t.extract 0 k).size\/600<(t.extract (k+1) t.size).size)↔(600<k\/601+k<t.size):=by omega
 simp only [e]
def HV (u d:AT) (fr cW:Bool) (hu:b6 (aq u)=true) (hd:fr=true->b6 (aq d)=true) (w:World) (F:Sv.Env):
  aW prog w F 71 ((fl jj []).drop 5) (de u d fr cW).T (de u d fr cW).H (hJ prog true f54 (iv (if 600<u.size\/600<d.size then 4 else if fr=true/\Int.gcd (bt (aq u)) (bt (aq d))≠1 then 1 else 0))):=by
 have hS:=O7;by_cases h1:600<u.size
 .rw [if_pos (.inl h1)];exact bY (s:=de u d fr cW) hS (aqe u d fr cW (by omega))
 .by_cases h2:600<d.size
  .rw [if_pos (.inr h2)];exact bY (s:=de u d fr cW) hS (aqf u d fr cW (by omega) (by omega))
  .rw [if_neg (by omega)];refine dP (s:=de u d fr cW) hS 2 (aqg u d fr cW (by omega) (by omega)) ?_;cases fr with
   |false=>
    rw [if_neg (fun h=>by cases h.1)];exact bY (s:=de u d false cW) hS (aqh u d cW)
   |true=>
    obtain⟨a1,a2,a3,a4⟩:=XL hu (by omega);obtain⟨b1,b2,b3,b4⟩:=XL (hd rfl) (by omega);have k1:=aqi u d cW a1 b1;have k2:=aqj u d cW a1 b1;have c8:=aqk u d cW a1 b1;rw [a2,b2]at k1 k2 c8;have hg:eJ (bf (bt (aq u))) (bf (bt (aq d)))=bf (Int.gcd (bt (aq u)) (bt (aq d))):=by unfold eJ;rw [a4,b4]
    have hg':eJ ((bf (bt (aq u))).1,(bf (bt (aq u))).2) ((bf (bt (aq d))).1,(bf (bt (aq d))).2)=bf (Int.gcd (bt (aq u)) (bt (aq d))):=hg;rw [hg']at k1 k2 c8;have kB:=bZ a3 b3;generalize Int.gcd (bt (aq u)) (bt (aq d))=g at*;by_cases qt:g=1
    .rw [if_neg (fun h=>h.2 qt)];have em:bf ((g:Nat):Int)=(1,[]):=by rw [qt];exact eK (by decide)
     rw [em]at c8;exact bY (s:=de u d true cW) hS (c8 kB rfl rfl)
    .rw [if_pos ⟨rfl,qt⟩];by_cases kT:(-9223372036854775807:Int)<=(g:Int)/\(g:Int)<=9223372036854775807
     .have em:bf ((g:Nat):Int)=((g:Int),[]):=eK kT;rw [em]at k2;exact bY (s:=de u d true cW) hS (k2 kB rfl (by show¬(g:Int)=1;omega))
     .have em:bf ((g:Nat):Int)=(if(g:Int)<0 then-1 else 1,cV 18446744073709551616 (g:Int).natAbs):=by unfold bf;rw [if_neg kT]
      rw [em]at k1;refine bY (s:=de u d true cW) hS (k1 kB ?_);show List.isEmpty (cV 18446744073709551616 ((g:Int).natAbs:Int))=false;have hne:=AG (b:=18446744073709551616) (by decide) (show(0:Int)<((g:Int).natAbs:Int) by omega);cases hc:cV 18446744073709551616 ((g:Int).natAbs:Int)with
      |nil=>exact absurd hc hne
      |cons x r=>rfl
def aqq (u d:AT) (fr cW:Bool) (fQ:u.size<=1000000000) (wO:d.size<=1000000000) (w:World) (F:Sv.Env):
  aW prog w F 71 ((fl jj []).drop 3) (de u d fr cW).T (de u d fr cW).H (hJ prog true f54 (iv (Ea u d fr cW))):=by
 have hS:=O7;unfold Ea;cases ha:cE u with
 |false=>
  rw [if_pos rfl];exact bY (s:=de u d fr cW) hS (ap2 u d fr cW fQ ha)
 |true=>
  rw [if_neg (by decide)];have du:=(wN ha).1;by_cases hz:cW=true/\aq u=[48]
  .rw [if_pos hz];obtain⟨rfl,h48⟩:=hz;exact bY (s:=de u d fr true) hS (ap3 u d fr fQ ha h48)
  .rw [if_neg hz];cases fr with
   |false=>
    rw [if_neg (fun h=>by cases h.1)];cases cW with
    |false=>
     refine dP (s:=de u d false false) hS 2 (ap4 u d fQ ha) ?_;exact HV u d false false du (fun h=>by cases h) w F
    |true=>
     refine dP (s:=de u d false true) hS 2 (ap9 u d fQ ha (fun h=>hz ⟨rfl,h⟩)) ?_;exact HV u d false true du (fun h=>by cases h) w F
   |true=>
    cases hb:cE d with
    |false=>
     rw [if_pos ⟨rfl, .inl rfl⟩];cases cW with
     |false=>exact bY (s:=de u d true false) hS (ap5 u d fQ ha wO hb)
     |true=>exact bY (s:=de u d true true) hS (aqa u d fQ ha (fun h=>hz ⟨rfl,h⟩) wO hb)
    |true=>
     have dd:=(wN hb).1;by_cases h8:aq d=[48]
     .rw [if_pos ⟨rfl, .inr (.inl h8)⟩];cases cW with
      |false=>exact bY (s:=de u d true false) hS (ap6 u d fQ ha wO hb h8)
      |true=>exact bY (s:=de u d true true) hS (aqb u d fQ ha (fun h=>hz ⟨rfl,h⟩) wO hb h8)
     .by_cases h9:aq d=[49]
      .rw [if_pos ⟨rfl, .inr (.inr h9)⟩];cases cW with
       |false=>exact bY (s:=de u d true false) hS (ap7 u d fQ ha wO hb h8 h9)
       |true=>exact bY (s:=de u d true true) hS (aqc u d fQ ha (fun h=>hz ⟨rfl,h⟩) wO hb h8 h9)
      .rw [if_neg (fun h=>by
        rcases h.2 with h|h|h
        .cases h
        .exact h8 h
        .exact h9 h)]
       cases cW with
       |false=>
        refine dP (s:=de u d true false) hS 2 (ap8 u d fQ ha wO hb h8 h9) ?_;exact HV u d true false du (fun _=>dd) w F
       |true=>
        refine dP (s:=de u d true true) hS 2 (aqd u d fQ ha (fun h=>hz ⟨rfl,h⟩) wO hb h8 h9) ?_;exact HV u d true true du (fun _=>dd) w F
def aqr (s:AT) (hl:s.size<=1000000000):Holds prog true 54 [sv s] (iv (ckR s)):=by
 have hS:=O7;refine bL (c:=jj) func54 rfl rfl fun w F=> ?_
 obtain⟨e1,e2,e3,bW⟩:=aqo s;have hle:bl (aq (bT s))<=(bT s).size:=by rw [c6];exact A6 _
 have hps:(bT s).size<=s.size:=by
  rcases D9 s with⟨_,h2⟩|⟨_,h2,_⟩
  .have:=congrArg List.length h2;rw [List.length_cons,<-c6,<-c6]at this;omega
  .rw [h2];exact aK _
 have hc:sR s=true:=az (by omega);have key:=ap1 s hc rfl;rw [e1,e2,e3,bW]at key;have ev:ckR s=Ea ((bT s).extract 0 (bl (aq (bT s)))) ((bT s).extract (bl (aq (bT s))+1) (bT s).size) (decide (bl (aq (bT s))<(bT s).size)) (b7 s):=(aqp hle).symm;rw [ev];refine cR hS 3 key ?_;exact aqq _ _ _ _ (by rw [lg _ _ _ hle];omega) (by rw [lg _ _ _ (aK _)];omega) w F
attribute [local irreducible] ckR
def XM:O6.Ok prog:=fun⟨s,_⟩ h=>by
 have h:decide (s.size<=1000000000)=true:=h;exact aqr s (ap h)
--}
end
section
set_option maxHeartbeats 4000000
noncomputable section
def wP:=k_a Tryz.f190
def XN:=k_a Tryz.f153
def smI2 (a:aC):Bool:=List.isEmpty (α:=Int) a.2&&ii a.1
abbrev sl (l:List AT):af:= .bu false .str l
abbrev HW (f:FuncId):af:= .raw (.func (.func f) #[] #[])
def p7 (l:List AT) (k:Nat):bI:={n:=21,sl:=[(0,sl l),(1,HW 54),(8,sl l),(9,iv l.length),(10,iv k)],bH:=[],next:=64}
def Bv:=a7 [O6]
section
variable (l:List AT)
def aqs:
  c7 Bv (fl wP []) 2 21 [sl l,HW 54] 1 .normal [] (p7 l 0):=
 wy [] 0
def aqt (k:Nat) (h1:(k:Int)<(l.length:Int)) (h2:k<l.length) (h3:(l.getD k ByteArray.empty).size<=1000000000) (h4:ckR (l.getD k ByteArray.empty)=0) (h5:i6 ((k:Int)+1)):
  bz Bv (fl wP [1,0,1,0,0]) (p7 l k) 5 .normal [] (p7 l (k+1)):=
 wy [ah h1,ah h2,ah h3,aa (ef.mpr h4),yi h5] 5436612609
def aqu (k:Nat) (h1:¬(k:Int)<(l.length:Int)):
  bz Bv (fl wP [1,0,1,0,0]) (p7 l k) 2 (.exit 0) [] (p7 l k):=
 wy [aF h1] 1
def aqv (k:Nat):
  bS Bv ((fl wP []).drop 3) (p7 l k) 1 Tryz.f190 true (iv 0):=
 wy [] 0
def RJ:Bool:=decide (l.length<=1000)&&l.all fun s=>decide (s.size<=1000000000)&&decide (ckR s=0)
end
def Qy (s:AT):Prop:=∃r,aph r/\s=aU r
attribute [local irreducible] Ip zF aX txS okTx smI2 aU toQ dI RJ okQ
attribute [local semireducible] Ip zF aX txS okTx smI2 aU toQ dI RJ okQ
end
end
noncomputable section
def O8:=a7 [Xp,Hl]
def aqw (q:bO) (h1:(ir q)=true) (h2:(aZ 10000 q.1)=true):
  aV O8 (fl NY []) 9 16 [bN q] 3 f61 true (sv (l9 q.1)):=
 wy [aa h1,aa h2] 8256
def aqx (q:bO) (h1:(ir q)=false) (h2:(aZ 10000 q.1)=true) (h3:(l9 q.1).size+(ByteArray.mk #[47]).size<=9223372036854775807) (h4:(aZ 10000 q.2)=true) (h5:(l9 q.1++ByteArray.mk #[47]).size+(l9 q.2).size<=9223372036854775807):
  aV O8 (fl NY []) 9 16 [bN q] 2 f61 true (sv (l9 q.1++ByteArray.mk #[47]++l9 q.2)):=
 wy [aa h1,aa (aD (v:=aB q.1)),aa h2,ah h3,aa (aD (v:=aB q.2)),aa h4,ah h5] 1997062150037568
def Bw (q:bO):Rat:=Rat.divInt (aj q.1) (aj q.2)
noncomputable def lD (n:Nat) (q:bO):Bool:= @decide (QR n q (Bw q)) (Classical.propDecidable _)
noncomputable def eS (q:bO):AT:=aU (Bw q)
def HX:=IN 61 [gi] [.str] true (fun d=>lD 10000 d.1) fun d=>(eS d.1,())
def XO {n:Nat} {q:bO}:lD n q=true↔QR n q (Bw q):= @decide_eq_true_iff _ (Classical.propDecidable _)
def QR.val {n:Nat} {q:bO} {r:Rat} (h:QR n q r):Bw q=r:=h.self
def QR.rd {n m:Nat} {q:bO} {r:Rat} (h:QR n q r) (hm:n<=m):lD m q=true:=XO.2 (by rw [h.val];exact h.mono hm)
def XP {n:Nat} {a:aC} (h:aZ n a=true) (hn:1<=n):(l9 a).size<=20*n+2:=by
 have hB:=iY h hn;have h1:=Xe (n:=n) (m:=((aj a).natAbs:Int)) (by omega) hB;unfold l9;rw [c6,Xg h,dy];have:(y7 (b5 a)).length<=1:=by cases b5 a<;>decide
 rw [Int.toNat_natCast]at h1;omega
def aqy:bD prog (bF O8):=cN (aQ ao9 (aQ NB dW))
def XQ {n:Nat} {q:bO} {r:Rat} (h:QR n q r):ir q=true↔r.den=1:=by
 have hd:=h.den;unfold ir;rw [ae,fW];constructor
 .rintro⟨h1,h2⟩;have h1:q.2.2=[]:=List.isEmpty_iff.1 h1;rw [lX h1]at hd;omega
 .intro e;rw [e]at hd;have hs:q.2.2=[]:=by
   refine Classical.byContradiction fun hne=> ?_
   obtain⟨h1,_,_,h4,_⟩:=(r9 hne).1 h.o2;have hv:aj q.2=q.2.1*ak q.2.2:=by unfold aj;rw [if_neg hne]
   rw [hv]at hd;rcases h1 with h1|h1<;>rw [h1]at hd<;>omega
  rw [lX hs]at hd;exact⟨List.isEmpty_iff.2 hs,by omega⟩
def aqz {q:bO} {r:Rat} (h:QR 10000 q r):Holds prog true 61 [bN q] (sv (aU r)):=by
 have hS:=aqy;have l1:=XP h.o1 (by decide);have l2:=XP h.o2 (by decide);refine bL (c:=NY) func61 rfl rfl fun w F=> ?_
 by_cases hd:r.den=1
 .have key:=aqw q ((XQ h).2 hd) h.o1;have e:l9 q.1=aU r:=by unfold l9 aU;rw [if_pos hd,h.num]
  rw [e]at key;exact aY hS 9 key
 .have hw:ir q=false:=by
   cases hq:ir q with
   |false=>rfl
   |true=>exact absurd ((XQ h).1 hq) hd
  have cT:(ByteArray.mk #[47]).size=1:=rfl;have key:=aqx q hw h.o1 (by rw [cT];omega) h.o2 (by rw [ByteArray.size_append,cT];omega);have e:l9 q.1++ByteArray.mk #[47]++l9 q.2=aU r:=by
   refine gy ?_;rw [ja,ja];unfold l9 aU;rw [if_neg hd,jQ,jQ,h.num,h.den,rA];rfl
  rw [e]at key;exact aY hS 9 key
def O9:HX.Ok prog:=fun⟨q,_⟩ h=>aqz (XO.1 h)
end
end Go.Proofs.YtibikmmdbdlafaaGreatDoor
namespace Go.Proofs.YtibikmmdbdlafaaGreatDoor
def kk:List Int->Int×Int
 |[]=>(1,0)
 |n::t=>(n*(kk t).1+(kk t).2,(kk t).1)
def aqA (r:Rat):r=(r.num:Rat)/(r.den:Int):=by
 rw [<-Rat.divInt_eq_div];exact(Rat.num_divInt_den r).symm
def aqB (n:Int):(n:Rat)=Rat.divInt n 1:=by
 rw [Rat.divInt_eq_div];have:((1:Int):Rat)=1:=rfl;rw [this];grind
section
open Go.RowKit Sv Go.Proofs.Tryz
def Pa {b:UInt8} (h:48<=b.toNat/\b.toNat<=57):[b]=Lib.decDigits (bt [b]).toNat/\bt [b]=(b.toNat:Int)-48:=by
 have e:bt [b]=(b.toNat:Int)-48:=by rw [M5];simp [bt]
 refine⟨?_,e⟩;rw [e,q9 (by omega)];congr 1;rw [show 48+((b.toNat:Int)-48).toNat=b.toNat by omega];simp
def Pb {b:UInt8} (h:b6 [b]=true):48<=b.toNat/\b.toNat<=57:=by
 rw [A7,ae,ae,bE,bE]at h;exact h.1
def XR:∀(n:Nat) (L:List UInt8),L.length=n+1->b6 L=true->(L.getD 0 0).toNat≠48->L=Lib.decDigits (bt L).toNat/\0<bt L
 |0,L,hl,hd,h0=>by
  obtain⟨b,rfl⟩:∃b,L=[b]:=List.length_eq_one_iff.1 hl;have hb:=Pb hd;obtain⟨h1,h2⟩:=Pa hb;have h3:b.toNat≠48:=h0;exact⟨h1,by omega⟩
 |n+1,L,hl,hd,h0=>by
  have hne:L≠[]:=fun e=>by rw [e]at hl;cases hl
  obtain⟨M,b,rfl⟩:∃M b,L=M++[b]:=⟨L.dropLast,L.getLast hne,(List.dropLast_concat_getLast hne).symm⟩;have eY:M.length=n+1:=by rw [dy,List.length_singleton]at hl;omega
  rw [Hv]at hd;have hb:=Pb hd.2;have hf:(M.getD 0 0).toNat≠48:=by
   cases M with
   |nil=>cases eY
   |cons c r=>exact h0
  obtain⟨i1,i2⟩:=XR n M eY hd.1 hf;obtain⟨_,e2⟩:=Pa hb;have ev:bt (M++[b])=bt M*10+((b.toNat:Int)-48):=by
   rw [Ob,e2];rfl
  refine⟨?_,by omega⟩;rw [ev,wH (by omega),show(bt M*10+((b.toNat:Int)-48)).toNat/10=(bt M).toNat by omega,<-i1,show(bt M*10+((b.toNat:Int)-48)).toNat%10=b.toNat-48 by omega,show 48+(b.toNat-48)=b.toNat by omega];simp
def XS {u:AT} (h:cE u=true):aq u=Lib.decDigits (bt (aq u)).toNat:=by
 unfold cE at h;rw [ae,ae,bE]at h;obtain⟨h1,h2,h3⟩:=h;by_cases hs:u.size=1
 .obtain⟨b,hb⟩:∃b,aq u=[b]:=List.length_eq_one_iff.1 (by rw [<-c6];exact hs);rw [hb]at h3 ⊢;exact(Pa (Pb h3)).1
 .rw [ab (by omega),Bool.false_or,Bool.not_eq_true',decide_eq_false_iff_not]at h2;exact(XR (u.size-1) (aq u) (by rw [<-c6];omega) h3 h2).1
def HY {s:AT} (h:ckR s=0):sY s:=by
 unfold ckR Bu at h;split at h
 .cases h
 rename_i c1;split at h
 .cases h
 rename_i c2;split at h
 .cases h
 rename_i c3;split at h
 .cases h
 rename_i c4;split at h
 .cases h
 rename_i c5;obtain⟨t,ht⟩:∃t,bT s=t:=⟨_,rfl⟩;obtain⟨k,hk⟩:∃k,bl (aq t)=k:=⟨_,rfl⟩;rw [ht,hk]at c1 c2 c3 c4 c5;have hle:k<=t.size:=by rw [<-hk,c6];exact A6 _
 have ha:cE (t.extract 0 k)=true:=by cases hd:cE (t.extract 0 k)with
  |true=>rfl
  |false=>exact absurd hd c1
 have Bx:=XS ha;have aqC:=uO (wN ha).1;have avh:=lg t 0 k hle;obtain⟨A,hA⟩:∃A:Nat,bt (aq (t.extract 0 k))=(A:Int):=⟨(bt (aq (t.extract 0 k))).toNat,by omega⟩;rw [hA,Int.toNat_natCast]at Bx;rw [hA]at aqC c5;have hneg:b7 s=true->0<A:=fun hn=>by
  rcases Nat.eq_zero_or_pos A with h0|h0
  .rw [h0,q9 (by decide)]at Bx;exact absurd ⟨hn,Bx⟩ c2
  .exact h0
 have y8:bp (b7 s) (A:Int)<0↔b7 s=true:=by
  cases hn:b7 s with
  |true=>have:=hneg hn;constructor;exact fun _=>rfl;exact fun _=>by show-(A:Int)<0;omega
  |false=>constructor;(intro h;have:(A:Int)<0:=h;omega);exact fun h=>by cases h
 have XT:(bp (b7 s) (A:Int)).natAbs=A:=by cases b7 s with
  |true=>show(-(A:Int)).natAbs=A;omega
  |false=>show(A:Int).natAbs=A;omega
 have hit:Lib.itoa (bp (b7 s) (A:Int))=if b7 s then 45::Lib.decDigits A else Lib.decDigits A:=by
  rw [wJ,XT];cases hn:b7 s with
  |true=>rw [az (by rw [hn]at y8;exact y8.2 rfl)]
  |false=>rw [ab (by rw [hn]at y8;exact fun h=>by cases y8.1 h)]
 have hs:aq s=if b7 s then 45::aq t else aq t:=by
  rcases D9 s with⟨h1,h2⟩|⟨h1,h2,_⟩
  .rw [h1,h2,ht];rfl
  .rw [h1,<-ht,h2];rfl
 have XU:((bp (b7 s) (A:Int)).natAbs:Int)<1000000000^(k+(t.size-k)):=by
  rw [XT];have h1:=HQ (t.extract 0 k).size;have h2:=iW (b:=1000000000) (by decide) (show(t.extract 0 k).size<=k+(t.size-k) by omega);omega
 by_cases hlt:k<t.size
 .have hb:cE (t.extract (k+1) t.size)=true:=by cases hd:cE (t.extract (k+1) t.size)with
   |true=>rfl
   |false=>exact absurd ⟨hlt, .inl hd⟩ c3
  have Pc:=XS hb;have aqD:=uO (wN hb).1;have avi:=lg t (k+1) t.size (aK _);obtain⟨B,hB⟩:∃B:Nat,bt (aq (t.extract (k+1) t.size))=(B:Int):=⟨(bt (aq (t.extract (k+1) t.size))).toNat,by omega⟩;rw [hB,Int.toNat_natCast]at Pc;rw [hB]at aqD c5;have hg:Int.gcd (A:Int) (B:Int)=1:=by
   by_cases hg:Int.gcd (A:Int) (B:Int)=1
   .exact hg
   .exact absurd ⟨hlt,hg⟩ c5
  have Dz:2<=B:=by
   rcases Nat.lt_or_ge B 2 with h2|h2
   .refine absurd ⟨hlt, .inr ?_⟩ c3;rw [Pc,q9 (by omega)];rcases (show B=0\/B=1 by omega)with rfl |rfl
    .exact .inl rfl
    .exact .inr rfl
   .exact h2
  obtain⟨r1,r2⟩:=N2 (p:=bp (b7 s) (A:Int)) (q:=(B:Int)) (by omega) (by rw [Hx];exact hg);have aqE:(B:Int)<1000000000^(k+(t.size-k)):=by
   have h1:=HQ (t.extract (k+1) t.size).size;have h2:=iW (b:=1000000000) (by decide) (show(t.extract (k+1) t.size).size<=k+(t.size-k) by omega);omega
  refine⟨Rat.divInt (bp (b7 s) (A:Int)) (B:Int),k+(t.size-k),gy ?_,by omega,by rw [r1];exact XU,by rw [r2];exact aqE⟩;have Pd:=(O3 (aq t)).2 (by rw [hk,<-c6];exact hlt);rw [hk]at Pd;have x1:aq (t.extract 0 k)=(aq t).take k:=by rw [lp,List.drop_zero]
  have x2:aq (t.extract (k+1) t.size)=(aq t).drop (k+1):=by rw [lp,c6,dR]
  rw [<-x1,<-x2,Bx,Pc]at Pd;show aq s=aq (aU _);have eq:aq (aU (Rat.divInt (bp (b7 s) (A:Int)) (B:Int)))=Lib.itoa (bp (b7 s) (A:Int))++47::Lib.decDigits B:=by
   unfold aU;rw [if_neg (by omega),r1,r2,Dec.q8]
  rw [eq,hit,hs,Pd];cases b7 s<;>rfl
 .have r1:((bp (b7 s) (A:Int):Int):Rat).num=bp (b7 s) (A:Int):=Rat.num_intCast _;have r2:((bp (b7 s) (A:Int):Int):Rat).den=1:=Rat.den_intCast _;have aqF:(1:Int)<1000000000^(k+(t.size-k)):=by
   have hp:=(wN ha).2;have h2:=iW (b:=1000000000) (by decide) (show 1<=k+(t.size-k) by omega);rw [Int.pow_succ,Int.pow_zero]at h2;omega
  refine⟨((bp (b7 s) (A:Int):Int):Rat),k+(t.size-k),gy ?_,by omega,by rw [r1];exact XU,by rw [r2];exact aqF⟩;have x1:aq (t.extract 0 k)=aq t:=by rw [lp,List.drop_zero,eZ (by rw [<-c6];omega)]
  rw [x1]at Bx;show aq s=aq (aU _);have eq:aq (aU ((bp (b7 s) (A:Int):Int):Rat))=Lib.itoa (bp (b7 s) (A:Int)):=by
   unfold aU;rw [if_pos r2,r1];exact jQ _
  rw [eq,hit,hs,Bx]
noncomputable section
def aqG {n:Nat} {q:bO} {r:Rat} (h:QR n q r) (hn:1<=n):(r.num.natAbs:Int)<18446744073709551616^n/\(r.den:Int)<18446744073709551616^n:=by
 have h1:=iY h.o1 hn;have h2:=iY h.o2 hn;rw [h.num]at h1;rw [h.den]at h2;exact⟨h1,by omega⟩
end
set_option maxHeartbeats 1000000
noncomputable section
def Pe:∀(n:Nat) (u:Nat),(Lib.decDigits u).length<=n->u<10^n
 |0,u,h=>by have:=tp u;omega
 |n+1,u,h=>by
  have hp:0<10^n:=Nat.pow_pos (by decide);by_cases hu:u<10
  .rw [Nat.pow_succ];omega
  .rw [wH hu,dy,List.length_singleton]at h;have:=Pe n (u/10) (by omega);rw [Nat.pow_succ];omega
def Pf {r:Rat} {n:Nat} (h:(aU r).size<=n):r.num.natAbs<10^n/\r.den<10^n:=by
 have hb:aq (aU r)=Lib.itoa r.num++(if r.den=1 then []else 47::Lib.decDigits r.den):=by
  unfold aU;by_cases h1:r.den=1
  .rw [if_pos h1,if_pos h1,List.append_nil];exact jQ _
  .rw [if_neg h1,if_neg h1,<-Dec.q8]
 rw [c6,hb,dy,wJ]at h;have hl:(Lib.decDigits r.num.natAbs).length<=(if decide (r.num<0)then 45::Lib.decDigits r.num.natAbs else Lib.decDigits r.num.natAbs).length:=by split<;>simp
 refine⟨Pe _ _ (by omega), ?_⟩;by_cases h1:r.den=1
 .rw [h1];cases n with
  |zero=>have:=tp r.num.natAbs;omega
  |succ n=>exact Nat.one_lt_pow (by omega) (by decide)
 .rw [if_neg h1,List.length_cons]at h;exact Pe _ _ (by omega)
structure XV (a:AT) (r:Rat):Prop where
 tx:a=aU r
 n:r.num.natAbs<1000000000000000000000000
 d:r.den<1000000000000000000000000
 fr:dI a=true
 qr:QR 2 (aX a) r
 q:toQ a=r
 i:fR 3 r
def aqH {r:Rat} (h:(aU r).size<=24):XV (aU r) r:=by
 have e:(10:Nat)^24=1000000000000000000000000:=by decide
 obtain⟨h1,h2⟩:=Pf h;rw [e]at h1 h2;have i:fR 3 r:=⟨by have:(1000000000:Int)^3=1000000000000000000000000000:=(by decide);omega,by have:(1000000000:Int)^3=1000000000000000000000000000:=(by decide);omega⟩
 have e2:(18446744073709551616:Int)^2=340282366920938463463374607431768211456:=by decide
 obtain⟨f1,f2⟩:=Wk (n:=2) (r:=r) (by decide) (by decide) (jJ (by omega)).1 (jJ (by omega)).1 (by omega);exact⟨rfl,h1,h2,f1,f2,iL (k:=3) (by decide) i,i⟩
def Eb {a:AT} (hs:a.size<=24) (hc:ckR a=0):XV a (toQ a):=by
 obtain⟨r,k,rfl,_,_⟩:=HY hc;have h:=aqH hs;rw [h.q];exact h
def XW:=k_a Tryz.f87
def HZ:=k_a Tryz.f86
def XX:=k_a Tryz.f29
def Pg:=k_a Tryz.f43
def RK:=a7 [A5]
def wQ (s:AT):Bool:=decide (((bl (aq s):Nat):Int)=(s.size:Int))
def aqI (s:AT) (h1:s.size<=1000000000) (h2:((↑(bl s.data.toList):Int)==(s.size:Int))=(wQ s)):
  aV RK (fl XW []) 9 8 [sv s] 1 Tryz.f87 true (bv (wQ s)):=
 wy [ah h1,ax h2] 129
def XY:=IN 87 [.str] [.bool] true (fun d=>decide (d.1.size<=1000000000)) fun d=>(wQ d.1,())
def H6:=a7 [HH]
def aqJ (s:AT) (h1:jR s<0) (h2:Int.toNat 1<=s.size) (h3:(s.extract (Int.toNat 1) s.size)=(s.extract 1 s.size)):
  aV H6 (fl HZ []) 9 14 [sv s] 3 Tryz.f86 true (sv (s.extract 1 s.size)):=
 wy [ah h1,ah h2,ah (by omega:s.size<=s.size),ax h3] 4345823296
def aqK (s:AT) (h1:¬jR s<0) (h2:jR s=0):
  aV H6 (fl HZ []) 9 14 [sv s] 6 Tryz.f86 true (sv s):=
 wy [aF h1,cM h2] 524352
def aqL (s:AT) (h1:¬jR s<0) (h2:¬jR s=0) (h3:(ByteArray.mk #[45]).size+s.size<=9223372036854775807):
  aV H6 (fl HZ []) 9 14 [sv s] 4 Tryz.f86 true (sv (ByteArray.mk #[45]++s)):=
 wy [aF h1,yn h2,ah h3] 50856000
noncomputable def s4 (s:AT):AT:=aU (-toQ s)
def XZ:=IN 86 [.str] [.str] true (fun d=>isQ d.1) fun d=>(s4 d.1,())
def X0:=a7 [XZ,WL]
noncomputable def gA (s t:AT):AT:=aU (toQ s-toQ t)
def M1 (s t:AT) (h1:(isQ t)=true) (h2:(isQ s&&isQ (s4 t))=true):
  aV X0 (fl XX []) 9 9 [sv s,sv t] 1 Tryz.f29 true (sv (aU (toQ s+toQ (s4 t)))):=
 wy [aa h1,aa h2] 129
def Ph:=IN 29 [.str, .str] [.str] true (fun d=>isQ d.1&&isQ d.2.1) fun d=>(gA d.1 d.2.1,())
def M2:=a7 [XY,Hw,UD,Hu]
def aqM (s:AT) (h1:s.size<=1000000000) (h2:(wQ s)=true):
  aV M2 (fl Pg []) 9 17 [sv s] 3 Tryz.f43 true (sv s):=
 wy [ah h1,aa h2] 129
def aqN (s:AT) (h1:s.size<=1000000000) (h2:(wQ s)=false) (h3:(jn s)=true) (h4:(okZ (mkR (ptN s))&&(okZ (mkR (ptD s))&&decide (0<vZ (mkR (ptD s)))))=true) (h5:(okZ (mkR (vZ (mkR (ptN s))/vZ (mkR (ptD s)))))=true):
  aV M2 (fl Pg []) 9 17 [sv s] 2 Tryz.f43 true (sv (cm (vZ (mkR (vZ (mkR (ptN s))/vZ (mkR (ptD s))))))):=
 wy [ah h1,aa h2,aa h3,aa h4,aa h5] 84947073
noncomputable def By (s:AT):AT:=aU ((toQ s).floor:Rat)
def aqO:=IN 43 [.str] [.str] true (fun d=>isQ d.1) fun d=>(By d.1,())
end
set_option maxHeartbeats 1000000
noncomputable section
def aqP {x y:Int} (hy:0<y): -x/y=if x%y=0 then-(x/y)else-(x/y+1):=by
 have a:=ec x (show y≠0 by omega);have b:=eL x hy;have e:=Int.mul_ediv_add_emod x y;split
 .rename_i h;refine((Int.ediv_emod_unique (r:=0) hy).2 ⟨?_,Int.le_refl _,hy⟩).1;rw [Int.mul_neg];omega
 .rename_i h;refine((Int.ediv_emod_unique (r:=y-x%y) hy).2 ⟨?_,by omega,by omega⟩).1;rw [Int.mul_neg,Int.mul_add,Int.mul_one];omega
def aqQ:UD.Ok prog:=fun⟨⟨n,x⟩,⟨m,y⟩,_⟩ h=>by
 have h:(okZ (n,x)&&(okZ (m,y)&&decide (0<vZ (m,y))))=true:=h;rw [ae,ae,bE]at h;obtain⟨h1,h2,h3⟩:=h;obtain⟨g1,g2⟩:=nK.1 h1;obtain⟨g3,g4⟩:=nK.1 h2;have g1:okA x=true:=g1;have g3:okA y=true:=g3;have hm:m=false:=by
  cases m with
  |false=>rfl
  |true=>have:0<ag y:=g4 rfl;have:0< -ag y:=h3;omega
 subst hm;have hy:0<ag y:=h3;obtain⟨X1,xt,xl⟩:=fD.1 g1;have hx0:=gN X1;have hxl:ag x<1000000000^x.length:=dC (by decide) X1;have j7:0<=ag x/ag y:=Int.ediv_nonneg hx0 (by omega);have hq1:ag x/ag y<=ag x:=Int.ediv_le_self _ hx0;have qG:=ec (ag x) (show ag y≠0 by omega);have aqR:okA (aH (ag x/ag y))=true:=vf j7 (by omega) xl;have X2:okB (aH (ag x/ag y))=true:=mr j7 (k:=x.length) (by omega) (by omega);have hp:(okA x&&(okA y&&decide ((0:Int)<ag y)))=true:=by rw [g1,g3,az hy];rfl
 have eq:=(gI j7).2.2;show Holds prog false 97 [rv (n,x),rv (false,y)] (rv (mkR (bp n (ag x)/ag y)));refine bL (c:=GY) func97 rfl rfl fun w F=> ?_
 cases n with
 |false=>
  have key:=ajO x y hp X2;rw [eq]at key;exact aY uE 9 key
 |true=>
  show cg _ _ _ _ _ _ _ _ (hJ _ _ _ (rv (mkR (-ag x/ag y))));rw [aqP hy];by_cases hz:ag x%ag y=0
  .rw [if_pos hz];have key:=ajN x y hp (by rw [hz,(Ay (Int.le_refl 0)).2 rfl];decide) X2;rw [eq]at key;exact aY uE 9 key
  .rw [if_neg hz];have hne:((aH (ag x%ag y)).length:Int)>0:=D4 fun e=>hz ((Ay qG).1 e)
   have e1:ag [1]=1:=rZ _ _;have Hs:=dK (b:=1000000000) (by decide) x.length;have key:=ajM x y hp hne (by unfold r7;rw [aqR];rfl) (mr (k:=x.length+1) (by rw [eq,e1];omega) (by rw [eq,e1,Int.pow_succ];omega) (by omega));rw [eq,e1,(gI (show 0<=ag x/ag y+1 by omega)).2.2]at key;exact aY uE 9 key
def dE (r:Rat):List UInt8:=if r.den=1 then []else 47::Lib.decDigits r.den
def za (r:Rat):aq (aU r)=(if decide (r.num<0)then 45::(Lib.decDigits r.num.natAbs++dE r)else Lib.decDigits r.num.natAbs++dE r):=by
 have e:aq (aU r)=Lib.itoa r.num++dE r:=by
  unfold aU dE;by_cases h1:r.den=1
  .rw [if_pos h1,if_pos h1,List.append_nil];exact jQ _
  .rw [if_neg h1,if_neg h1,<-Dec.q8]
 rw [e,wJ];by_cases hn:r.num<0
 .rw [az hn];rfl
 .rw [ab hn];rfl
def H7 {r:Rat} (h:r.num<0):aq (aU r)=45::(Lib.decDigits r.num.natAbs++dE r):=by rw [za,az h];rfl
def H8 {r:Rat} (h:¬r.num<0):aq (aU r)=Lib.decDigits r.num.natAbs++dE r:=by rw [za,ab h];rfl
def aqS:aU 0=ByteArray.mk #[48]:=by
 refine gy ?_;show aq (aU 0)=_;rw [H8 (by decide)];show Lib.decDigits 0++dE 0=[48];rw [q9 (by decide)];unfold dE;rw [if_pos (by decide)];rfl
def X3 (r:Rat):jR (aU r)=if r<0 then-1 else if r=0 then 0 else 1:=by
 by_cases h1:r<0
 .have hn:=Hp.2 h1;have hb:=H7 hn;rw [if_pos h1];unfold jR;have hne:aU r≠ByteArray.mk #[48]:=fun e=>by
   rw [e]at hb;have:(48:UInt8)=45:=(List.cons.inj hb).1;cases this
  rw [if_neg hne,if_pos];refine⟨by rw [c6,hb];simp, ?_⟩;show((aq (aU r)).getD 0 0).toNat=45;rw [hb];rfl
 .rw [if_neg h1];have hn:¬r.num<0:=fun h=>h1 (Hp.1 h)
  by_cases h0:r=0
  .rw [if_pos h0,h0,aqS];unfold jR;rw [if_pos rfl]
  .rw [if_neg h0];have hnz:r.num≠0:=fun e=>h0 (Rat.num_eq_zero.1 e)
   have hb:=H8 hn;have hd:=Oq r.num.natAbs;obtain⟨k1,k2⟩:=Ot (R:=dE r) hd (oN r.num.natAbs);unfold jR;have hne:aU r≠ByteArray.mk #[48]:=fun e=>by
    rw [e]at hb;have hb:[48]=Lib.decDigits r.num.natAbs++dE r:=hb;cases hq:Lib.decDigits r.num.natAbs with
    |nil=>exact hd hq
    |cons b t=>
     rw [hq]at hb;have:=Dec.amJ r.num.natAbs (by omega) b t hq;rw [<-(List.cons.inj hb).1]at this;exact this rfl
   rw [if_neg hne,if_neg];rintro⟨_,hq⟩;have hq:((aq (aU r)).getD 0 0).toNat=45:=hq;rw [hb]at hq;exact k2 hq
def EQ {r:Rat} (h:r.num<0):(aU r).extract 1 (aU r).size=aU (-r):=by
 refine gy ?_;rw [NH];show(aq (aU r)).drop 1=aq (aU (-r));rw [H7 h,H8 (show¬(-r).num<0 by rw [Rat.neg_num];omega)];unfold dE;rw [Rat.neg_num,Rat.neg_den,Int.natAbs_neg];rfl
def aqT {r:Rat} (h:0<r.num):ByteArray.mk #[45]++aU r=aU (-r):=by
 refine gy ?_;rw [ja];show [45]++aq (aU r)=aq (aU (-r));rw [H8 (by omega),H7 (show(-r).num<0 by rw [Rat.neg_num];omega)];unfold dE;rw [Rat.neg_num,Rat.neg_den,Int.natAbs_neg];rfl
def X4 {k:Nat} {r:Rat} (h:fR k r):fR k (-r):=by
 obtain⟨h1,h2⟩:=h;exact⟨by rw [Rat.neg_num,Int.natAbs_neg];exact h1,by rw [Rat.neg_den];exact h2⟩
def Pj:bD prog (bF H6):=qJ OB
def tw {k:Nat} {r:Rat} (hk:k<=10000) (h:fR k r):(aU r).size<=1000000:=by
 have l1:=Bq h.1;have l2:=Bq h.2;rw [c6,za];have:(dE r).length<=9*k+2:=by unfold dE;split<;>simp;omega
 split
 .rw [List.length_cons,dy];omega
 .rw [dy];omega
def X5:XZ.Ok prog:=fun⟨s,_⟩ h=>by
 obtain⟨r,k,rfl,hk,hi⟩:=fj.1 h;have hz:=tw hk hi;have hs:=X3 r;show Holds prog true 86 [sv (aU r)] (sv (aU (-toQ (aU r))));rw [iL hk hi];refine bL (c:=HZ) func86 rfl rfl fun w F=> ?_
 by_cases h1:r<0
 .rw [if_pos h1]at hs;have hn:=Hp.2 h1;have hb:=H7 hn;have key:=aqJ (aU r) (by omega) (by rw [c6,hb];show 1<=_;simp) rfl;rw [EQ hn]at key;exact aY Pj 9 key
 .rw [if_neg h1]at hs;by_cases h0:r=0
  .rw [if_pos h0]at hs;rw [h0,show(-0:Rat)=0 from rfl];rw [h0]at hs;exact aY Pj 9 (aqK (aU 0) (by omega) hs)
  .rw [if_neg h0]at hs;have hn:¬r.num<0:=fun h=>h1 (Hp.1 h)
   have hnz:r.num≠0:=fun e=>h0 (Rat.num_eq_zero.1 e)
   have cT:(ByteArray.mk #[45]).size=1:=rfl;have key:=aqL (aU r) (by omega) (by omega) (by rw [cT];omega);rw [aqT (by omega)]at key;exact aY Pj 9 key
def aqU:bD prog (bF X0):=cN (aQ X5 (aQ anQ dW))
def X6:Ph.Ok prog:=fun⟨s,t,_⟩ h=>by
 have h:(isQ s&&isQ t)=true:=h;rw [ae]at h;obtain⟨r,k,rfl,hk,hi⟩:=fj.1 h.2;have e:s4 (aU r)=aU (-r):=by unfold s4;rw [iL hk hi]
 have key:=M1 s (aU r) h.2 (by rw [h.1,e,cf hk (X4 hi)];rfl);rw [e,iL hk (X4 hi)]at key;show Holds prog true 29 [sv s,sv (aU r)] (sv (aU (toQ s-toQ (aU r))));rw [iL hk hi,Rat.sub_eq_add_neg];refine bL (c:=XX) func29 rfl rfl fun w F=> ?_
 exact aY aqU 9 key
def aqV:bD prog (bF RK):=qJ Dw
def aqW:XY.Ok prog:=fun⟨s,_⟩ h=>by
 have hs:s.size<=1000000000:=ap h;show Holds prog true 87 [sv s] (bv (wQ s));refine bL (c:=XW) func87 rfl rfl fun w F=> ?_
 exact aY aqV 9 (aqI s hs rfl)
def aqX (r:Rat):wQ (aU r)=decide (r.den=1):=by
 unfold wQ;refine decide_eq_decide.2 ?_;have sV:bl (Lib.decDigits r.num.natAbs++dE r)=(Lib.decDigits r.num.natAbs).length:=by
  unfold dE;split
  .rw [List.append_nil];exact G1 _ (oN _)
  .exact po _ _ (oN _)
 rw [c6,za,Ou,sV];have hl:(if decide (r.num<0)then 45::(Lib.decDigits r.num.natAbs++dE r)else Lib.decDigits r.num.natAbs++dE r).length=(Lib.decDigits r.num.natAbs).length+(dE r).length+(if decide (r.num<0)then 1 else 0):=by
  split
  .rw [List.length_cons,dy]
  .rw [dy];rfl
 rw [hl];unfold dE;by_cases h:r.den=1
 .rw [if_pos h];simp [h]
 .rw [if_neg h,List.length_cons];constructor
  .intro e;omega
  .intro e;exact absurd e h
def X7:bD prog (bF M2):=cN (aQ aqW (aQ Og (aQ aqQ (aQ N9 dW))))
def X8 (r:Rat):(r.num/(r.den:Int)).natAbs<=r.num.natAbs+1:=by
 have hd:=r.den_pos;have e:=Int.mul_ediv_add_emod r.num r.den;have a:=ec r.num (show(r.den:Int)≠0 by omega);have b:=eL r.num (show(0:Int)<r.den by omega);by_cases hn:0<=r.num
 .have h3:=Int.ediv_nonneg hn (show(0:Int)<=r.den by omega);have h4:=Int.ediv_le_self (r.den:Int) hn;omega
 .have h3:=Int.ediv_neg_of_neg_of_pos (show r.num<0 by omega) (show(0:Int)<r.den by omega);have h4:=eu (show(1:Int)<=r.den by omega) (show 0<= -(r.num/r.den)-1 by omega);rw [Int.mul_one,Int.sub_mul,Int.neg_mul,Int.mul_comm (r.num/r.den) r.den,Int.one_mul]at h4;omega
attribute [local irreducible] mkR vZ okZ aU jn kp qB ptN ptD okA
def aqY:aqO.Ok prog:=fun⟨s,_⟩ h=>by
 obtain⟨r,k,rfl,hk,hi⟩:=fj.1 h;have hz:=tw hk hi;have G:=uR hk hi;have hw:=aqX r;show Holds prog true 43 [sv (aU r)] (sv (aU ((toQ (aU r)).floor:Rat)));rw [iL hk hi];refine bL (c:=Pg) func43 rfl rfl fun w F=> ?_
 by_cases h1:r.den=1
 .rw [az h1]at hw;have e:((r.floor:Int):Rat)=r:=by
   have e1:=aqA r;rw [Rat.floor_def,h1];rw [h1]at e1;show((r.num/1:Int):Rat)=r;rw [Int.ediv_one];have:(((1:Nat):Int):Rat)=1:=rfl;rw [this]at e1;grind
  rw [e];exact aY X7 9 (aqM (aU r) (by omega) hw)
 .rw [ab h1]at hw;have hd:=r.den_pos;have uS:okZ (mkR r.num)=true:=iq hi.1 (by omega);have y5:okZ (mkR (r.den:Int))=true:=iq (k:=k) (by have:=hi.2;omega) (by omega);have hb:((r.num/(r.den:Int)).natAbs:Int)<1000000000^(k+1):=by
   have h2:=X8 r;have h5:=hi.1;have h6:=dK (b:=1000000000) (by decide) k;rw [Int.pow_succ];omega
  have key:=aqN (aU r) (by omega) hw G.pt;rw [G.n,G.d,dw,dw,dw]at key;have e:cm (r.num/(r.den:Int))=aU ((r.floor:Int):Rat):=by
   rw [Rat.floor_def];unfold aU;rw [if_pos (Rat.den_intCast _),Rat.num_intCast]
  rw [e]at key;exact aY X7 9 (key (by rw [uS,y5,az (show(0:Int)<(r.den:Int) by omega)];rfl) (iq hb (by omega)))
end
end
section
open Go.RowKit Sv Go.Proofs.Tryz
noncomputable section
def X9:=k_a Tryz.f33
def Pk:=k_a Tryz.f95
def Pm:=k_a Tryz.f96
noncomputable def gk (a b:AT):Int:=jR (gA a b)
noncomputable def wR (a b:AT):AT:=if 0<=gk a b then a else b
noncomputable def wS (a b:AT):AT:=if gk a b<=0 then a else b
def Ya:=a7 [Ph,HH]
def H9:=IN 33 [.str, .str] [.int .i64] true (fun d=>isQ d.1&&isQ d.2.1) fun d=>(gk d.1 d.2.1,())
def Ec:=a7 [H9]
section
variable (a b:AT) (h1:(isQ a&&isQ b)=true)
def aqZ (h2:(jR (gA a b))=(gk a b)):
  aV Ya (fl X9 []) 3 9 [sv a,sv b] 1 Tryz.f33 true (iv (gk a b)):=
 wy [aa h1,ax h2] 8193
def aq0 (h2:gk a b>=0):
  aV Ec (fl Pk []) 5 11 [sv a,sv b] 3 Tryz.f95 true (sv a):=
 wy [aa h1,ah h2] 129
def aq1 (h2:¬gk a b>=0):
  aV Ec (fl Pk []) 5 11 [sv a,sv b] 2 Tryz.f95 true (sv b):=
 wy [aa h1,aF h2] 129
def aq2 (h2:gk a b<=0):
  aV Ec (fl Pm []) 5 11 [sv a,sv b] 3 Tryz.f96 true (sv a):=
 wy [aa h1,ah h2] 129
def aq3 (h2:¬gk a b<=0):
  aV Ec (fl Pm []) 5 11 [sv a,sv b] 2 Tryz.f96 true (sv b):=
 wy [aa h1,aF h2] 129
end
def Yb:=IN 95 [.str, .str] [.str] true (fun d=>isQ d.1&&isQ d.2.1) fun d=>(wR d.1 d.2.1,())
def Yc:=IN 96 [.str, .str] [.str] true (fun d=>isQ d.1&&isQ d.2.1) fun d=>(wS d.1 d.2.1,())
def aq4:bD prog (bF Ya):=cN (aQ X6 (aQ OB dW))
def Pn:H9.Ok prog:=fun⟨a,b,_⟩ h=>by
 have h:(isQ a&&isQ b)=true:=h;show Holds prog true 33 [sv a,sv b] (iv (gk a b));refine bL (c:=X9) func33 rfl rfl fun w F=> ?_
 exact aY aq4 3 (aqZ a b h rfl)
def Ia:bD prog (bF Ec):=cN fun c hc=>by
 rw [List.mem_singleton.1 hc];exact Pn
def aq5:Yb.Ok prog:=fun⟨a,b,_⟩ h=>by
 have h:(isQ a&&isQ b)=true:=h;show Holds prog true 95 [sv a,sv b] (sv (wR a b));refine bL (c:=Pk) func95 rfl rfl fun w F=> ?_
 unfold wR;by_cases hc:gk a b>=0
 .rw [if_pos hc];exact aY Ia 5 (aq0 a b h hc)
 .rw [if_neg hc];exact aY Ia 5 (aq1 a b h hc)
def aq6:Yc.Ok prog:=fun⟨a,b,_⟩ h=>by
 have h:(isQ a&&isQ b)=true:=h;show Holds prog true 96 [sv a,sv b] (sv (wS a b));refine bL (c:=Pm) func96 rfl rfl fun w F=> ?_
 unfold wS;by_cases hc:gk a b<=0
 .rw [if_pos hc];exact aY Ia 5 (aq2 a b h hc)
 .rw [if_neg hc];exact aY Ia 5 (aq3 a b h hc)
def Ed {k m:Nat} {r s:Rat} (hk:k<=10000) (hm:m<=10000) (h:fR k r) (g:fR m s):gk (aU r) (aU s)=if r-s<0 then-1 else if r-s=0 then 0 else 1:=by
 unfold gk gA;rw [iL hk h,iL hm g];exact X3 _
end
set_option maxHeartbeats 4000000
noncomputable section
def zb:=k_a Tryz.f39
noncomputable def lh (a b:AT):AT:=aU (toQ a*toQ b)
noncomputable def uY (a b:AT):AT:=aU (toQ a/toQ b)
noncomputable def fy (n:Int):AT:=aU (n:Rat)
noncomputable def iu (a:AT):AT:=By a
noncomputable def gJ (a:AT):AT:=s4 a
def aq7:=IN 15 [.str, .str] [.str] true (fun d=>isQ d.1&&isQ d.2.1) fun d=>(lh d.1 d.2.1,())
def aq8:=IN 17 [.str, .str] [.str] true (fun d=>isQ d.1&&(isQ d.2.1&& !(ptN d.2.1==0))) fun d=>(uY d.1 d.2.1,())
def aq9:=IN 16 [.int .i64] [.str] true (fun d=>decide (-9223372036854775808<=d.1)&&decide (d.1<=9223372036854775807)) fun d=>(fy d.1,())
def ara:=IN 43 [.str] [.str] true (fun d=>isQ d.1) fun d=>(iu d.1,())
def arb:=IN 86 [.str] [.str] true (fun d=>isQ d.1) fun d=>(gJ d.1,())
def Ee:=a7 [ara,arb,aq7,aq8,aq9,Yb,Yc]
abbrev Ib (lo hi:AT):fS:= .blk (.cells 54 [sv lo,sv hi] true false false)
abbrev Po:List Nat:=[1,1,1,0,1,0,0]
abbrev zc:Sv.Ren:=[(64,64,none),(65,65,none)]
section
variable (a:AT)
def s5 (n:Int) (lo hi:AT) (d:Int):bI:={n:=51,sl:=[(0,sv a),(1,iv n),(4, .ptr 64 0),(6, .ptr 65 0),(7,iv d)],bH:=[(64,Ib (ByteArray.mk #[]) (ByteArray.mk #[])),(65,Ib lo hi)],next:=66}
noncomputable def Ef (d:Int):AT:=uY (iu (lh a (fy d))) (fy d)
noncomputable def Eg (d:Int):AT:=uY (gJ (iu (gJ (lh a (fy d))))) (fy d)
def arc (n:Int) (h1:(isQ a)=true) (h2:(isQ (gJ a))=true) (h3:(isQ (iu (gJ a)))=true):
  c7 Ee (fl zb []) 4 51 [sv a,iv n] 1 .normal zc (s5 a n (iu a) (gJ (iu (gJ a))) 1):=
 wy [aa h1,aa h2,aa h3] 794689
def ard (n:Int) (lo hi:AT) (d:Int) (h1:d<=n) (h2:(decide ((-9223372036854775808:av.den (.int .i64))<=d)&&decide (d<=(9223372036854775807:av.den (.int .i64))))=true) (h3:(isQ a&&isQ (fy d))=true) (h4:(isQ (lh a (fy d)))=true) (h5:(isQ (gJ (lh a (fy d))))=true) (h6:(isQ (iu (gJ (lh a (fy d)))))=true) (h7:(isQ (iu (lh a (fy d)))&&(isQ (fy d)&& !ptN (fy d)==0))=true) (h8:(isQ lo&&isQ (uY (iu (lh a (fy d))) (fy d)))=true) (h9:(isQ (gJ (iu (gJ (lh a (fy d)))))&&(isQ (fy d)&& !ptN (fy d)==0))=true) (h10:(isQ hi&&isQ (uY (gJ (iu (gJ (lh a (fy d))))) (fy d)))=true) (h11:i6 (d+1)) (h12:(wR lo (uY (iu (lh a (fy d))) (fy d)))=(wR lo (Ef a d))) (dZ:(wS hi (uY (gJ (iu (gJ (lh a (fy d))))) (fy d)))=(wS hi (Eg a d))):
  bz Ee (fl zb Po) (s5 a n lo hi d) 3 .normal zc (s5 a n (wR lo (Ef a d)) (wS hi (Eg a d)) (d+1)):=
 wy [ah h1,aa h2,aa h3,aa h4,aa h5,aa h6,aa (aD (v:=af.raw (Value.string lo))),aa h7,aa h8,aa (aD (v:=af.raw (Value.string hi))),aa h9,aa h10,yi h11,ax h12,ax dZ] 21720925823368827984873983327526915151248765057
def arf (n:Int) (lo hi:AT) (d:Int) (h1:¬d<=n):
  bz Ee (fl zb Po) (s5 a n lo hi d) 2 (.exit 0) zc (s5 a n lo hi d):=
 wy [aF h1] 1
def arh (n:Int) (lo hi:AT) (d:Int):
  bS Ee ((fl zb []).drop 5) (s5 a n lo hi d) 1 Tryz.f39 true (.agg [sv lo,sv hi]):=
 wy [] 0
end
end
end
structure kn (N D M p q r s:Int):Prop where
 Ic:r*q-p*s=1
 q1:1<=q
 s1:1<=s
 s6:q<=M
 s7:s<=M
 lo:0<N*q-p*D
 hi:0<r*D-N*s
 pZ:N/D*q<=p
 br:r<=(N/D+1)*s
def QP {D N:Int} (hD:1<D) (hg:Int.gcd N D=1):¬D∣N:=fun h=>by
 have h1:D∣((Int.gcd N D:Nat):Int):=Int.dvd_coe_gcd h (Int.dvd_refl D);rw [hg]at h1;have:=Int.le_of_dvd (by decide) h1;omega
def Yd {D N q:Int} (hg:Int.gcd N D=1) (h:D∣N*q):D∣q:=
 Int.natAbs_dvd_natAbs.1 (Nat.Coprime.dvd_of_dvd_mul_left (show Nat.gcd D.natAbs N.natAbs=1 by rw [Nat.gcd_comm];exact hg) (by rw [<-Int.natAbs_mul];exact Int.natAbs_dvd_natAbs.2 h))
def ari {N D M:Int} (eY:1<=M) (hD:M<D) (hg:Int.gcd N D=1):kn N D M (N/D) 1 (N/D+1) 1:=by
 have h1:=Int.mul_ediv_add_emod N D;have h2:=ec N (show D≠0 by omega);have h3:=eL N (show 0<D by omega);have h4:N%D≠0:=fun e=>QP (by omega) hg (Int.dvd_of_emod_eq_zero e)
 have e1:N/D*D=D*(N/D):=Int.mul_comm ..;have e2:(N/D+1)*D=D*(N/D)+D:=by rw [Int.add_mul,e1,Int.one_mul]
 refine⟨?_,by omega,by omega,eY,eY, ?_, ?_, ?_, ?_⟩
 .rw [Int.mul_one,Int.mul_one];omega
 .rw [Int.mul_one,e1];omega
 .rw [Int.mul_one,e2];omega
 .rw [Int.mul_one];exact Int.le_refl _
 .rw [Int.mul_one];exact Int.le_refl _
def Pp {N D M p q r s:Int} (h:kn N D M p q r s) (hD:1<=D):N/D*s<r/\p<(N/D+1)*q:=by
 have h1:=Int.mul_ediv_add_emod N D;have h2:=ec N (show D≠0 by omega);have h3:=eL N (show 0<D by omega);have hq:=h.q1;have hs:=h.s1;have lo:=h.lo;have hi:=h.hi;constructor
 .refine Int.lt_of_mul_lt_mul_right (a:=D) ?_ (by omega);have e:N/D*s*D=(D*(N/D))*s:=by grind
  have h4:(D*(N/D))*s<=N*s:=ar (by omega) (by omega);rw [e];omega
 .refine Int.lt_of_mul_lt_mul_right (a:=D) ?_ (by omega);have e:(N/D+1)*q*D=(D*(N/D)+D)*q:=by grind
  have h4:N*q<=(D*(N/D)+D)*q:=ar (by omega) (by omega);rw [e];omega
section
variable {N D M p q r s k:Int} (h:kn N D M p q r s)
def arj (eY:1<=M) (hD:M<D) (hg:Int.gcd N D=1) (k0:0<=k) (k1:k*(r*D-N*s)<=N*q-p*D) (k2:k*s<=M-q):kn N D M (p+k*r) (q+k*s) r s:=by
 obtain⟨f1,f2⟩:=Pp h (by omega);have hq:=h.q1;have hs:=h.s1;have ks:0<=k*s:=Int.mul_nonneg k0 (by omega);have e1:N*(q+k*s)-(p+k*r)*D=(N*q-p*D)-k*(r*D-N*s):=by grind
 have e2:N/D*(q+k*s)=N/D*q+k*(N/D*s):=by grind
 have e3:k*(N/D*s)<=k*r:=eu (by omega) k0;have pZ:=h.pZ;refine⟨?_,by omega,hs,by omega,h.s7, ?_,h.hi,by omega,h.br⟩
 .have:=h.Ic;have e:r*(q+k*s)-(p+k*r)*s=r*q-p*s:=by grind
  omega
 .rcases Int.lt_or_le 0 (N*(q+k*s)-(p+k*r)*D)with g|g
  .exact g
  .exfalso;have hz:N*(q+k*s)=(p+k*r)*D:=by omega
   have hd:D∣q+k*s:=Yd hg ⟨p+k*r,by rw [hz,Int.mul_comm]⟩;have:=Int.le_of_dvd (by omega) hd;omega
def QQ (eY:1<=M) (hD:M<D) (hg:Int.gcd N D=1) (k0:0<=k) (k1:k*(N*q-p*D)<=r*D-N*s) (k2:k*q<=M-s):kn N D M p q (r+k*p) (s+k*q):=by
 obtain⟨f1,f2⟩:=Pp h (by omega);have hq:=h.q1;have hs:=h.s1;have ks:0<=k*q:=Int.mul_nonneg k0 (by omega);have e1:(r+k*p)*D-N*(s+k*q)=(r*D-N*s)-k*(N*q-p*D):=by grind
 have e2:(N/D+1)*(s+k*q)=(N/D+1)*s+k*((N/D+1)*q):=by grind
 have e3:k*p<=k*((N/D+1)*q):=eu (by omega) k0;have br:=h.br;refine⟨?_,hq,by omega,h.s6,by omega,h.lo, ?_,h.pZ,by omega⟩
 .have:=h.Ic;have e:(r+k*p)*q-p*(s+k*q)=r*q-p*s:=by grind
  omega
 .rcases Int.lt_or_le 0 ((r+k*p)*D-N*(s+k*q))with g|g
  .exact g
  .exfalso;have hz:N*(s+k*q)=(r+k*p)*D:=by omega
   have hd:D∣s+k*q:=Yd hg ⟨r+k*p,by rw [hz,Int.mul_comm]⟩;have:=Int.le_of_dvd (by omega) hd;omega
end
def kN (a b c d:Int):Int:=if c/d<a/b then c/d else a/b
def tz {a b c d:Int} (ha:0<=a) (hb:0<b) (hc:0<=c) (hd:0<d):0<=kN a b c d/\kN a b c d*b<=a/\kN a b c d*d<=c:=by
 have a1:=Int.ediv_mul_le a (show b≠0 by omega);have c1:=Int.ediv_mul_le c (show d≠0 by omega);have a0:0<=a/b:=Int.ediv_nonneg ha (by omega);have c0:0<=c/d:=Int.ediv_nonneg hc (by omega);unfold kN;split
 .exact⟨c0,Int.le_trans (ar (by omega) (by omega)) a1,c1⟩
 .exact⟨a0,a1,Int.le_trans (ar (by omega) (by omega)) c1⟩
def Ye {a b c d:Int} (hb:0<b) (hd:0<d) (h1:b<=a) (h2:d<=c):1<=kN a b c d:=by
 have a0:1<=a/b:=(Int.le_ediv_iff_mul_le hb).2 (by omega);have c0:1<=c/d:=(Int.le_ediv_iff_mul_le hd).2 (by omega);unfold kN;split<;>omega
structure rj where
 (p q r s:Int)
section
variable (N D M:Int) (x:rj)
def gB:rj:=⟨x.p+kN (N*x.q-x.p*D) (x.r*D-N*x.s) (M-x.q) x.s*x.r,x.q+kN (N*x.q-x.p*D) (x.r*D-N*x.s) (M-x.q) x.s*x.s,x.r,x.s⟩
def wT:rj:=⟨x.p,x.q,x.r+kN (x.r*D-N*x.s) (N*x.q-x.p*D) (M-x.s) x.q*x.p,x.s+kN (x.r*D-N*x.s) (N*x.q-x.p*D) (M-x.s) x.q*x.q⟩
abbrev Eh:Prop:=kn N D M x.p x.q x.r x.s
end
section
variable {N D M:Int} {x:rj} (h:Eh N D M x) (eY:1<=M) (hD:M<D) (hg:Int.gcd N D=1)
def Yf:Eh N D M (gB N D M x):=by
 have:=h.s6;obtain⟨k0,k1,k2⟩:=tz (a:=N*x.q-x.p*D) (b:=x.r*D-N*x.s) (c:=M-x.q) (d:=x.s) (ct h.lo) h.hi (by omega) h.s1;exact arj h eY hD hg k0 k1 k2
def ark:Eh N D M (wT N D M x):=by
 have:=h.s7;obtain⟨k0,k1,k2⟩:=tz (a:=x.r*D-N*x.s) (b:=N*x.q-x.p*D) (c:=M-x.s) (d:=x.q) (ct h.hi) h.lo (by omega) h.q1;exact QQ h eY hD hg k0 k1 k2
def Yg (hle:x.q+x.s<=M):x.q+x.s<(wT N D M (gB N D M x)).q+(wT N D M (gB N D M x)).s:=by
 have hA:=Yf h eY hD hg;have s6:=h.s6;have hs:=h.s1;have hq:=h.q1;have lo:=h.lo;have hi:=h.hi;obtain⟨k0,k1,k2⟩:=tz (a:=N*x.q-x.p*D) (b:=x.r*D-N*x.s) (c:=M-x.q) (d:=x.s) (by omega) hi (by omega) (by omega);have avj:=hA.s7;have arl:=hA.q1;obtain⟨m0,m1,m2⟩:=tz (a:=x.r*D-N*x.s) (b:=N*(gB N D M x).q-(gB N D M x).p*D) (c:=M-x.s) (d:=(gB N D M x).q) (by omega) hA.lo (by have:=h.s7;omega) arl;have e1:(wT N D M (gB N D M x)).q=(gB N D M x).q:=rfl;have e2:(wT N D M (gB N D M x)).s=x.s+kN (x.r*D-N*x.s) (N*(gB N D M x).q-(gB N D M x).p*D) (M-x.s) (gB N D M x).q*(gB N D M x).q:=rfl;have e3:(gB N D M x).q=x.q+kN (N*x.q-x.p*D) (x.r*D-N*x.s) (M-x.q) x.s*x.s:=rfl;have bW:(gB N D M x).p=x.p+kN (N*x.q-x.p*D) (x.r*D-N*x.s) (M-x.q) x.s*x.r:=rfl;rw [e1,e2];by_cases hc:x.r*D-N*x.s<=N*x.q-x.p*D
 .have hk:=Ye (a:=N*x.q-x.p*D) (b:=x.r*D-N*x.s) (c:=M-x.q) (d:=x.s) hi (by omega) hc (by omega);have h5:1*1<=kN (N*x.q-x.p*D) (x.r*D-N*x.s) (M-x.q) x.s*x.s:=Int.mul_le_mul hk (by omega) (by decide) (by omega);have h6:=Int.mul_nonneg m0 (show 0<=(gB N D M x).q by omega);omega
 .have z:kN (N*x.q-x.p*D) (x.r*D-N*x.s) (M-x.q) x.s=0:=by
   have a0:(N*x.q-x.p*D)/(x.r*D-N*x.s)=0:=Int.ediv_eq_zero_of_lt (by omega) (by omega);have c0:0<=(M-x.q)/x.s:=Int.ediv_nonneg (by omega) (by omega);unfold kN;rw [a0,if_neg (by omega)]
  have q0:(gB N D M x).q=x.q:=by rw [e3,z];omega
  have gq:(gB N D M x).p=x.p:=by rw [bW,z];omega
  have hk:=Ye (a:=x.r*D-N*x.s) (b:=N*(gB N D M x).q-(gB N D M x).p*D) (c:=M-x.s) (d:=(gB N D M x).q) hA.lo (by omega) (by rw [q0,gq];omega) (by omega);have h5:1*1<=kN (x.r*D-N*x.s) (N*(gB N D M x).q-(gB N D M x).p*D) (M-x.s) (gB N D M x).q*(gB N D M x).q:=Int.mul_le_mul hk (by omega) (by decide) (by omega);omega
end
def Yh {N D M p q r s n d:Int} (h:kn N D M p q r s) (Br:M<q+s) (hd:1<=d) (avk:d<=M):n*q<=p*d\/r*d<=n*s:=by
 rcases Int.lt_or_le (p*d) (n*q)with g|g
 .rcases Int.lt_or_le (n*s) (r*d)with g2|g2
  .exfalso;have e:s*(n*q-p*d)+q*(r*d-n*s)=d*(r*q-p*s):=by grind
   rw [h.Ic,Int.mul_one]at e;have hq:=h.q1;have hs:=h.s1;have a1:s*1<=s*(n*q-p*d):=eu (by omega) (by omega);have a2:q*1<=q*(r*d-n*s):=eu (by omega) (by omega);omega
  .exact Or.inr g2
 .exact Or.inl g
end Go.Proofs.YtibikmmdbdlafaaGreatDoor
