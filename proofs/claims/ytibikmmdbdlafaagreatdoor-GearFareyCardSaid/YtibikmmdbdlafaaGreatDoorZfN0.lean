import Derived.Test.YtibikmmdbdlafaaGreatDoorZfA18
set_option linter.defProp false
set_option linter.unusedSimpArgs false
set_option linter.unusedVariables false
set_option maxRecDepth 100000
namespace Go.Proofs.YtibikmmdbdlafaaGreatDoor
open Go.RowKit Sv Go.Proofs.Tryz
noncomputable section
def zf (neg:Bool) (u:AT) (k:Nat):Int:=
 if cy (u.extract 0 k)=false then 1
 else if neg=true/\aq (u.extract 0 k)=[48]then 1
 else if k<u.size/\(cy (u.extract (k+1) u.size)=false\/aq (u.extract (k+1) u.size)=[48]\/aq (u.extract (k+1) u.size)=[49])then 1
 else if 600<k\/601+k<u.size then 4
 else if k<u.size/\Int.gcd (bl (aq (u.extract 0 k))) (bl (aq (u.extract (k+1) u.size)))≠1 then 1
 else 0
def ckR (s:AT):Int:=zf (b7 s) (bP s) (bk (aq (bP s)))
def HV:=IN 20 [.str] [.int .i64] true (fun d=>decide (d.1.size<=1000000000)) fun d=>(ckR d.1,())
--{
def Xx:bD prog (bF jN):=cM (aP Dy (aP aok (aP Oq (aP US dV))))
def O4 {t:AT} (h:b6 (aq t)=true):b7 t=false/\bP t=t:=by
 have e:b7 t=false:=by
  unfold b7;by_cases h0:0<t.size
  .have hm:cj t 0∈aq t:=by rw [yP (by rw [<-cK];exact h0)];exact List.getElem_mem _
   have:=List.all_eq_true.1 h _ hm;rw [ae,bA,bA]at this;rw [ab (show¬(cj t 0).toNat=45 by omega),Bool.and_false]
  .rw [ab h0];rfl
 refine⟨e, ?_⟩;unfold bP;rw [e]
def Xy {t:AT} (h:b6 (aq t)=true):k7 t=bl (aq t):=by
 obtain⟨h1,h2⟩:=O4 h;unfold k7;rw [h1,h2];rfl
def tl:∀n:Nat,(10:Int)^n<=1000000000^n
 |0=>by simp
 |n+1=>by
  rw [Int.pow_succ,Int.pow_succ];have h1:=tl n;have h2:=dD (b:=10) δ n;omega
def Xz {z:Int} (h:0<=z):ag (mkR z).2=z:=by
 show ag (aG (z.natAbs:Int))=z;rw [(gx (Int.natCast_nonneg _)).2.2];omega
def XA {t:AT} (h:b6 (aq t)=true) (hl:t.size<=100000):okA (mkR (bl (aq t))).2=true:=by
 have h1:=uL h;have h2:=tl t.size;show okA (aG ((bl (aq t)).natAbs:Int))=true;exact Dx (k:=t.size) (Int.natCast_nonneg _) ω hl
def wT {t:AT} (h:cy t=true):b6 (aq t)=true/\0<t.size:=by
 unfold cy at h;rw [ae,ae,bA]at h;exact⟨h.2.2,h.1⟩
abbrev O5 (e:Int):Exit->au af->ai->Prop:=gZ prog true f20 (iv e)
def O6 (s u:AT) (neg:Bool) (hl:u.size<=1000000000) (hs:0<u.size->0<s.size) (hn:neg=true↔(0<s.size/\(cj s 0).toNat=45)) (w:World) (F:Sv.Env):
  aW prog w F 96 ((fl iE []).drop 5) (de s u (bk (aq u))).T (de s u (bk (aq u))).H (O5 (zf neg u (bk (aq u)))):=by
 have hS:=Xx;have hle:bk (aq u)<=u.size:=by rw [cK];exact A9 _
 obtain⟨k,hk⟩:∃k,bk (aq u)=k:=⟨_,rfl⟩;rw [hk]at hle ⊢;have uM:(k:Int).toNat=k:=by omega
 have HG:((k:Int)+1).toNat=k+1:=by omega
 have hz:=k6 u 0 k hle;have nt:=k6 u (k+1) u.size (aJ _);have au1:((ByteArray.mk (#[(48:UInt8)])).data).toList=[48]:=rfl;have au2:((ByteArray.mk (#[(49:UInt8)])).data).toList=[49]:=rfl;unfold zf;cases ha:cy (u.extract 0 k)with
 |false=>
  rw [if_pos rfl];have key:=apf s u (k:Int) ω;rw [uM]at key;exact b5 (s:=de s u k) hS (key hle ω ha)
 |true=>
  rw [if_neg δ];obtain⟨da,pa⟩:=wT ha;have hs0:0<s.size:=hs ω
  -- behind the second part
  have rest:(¬(k<u.size/\(cy (u.extract (k+1) u.size)=false\/aq (u.extract (k+1) u.size)=[48]\/aq (u.extract (k+1) u.size)=[49])))->aW prog w F 96 ((fl iE []).drop 9) (de s u k).T (de s u k).H (O5 (if 600<k\/601+k<u.size then 4 else if k<u.size/\Int.gcd (bl (aq (u.extract 0 k))) (bl (aq (u.extract (k+1) u.size)))≠1 then 1 else 0)):=fun hno=>by
   by_cases h6:600<k
   .rw [if_pos (.inl h6)];exact b5 (s:=de s u k) hS (UV s u (k:Int) ω)
   .by_cases h7:601+k<u.size
    .rw [if_pos (.inr h7)];exact b5 (s:=de s u k) hS (apn s u (k:Int) ω ω ω ω)
    .rw [if_neg ω];refine cX (s:=de s u k) hS 2 (apo s u (k:Int) ω ω ω ω) ?_;by_cases hlt:k<u.size
     .have db:b6 (aq (u.extract (k+1) u.size))=true:=by
       cases hb:cy (u.extract (k+1) u.size)with
       |false=>exact absurd ⟨hlt, .inl hb⟩ hno
       |true=>exact(wT hb).1
      have hpt:jg u=true:=by
       unfold jg;rw [hk,(O4 da).2,(O4 db).2,da,db,ay ω];rfl
      have e1:ptN u=bl (aq (u.extract 0 k)):=by unfold ptN;rw [hk];exact Xy da
      have e2:ptD u=bl (aq (u.extract (k+1) u.size)):=by unfold ptD;rw [hk,if_pos hlt];exact Xy db
      have o1:=XA da ω;have o2:=XA db ω;have b1:=uL da;have b2:=uL db;have k1:=apr s u (k:Int) ω hpt;have k2:=aps s u (k:Int) ω hpt;have dG:=apt s u (k:Int) ω hpt;rw [e1,e2,Xz b1.1,Xz b2.1]at k1 k2 dG;generalize bl (aq (u.extract 0 k))=A at*;generalize bl (aq (u.extract (k+1) u.size))=B at*;have kq:=bN o1 o2;by_cases hg:Int.gcd A B=1
      .rw [if_neg (fun h=>h.2 hg)];have e3:aG ((Int.gcd A B:Nat):Int)=[1]:=by
        rw [hg];have h11:e9 [(1:Int)]:=fun k hk=>by
         obtain rfl:k=0:=by simpa using hk.symm
         show(1:Int)≠0;decide
        have:=F1 (l:=[(1:Int)]) (.cons (show(0:Int)<=1/\(1:Int)<1000000000 by decide) .nil) h11;rw [show ag [(1:Int)]=1 from r0 _ _]at this;exact this
       rw [e3]at dG;exact b5 (s:=de s u k) hS (dG kq rfl δ rfl)
      .rw [if_pos ⟨hlt,hg⟩];by_cases vu:((aG ((Int.gcd A B:Nat):Int)).length:Int)=1
       .refine b5 (s:=de s u k) hS (k2 kq vu (by show 0<_;omega) fun h=> ?_);obtain⟨c,hc⟩:∃c,aG ((Int.gcd A B:Nat):Int)=[c]:=List.length_eq_one_iff.1 ω;have h:(aG ((Int.gcd A B:Nat):Int)).getD 0 0=1:=h;rw [hc]at h;have h:c=1:=h;have hv:=(gx (Int.natCast_nonneg (Int.gcd A B))).2.2;rw [hc,h,show ag [(1:Int)]=1 from r0 _ _]at hv;omega
       .exact b5 (s:=de s u k) hS (k1 kq vu)
     .rw [if_neg (fun h=>hlt h.1)];exact b5 (s:=de s u k) hS (apq s u (k:Int) ω)
  -- the second part
  have second:aW prog w F 96 ((fl iE []).drop 7) (de s u k).T (de s u k).H (O5 (if k<u.size/\(cy (u.extract (k+1) u.size)=false\/aq (u.extract (k+1) u.size)=[48]\/aq (u.extract (k+1) u.size)=[49])then 1 else if 600<k\/601+k<u.size then 4 else if k<u.size/\Int.gcd (bl (aq (u.extract 0 k))) (bl (aq (u.extract (k+1) u.size)))≠1 then 1 else 0)):=by
   by_cases hlt:k<u.size
   .have XB:=apj s u (k:Int) ω ω ω;have kP:=apk s u (k:Int) ω ω ω;have D9:=apl s u (k:Int) ω ω ω;have Ea:=apm s u (k:Int) ω ω ω;rw [HG]at XB kP D9 Ea;cases hb:cy (u.extract (k+1) u.size)with
    |false=>
     rw [if_pos ⟨hlt, .inl rfl⟩];exact b5 (s:=de s u k) hS (XB ω ω hb)
    |true=>
     by_cases h8:aq (u.extract (k+1) u.size)=[48]
     .rw [if_pos ⟨hlt, .inr (.inl h8)⟩];exact b5 (s:=de s u k) hS (kP ω ω hb h8)
     .by_cases h9:aq (u.extract (k+1) u.size)=[49]
      .rw [if_pos ⟨hlt, .inr (.inr h9)⟩];exact b5 (s:=de s u k) hS (D9 ω ω hb h8 h9)
      .have hno:¬(k<u.size/\(cy (u.extract (k+1) u.size)=false\/aq (u.extract (k+1) u.size)=[48]\/aq (u.extract (k+1) u.size)=[49])):=fun h=>by
        rcases h.2 with h|h|h
        .rw [hb]at h;cases h
        .exact h8 h
        .exact h9 h
       have EZ:=hno;rw [hb]at EZ;rw [if_neg EZ];refine cX (s:=de s u k) hS 2 (Ea ω ω hb h8 h9) ?_;exact rest hno
   .have hno:¬(k<u.size/\(cy (u.extract (k+1) u.size)=false\/aq (u.extract (k+1) u.size)=[48]\/aq (u.extract (k+1) u.size)=[49])):=fun h=>hlt h.1
    rw [if_neg hno];refine cX (s:=de s u k) hS 2 (api s u (k:Int) ω) ?_;exact rest hno
  have kP:=apg s u (k:Int) ω;have D9:=aph s u (k:Int) ω;have Ea:=UP s u (k:Int) ω;rw [uM]at kP D9 Ea;by_cases k8:(cj s 0).toNat=45
  .have hneg:neg=true:=hn.2 ⟨hs0,k8⟩;have HW:((cj s 0).toNat:Int)=45:=by omega
   by_cases h0:aq (u.extract 0 k)=[48]
   .rw [if_pos ⟨hneg,h0⟩];exact b5 (s:=de s u k) hS (kP hle ω ha hs0 HW h0)
   .rw [if_neg (fun h=>h0 h.2)];refine cX (s:=de s u k) hS 2 (D9 hle ω ha hs0 HW h0) ?_;exact second
  .have HW:¬((cj s 0).toNat:Int)=45:=by omega
   rw [if_neg (fun h=>k8 (hn.1 h.1).2)];refine cX (s:=de s u k) hS 2 (Ea hle ω ha hs0 HW) ?_;exact second
def apu (s:AT) (hl:s.size<=1000000000):Holds prog true 20 [sv s] (iv (ckR s)):=by
 have hS:=Xx;refine bL (c:=iE) func20 rfl rfl fun w F=> ?_
 unfold ckR;by_cases h0:0<s.size
 .by_cases k8:(cj s 0).toNat=45
  .have e1:b7 s=true:=by unfold b7;rw [ay h0,ay k8];rfl
   have e2:bP s=s.extract 1 s.size:=by unfold bP;rw [e1]
   have hz:=k6 s 1 s.size (aJ _);rw [e1,e2];refine cP hS 5 (apd s ω (by show 0<s.size;exact h0) (by show((cj s 0).toNat:Int)=45;omega) (by show 1<=s.size;omega) (by show(s.extract 1 s.size).size<=_;omega) rfl rfl) ?_;exact O6 s _ true ω (fun _=>h0) ⟨fun _=>⟨h0,k8⟩,fun _=>rfl⟩ w F
  .have e1:b7 s=false:=by unfold b7;rw [ay h0,ab k8];rfl
   have e2:bP s=s:=by unfold bP;rw [e1]
   rw [e1,e2];refine cP hS 5 (apc s ω (by show 0<s.size;exact h0) (by show¬((cj s 0).toNat:Int)=45;omega) hl) ?_;exact O6 s s false hl id ⟨fun h=>(by cases h),fun h=>absurd h.2 k8⟩ w F
 .have e1:b7 s=false:=by unfold b7;rw [ab h0];rfl
  have e2:bP s=s:=by unfold bP;rw [e1]
  rw [e1,e2];refine cP hS 5 (ape s ω hl) ?_;exact O6 s s false hl id ⟨fun h=>(by cases h),fun h=>absurd h.1 h0⟩ w F
attribute [local irreducible] ckR
def O7:HV.Ok prog:=fun⟨s,_⟩ h=>by
 have h:decide (s.size<=1000000000)=true:=h;exact apu s (ap h)
--}
end
def HX {u:Nat} (h:u<1000000000000000000):(Lib.decDigits u).length<=19:=by
 have:=vy (u:=u) (k:=2) (by show(u:Int)<1000000000000000000;omega);omega
def so (r:Rat):aq (aU r)=Lib.itoa r.num++if r.den=1 then []else 47::Lib.decDigits r.den:=by
 unfold aU;by_cases h1:r.den=1
 .rw [if_pos h1,if_pos h1,List.append_nil];exact jk _
 .rw [if_neg h1,if_neg h1,<-Dec.oH]
def apv {n:Int} (h:n.natAbs<1000000000000000000):(Lib.itoa n).length<=20:=by
 have:=HX h;rw [pY];split
 .simp;omega
 .omega
def apw {r:Rat} (h:gy r):(aU r).size<=60:=by
 rw [cK,so,cW];have h1:=apv h.1;have h2:=HX h.2;split
 .simp;omega
 .simp;omega
def apx:∀(u:Nat),0<u->((Lib.decDigits u).getD 0 0).toNat≠48:=fun u=>by
 induction u using Nat.strongRecOn with
 |_ u ih=>
  intro hu;by_cases h:u<10
  .rw [mN h];show(UInt8.ofNat (48+u)).toNat≠48;rw [Dec.yX u h];omega
  .rw [sU h];have:=ih (u/10) ω ω;have hl:=Dec.HA (u/10);rw [ao,List.getElem?_append_left ω,<-ao];exact this
def XC {u:AT} {n:Nat} (h:aq u=Lib.decDigits n):cy u=true:=by
 have hp:=Dec.HA n;have hz:u.size=(Lib.decDigits n).length:=by rw [cK,h]
 unfold cy;rw [h,ld,ay ω,Bool.and_true,Bool.true_and,Bool.or_eq_true];rcases Nat.eq_zero_or_pos n with h0|h0
 .left;refine ay ?_;rw [hz,h0,mN δ];decide
 .right;rw [Bool.not_eq_true',decide_eq_false_iff_not];show¬((aq u).getD 0 0).toNat=48;rw [h];exact apx n h0
def HY {r:Rat} (h:gy r):ckR (aU r)=0:=by
 have hdp:0<r.den:=r.den_pos;obtain⟨T,hT⟩:∃T:List UInt8,T=if r.den=1 then []else 47::Lib.decDigits r.den:=⟨_,rfl⟩
 have dY:=HL (R:=T) (HK r.num.natAbs) (ld r.num.natAbs);have hb:aq (aU r)=if decide (r.num<0)then 45::(Lib.decDigits r.num.natAbs++T)else Lib.decDigits r.num.natAbs++T:=by
  rw [so,<-hT,pY];by_cases hn:r.num<0
  .rw [ay hn];rfl
  .rw [ab hn];rfl
 obtain⟨p1,p2,p3⟩:=OA dY hb;have anT:=HX h.1;have GP:=HX h.2;have pW:bk (Lib.decDigits r.num.natAbs++T)=(Lib.decDigits r.num.natAbs).length:=by
  rw [hT];split
  .rw [List.append_nil];exact Dz _ (ld _)
  .exact DA _ _ (ld _)
 have hu:(bP (aU r)).size=(Lib.decDigits r.num.natAbs).length+T.length:=by rw [cK,p2,cW]
 have x1:aq ((bP (aU r)).extract 0 (Lib.decDigits r.num.natAbs).length)=Lib.decDigits r.num.natAbs:=by rw [jF,p2,List.drop_zero,List.take_left'];rfl
 have x2:aq ((bP (aU r)).extract ((Lib.decDigits r.num.natAbs).length+1) (bP (aU r)).size)=T.drop 1:=by
  rw [jF,p2,hu,<-cW,dI,<-List.drop_drop,List.drop_left'];rfl
 unfold ckR;rw [p2,pW,p1];unfold zf;rw [x1,x2,uO];rw [if_neg (by rw [XC x1];decide)];rw [if_neg (fun hc=>by
  have h1:=ap hc.1;have h2:=congrArg bl hc.2;rw [uO]at h2;have h3:bl [48]=0:=by decide
  omega)]
 by_cases hd:r.den=1
 .have e:T=[]:=by rw [hT,if_pos hd]
  have hlt:¬(Lib.decDigits r.num.natAbs).length<(bP (aU r)).size:=by rw [hu,e];simp
  rw [if_neg (fun hc=>hlt hc.1),if_neg (by rw [hu,e];simp;omega),if_neg (fun hc=>hlt hc.1)]
 .have e:T=47::Lib.decDigits r.den:=by rw [hT,if_neg hd]
  have x3:aq ((bP (aU r)).extract ((Lib.decDigits r.num.natAbs).length+1) (bP (aU r)).size)=Lib.decDigits r.den:=by rw [x2,e];rfl
  rw [if_neg (fun hc=>by
   rcases hc.2 with h1|h1|h1
   .rw [XC x3]at h1;cases h1
   .have h2:=congrArg bl h1;rw [e]at h2;have h2:bl (Lib.decDigits r.den)=bl [48]:=h2;rw [uO]at h2;have h3:bl [48]=0:=by decide
    omega
   .have h2:=congrArg bl h1;rw [e]at h2;have h2:bl (Lib.decDigits r.den)=bl [49]:=h2;rw [uO]at h2;have h3:bl [49]=1:=by decide
    omega)]
  rw [if_neg (by rw [hu,e];simp;omega)];rw [if_neg (fun hc=>hc.2 (by
   rw [e];show Int.gcd _ (bl (Lib.decDigits r.den))=1;rw [uO];have hg:Int.gcd r.num ((r.den:Nat):Int)=1:=r.reduced;rw [<-hg];simp [Int.gcd]))]
noncomputable section
def uU:=k_a f169
def HZ:=k_a f120
def nK (s:AT) (k:Nat):bH:={n:=22,sl:=[(0,sv s),(5,iv s.size),(6,iv k)],bJ:=[],next:=64}
abbrev Eb:List Nat:=[1,0,1,0,0]
def IOz (s:AT):
  dy (a8 []) (fl uU []) 2 22 [sv s] 1 .normal [] (nK s 0):=
 wy [] 0
section
variable (s:AT) (k:Nat) (h1:(k:Int)<(s.size:Int)) (h2:k<s.size)
def apy (h3:(↑(UInt8.toNat (s.data.toList.getD k (0:UInt8))):Int)<48):
  bW (a8 []) (fl uU Eb) (nK s k) 225 f169 true (bv false):=
 wy [ah h1,ah h2,aa (bw (ay h3)),ah h3] 17801616826369
def apz (h3:¬(↑(UInt8.toNat (s.data.toList.getD k (0:UInt8))):Int)<48) (h4:(↑(UInt8.toNat (s.data.toList.getD k (0:UInt8))):Int)>57):
  bW (a8 []) (fl uU Eb) (nK s k) 223 f169 true (bv false):=
 wy [ah h1,ah h2,aa (bw (ab h3)),aK h3,ah h4] 5837518341367668737
def apA (h3:¬(↑(UInt8.toNat (s.data.toList.getD k (0:UInt8))):Int)<48) (h4:¬(↑(UInt8.toNat (s.data.toList.getD k (0:UInt8))):Int)>57) (h5:i6 ((k:Int)+1)):
  bB (a8 []) (fl uU Eb) (nK s k) 159 .normal [] (nK s (k+1)):=
 wy [ah h1,ah h2,aa (bw (ab h3)),aK h3,aK h4,yi h5] 448559376110396907521
end
def apB (s:AT) (k:Nat) (h1:¬(k:Int)<(s.size:Int)):
  bB (a8 []) (fl uU Eb) (nK s k) 2 (.exit 0) [] (nK s k):=
 wy [aK h1] 1
def apC (s:AT) (k:Nat):
  bW (a8 []) ((fl uU []).drop 3) (nK s k) 1 f169 true (bv (!(decide (aq s=[])))):=
 wy [] 0
def XD:=IN 169 [.str] [.bool] true (fun d=>decide (d.1.size<=1000000000)) fun d=>(b6 (aq d.1)&&decide (0<d.1.size),())
def H6:=a8 [XD]
section
variable (s:AT) (h1:s.size<=1000000000)
def apD (h2:(b6 s.data.toList&&decide (0<s.size))=false):
  bf H6 (fl HZ []) 9 14 [sv s] 32 f120 true (bv false):=
 wy [ah h1,aa (aL (h2)),aa h2] 3255312513
def apE (h2:(b6 s.data.toList&&decide (0<s.size))=true) (h3:(s.data).toList=((ByteArray.mk (#[(48:UInt8)])).data).toList):
  bf H6 (fl HZ []) 9 14 [sv s] 967 f120 true (bv true):=
 wy [ah h1,aa (aL (h2)),aa (bw (ay h3)),ah h3,aa h2] 91206897977794689
def apF (h2:(b6 s.data.toList&&decide (0<s.size))=true) (h3:¬(s.data).toList=((ByteArray.mk (#[(48:UInt8)])).data).toList) (h4:Int.toNat 0<s.size) (h5:((↑(UInt8.toNat (s.data.toList.getD (Int.toNat 0) (0:UInt8))):Int) != 48)=(!decide ((↑(UInt8.toNat (s.data.toList.getD 0 (0:UInt8))):Int)=48))):
  bf H6 (fl HZ []) 9 14 [sv s] 895 f120 true (bv (!(decide (((cj s 0).toNat:Int)=48)))):=
 wy [ah h1,aa (aL (h2)),aa (bw (ab h3)),ah h4,aK h3,aa h2,ax h5] 33505088736196987199617
end
def XE:=IN 120 [.str] [.bool] true (fun d=>decide (d.1.size<=1000000000)) fun d=>(cy d.1,())
def lp:List AT->Int
 |[]=>0
 |s::r=>if ckR s=0 then lp r else ckR s
def apG (s:AT) (hl:s.size<=1000000000):Holds prog true 169 [sv s] (bv (b6 (aq s)&&decide (0<s.size))):=by
 have hS:=cz;have hz:=cK s;refine bL (c:=uU) func169 rfl rfl fun w F=> ?_
 refine cP hS 2 (IOz s) ?_;refine aW.loop (ι:={k:Nat//k<=s.size/\b6 ((aq s).take k)=true}) (id:=0) (b:=cat uU Eb) (rest:=(fl uU []).drop 3) (by kernel_rfl) (fun k=>nK s k.1) (fun k=>s.size-k.1) ⟨0,Nat.zero_le _,by rw [List.take_zero];rfl⟩ (fun _=>rfl) ?_;rintro⟨k,hk,hd⟩;by_cases hlt:k<s.size
 .have hmem:cj s k∈aq s:=by rw [yP ω];exact List.getElem_mem _
  have hno:¬(48<=(cj s k).toNat/\(cj s k).toNat<=57)->b6 (aq s)=false:=fun hn=>by
   rw [Bool.eq_false_iff];intro h;have:=List.all_eq_true.1 h _ hmem;rw [ae,bA,bA]at this;exact hn this
  by_cases h1:(cj s k).toNat<48
  .rw [hno ω];exact b5 (s:=nK s k) hS (apy s k ω hlt (by show((cj s k).toNat:Int)<48;omega))
  .by_cases h2:57<(cj s k).toNat
   .rw [hno ω];exact b5 (s:=nK s k) hS (apz s k ω hlt (by show¬((cj s k).toNat:Int)<48;omega) (by show((cj s k).toNat:Int)>57;omega))
   .refine bE (s:=nK s k) hS (apA s k ω hlt (by show¬((cj s k).toNat:Int)<48;omega) (by show¬((cj s k).toNat:Int)>57;omega) ω) ?_;refine⟨⟨k+1,hlt, ?_⟩,by show s.size-(k+1)<s.size-k;omega,rfl,rfl⟩;rw [G5 ω,HC];refine⟨hd, ?_⟩;show b6 [cj s k]=true;rw [Ba,ay ω,ay ω];rfl
 .refine bE (s:=nK s k) hS (apB s k ω) ?_;refine cG (cO ?_);rw [eT ω]at hd;have e:(b6 (aq s)&&decide (0<s.size))= !(decide (aq s=[])):=by
   rw [hd,Bool.true_and];by_cases h0:aq s=[]
   .rw [ay h0,ab (by rw [cK,h0];decide)];rfl
   .rw [ab h0,ay (by rw [cK];exact List.length_pos_iff.2 h0)];rfl
  rw [e];exact b5 (s:=nK s k) hS (apC s k)
def apH:XD.Ok prog:=fun⟨s,_⟩ h=>apG s (ap h)
def apI:bD prog (bF H6):=cM (aP apH dV)
def apJ (s:AT) (hl:s.size<=1000000000):Holds prog true 120 [sv s] (bv (cy s)):=by
 have hS:=apI;refine bL (c:=HZ) func120 rfl rfl fun w F=> ?_
 cases hd:b6 (aq s)&&decide (0<s.size)with
 |false=>
  have e:cy s=false:=by
   rw [Bool.eq_false_iff];intro h;obtain⟨h1,h2⟩:=wT h;rw [h1,ay h2]at hd;cases hd
  rw [e];exact bg hS 9 (apD s hl hd)
 |true=>
  have gw:=hd;rw [ae,bA]at gw;by_cases hz:aq s=[48]
  .have e:cy s=true:=by
    unfold cy;have h1:s.size=1:=by rw [cK,hz];rfl
    rw [gw.1,ay gw.2,ay (show s.size<=1 by omega)];rfl
   rw [e];exact bg hS 9 (apE s hl hd hz)
  .have e:cy s= !(decide (((cj s 0).toNat:Int)=48)):=by
    unfold cy;rw [gw.1,ay gw.2,Bool.true_and,Bool.and_true];by_cases h1:s.size<=1
    .rw [ay h1,Bool.true_or];have h48:¬((cj s 0).toNat:Int)=48:=fun h=>hz (by
      obtain⟨b,hb⟩:∃b,aq s=[b]:=List.length_eq_one_iff.1 (by rw [<-cK];omega);have h2:(b.toNat:Int)=48:=by
       have h3:(((aq s).getD 0 0).toNat:Int)=48:=h;rw [hb]at h3;exact h3
      rw [hb];congr 1;exact UInt8.toNat_inj.1 (by show b.toNat=48;omega))
     rw [ab h48];rfl
    .rw [ab h1,Bool.false_or];congr 1;by_cases h4:(cj s 0).toNat=48
     .rw [ay h4,ay ω]
     .rw [ab h4,ab ω]
   rw [e];exact bg hS 9 (apF s hl hd hz (by show 0<s.size;exact gw.2) rfl)
def apK:XE.Ok prog:=fun⟨s,_⟩ h=>apJ s (ap h)
attribute [local irreducible] ckR
end
noncomputable section
def O8:=k_a f218
def O9:=k_a f168
def XF:=k_a f119
def apL (s:AT) (h1:¬(s.size:Int)>=(↑(ByteArray.mk (#[(45:UInt8)])).size:Int)):
  bf (a8 []) (fl O8 []) 9 18 [sv s,sv fe] 128 f218 true (bv false):=
 wy [aa (aL (ab h1)),aK h1] 138529738817
def apM (s:AT) (h1:(s.size:Int)>=(↑(ByteArray.mk (#[(45:UInt8)])).size:Int)) (h2:(ByteArray.mk (#[(45:UInt8)])).size<=s.size) (h3:(decide ((s.extract 0 (ByteArray.mk (#[(45:UInt8)])).size).data.toList=((ByteArray.mk (#[(45:UInt8)])).data).toList))=(b7 s)):
  bf (a8 []) (fl O8 []) 9 18 [sv s,sv fe] 255 f218 true (bv (b7 s)):=
 wy [aa (aL (ay h1)),ah h2,ah h1,ax h3] 4666015224418275393
def H7:=IN 218 [.str, .str] [.bool] true (fun d=>decide (d.2.1=fe)) fun d=>(b7 d.1,())
def Pa:=IN 168 [.str, .str] [.str, .bool] true (fun d=>decide (d.2.1=fe)) fun d=>(bP d.1,b7 d.1,())
def XG:=IN 119 [.str, .str] [.str, .bool] true (fun d=>decide (d.2.1=fe)) fun d=>(bP d.1,b7 d.1,())
section
variable (s:AT) (h1:(ByteArray.mk (#[(45:UInt8)]))=(ByteArray.mk (#[(45:UInt8)])))
def apN (h2:(b7 s)=false):
  bf (a8 [H7]) (fl O9 []) 9 15 [sv s,sv fe] 3 f168 true (.tuple [sv s,bv false]):=
 wy [ah h1,aa (bY (h2))] 129
def apO (h2:(b7 s)=true) (h3:(ByteArray.mk (#[(45:UInt8)])).size<=s.size) (h4:(s.extract (ByteArray.mk (#[(45:UInt8)])).size s.size)=(s.extract 1 s.size)):
  bf (a8 [H7]) (fl O9 []) 9 15 [sv s,sv fe] 2 f168 true (.tuple [sv (s.extract 1 s.size),bv true]):=
 wy [ah h1,aa (bY (h2)),ah h3,ah (by omega:s.size<=s.size),ax h4] 5436604545
def apP:
  bf (a8 [Pa]) (fl XF []) 9 11 [sv s,sv fe] 1 f119 true (.tuple [sv (bP s),bv (b7 s)]):=
 wy [ah h1] 1
end
def Pb:=k_a f123
def apQ (z:Int):
  bf (a8 []) (fl Pb []) 9 (f123.ntmps) [aB (z,[])] 1 f123 true (.tuple [iv z,bv true]):=
 wy [aa (aF (v:=iv (z))),aa (aF (v:=af.bt true aE []))] 129
def apR (z x:Int) (r:List Int) (h1:(x::r).isEmpty=false):
  bf (a8 []) (fl Pb []) 9 (f123.ntmps) [aB (z,x::r)] 1 f123 true (.tuple [iv z,bv false]):=
 wy [aa (aF (v:=iv (z))),aa (aF (v:=af.bt true aE (x::r))),ax (aL (h1))] 786561
def IR (s:AT):Holds prog true 218 [sv s,sv fe] (bv (b7 s)):=by
 have dx:(ByteArray.mk (#[(45:UInt8)])).size=1:=rfl;refine bL (c:=O8) func218 rfl rfl fun w F=> ?_
 by_cases h0:0<s.size
 .refine bg cz 9 (apM s (by rw [dx];omega) (by rw [dx];omega) ?_);rw [dx,show Array.toList (s.extract 0 1).data=(aq s).take 1 from by rw [show Array.toList (s.extract 0 1).data=aq (s.extract 0 1)from rfl,jF,List.drop_zero]];show decide ((aq s).take 1=[45])=b7 s;unfold b7;rw [ay h0,Bool.true_and];cases hb:aq s with
  |nil=>rw [cK,hb]at h0;cases h0
  |cons b r=>
   have e0:cj s 0=b:=by show(aq s).getD 0 0=b;rw [hb];rfl
   rw [e0];show decide ([b]=[45])=_;by_cases h:b.toNat=45
   .have:b=45:=UInt8.toNat_inj.1 h;subst this;rfl
   .rw [ab h,ab (fun e=>h (by rw [(List.cons.inj e).1];rfl))]
 .have e:b7 s=false:=by unfold b7;rw [ab h0];rfl
  rw [e];exact bg cz 9 (apL s (by rw [dx];omega))
def apS:H7.Ok prog:=fun⟨s,p,_⟩ h=>by
 have h:decide (p=fe)=true:=h;rw [ap h];exact IR s
def IS (s:AT):Holds prog true 168 [sv s,sv fe] (.tuple [sv (bP s),bv (b7 s)]):=by
 have hS:bD prog (bF (a8 [H7])):=cM fun c hc=>by rw [List.mem_singleton.1 hc];exact apS
 refine bL (c:=O9) func168 rfl rfl fun w F=> ?_
 cases hn:b7 s with
 |true=>
  have e:bP s=s.extract 1 s.size:=by unfold bP;rw [hn]
  have h0:0<s.size:=by unfold b7 at hn;rw [ae,bA]at hn;exact hn.1
  rw [e];exact bg hS 9 (apO s rfl hn (by show 1<=s.size;omega) rfl)
 |false=>
  have e:bP s=s:=by unfold bP;rw [hn]
  rw [e];exact bg hS 9 (apN s rfl hn)
def apT:Pa.Ok prog:=fun⟨s,p,_⟩ h=>by
 have h:decide (p=fe)=true:=h;rw [ap h];exact IS s
def apU:XG.Ok prog:=fun⟨s,p,_⟩ h=>by
 have h:decide (p=fe)=true:=h;rw [ap h];have hS:bD prog (bF (a8 [Pa])):=cM fun c hc=>by rw [List.mem_singleton.1 hc];exact apT
 refine bL (c:=XF) func119 rfl rfl fun w F=> ?_
 exact bg hS 9 (apP s rfl)
def iF:=k_a f54
def Ec (l:List Int):Bool:=List.isEmpty l
def XH:=IN 123 [dF] [.int .i64, .bool] true (fun d=>true) fun d=>(d.1.1,Ec d.1.2,())
def jo:=a8 [NU,XG,XE,NT,GY,XH]
def cZ (u d:AT) (fr cR:Bool):bH:={n:=71,sl:=[(4,sv d),(5,bv fr),(6,sv u),(7,bv cR)],bJ:=[],next:=64}
def IT (s:AT) (h1:(sR s)=true) (h2:(ByteArray.mk (#[(45:UInt8)]))=(ByteArray.mk (#[(45:UInt8)]))):
  dy jo (fl iF []) 3 71 [sv s] 1 .normal [] (cZ (bP (iR s iC)) (wd s iC) (oG s iC) (b7 (iR s iC))):=
 wy [aa h1,ah h2] 129
section
variable (u d:AT)
def apV (fr cR:Bool) (h1:u.size<=1000000000) (h2:(cy u)=false):
  bW jo ((fl iF []).drop 3) (cZ u d fr cR) 904 f54 true (iv 1):=
 wy [ah h1,aa (bw (bY (h2))),aa (bY (h2))] 50864257
def apW (fr:Bool) (h1:u.size<=1000000000) (h2:(cy u)=true) (h3:(u.data).toList=((ByteArray.mk (#[(48:UInt8)])).data).toList):
  bW jo ((fl iF []).drop 3) (cZ u d fr true) 7231 f54 true (iv 1):=
 wy [ah h1,aa (bw (bY (h2))),aa (bY (h2)),aa (bw (ay h3)),ah h3] 373619764182850216065
def apX (h1:u.size<=1000000000) (h2:(cy u)=true):
  cV jo ((fl iF []).drop 3) 2 (cZ u d false false) 1114515 .normal [] (cZ u d false false):=
 wy [ah h1,aa (bw (bY (h2))),aa (bY (h2))] 13196287025281
def apY (h1:u.size<=1000000000) (h2:(cy u)=true) (h3:d.size<=1000000000) (h4:(cy d)=false):
  bW jo ((fl iF []).drop 3) (cZ u d true false) 116629395 f54 true (iv 1):=
 wy [ah h1,aa (bw (bY (h2))),aa (bY (h2)),ah h3,aa (bw (bY (h4))),aa (bY (h4))] 1947513652482217575232953206710401
def apZ (h1:u.size<=1000000000) (h2:(cy u)=true) (h3:d.size<=1000000000) (h4:(cy d)=true) (h5:(d.data).toList=((ByteArray.mk (#[(48:UInt8)])).data).toList):
  bW jo ((fl iF []).drop 3) (cZ u d true false) 116588435 f54 true (iv 1):=
 wy [ah h1,aa (bw (bY (h2))),aa (bY (h2)),ah h3,aa (bw (bY (h4))),aa (bY (h4)),aa (bw (ay h5)),ah h5] 2788197950501923681896353591526425951740033
def ap0 (h1:u.size<=1000000000) (h2:(cy u)=true) (h3:d.size<=1000000000) (h4:(cy d)=true) (h5:¬(d.data).toList=((ByteArray.mk (#[(48:UInt8)])).data).toList) (h6:(d.data).toList=((ByteArray.mk (#[(49:UInt8)])).data).toList):
  bW jo ((fl iF []).drop 3) (cZ u d true false) 115277715 f54 true (iv 1):=
 wy [ah h1,aa (bw (bY (h2))),aa (bY (h2)),ah h3,aa (bw (bY (h4))),aa (bY (h4)),aa (bw (ab h5)),aK h5,ah h6] 52614061732110455557256335874139780234039523287169
def ap1 (h1:u.size<=1000000000) (h2:(cy u)=true) (h3:d.size<=1000000000) (h4:(cy d)=true) (h5:¬(d.data).toList=((ByteArray.mk (#[(48:UInt8)])).data).toList) (h6:¬(d.data).toList=((ByteArray.mk (#[(49:UInt8)])).data).toList):
  cV jo ((fl iF []).drop 3) 2 (cZ u d true false) 81723283 .normal [] (cZ u d true false):=
 wy [ah h1,aa (bw (bY (h2))),aa (bY (h2)),ah h3,aa (bw (bY (h4))),aa (bY (h4)),aa (bw (ab h5)),aK h5,aK h6] 52614061732110455557256335874139780234039523287169
def ap2 (h1:u.size<=1000000000) (h2:(cy u)=true) (h3:¬(u.data).toList=((ByteArray.mk (#[(48:UInt8)])).data).toList):
  cV jo ((fl iF []).drop 3) 2 (cZ u d false true) 1114559 .normal [] (cZ u d false true):=
 wy [ah h1,aa (bw (bY (h2))),aa (bY (h2)),aa (bw (ab h3)),aK h3] 103866219580300204314230564067483777
def ap3 (h1:u.size<=1000000000) (h2:(cy u)=true) (h3:¬(u.data).toList=((ByteArray.mk (#[(48:UInt8)])).data).toList) (h4:d.size<=1000000000) (h5:(cy d)=false):
  bW jo ((fl iF []).drop 3) (cZ u d true true) 116629439 f54 true (iv 1):=
 wy [ah h1,aa (bw (bY (h2))),aa (bY (h2)),aa (bw (ab h3)),ah h4,aa (bw (bY (h5))),aa (bY (h5)),aK h3] 730840021646247853707080807151523503615250538625
def ap4 (h1:u.size<=1000000000) (h2:(cy u)=true) (h3:¬(u.data).toList=((ByteArray.mk (#[(48:UInt8)])).data).toList) (h4:d.size<=1000000000) (h5:(cy d)=true) (h6:(d.data).toList=((ByteArray.mk (#[(48:UInt8)])).data).toList):
  bW jo ((fl iF []).drop 3) (cZ u d true true) 116588479 f54 true (iv 1):=
 wy [ah h1,aa (bw (bY (h2))),aa (bY (h2)),aa (bw (ab h3)),ah h4,aa (bw (bY (h5))),aa (bY (h5)),aa (bw (ay h6)),ah h6,aK h3] 913530863046102819659576943611420643593858064513
def ap5 (h1:u.size<=1000000000) (h2:(cy u)=true) (h3:¬(u.data).toList=((ByteArray.mk (#[(48:UInt8)])).data).toList) (h4:d.size<=1000000000) (h5:(cy d)=true) (h6:¬(d.data).toList=((ByteArray.mk (#[(48:UInt8)])).data).toList) (h7:(d.data).toList=((ByteArray.mk (#[(49:UInt8)])).data).toList):
  bW jo ((fl iF []).drop 3) (cZ u d true true) 115277759 f54 true (iv 1):=
 wy [ah h1,aa (bw (bY (h2))),aa (bY (h2)),aa (bw (ab h3)),ah h4,aa (bw (bY (h5))),aa (bY (h5)),aa (bw (ab h6)),aK h6,aK h3,ah h7] 65219602905605831220621709583127873508454889955457
def ap6 (h1:u.size<=1000000000) (h2:(cy u)=true) (h3:¬(u.data).toList=((ByteArray.mk (#[(48:UInt8)])).data).toList) (h4:d.size<=1000000000) (h5:(cy d)=true) (h6:¬(d.data).toList=((ByteArray.mk (#[(48:UInt8)])).data).toList) (h7:¬(d.data).toList=((ByteArray.mk (#[(49:UInt8)])).data).toList):
  cV jo ((fl iF []).drop 3) 2 (cZ u d true true) 81723327 .normal [] (cZ u d true true):=
 wy [ah h1,aa (bw (bY (h2))),aa (bY (h2)),aa (bw (ab h3)),ah h4,aa (bw (bY (h5))),aa (bY (h5)),aa (bw (ab h6)),aK h6,aK h3,aK h7] 65219602905605831220621709583127873508454889955457
def ap7 (fr cR:Bool) (h1:(u.size:Int)>600):
  bW jo ((fl iF []).drop 5) (cZ u d fr cR) 56 f54 true (iv 4):=
 wy [aa (bw (ay h1)),ah h1] 528449
def ap8 (fr cR:Bool) (h1:¬(u.size:Int)>600) (h2:(d.size:Int)>600):
  bW jo ((fl iF []).drop 5) (cZ u d fr cR) 55 f54 true (iv 4):=
 wy [aa (bw (ab h1)),aK h1,ah h2] 50860097
def ap9 (fr cR:Bool) (h1:¬(u.size:Int)>600) (h2:¬(d.size:Int)>600):
  cV jo ((fl iF []).drop 5) 2 (cZ u d fr cR) 39 .normal [] (cZ u d fr cR):=
 wy [aa (bw (ab h1)),aK h1,aK h2] 50860097
def aqa (cR:Bool):
  bW jo ((fl iF []).drop 7) (cZ u d false cR) 2 f54 true (iv 0):=
 wy [] 0
def aqb (cR:Bool) (h1:(jK u)=true) (h2:(jK d)=true) (h3:(az (dj u)&&az (dj d))=true) (h4:(Ec (d9 (dj u) (dj d)).2)=false):
  bW jo ((fl iF []).drop 7) (cZ u d true cR) 57 f54 true (iv 1):=
 wy [aa h1,aa h2,aa h3,aa (bw (bY (h4))),aa (bY (h4))] 22269406224448
def aqc (cR:Bool) (h1:(jK u)=true) (h2:(jK d)=true) (h3:(az (dj u)&&az (dj d))=true) (h4:(Ec (d9 (dj u) (dj d)).2)=true) (h5:¬(d9 (dj u) (dj d)).1=1):
  bW jo ((fl iF []).drop 7) (cZ u d true cR) 55 f54 true (iv 1):=
 wy [aa h1,aa h2,aa h3,aa (bw (bY (h4))),aa (bY (h4)),aa (gz.mpr h5)] 1711119266488384
def aqd (cR:Bool) (h1:(jK u)=true) (h2:(jK d)=true) (h3:(az (dj u)&&az (dj d))=true) (h4:(Ec (d9 (dj u) (dj d)).2)=true) (h5:(d9 (dj u) (dj d)).1=1):
  bW jo ((fl iF []).drop 7) (cZ u d true cR) 39 f54 true (iv 0):=
 wy [aa h1,aa h2,aa h3,aa (bw (bY (h4))),aa (bY (h4)),aa (eF.mpr h5)] 1711119266488384
end
def aqe:XH.Ok prog:=fun⟨⟨z,l⟩,_⟩ _=>by
 show Holds prog true 123 [aB (z,l)] (.tuple [iv z,bv (Ec l)]);refine bL (c:=Pb) func123 rfl rfl fun w F=> ?_
 cases l with
 |nil=>exact bg cz 9 (apQ z)
 |cons x r=>exact bg cz 9 (apR z x r rfl)
end
def Pc:∀l:List UInt8,(∀b∈l.take (bk l),b≠47)/\(bk l<l.length->l=l.take (bk l)++47::l.drop (bk l+1))
 |[]=>⟨fun b h=>(by cases h),fun h=>(by cases h)⟩
 |b::r=>by
  obtain⟨h1,h2⟩:=Pc r;by_cases hb:b.toNat=47
  .have e:bk (b::r)=0:=by unfold bk;rw [if_pos hb]
   have aqf:b=47:=UInt8.toNat_inj.1 hb;rw [e];exact⟨fun c h=>(by cases h),fun _=>(by rw [aqf];rfl)⟩
  .have e:bk (b::r)=bk r+1:=by show(if b.toNat=47 then 0 else bk r+1)=_;rw [if_neg hb]
   rw [e];refine⟨fun c h=> ?_,fun h=> ?_⟩
   .rw [List.take_succ_cons]at h;rcases ek.1 h with rfl |h
    .exact fun e=>hb (by rw [e];rfl)
    .exact h1 c h
   .have h:=h2 (by rw [List.length_cons]at h;omega);rw [List.take_succ_cons,List.drop_succ_cons,List.cons_append];exact congrArg (b:: ·) h
def Pd (l:List UInt8):Lib.cut l [47]=(l.take (bk l),l.drop (bk l+1),decide (bk l<l.length)):=by
 obtain⟨h1,h2⟩:=Pc l;by_cases h:bk l<l.length
 .have e:=h2 h;have key:=Wo (l:=l.take (bk l)) (r:=l.drop (bk l+1)) h1;rw [<-e]at key;rw [key,ay h]
 .have hl:l.length<=bk l:=by omega
  rw [eT hl]at h1 ⊢;rw [Wn h1,List.drop_eq_nil_of_le ω,ab h]
def XI {s:AT} (h:b6 (aq s)=true):∀k,k<=(aq s).length->Lib.decFrom 0 ((aq s).take k)=some (bl ((aq s).take k)).toNat
 |0,_=>by rw [List.take_zero];rfl
 |k+1,hk=>by
  have ih:=XI h k ω;have hv:=A7 h k ω;have hm:cj s k∈aq s:=by rw [yP ω];exact List.getElem_mem _
  have hb:=List.all_eq_true.1 h _ hm;rw [ae,bA,bA]at hb;have eb:cj s k=UInt8.ofNat (48+((cj s k).toNat-48)):=by
   rw [show 48+((cj s k).toNat-48)=(cj s k).toNat by omega];simp
  have key:=Dec.Ob _ 0 _ ((cj s k).toNat-48) ω ih;rw [<-eb]at key;have et:(aq s).take (k+1)=(aq s).take k++[cj s k]:=G5 ω;rw [rh ω,et,key];congr 1;omega
def XJ {s:AT} (h:b6 (aq s)=true):Lib.decFrom 0 (aq s)=some (bl (aq s)).toNat:=by
 have:=XI h (aq s).length (aJ _);rw [dI]at this;exact this
def Pe (s:AT):aq (iR s iC)=(aq s).take (bk (aq s)):=by
 show(Lib.cut (aq s) [47]).1=_;rw [Pd]
def XK (s:AT):aq (wd s iC)=(aq s).drop (bk (aq s)+1):=by
 show(Lib.cut (aq s) [47]).2.1=_;rw [Pd]
def XL (s:AT):oG s iC=decide (bk (aq s)<(aq s).length):=by
 show(Lib.cut (aq s) [47]).2.2=_;rw [Pd]
def Ed (s:AT):(b7 s=true/\aq s=45::aq (bP s))\/(b7 s=false/\bP s=s/\∀b r,aq s=b::r->b.toNat≠45):=by
 cases hn:b7 s with
 |true=>
  left;refine⟨rfl, ?_⟩;have e:bP s=s.extract 1 s.size:=by unfold bP;rw [hn]
  unfold b7 at hn;rw [ae,bA,bA]at hn;rw [e,jF,cK,dI];cases hb:aq s with
  |nil=>rw [cK,hb]at hn;exact absurd hn.1 δ
  |cons b r=>
   have h2:(cj s 0).toNat=45:=hn.2;have h3:cj s 0=b:=by show(aq s).getD 0 0=b;rw [hb];rfl
   rw [h3]at h2;have:b=45:=UInt8.toNat_inj.1 h2;rw [this];rfl
 |false=>
  right;refine⟨rfl,by unfold bP;rw [hn],fun b r hb h=> ?_⟩;have h3:cj s 0=b:=by show(aq s).getD 0 0=b;rw [hb];rfl
  unfold b7 at hn;rw [ay (by rw [cK,hb];exact Nat.succ_pos _),h3,ay h]at hn;cases hn
def aqg {s:AT} (h:∀b r,aq s=b::r->b.toNat≠45):b7 s=false/\bP s=s:=by
 rcases Ed s with⟨_,h2⟩|⟨h1,h2,_⟩
 .exact absurd rfl (h 45 _ h2)
 .exact⟨h1,h2⟩
def aqh (s:AT):bP (iR s iC)=(bP s).extract 0 (bk (aq (bP s)))/\wd s iC=(bP s).extract (bk (aq (bP s))+1) (bP s).size/\oG s iC=decide (bk (aq (bP s))<(bP s).size)/\b7 (iR s iC)=b7 s:=by
 rcases Ed s with⟨h1,h2⟩|⟨h1,h2,h3⟩
 .have hk:bk (aq s)=bk (aq (bP s))+1:=by
   rw [h2];show(if(45:UInt8).toNat=47 then 0 else bk (aq (bP s))+1)=_;rw [if_neg δ]
  have ha:aq (iR s iC)=45::(aq (bP s)).take (bk (aq (bP s))):=by rw [Pe,hk,h2,List.take_succ_cons]
  rcases Ed (iR s iC)with⟨g1,g2⟩|⟨_,_,g3⟩
  .rw [ha]at g2;refine⟨fN ?_,fN ?_, ?_,by rw [g1,h1]⟩
   .show aq _=aq _;rw [jF,List.drop_zero];exact(List.cons.inj g2).2.symm
   .show aq _=aq _;rw [XK,jF,cK,dI,hk,h2,List.drop_succ_cons]
   .rw [XL,hk,h2,cK,List.length_cons];by_cases h:bk (aq (bP s))<(aq (bP s)).length
    .rw [ay h,ay ω]
    .rw [ab h,ab ω]
  .exact absurd rfl (g3 45 _ ha)
 .have hp:b7 (iR s iC)=false/\bP (iR s iC)=iR s iC:=aqg fun b r hb=>by
   rw [Pe]at hb;cases hc:aq s with
   |nil=>rw [hc]at hb;rw [List.take_nil]at hb;cases hb
   |cons c t=>
    have h4:=h3 c t hc;rw [hc]at hb;cases hm:bk (c::t)with
    |zero=>rw [hm]at hb;cases hb
    |succ m=>
     rw [hm,List.take_succ_cons]at hb;rw [<-(List.cons.inj hb).1];exact h4
  rw [hp.1,hp.2,h1,h2];refine⟨fN ?_,fN ?_, ?_,rfl⟩
  .show aq _=aq _;rw [Pe,jF,List.drop_zero]
  .show aq _=aq _;rw [XK,jF,cK,dI]
  .rw [XL,cK]
noncomputable section
def Pf:=IN 54 [.str] [.int .i64] true (fun d=>decide (d.1.size<=1000000000)) fun d=>(ckR d.1,())
--{
def Pg:bD prog (bF jo):=cM (aP VZ (aP apU (aP apK (aP VW (aP M5 (aP aqe dV))))))
def XM {u:AT} (h:b6 (aq u)=true):Lib.hasPrefix (aq u) [45]=false:=Dec.Wb _ fun b hb=>by
 have:=List.all_eq_true.1 h b hb;rw [ae,bA,bA]at this;exact this
def XN:∀n:Nat,(10:Int)^n<=18446744073709551616^n
 |0=>by simp
 |n+1=>by
  rw [Int.pow_succ,Int.pow_succ];have h1:=XN n;have h2:=dD (b:=10) δ n;omega
def XO {u:AT} (h:b6 (aq u)=true) (hl:u.size<=600):jK u=true/\dj u=aY (bl (aq u))/\az (aY (bl (aq u)))=true/\aj (aY (bl (aq u)))=bl (aq u):=by
 have hb:=uL h;have e1:(rj u fe).data.toList=aq u:=by
  show Lib.trimPrefix (aq u) [45]=aq u;unfold Lib.trimPrefix;rw [XM h];rfl
 have e2:uI u=bl (aq u):=by
  unfold uI;rw [e1,XJ h];show((bl (aq u)).toNat:Int)=_;omega
 have e3:xc u=bl (aq u):=by
  unfold xc;rw [show pV u fe=false from XM h,e2];rfl
 have h0:((bl (aq u)).natAbs:Int)<18446744073709551616^u.size:=by
  have h1:=XN u.size;omega
 obtain⟨m1,m2⟩:=jC (n:=100000) (Int.lt_of_lt_of_le h0 (iN δ ω));refine⟨?_,by unfold dj;rw [e3],m1,m2⟩;unfold jK;rw [e1,XJ h,e2];exact m1
def Ee (u d:AT) (fr cR:Bool):Int:=
 if cy u=false then 1
 else if cR=true/\aq u=[48]then 1
 else if fr=true/\(cy d=false\/aq d=[48]\/aq d=[49])then 1
 else if 600<u.size\/600<d.size then 4
 else if fr=true/\Int.gcd (bl (aq u)) (bl (aq d))≠1 then 1
 else 0
def aqi {t:AT} {k:Nat} {cR:Bool} (hk:k<=t.size):Ee (t.extract 0 k) (t.extract (k+1) t.size) (decide (k<t.size)) cR=zf cR t k:=by
 have dx:=k6 t 0 k hk;have z2:=k6 t (k+1) t.size (aJ _);unfold Ee zf;simp only [bA];have e:(600<(t.extract 0 k).size\/600<(t.extract (k+1) t.size).size)↔(600<k\/601+k<t.size):=by omega
 simp only [e]
def H8 (u d:AT) (fr cR:Bool) (hu:b6 (aq u)=true) (hd:fr=true->b6 (aq d)=true) (w:World) (F:Sv.Env):
  aW prog w F 71 ((fl iF []).drop 5) (cZ u d fr cR).T (cZ u d fr cR).H (gZ prog true f54 (iv (if 600<u.size\/600<d.size then 4 else if fr=true/\Int.gcd (bl (aq u)) (bl (aq d))≠1 then 1 else 0))):=by
 have hS:=Pg;by_cases h1:600<u.size
 .rw [if_pos (.inl h1)];exact b5 (s:=cZ u d fr cR) hS (ap7 u d fr cR ω)
 .by_cases h2:600<d.size
  .rw [if_pos (.inr h2)];exact b5 (s:=cZ u d fr cR) hS (ap8 u d fr cR ω ω)
  .rw [if_neg ω];refine cX (s:=cZ u d fr cR) hS 2 (ap9 u d fr cR ω ω) ?_;cases fr with
   |false=>
    rw [if_neg (fun h=>by cases h.1)];exact b5 (s:=cZ u d false cR) hS (aqa u d cR)
   |true=>
    obtain⟨a1,a2,a3,a4⟩:=XO hu ω;obtain⟨b1,b2,b3,b4⟩:=XO (hd rfl) ω;have k1:=aqb u d cR a1 b1;have k2:=aqc u d cR a1 b1;have dG:=aqd u d cR a1 b1;rw [a2,b2]at k1 k2 dG;have hg:d9 (aY (bl (aq u))) (aY (bl (aq d)))=aY (Int.gcd (bl (aq u)) (bl (aq d))):=by unfold d9;rw [a4,b4]
    have hg':d9 ((aY (bl (aq u))).1,(aY (bl (aq u))).2) ((aY (bl (aq d))).1,(aY (bl (aq d))).2)=aY (Int.gcd (bl (aq u)) (bl (aq d))):=hg;rw [hg']at k1 k2 dG;have kq:=bN a3 b3;generalize Int.gcd (bl (aq u)) (bl (aq d))=g at*;by_cases qt:g=1
    .rw [if_neg (fun h=>h.2 qt)];have em:aY ((g:Nat):Int)=(1,[]):=by rw [qt];exact eh δ
     rw [em]at dG;exact b5 (s:=cZ u d true cR) hS (dG kq rfl rfl)
    .rw [if_pos ⟨rfl,qt⟩];by_cases kK:(-9223372036854775807:Int)<=(g:Int)/\(g:Int)<=9223372036854775807
     .have em:aY ((g:Nat):Int)=((g:Int),[]):=eh kK;rw [em]at k2;exact b5 (s:=cZ u d true cR) hS (k2 kq rfl (by show¬(g:Int)=1;omega))
     .have em:aY ((g:Nat):Int)=(if(g:Int)<0 then-1 else 1,cQ 18446744073709551616 (g:Int).natAbs):=by unfold aY;rw [if_neg kK]
      rw [em]at k1;refine b5 (s:=cZ u d true cR) hS (k1 kq ?_);show List.isEmpty (cQ 18446744073709551616 ((g:Int).natAbs:Int))=false;have hne:=AH (b:=18446744073709551616) δ (show(0:Int)<((g:Int).natAbs:Int) by omega);cases hc:cQ 18446744073709551616 ((g:Int).natAbs:Int)with
      |nil=>exact absurd hc hne
      |cons x r=>rfl
def aqj (u d:AT) (fr cR:Bool) (fI:u.size<=1000000000) (wU:d.size<=1000000000) (w:World) (F:Sv.Env):
  aW prog w F 71 ((fl iF []).drop 3) (cZ u d fr cR).T (cZ u d fr cR).H (gZ prog true f54 (iv (Ee u d fr cR))):=by
 have hS:=Pg;unfold Ee;cases ha:cy u with
 |false=>
  rw [if_pos rfl];exact b5 (s:=cZ u d fr cR) hS (apV u d fr cR fI ha)
 |true=>
  rw [if_neg δ];have du:=(wT ha).1;by_cases hz:cR=true/\aq u=[48]
  .rw [if_pos hz];obtain⟨rfl,h48⟩:=hz;exact b5 (s:=cZ u d fr true) hS (apW u d fr fI ha h48)
  .rw [if_neg hz];cases fr with
   |false=>
    rw [if_neg (fun h=>by cases h.1)];cases cR with
    |false=>
     refine cX (s:=cZ u d false false) hS 2 (apX u d fI ha) ?_;exact H8 u d false false du (fun h=>by cases h) w F
    |true=>
     refine cX (s:=cZ u d false true) hS 2 (ap2 u d fI ha (fun h=>hz ⟨rfl,h⟩)) ?_;exact H8 u d false true du (fun h=>by cases h) w F
   |true=>
    cases hb:cy d with
    |false=>
     rw [if_pos ⟨rfl, .inl rfl⟩];cases cR with
     |false=>exact b5 (s:=cZ u d true false) hS (apY u d fI ha wU hb)
     |true=>exact b5 (s:=cZ u d true true) hS (ap3 u d fI ha (fun h=>hz ⟨rfl,h⟩) wU hb)
    |true=>
     have dd:=(wT hb).1;by_cases h8:aq d=[48]
     .rw [if_pos ⟨rfl, .inr (.inl h8)⟩];cases cR with
      |false=>exact b5 (s:=cZ u d true false) hS (apZ u d fI ha wU hb h8)
      |true=>exact b5 (s:=cZ u d true true) hS (ap4 u d fI ha (fun h=>hz ⟨rfl,h⟩) wU hb h8)
     .by_cases h9:aq d=[49]
      .rw [if_pos ⟨rfl, .inr (.inr h9)⟩];cases cR with
       |false=>exact b5 (s:=cZ u d true false) hS (ap0 u d fI ha wU hb h8 h9)
       |true=>exact b5 (s:=cZ u d true true) hS (ap5 u d fI ha (fun h=>hz ⟨rfl,h⟩) wU hb h8 h9)
      .rw [if_neg (fun h=>by
        rcases h.2 with h|h|h
        .cases h
        .exact h8 h
        .exact h9 h)]
       cases cR with
       |false=>
        refine cX (s:=cZ u d true false) hS 2 (ap1 u d fI ha wU hb h8 h9) ?_;exact H8 u d true false du (fun _=>dd) w F
       |true=>
        refine cX (s:=cZ u d true true) hS 2 (ap6 u d fI ha (fun h=>hz ⟨rfl,h⟩) wU hb h8 h9) ?_;exact H8 u d true true du (fun _=>dd) w F
def aqk (s:AT) (hl:s.size<=1000000000):Holds prog true 54 [sv s] (iv (ckR s)):=by
 have hS:=Pg;refine bL (c:=iF) func54 rfl rfl fun w F=> ?_
 obtain⟨e1,e2,e3,bV⟩:=aqh s;have hle:bk (aq (bP s))<=(bP s).size:=by rw [cK];exact A9 _
 have hps:(bP s).size<=s.size:=by
  rcases Ed s with⟨_,h2⟩|⟨_,h2,_⟩
  .have:=congrArg List.length h2;rw [List.length_cons,<-cK,<-cK]at this;omega
  .rw [h2];exact aJ _
 have hc:sR s=true:=ay ω;have key:=IT s hc rfl;rw [e1,e2,e3,bV]at key;have ev:ckR s=Ee ((bP s).extract 0 (bk (aq (bP s)))) ((bP s).extract (bk (aq (bP s))+1) (bP s).size) (decide (bk (aq (bP s))<(bP s).size)) (b7 s):=(aqi hle).symm;rw [ev];refine cP hS 3 key ?_;exact aqj _ _ _ _ (by rw [k6 _ _ _ hle];omega) (by rw [k6 _ _ _ (aJ _)];omega) w F
attribute [local irreducible] ckR
def XP:Pf.Ok prog:=fun⟨s,_⟩ h=>by
 have h:decide (s.size<=1000000000)=true:=h;exact aqk s (ap h)
--}
end
section
set_option maxHeartbeats 4000000
noncomputable section
def wV:=k_a Tryz.f190
def XQ:=k_a Tryz.f153
def smI2 (a:aC):Bool:=List.isEmpty (α:=Int) a.2&&gF a.1
abbrev sl (l:List AT):af:= .bt false .str l
abbrev H9 (f:FuncId):af:= .raw (.func (.func f) #[] #[])
def pZ (l:List AT) (k:Nat):bH:={n:=21,sl:=[(0,sl l),(1,H9 54),(8,sl l),(9,iv l.length),(10,iv k)],bJ:=[],next:=64}
def Bs:=a8 [Pf]
section
variable (l:List AT)
def aql:
  dy Bs (fl wV []) 2 21 [sl l,H9 54] 1 .normal [] (pZ l 0):=
 wy [] 0
def aqm (k:Nat) (h1:(k:Int)<(l.length:Int)) (h2:k<l.length) (h3:(l.getD k ByteArray.empty).size<=1000000000) (h4:ckR (l.getD k ByteArray.empty)=0) (h5:i6 ((k:Int)+1)):
  bB Bs (fl wV [1,0,1,0,0]) (pZ l k) 5 .normal [] (pZ l (k+1)):=
 wy [ah h1,ah h2,ah h3,aa (eF.mpr h4),yi h5] 5436612609
def aqn (k:Nat) (h1:¬(k:Int)<(l.length:Int)):
  bB Bs (fl wV [1,0,1,0,0]) (pZ l k) 2 (.exit 0) [] (pZ l k):=
 wy [aK h1] 1
def aqo (k:Nat):
  bW Bs ((fl wV []).drop 3) (pZ l k) 1 Tryz.f190 true (iv 0):=
 wy [] 0
def RD:Bool:=decide (l.length<=1000)&&l.all fun s=>decide (s.size<=1000000000)&&decide (ckR s=0)
end
def QL (s:AT):Prop:=∃r,gy r/\s=aU r
def zg {r:Rat} (h:gy r):toQ (aU r)=r:=lf (k:=2) δ ⟨by have:=h.1;show(r.num.natAbs:Int)<1000000000000000000;omega,by have:=h.2;show(r.den:Int)<1000000000000000000;omega⟩
attribute [local irreducible] Ij zo aX txS okTx smI2 aU toQ dr RD okQ
attribute [local semireducible] Ij zo aX txS okTx smI2 aU toQ dr RD okQ
end
end
noncomputable section
def Ph:=a8 [Xu,Hu]
def aqp (q:bO) (h1:(hU q)=true) (h2:(aV 10000 q.1)=true):
  bf Ph (fl N8 []) 9 16 [bM q] 3 f61 true (sv (io q.1)):=
 wy [aa h1,aa h2] 8256
def aqq (q:bO) (h1:(hU q)=false) (h2:(aV 10000 q.1)=true) (h3:(io q.1).size+(ByteArray.mk #[47]).size<=9223372036854775807) (h4:(aV 10000 q.2)=true) (h5:(io q.1++ByteArray.mk #[47]).size+(io q.2).size<=9223372036854775807):
  bf Ph (fl N8 []) 9 16 [bM q] 2 f61 true (sv (io q.1++ByteArray.mk #[47]++io q.2)):=
 wy [aa h1,aa (aF (v:=aB q.1)),aa h2,ah h3,aa (aF (v:=aB q.2)),aa h4,ah h5] 1997062150037568
def wW (q:bO):Rat:=Rat.divInt (aj q.1) (aj q.2)
noncomputable def lq (n:Nat) (q:bO):Bool:= @decide (QR n q (wW q)) (Classical.propDecidable _)
noncomputable def ia (q:bO):AT:=aU (wW q)
def Ia:=IN 61 [fV] [.str] true (fun d=>lq 10000 d.1) fun d=>(ia d.1,())
def XR {n:Nat} {q:bO}:lq n q=true↔QR n q (wW q):= @decide_eq_true_iff _ (Classical.propDecidable _)
def QR.val {n:Nat} {q:bO} {r:Rat} (h:QR n q r):wW q=r:=h.self
def QR.rd {n m:Nat} {q:bO} {r:Rat} (h:QR n q r) (hm:n<=m):lq m q=true:=XR.2 (by rw [h.val];exact h.mono hm)
def XS {n:Nat} {a:aC} (h:aV n a=true) (hn:1<=n):(io a).size<=20*n+2:=by
 have hB:=jB h hn;have h1:=Xi (n:=n) (m:=((aj a).natAbs:Int)) ω hB;unfold io;rw [cK,Xk h,cW];have:(zb (bZ a)).length<=1:=by cases bZ a<;>decide
 rw [Int.toNat_natCast]at h1;omega
def aqr:bD prog (bF Ph):=cM (aP apa (aP NM dV))
def XT {n:Nat} {q:bO} {r:Rat} (h:QR n q r):hU q=true↔r.den=1:=by
 have hd:=h.den;unfold hU;rw [ae,fP];constructor
 .rintro⟨h1,h2⟩;have h1:q.2.2=[]:=List.isEmpty_iff.1 h1;rw [lN h1]at hd;omega
 .intro e;rw [e]at hd;have hs:q.2.2=[]:=by
   refine Classical.byContradiction fun hne=> ?_
   obtain⟨h1,_,_,h4,_⟩:=(sg hne).1 h.o2;have hv:aj q.2=q.2.1*ak q.2.2:=by unfold aj;rw [if_neg hne]
   rw [hv]at hd;rcases h1 with h1|h1<;>rw [h1]at hd<;>omega
  rw [lN hs]at hd;exact⟨List.isEmpty_iff.2 hs,by omega⟩
def aqs {q:bO} {r:Rat} (h:QR 10000 q r):Holds prog true 61 [bM q] (sv (aU r)):=by
 have hS:=aqr;have l1:=XS h.o1 δ;have l2:=XS h.o2 δ;refine bL (c:=N8) func61 rfl rfl fun w F=> ?_
 by_cases hd:r.den=1
 .have key:=aqp q ((XT h).2 hd) h.o1;have e:io q.1=aU r:=by unfold io aU;rw [if_pos hd,h.num]
  rw [e]at key;exact bg hS 9 key
 .have hw:hU q=false:=by
   cases hq:hU q with
   |false=>rfl
   |true=>exact absurd ((XT h).1 hq) hd
  have dx:(ByteArray.mk #[47]).size=1:=rfl;have key:=aqq q hw h.o1 (by rw [dx];omega) h.o2 (by rw [ByteArray.size_append,dx];omega);have e:io q.1++ByteArray.mk #[47]++io q.2=aU r:=by
   refine fN ?_;rw [dq,dq];unfold io aU;rw [if_neg hd,jk,jk,h.num,h.den,rB];rfl
  rw [e]at key;exact bg hS 9 key
def Pj:Ia.Ok prog:=fun⟨q,_⟩ h=>aqs (XR.1 h)
end
end Go.Proofs.YtibikmmdbdlafaaGreatDoor
namespace Go.Proofs.YtibikmmdbdlafaaGreatDoor
def kk:List Int->Int×Int
 |[]=>(1,0)
 |n::t=>(n*(kk t).1+(kk t).2,(kk t).1)
def aqt (r:Rat):r=(r.num:Rat)/(r.den:Int):=by
 rw [<-Rat.divInt_eq_div];exact(Rat.num_divInt_den r).symm
section
open Go.RowKit Sv Go.Proofs.Tryz
def Pk {b:UInt8} (h:48<=b.toNat/\b.toNat<=57):[b]=Lib.decDigits (bl [b]).toNat/\bl [b]=(b.toNat:Int)-48:=by
 have e:bl [b]=(b.toNat:Int)-48:=by rw [rk];simp [bl]
 refine⟨?_,e⟩;rw [e,mN ω];congr 1;rw [show 48+((b.toNat:Int)-48).toNat=b.toNat by omega];simp
def Pm {b:UInt8} (h:b6 [b]=true):48<=b.toNat/\b.toNat<=57:=by
 rw [Ba,ae,ae,bA,bA]at h;exact h.1
def XU:∀(n:Nat) (L:List UInt8),L.length=n+1->b6 L=true->(L.getD 0 0).toNat≠48->L=Lib.decDigits (bl L).toNat/\0<bl L
 |0,L,hl,hd,h0=>by
  obtain⟨b,rfl⟩:∃b,L=[b]:=List.length_eq_one_iff.1 hl;have hb:=Pm hd;obtain⟨h1,h2⟩:=Pk hb;have h3:b.toNat≠48:=h0;exact⟨h1,by omega⟩
 |n+1,L,hl,hd,h0=>by
  have hne:L≠[]:=fun e=>by rw [e]at hl;cases hl
  obtain⟨M,b,rfl⟩:∃M b,L=M++[b]:=⟨L.dropLast,L.getLast hne,(List.dropLast_concat_getLast hne).symm⟩;have dY:M.length=n+1:=by rw [cW,List.length_singleton]at hl;omega
  rw [HC]at hd;have hb:=Pm hd.2;have hf:(M.getD 0 0).toNat≠48:=by
   cases M with
   |nil=>cases dY
   |cons c r=>exact h0
  obtain⟨i1,i2⟩:=XU n M dY hd.1 hf;obtain⟨_,e2⟩:=Pk hb;have ev:bl (M++[b])=bl M*10+((b.toNat:Int)-48):=by
   rw [vx,e2];rfl
  refine⟨?_,by omega⟩;rw [ev,sU ω,show(bl M*10+((b.toNat:Int)-48)).toNat/10=(bl M).toNat by omega,<-i1,show(bl M*10+((b.toNat:Int)-48)).toNat%10=b.toNat-48 by omega,show 48+(b.toNat-48)=b.toNat by omega];simp
def XV {u:AT} (h:cy u=true):aq u=Lib.decDigits (bl (aq u)).toNat:=by
 unfold cy at h;rw [ae,ae,bA]at h;obtain⟨h1,h2,h3⟩:=h;by_cases hs:u.size=1
 .obtain⟨b,hb⟩:∃b,aq u=[b]:=List.length_eq_one_iff.1 (by rw [<-cK];exact hs);rw [hb]at h3 ⊢;exact(Pk (Pm h3)).1
 .rw [ab ω,Bool.false_or,Bool.not_eq_true',decide_eq_false_iff_not]at h2;exact(XU (u.size-1) (aq u) (by rw [<-cK];omega) h3 h2).1
def Pn {s:AT} (h:ckR s=0):sY s:=by
 unfold ckR zf at h;split at h
 .cases h
 rename_i c1;split at h
 .cases h
 rename_i c2;split at h
 .cases h
 rename_i c3;split at h
 .cases h
 rename_i c4;split at h
 .cases h
 rename_i c5;obtain⟨t,ht⟩:∃t,bP s=t:=⟨_,rfl⟩;obtain⟨k,hk⟩:∃k,bk (aq t)=k:=⟨_,rfl⟩;rw [ht,hk]at c1 c2 c3 c4 c5;have hle:k<=t.size:=by rw [<-hk,cK];exact A9 _
 have ha:cy (t.extract 0 k)=true:=by cases hd:cy (t.extract 0 k)with
  |true=>rfl
  |false=>exact absurd hd c1
 have Bt:=XV ha;have aqu:=uL (wT ha).1;have au3:=k6 t 0 k hle;obtain⟨A,hA⟩:∃A:Nat,bl (aq (t.extract 0 k))=(A:Int):=⟨(bl (aq (t.extract 0 k))).toNat,by omega⟩;rw [hA,Int.toNat_natCast]at Bt;rw [hA]at aqu c5;have hneg:b7 s=true->0<A:=fun hn=>by
  rcases Nat.eq_zero_or_pos A with h0|h0
  .rw [h0,mN δ]at Bt;exact absurd ⟨hn,Bt⟩ c2
  .exact h0
 have zc:bn (b7 s) (A:Int)<0↔b7 s=true:=by
  cases hn:b7 s with
  |true=>have:=hneg hn;constructor;exact fun _=>rfl;exact fun _=>by show-(A:Int)<0;omega
  |false=>constructor;(intro h;have:(A:Int)<0:=h;omega);exact fun h=>by cases h
 have XW:(bn (b7 s) (A:Int)).natAbs=A:=by cases b7 s with
  |true=>show(-(A:Int)).natAbs=A;omega
  |false=>show(A:Int).natAbs=A;omega
 have hit:Lib.itoa (bn (b7 s) (A:Int))=if b7 s then 45::Lib.decDigits A else Lib.decDigits A:=by
  rw [pY,XW];cases hn:b7 s with
  |true=>rw [ay (by rw [hn]at zc;exact zc.2 rfl)]
  |false=>rw [ab (by rw [hn]at zc;exact fun h=>by cases zc.1 h)]
 have hs:aq s=if b7 s then 45::aq t else aq t:=by
  rcases Ed s with⟨h1,h2⟩|⟨h1,h2,_⟩
  .rw [h1,h2,ht];rfl
  .rw [h1,<-ht,h2];rfl
 have XX:((bn (b7 s) (A:Int)).natAbs:Int)<1000000000^(k+(t.size-k)):=by
  rw [XW];have h1:=tl (t.extract 0 k).size;have h2:=iN (b:=1000000000) δ (show(t.extract 0 k).size<=k+(t.size-k) by omega);omega
 by_cases hlt:k<t.size
 .have hb:cy (t.extract (k+1) t.size)=true:=by cases hd:cy (t.extract (k+1) t.size)with
   |true=>rfl
   |false=>exact absurd ⟨hlt, .inl hd⟩ c3
  have Po:=XV hb;have aqv:=uL (wT hb).1;have au4:=k6 t (k+1) t.size (aJ _);obtain⟨B,hB⟩:∃B:Nat,bl (aq (t.extract (k+1) t.size))=(B:Int):=⟨(bl (aq (t.extract (k+1) t.size))).toNat,by omega⟩;rw [hB,Int.toNat_natCast]at Po;rw [hB]at aqv c5;have hg:Int.gcd (A:Int) (B:Int)=1:=by
   by_cases hg:Int.gcd (A:Int) (B:Int)=1
   .exact hg
   .exact absurd ⟨hlt,hg⟩ c5
  have DE:2<=B:=by
   rcases Nat.lt_or_ge B 2 with h2|h2
   .refine absurd ⟨hlt, .inr ?_⟩ c3;rw [Po,mN ω];rcases (show B=0\/B=1 by omega)with rfl |rfl
    .exact .inl rfl
    .exact .inr rfl
   .exact h2
  obtain⟨r1,r2⟩:=ti (p:=bn (b7 s) (A:Int)) (q:=(B:Int)) ω (by rw [HE];exact hg);have aqw:(B:Int)<1000000000^(k+(t.size-k)):=by
   have h1:=tl (t.extract (k+1) t.size).size;have h2:=iN (b:=1000000000) δ (show(t.extract (k+1) t.size).size<=k+(t.size-k) by omega);omega
  refine⟨Rat.divInt (bn (b7 s) (A:Int)) (B:Int),k+(t.size-k),fN ?_,by omega,by rw [r1];exact XX,by rw [r2];exact aqw⟩;have Pp:=(Pc (aq t)).2 (by rw [hk,<-cK];exact hlt);rw [hk]at Pp;have x1:aq (t.extract 0 k)=(aq t).take k:=by rw [jF,List.drop_zero]
  have x2:aq (t.extract (k+1) t.size)=(aq t).drop (k+1):=by rw [jF,cK,dI]
  rw [<-x1,<-x2,Bt,Po]at Pp;show aq s=aq (aU _);have eq:aq (aU (Rat.divInt (bn (b7 s) (A:Int)) (B:Int)))=Lib.itoa (bn (b7 s) (A:Int))++47::Lib.decDigits B:=by
   unfold aU;rw [if_neg ω,r1,r2,Dec.oH]
  rw [eq,hit,hs,Pp];cases b7 s<;>rfl
 .have r1:((bn (b7 s) (A:Int):Int):Rat).num=bn (b7 s) (A:Int):=Rat.num_intCast _;have r2:((bn (b7 s) (A:Int):Int):Rat).den=1:=Rat.den_intCast _;have aqx:(1:Int)<1000000000^(k+(t.size-k)):=by
   have hp:=(wT ha).2;have h2:=iN (b:=1000000000) δ (show 1<=k+(t.size-k) by omega);rw [Int.pow_succ,Int.pow_zero]at h2;omega
  refine⟨((bn (b7 s) (A:Int):Int):Rat),k+(t.size-k),fN ?_,by omega,by rw [r1];exact XX,by rw [r2];exact aqx⟩;have x1:aq (t.extract 0 k)=aq t:=by rw [jF,List.drop_zero,eT (by rw [<-cK];omega)]
  rw [x1]at Bt;show aq s=aq (aU _);have eq:aq (aU ((bn (b7 s) (A:Int):Int):Rat))=Lib.itoa (bn (b7 s) (A:Int)):=by
   unfold aU;rw [if_pos r2,r1];exact jk _
  rw [eq,hit,hs,Bt]
noncomputable section
def aqy {n:Nat} {q:bO} {r:Rat} (h:QR n q r) (hn:1<=n):(r.num.natAbs:Int)<18446744073709551616^n/\(r.den:Int)<18446744073709551616^n:=by
 have h1:=jB h.o1 hn;have h2:=jB h.o2 hn;rw [h.num]at h1;rw [h.den]at h2;exact⟨h1,by omega⟩
end
set_option maxHeartbeats 1000000
noncomputable section
def mr:∀(n:Nat) (u:Nat),(Lib.decDigits u).length<=n->u<10^n
 |0,u,h=>by have:=tk u;omega
 |n+1,u,h=>by
  have hp:0<10^n:=Nat.pow_pos δ;by_cases hu:u<10
  .rw [Nat.pow_succ];omega
  .rw [sU hu,cW,List.length_singleton]at h;have:=mr n (u/10) ω;rw [Nat.pow_succ];omega
def XY {r:Rat} {n:Nat} (h:(aU r).size<=n):r.num.natAbs<10^n/\r.den<10^n:=by
 have hb:aq (aU r)=Lib.itoa r.num++(if r.den=1 then []else 47::Lib.decDigits r.den):=by
  unfold aU;by_cases h1:r.den=1
  .rw [if_pos h1,if_pos h1,List.append_nil];exact jk _
  .rw [if_neg h1,if_neg h1,<-Dec.oH]
 rw [cK,hb,cW,pY]at h;have hl:(Lib.decDigits r.num.natAbs).length<=(if decide (r.num<0)then 45::Lib.decDigits r.num.natAbs else Lib.decDigits r.num.natAbs).length:=by split<;>simp
 refine⟨mr _ _ ω, ?_⟩;by_cases h1:r.den=1
 .rw [h1];cases n with
  |zero=>have:=tk r.num.natAbs;omega
  |succ n=>exact Nat.one_lt_pow ω δ
 .rw [if_neg h1,List.length_cons]at h;exact mr _ _ ω
structure XZ (a:AT) (r:Rat):Prop where
 tx:a=aU r
 n:r.num.natAbs<1000000000000000000000000
 d:r.den<1000000000000000000000000
 fr:dr a=true
 qr:QR 2 (aX a) r
 q:toQ a=r
 i:fX 3 r
def aqz {r:Rat} (h:(aU r).size<=24):XZ (aU r) r:=by
 have e:(10:Nat)^24=1000000000000000000000000:=by decide
 obtain⟨h1,h2⟩:=XY h;rw [e]at h1 h2;have i:fX 3 r:=⟨by have:(1000000000:Int)^3=1000000000000000000000000000:=δ;omega,by have:(1000000000:Int)^3=1000000000000000000000000000:=δ;omega⟩;have e2:(18446744073709551616:Int)^2=340282366920938463463374607431768211456:=by decide
 obtain⟨f1,f2⟩:=Wp (n:=2) (r:=r) δ δ (jC ω).1 (jC ω).1 ω;exact⟨rfl,h1,h2,f1,f2,lf (k:=3) δ i,i⟩
def Bu {a:AT} (hs:a.size<=24) (hc:ckR a=0):XZ a (toQ a):=by
 obtain⟨r,k,rfl,_,_⟩:=Pn hc;have h:=aqz hs;rw [h.q];exact h
def X0:=k_a Tryz.f87
def Ib:=k_a Tryz.f86
def X1:=k_a Tryz.f29
def Pq:=k_a Tryz.f43
def X2:=a8 [A8]
def wX (s:AT):Bool:=decide (((bk (aq s):Nat):Int)=(s.size:Int))
def aqA (s:AT) (h1:s.size<=1000000000) (h2:((↑(bk s.data.toList):Int)==(s.size:Int))=(wX s)):
  bf X2 (fl X0 []) 9 8 [sv s] 1 Tryz.f87 true (bv (wX s)):=
 wy [ah h1,ax h2] 129
def X3:=IN 87 [.str] [.bool] true (fun d=>decide (d.1.size<=1000000000)) fun d=>(wX d.1,())
def Ic:=a8 [HN]
def aqB (s:AT) (h1:jL s<0) (h2:Int.toNat 1<=s.size) (h3:(s.extract (Int.toNat 1) s.size)=(s.extract 1 s.size)):
  bf Ic (fl Ib []) 9 14 [sv s] 3 Tryz.f86 true (sv (s.extract 1 s.size)):=
 wy [ah h1,ah h2,ah (by omega:s.size<=s.size),ax h3] 4345823296
def aqC (s:AT) (h1:¬jL s<0) (h2:jL s=0):
  bf Ic (fl Ib []) 9 14 [sv s] 6 Tryz.f86 true (sv s):=
 wy [aK h1,cT h2] 524352
def aqD (s:AT) (h1:¬jL s<0) (h2:¬jL s=0) (h3:(ByteArray.mk #[45]).size+s.size<=9223372036854775807):
  bf Ic (fl Ib []) 9 14 [sv s] 4 Tryz.f86 true (sv (ByteArray.mk #[45]++s)):=
 wy [aK h1,yn h2,ah h3] 50856000
noncomputable def Ef (s:AT):AT:=aU (-toQ s)
def X4:=IN 86 [.str] [.str] true (fun d=>isQ d.1) fun d=>(Ef d.1,())
def X5:=a8 [X4,WR]
noncomputable def p0 (s t:AT):AT:=aU (toQ s-toQ t)
def aqE (s t:AT) (h1:(isQ t)=true) (h2:(isQ s&&isQ (Ef t))=true):
  bf X5 (fl X1 []) 9 9 [sv s,sv t] 1 Tryz.f29 true (sv (aU (toQ s+toQ (Ef t)))):=
 wy [aa h1,aa h2] 129
def Ie:=IN 29 [.str, .str] [.str] true (fun d=>isQ d.1&&isQ d.2.1) fun d=>(p0 d.1 d.2.1,())
def Pr:=a8 [X3,HD,UO,HB]
def aqF (s:AT) (h1:s.size<=1000000000) (h2:(wX s)=true):
  bf Pr (fl Pq []) 9 17 [sv s] 3 Tryz.f43 true (sv s):=
 wy [ah h1,aa h2] 129
def aqG (s:AT) (h1:s.size<=1000000000) (h2:(wX s)=false) (h3:(jg s)=true) (h4:(okZ (mkR (ptN s))&&(okZ (mkR (ptD s))&&decide (0<vZ (mkR (ptD s)))))=true) (h5:(okZ (mkR (vZ (mkR (ptN s))/vZ (mkR (ptD s)))))=true):
  bf Pr (fl Pq []) 9 17 [sv s] 2 Tryz.f43 true (sv (bm (vZ (mkR (vZ (mkR (ptN s))/vZ (mkR (ptD s))))))):=
 wy [ah h1,aa h2,aa h3,aa h4,aa h5] 84947073
noncomputable def Pt (s:AT):AT:=aU ((toQ s).floor:Rat)
def aqH:=IN 43 [.str] [.str] true (fun d=>isQ d.1) fun d=>(Pt d.1,())
end
set_option maxHeartbeats 1000000
noncomputable section
def aqI {x y:Int} (hy:0<y): -x/y=if x%y=0 then-(x/y)else-(x/y+1):=by
 have a:=dM x (show y≠0 by omega);have b:=er x hy;have e:=Int.mul_ediv_add_emod x y;split
 .rename_i h;refine((Int.ediv_emod_unique (r:=0) hy).2 ⟨?_,Int.le_refl _,hy⟩).1;rw [Int.mul_neg];omega
 .rename_i h;refine((Int.ediv_emod_unique (r:=y-x%y) hy).2 ⟨?_,by omega,by omega⟩).1;rw [Int.mul_neg,Int.mul_add,Int.mul_one];omega
def aqJ:UO.Ok prog:=fun⟨⟨n,x⟩,⟨m,y⟩,_⟩ h=>by
 have h:(okZ (n,x)&&(okZ (m,y)&&decide (0<vZ (m,y))))=true:=h;rw [ae,ae,bA]at h;obtain⟨h1,h2,h3⟩:=h;obtain⟨g1,g2⟩:=eI.1 h1;obtain⟨g3,g4⟩:=eI.1 h2;have g1:okA x=true:=g1;have g3:okA y=true:=g3;have hm:m=false:=by
  cases m with
  |false=>rfl
  |true=>have:0<ag y:=g4 rfl;have:0< -ag y:=h3;omega
 subst hm;have hy:0<ag y:=h3;obtain⟨X6,xt,xl⟩:=fk.1 g1;have hx0:=gD X6;have hxl:ag x<1000000000^x.length:=fK δ X6;have j4:0<=ag x/ag y:=Int.ediv_nonneg hx0 ω;have hq1:ag x/ag y<=ag x:=Int.ediv_le_self _ hx0;have qH:=dM (ag x) (show ag y≠0 by omega);have aqK:okA (aG (ag x/ag y))=true:=Dx j4 ω xl;have X7:okB (aG (ag x/ag y))=true:=md j4 (k:=x.length) ω ω;have hp:(okA x&&(okA y&&decide ((0:Int)<ag y)))=true:=by rw [g1,g3,ay hy];rfl
 have eq:=(gx j4).2.2;show Holds prog false 97 [rv (n,x),rv (false,y)] (rv (mkR (bn n (ag x)/ag y)));refine bL (c:=G2) func97 rfl rfl fun w F=> ?_
 cases n with
 |false=>
  have key:=ajZ x y hp X7;rw [eq]at key;exact bg uD 9 key
 |true=>
  show cg _ _ _ _ _ _ _ _ (gZ _ _ _ (rv (mkR (-ag x/ag y))));rw [aqI hy];by_cases hz:ag x%ag y=0
  .rw [if_pos hz];have key:=ajY x y hp (by rw [hz,(Az (Int.le_refl 0)).2 rfl];decide) X7;rw [eq]at key;exact bg uD 9 key
  .rw [if_neg hz];have hne:((aG (ag x%ag y)).length:Int)>0:=D8 fun e=>hz ((Az qH).1 e)
   have e1:ag [1]=1:=r0 _ _;have Hy:=dD (b:=1000000000) δ x.length;have key:=ajX x y hp hne (by unfold v6;rw [aqK];rfl) (md (k:=x.length+1) (by rw [eq,e1];omega) (by rw [eq,e1,Int.pow_succ];omega) ω);rw [eq,e1,(gx (show 0<=ag x/ag y+1 by omega)).2.2]at key;exact bg uD 9 key
def fO (r:Rat):List UInt8:=if r.den=1 then []else 47::Lib.decDigits r.den
def Bv (r:Rat):aq (aU r)=(if decide (r.num<0)then 45::(Lib.decDigits r.num.natAbs++fO r)else Lib.decDigits r.num.natAbs++fO r):=by
 have e:aq (aU r)=Lib.itoa r.num++fO r:=by
  unfold aU fO;by_cases h1:r.den=1
  .rw [if_pos h1,if_pos h1,List.append_nil];exact jk _
  .rw [if_neg h1,if_neg h1,<-Dec.oH]
 rw [e,pY];by_cases hn:r.num<0
 .rw [ay hn];rfl
 .rw [ab hn];rfl
def Ig {r:Rat} (h:r.num<0):aq (aU r)=45::(Lib.decDigits r.num.natAbs++fO r):=by rw [Bv,ay h];rfl
def Ih {r:Rat} (h:¬r.num<0):aq (aU r)=Lib.decDigits r.num.natAbs++fO r:=by rw [Bv,ab h];rfl
def aqL:aU 0=ByteArray.mk #[48]:=by
 refine fN ?_;show aq (aU 0)=_;rw [Ih δ];show Lib.decDigits 0++fO 0=[48];rw [mN δ];unfold fO;rw [if_pos δ];rfl
def Pu (r:Rat):jL (aU r)=if r<0 then-1 else if r=0 then 0 else 1:=by
 by_cases h1:r<0
 .have hn:=DL.2 h1;have hb:=Ig hn;rw [if_pos h1];unfold jL;have hne:aU r≠ByteArray.mk #[48]:=fun e=>by
   rw [e]at hb;have:(48:UInt8)=45:=(List.cons.inj hb).1;cases this
  rw [if_neg hne,if_pos];refine⟨by rw [cK,hb];simp, ?_⟩;show((aq (aU r)).getD 0 0).toNat=45;rw [hb];rfl
 .rw [if_neg h1];have hn:¬r.num<0:=fun h=>h1 (DL.1 h)
  by_cases h0:r=0
  .rw [if_pos h0,h0,aqL];unfold jL;rw [if_pos rfl]
  .rw [if_neg h0];have hnz:r.num≠0:=fun e=>h0 (Rat.num_eq_zero.1 e)
   have hb:=Ih hn;have hd:=HK r.num.natAbs;obtain⟨k1,k2⟩:=HL (R:=fO r) hd (ld r.num.natAbs);unfold jL;have hne:aU r≠ByteArray.mk #[48]:=fun e=>by
    rw [e]at hb;have hb:[48]=Lib.decDigits r.num.natAbs++fO r:=hb;cases hq:Lib.decDigits r.num.natAbs with
    |nil=>exact hd hq
    |cons b t=>
     rw [hq]at hb;have:=Dec.amS r.num.natAbs ω b t hq;rw [<-(List.cons.inj hb).1]at this;exact this rfl
   rw [if_neg hne,if_neg];rintro⟨_,hq⟩;have hq:((aq (aU r)).getD 0 0).toNat=45:=hq;rw [hb]at hq;exact k2 hq
def X8 {r:Rat} (h:r.num<0):(aU r).extract 1 (aU r).size=aU (-r):=by
 refine fN ?_;rw [NS];show(aq (aU r)).drop 1=aq (aU (-r));rw [Ig h,Ih (show¬(-r).num<0 by rw [Rat.neg_num];omega)];unfold fO;rw [Rat.neg_num,Rat.neg_den,Int.natAbs_neg];rfl
def aqM {r:Rat} (h:0<r.num):ByteArray.mk #[45]++aU r=aU (-r):=by
 refine fN ?_;rw [dq];show [45]++aq (aU r)=aq (aU (-r));rw [Ih ω,Ig (show(-r).num<0 by rw [Rat.neg_num];omega)];unfold fO;rw [Rat.neg_num,Rat.neg_den,Int.natAbs_neg];rfl
def X9 {k:Nat} {r:Rat} (h:fX k r):fX k (-r):=by
 obtain⟨h1,h2⟩:=h;exact⟨by rw [Rat.neg_num,Int.natAbs_neg];exact h1,by rw [Rat.neg_den];exact h2⟩
def Pv:bD prog (bF Ic):=qK OJ
def Ya {k:Nat} {r:Rat} (hk:k<=10000) (h:fX k r):(aU r).size<=1000000:=by
 have l1:=vy h.1;have l2:=vy h.2;rw [cK,Bv];have:(fO r).length<=9*k+2:=by unfold fO;split<;>simp;omega
 split
 .rw [List.length_cons,cW];omega
 .rw [cW];omega
def aqN:X4.Ok prog:=fun⟨s,_⟩ h=>by
 obtain⟨r,k,rfl,hk,hi⟩:=oI.1 h;have hz:=Ya hk hi;have hs:=Pu r;show Holds prog true 86 [sv (aU r)] (sv (aU (-toQ (aU r))));rw [lf hk hi];refine bL (c:=Ib) func86 rfl rfl fun w F=> ?_
 by_cases h1:r<0
 .rw [if_pos h1]at hs;have hn:=DL.2 h1;have hb:=Ig hn;have key:=aqB (aU r) ω (by rw [cK,hb];show 1<=_;simp) rfl;rw [X8 hn]at key;exact bg Pv 9 key
 .rw [if_neg h1]at hs;by_cases h0:r=0
  .rw [if_pos h0]at hs;rw [h0,show(-0:Rat)=0 from rfl];rw [h0]at hs;exact bg Pv 9 (aqC (aU 0) ω hs)
  .rw [if_neg h0]at hs;have hn:¬r.num<0:=fun h=>h1 (DL.1 h)
   have hnz:r.num≠0:=fun e=>h0 (Rat.num_eq_zero.1 e)
   have dx:(ByteArray.mk #[45]).size=1:=rfl;have key:=aqD (aU r) ω ω (by rw [dx];omega);rw [aqM ω]at key;exact bg Pv 9 key
def aqO:bD prog (bF X5):=cM (aP aqN (aP WV dV))
def Pw:Ie.Ok prog:=fun⟨s,t,_⟩ h=>by
 have h:(isQ s&&isQ t)=true:=h;rw [ae]at h;obtain⟨r,k,rfl,hk,hi⟩:=oI.1 h.2;have e:Ef (aU r)=aU (-r):=by unfold Ef;rw [lf hk hi]
 have key:=aqE s (aU r) h.2 (by rw [h.1,e,y6 hk (X9 hi)];rfl);rw [e,lf hk (X9 hi)]at key;show Holds prog true 29 [sv s,sv (aU r)] (sv (aU (toQ s-toQ (aU r))));rw [lf hk hi,Rat.sub_eq_add_neg];refine bL (c:=X1) func29 rfl rfl fun w F=> ?_
 exact bg aqO 9 key
def aqP:bD prog (bF X2):=qK Dy
def aqQ:X3.Ok prog:=fun⟨s,_⟩ h=>by
 have hs:s.size<=1000000000:=ap h;show Holds prog true 87 [sv s] (bv (wX s));refine bL (c:=X0) func87 rfl rfl fun w F=> ?_
 exact bg aqP 9 (aqA s hs rfl)
def aqR (r:Rat):wX (aU r)=decide (r.den=1):=by
 unfold wX;refine decide_eq_decide.2 ?_;have pW:bk (Lib.decDigits r.num.natAbs++fO r)=(Lib.decDigits r.num.natAbs).length:=by
  unfold fO;split
  .rw [List.append_nil];exact Dz _ (ld _)
  .exact DA _ _ (ld _)
 rw [cK,Bv,rx,pW];have hl:(if decide (r.num<0)then 45::(Lib.decDigits r.num.natAbs++fO r)else Lib.decDigits r.num.natAbs++fO r).length=(Lib.decDigits r.num.natAbs).length+(fO r).length+(if decide (r.num<0)then 1 else 0):=by
  split
  .rw [List.length_cons,cW]
  .rw [cW];rfl
 rw [hl];unfold fO;by_cases h:r.den=1
 .rw [if_pos h];simp [h]
 .rw [if_neg h,List.length_cons];constructor
  .intro e;omega
  .intro e;exact absurd e h
def Yb:bD prog (bF Pr):=cM (aP aqQ (aP Oq (aP aqJ (aP Oi dV))))
def aqS (r:Rat):(r.num/(r.den:Int)).natAbs<=r.num.natAbs+1:=by
 have hd:=r.den_pos;have e:=Int.mul_ediv_add_emod r.num r.den;have a:=dM r.num (show(r.den:Int)≠0 by omega);have b:=er r.num (show(0:Int)<r.den by omega);by_cases hn:0<=r.num
 .have h3:=Int.ediv_nonneg hn (show(0:Int)<=r.den by omega);have h4:=Int.ediv_le_self (r.den:Int) hn;omega
 .have h3:=Int.ediv_neg_of_neg_of_pos (show r.num<0 by omega) (show(0:Int)<r.den by omega);have h4:=dZ (show(1:Int)<=r.den by omega) (show 0<= -(r.num/r.den)-1 by omega);rw [Int.mul_one,Int.sub_mul,Int.neg_mul,Int.mul_comm (r.num/r.den) r.den,Int.one_mul]at h4;omega
attribute [local irreducible] mkR vZ okZ aU jg kd qB ptN ptD okA
def aqT:aqH.Ok prog:=fun⟨s,_⟩ h=>by
 obtain⟨r,k,rfl,hk,hi⟩:=oI.1 h;have hz:=Ya hk hi;have G:=uP hk hi;have hw:=aqR r;show Holds prog true 43 [sv (aU r)] (sv (aU ((toQ (aU r)).floor:Rat)));rw [lf hk hi];refine bL (c:=Pq) func43 rfl rfl fun w F=> ?_
 by_cases h1:r.den=1
 .rw [ay h1]at hw;have e:((r.floor:Int):Rat)=r:=by
   have e1:=aqt r;rw [Rat.floor_def,h1];rw [h1]at e1;show((r.num/1:Int):Rat)=r;rw [Int.ediv_one];have:(((1:Nat):Int):Rat)=1:=rfl;rw [this]at e1;grind
  rw [e];exact bg Yb 9 (aqF (aU r) ω hw)
 .rw [ab h1]at hw;have hd:=r.den_pos;have uQ:okZ (mkR r.num)=true:=hM hi.1 ω;have y9:okZ (mkR (r.den:Int))=true:=hM (k:=k) (by have:=hi.2;omega) ω;have hb:((r.num/(r.den:Int)).natAbs:Int)<1000000000^(k+1):=by
   have h2:=aqS r;have h5:=hi.1;have h6:=dD (b:=1000000000) δ k;rw [Int.pow_succ];omega
  have key:=aqG (aU r) ω hw G.pt;rw [G.n,G.d,di,di,di]at key;have e:bm (r.num/(r.den:Int))=aU ((r.floor:Int):Rat):=by
   rw [Rat.floor_def];unfold aU;rw [if_pos (Rat.den_intCast _),Rat.num_intCast]
  rw [e]at key;exact bg Yb 9 (key (by rw [uQ,y9,ay (show(0:Int)<(r.den:Int) by omega)];rfl) (hM hb ω))
end
end
section
open Go.RowKit Sv Go.Proofs.Tryz
noncomputable section
def Yc:=k_a Tryz.f33
noncomputable def fj (a b:AT):Int:=jL (p0 a b)
def Yd:=a8 [Ie,HN]
def Ii:=IN 33 [.str, .str] [.int .i64] true (fun d=>isQ d.1&&isQ d.2.1) fun d=>(fj d.1 d.2.1,())
def aqU (a b:AT) (h1:(isQ a&&isQ b)=true) (h2:(jL (p0 a b))=(fj a b)):
  bf Yd (fl Yc []) 3 9 [sv a,sv b] 1 Tryz.f33 true (iv (fj a b)):=
 wy [aa h1,ax h2] 8193
def aqV:bD prog (bF Yd):=cM (aP Pw (aP OJ dV))
def Px:Ii.Ok prog:=fun⟨a,b,_⟩ h=>by
 have h:(isQ a&&isQ b)=true:=h;show Holds prog true 33 [sv a,sv b] (iv (fj a b));refine bL (c:=Yc) func33 rfl rfl fun w F=> ?_
 exact bg aqV 3 (aqU a b h rfl)
def Py {k m:Nat} {r s:Rat} (hk:k<=10000) (hm:m<=10000) (h:fX k r) (g:fX m s):fj (aU r) (aU s)=if r-s<0 then-1 else if r-s=0 then 0 else 1:=by
 unfold fj p0;rw [lf hk h,lf hm g];exact Pu _
end
set_option maxHeartbeats 4000000
noncomputable section
noncomputable def ol (a b:AT):AT:=aU (toQ a*toQ b)
noncomputable def Bw (a b:AT):AT:=aU (toQ a/toQ b)
noncomputable def iT (n:Int):AT:=aU (n:Rat)
noncomputable def zh (a:AT):AT:=Pt a
def aqW:=IN 15 [.str, .str] [.str] true (fun d=>isQ d.1&&isQ d.2.1) fun d=>(ol d.1 d.2.1,())
def aqX:=IN 17 [.str, .str] [.str] true (fun d=>isQ d.1&&(isQ d.2.1&& !(ptN d.2.1==0))) fun d=>(Bw d.1 d.2.1,())
def aqY:=IN 16 [.int .i64] [.str] true (fun d=>decide (-9223372036854775808<=d.1)&&decide (d.1<=9223372036854775807)) fun d=>(iT d.1,())
def aqZ:=IN 43 [.str] [.str] true (fun d=>isQ d.1) fun d=>(zh d.1,())
abbrev Ik (lo hi:AT):fE:= .blk (.cells 54 [sv lo,sv hi] true false false)
abbrev Bx:Sv.Ren:=[(64,64,none),(65,65,none)]
end
end
structure mQ (N D M p q r s:Int):Prop where
 wY:r*q-p*s=1
 q1:1<=q
 s1:1<=s
 oJ:q<=M
 oK:s<=M
 lo:0<N*q-p*D
 hi:0<r*D-N*s
 nB:N/D*q<=p
 br:r<=(N/D+1)*s
def aq0 {D N:Int} (hD:1<D) (hg:Int.gcd N D=1):¬D∣N:=fun h=>by
 have h1:D∣((Int.gcd N D:Nat):Int):=Int.dvd_coe_gcd h (Int.dvd_refl D);rw [hg]at h1;have:=Int.le_of_dvd δ h1;omega
def Ye {D N q:Int} (hg:Int.gcd N D=1) (h:D∣N*q):D∣q:=
 Int.natAbs_dvd_natAbs.1 (Nat.Coprime.dvd_of_dvd_mul_left (show Nat.gcd D.natAbs N.natAbs=1 by rw [Nat.gcd_comm];exact hg) (by rw [<-Int.natAbs_mul];exact Int.natAbs_dvd_natAbs.2 h))
def aq1 {N D M:Int} (dY:1<=M) (hD:M<D) (hg:Int.gcd N D=1):mQ N D M (N/D) 1 (N/D+1) 1:=by
 have h1:=Int.mul_ediv_add_emod N D;have h2:=dM N (show D≠0 by omega);have h3:=er N (show 0<D by omega);have h4:N%D≠0:=fun e=>aq0 ω hg (Int.dvd_of_emod_eq_zero e)
 have e1:N/D*D=D*(N/D):=Int.mul_comm ..;have e2:(N/D+1)*D=D*(N/D)+D:=by rw [Int.add_mul,e1,Int.one_mul]
 refine⟨?_,by omega,by omega,dY,dY, ?_, ?_, ?_, ?_⟩
 .rw [Int.mul_one,Int.mul_one];omega
 .rw [Int.mul_one,e1];omega
 .rw [Int.mul_one,e2];omega
 .rw [Int.mul_one];exact Int.le_refl _
 .rw [Int.mul_one];exact Int.le_refl _
def Pz {N D M p q r s:Int} (h:mQ N D M p q r s) (hD:1<=D):N/D*s<r/\p<(N/D+1)*q:=by
 have h1:=Int.mul_ediv_add_emod N D;have h2:=dM N (show D≠0 by omega);have h3:=er N (show 0<D by omega);have hq:=h.q1;have hs:=h.s1;have lo:=h.lo;have hi:=h.hi;constructor
 .refine Int.lt_of_mul_lt_mul_right (a:=D) ?_ ω;have e:N/D*s*D=(D*(N/D))*s:=by grind
  have h4:(D*(N/D))*s<=N*s:=ar ω ω;rw [e];omega
 .refine Int.lt_of_mul_lt_mul_right (a:=D) ?_ ω;have e:(N/D+1)*q*D=(D*(N/D)+D)*q:=by grind
  have h4:N*q<=(D*(N/D)+D)*q:=ar ω ω;rw [e];omega
section
variable {N D M p q r s k:Int} (h:mQ N D M p q r s)
def aq2 (dY:1<=M) (hD:M<D) (hg:Int.gcd N D=1) (k0:0<=k) (k1:k*(r*D-N*s)<=N*q-p*D) (k2:k*s<=M-q):mQ N D M (p+k*r) (q+k*s) r s:=by
 obtain⟨f1,f2⟩:=Pz h ω;have hq:=h.q1;have hs:=h.s1;have ks:0<=k*s:=Int.mul_nonneg k0 ω;have e1:N*(q+k*s)-(p+k*r)*D=(N*q-p*D)-k*(r*D-N*s):=by grind
 have e2:N/D*(q+k*s)=N/D*q+k*(N/D*s):=by grind
 have e3:k*(N/D*s)<=k*r:=dZ ω k0;have nB:=h.nB;refine⟨?_,by omega,hs,by omega,h.oK, ?_,h.hi,by omega,h.br⟩
 .have:=h.wY;have e:r*(q+k*s)-(p+k*r)*s=r*q-p*s:=by grind
  omega
 .rcases Int.lt_or_le 0 (N*(q+k*s)-(p+k*r)*D)with g|g
  .exact g
  .exfalso;have hz:N*(q+k*s)=(p+k*r)*D:=by omega
   have hd:D∣q+k*s:=Ye hg ⟨p+k*r,by rw [hz,Int.mul_comm]⟩;have:=Int.le_of_dvd ω hd;omega
def aq3 (dY:1<=M) (hD:M<D) (hg:Int.gcd N D=1) (k0:0<=k) (k1:k*(N*q-p*D)<=r*D-N*s) (k2:k*q<=M-s):mQ N D M p q (r+k*p) (s+k*q):=by
 obtain⟨f1,f2⟩:=Pz h ω;have hq:=h.q1;have hs:=h.s1;have ks:0<=k*q:=Int.mul_nonneg k0 ω;have e1:(r+k*p)*D-N*(s+k*q)=(r*D-N*s)-k*(N*q-p*D):=by grind
 have e2:(N/D+1)*(s+k*q)=(N/D+1)*s+k*((N/D+1)*q):=by grind
 have e3:k*p<=k*((N/D+1)*q):=dZ ω k0;have br:=h.br;refine⟨?_,hq,by omega,h.oJ,by omega,h.lo, ?_,h.nB,by omega⟩
 .have:=h.wY;have e:(r+k*p)*q-p*(s+k*q)=r*q-p*s:=by grind
  omega
 .rcases Int.lt_or_le 0 ((r+k*p)*D-N*(s+k*q))with g|g
  .exact g
  .exfalso;have hz:N*(s+k*q)=(r+k*p)*D:=by omega
   have hd:D∣s+k*q:=Ye hg ⟨r+k*p,by rw [hz,Int.mul_comm]⟩;have:=Int.le_of_dvd ω hd;omega
end
def kE (a b c d:Int):Int:=if c/d<a/b then c/d else a/b
def tm {a b c d:Int} (ha:0<=a) (hb:0<b) (hc:0<=c) (hd:0<d):0<=kE a b c d/\kE a b c d*b<=a/\kE a b c d*d<=c:=by
 have a1:=Int.ediv_mul_le a (show b≠0 by omega);have c1:=Int.ediv_mul_le c (show d≠0 by omega);have a0:0<=a/b:=Int.ediv_nonneg ha ω;have c0:0<=c/d:=Int.ediv_nonneg hc ω;unfold kE;split
 .exact⟨c0,Int.le_trans (ar ω ω) a1,c1⟩
 .exact⟨a0,a1,Int.le_trans (ar ω ω) c1⟩
def Yf {a b c d:Int} (hb:0<b) (hd:0<d) (h1:b<=a) (h2:d<=c):1<=kE a b c d:=by
 have a0:1<=a/b:=(Int.le_ediv_iff_mul_le hb).2 ω;have c0:1<=c/d:=(Int.le_ediv_iff_mul_le hd).2 ω;unfold kE;split<;>omega
structure ru where
 (p q r s:Int)
section
variable (N D M:Int) (x:ru)
def gm:ru:=⟨x.p+kE (N*x.q-x.p*D) (x.r*D-N*x.s) (M-x.q) x.s*x.r,x.q+kE (N*x.q-x.p*D) (x.r*D-N*x.s) (M-x.q) x.s*x.s,x.r,x.s⟩
def wZ:ru:=⟨x.p,x.q,x.r+kE (x.r*D-N*x.s) (N*x.q-x.p*D) (M-x.s) x.q*x.p,x.s+kE (x.r*D-N*x.s) (N*x.q-x.p*D) (M-x.s) x.q*x.q⟩
abbrev Eg:Prop:=mQ N D M x.p x.q x.r x.s
end
section
variable {N D M:Int} {x:ru} (h:Eg N D M x) (dY:1<=M) (hD:M<D) (hg:Int.gcd N D=1)
def Yg:Eg N D M (gm N D M x):=by
 have:=h.oJ;obtain⟨k0,k1,k2⟩:=tm (a:=N*x.q-x.p*D) (b:=x.r*D-N*x.s) (c:=M-x.q) (d:=x.s) (cq h.lo) h.hi ω h.s1;exact aq2 h dY hD hg k0 k1 k2
def aq4:Eg N D M (wZ N D M x):=by
 have:=h.oK;obtain⟨k0,k1,k2⟩:=tm (a:=x.r*D-N*x.s) (b:=N*x.q-x.p*D) (c:=M-x.s) (d:=x.q) (cq h.hi) h.lo ω h.q1;exact aq3 h dY hD hg k0 k1 k2
def Yh (hle:x.q+x.s<=M):x.q+x.s<(wZ N D M (gm N D M x)).q+(wZ N D M (gm N D M x)).s:=by
 have hA:=Yg h dY hD hg;have oJ:=h.oJ;have hs:=h.s1;have hq:=h.q1;have lo:=h.lo;have hi:=h.hi;obtain⟨k0,k1,k2⟩:=tm (a:=N*x.q-x.p*D) (b:=x.r*D-N*x.s) (c:=M-x.q) (d:=x.s) ω hi ω ω;have au5:=hA.oK;have aq5:=hA.q1;obtain⟨m0,m1,m2⟩:=tm (a:=x.r*D-N*x.s) (b:=N*(gm N D M x).q-(gm N D M x).p*D) (c:=M-x.s) (d:=(gm N D M x).q) ω hA.lo (by have:=h.oK;omega) aq5;have e1:(wZ N D M (gm N D M x)).q=(gm N D M x).q:=rfl;have e2:(wZ N D M (gm N D M x)).s=x.s+kE (x.r*D-N*x.s) (N*(gm N D M x).q-(gm N D M x).p*D) (M-x.s) (gm N D M x).q*(gm N D M x).q:=rfl;have e3:(gm N D M x).q=x.q+kE (N*x.q-x.p*D) (x.r*D-N*x.s) (M-x.q) x.s*x.s:=rfl;have bV:(gm N D M x).p=x.p+kE (N*x.q-x.p*D) (x.r*D-N*x.s) (M-x.q) x.s*x.r:=rfl;rw [e1,e2];by_cases hc:x.r*D-N*x.s<=N*x.q-x.p*D
 .have hk:=Yf (a:=N*x.q-x.p*D) (b:=x.r*D-N*x.s) (c:=M-x.q) (d:=x.s) hi ω hc ω;have h5:1*1<=kE (N*x.q-x.p*D) (x.r*D-N*x.s) (M-x.q) x.s*x.s:=Int.mul_le_mul hk ω δ ω;have h6:=Int.mul_nonneg m0 (show 0<=(gm N D M x).q by omega);omega
 .have z:kE (N*x.q-x.p*D) (x.r*D-N*x.s) (M-x.q) x.s=0:=by
   have a0:(N*x.q-x.p*D)/(x.r*D-N*x.s)=0:=Int.ediv_eq_zero_of_lt ω ω;have c0:0<=(M-x.q)/x.s:=Int.ediv_nonneg ω ω;unfold kE;rw [a0,if_neg ω]
  have q0:(gm N D M x).q=x.q:=by rw [e3,z];omega
  have fZ:(gm N D M x).p=x.p:=by rw [bV,z];omega
  have hk:=Yf (a:=x.r*D-N*x.s) (b:=N*(gm N D M x).q-(gm N D M x).p*D) (c:=M-x.s) (d:=(gm N D M x).q) hA.lo ω (by rw [q0,fZ];omega) ω;have h5:1*1<=kE (x.r*D-N*x.s) (N*(gm N D M x).q-(gm N D M x).p*D) (M-x.s) (gm N D M x).q*(gm N D M x).q:=Int.mul_le_mul hk ω δ ω;omega
end
def aq6 {N D M p q r s n d:Int} (h:mQ N D M p q r s) (WO:M<q+s) (hd:1<=d) (au6:d<=M):n*q<=p*d\/r*d<=n*s:=by
 rcases Int.lt_or_le (p*d) (n*q)with g|g
 .rcases Int.lt_or_le (n*s) (r*d)with g2|g2
  .exfalso;have e:s*(n*q-p*d)+q*(r*d-n*s)=d*(r*q-p*s):=by grind
   rw [h.wY,Int.mul_one]at e;have hq:=h.q1;have hs:=h.s1;have a1:s*1<=s*(n*q-p*d):=dZ ω ω;have a2:q*1<=q*(r*d-n*s):=dZ ω ω;omega
  .exact Or.inr g2
 .exact Or.inl g
end Go.Proofs.YtibikmmdbdlafaaGreatDoor
