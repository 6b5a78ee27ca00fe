/- Package exact: digits, whole; the reference's CheckRow: steps. -/
import Derived.Test.YtibikmmdbdlafaaGreatDoorZxA19
import Derived.Test.YtibikmmdbdlafaaGreatDoorZxA15
import Derived.Test.YtibikmmdbdlafaaGreatDoorZxGRun
set_option linter.unusedVariables false
set_option linter.unusedSimpArgs false
set_option maxRecDepth 100000
namespace Go.Proofs.YtibikmmdbdlafaaGreatDoor
open Go.RowKit Sv Go.Proofs.Tryz
noncomputable section
noncomputable def uw:Code:=(f169.body).getD .skip
noncomputable def GK:Code:=(f120.body).getD .skip
def ol (s:ByteArray) (k:Nat):bC:={n:=22,sl:=[(0,sv s),(5,iv s.size),(6,iv k)],bG:=[],next:=64}
abbrev Dp:List Nat:=[1,0,1,0,0]
theorem anm (s:ByteArray):
  cT (a7 []) (fl uw []) 2 22 [sv s] 1 .normal [] (ol s 0):=
 wy [] 0
theorem ST (s:ByteArray) (k:Nat) (h1:(k:Int)<(s.size:Int)) (h2:k<s.size) (h3:(↑(UInt8.toNat (s.data.toList.getD k (0:UInt8))):Int)<48):
  bQ (a7 []) (fl uw Dp) (ol s k) 225 f169 true (bv false):=
 wy [ah h1,ah h2,af (bx (az h3)),ah h3] 17801616826369
theorem ann (s:ByteArray) (k:Nat) (h1:(k:Int)<(s.size:Int)) (h2:k<s.size) (h3:¬(↑(UInt8.toNat (s.data.toList.getD k (0:UInt8))):Int)<48) (h4:(↑(UInt8.toNat (s.data.toList.getD k (0:UInt8))):Int)>57):
  bQ (a7 []) (fl uw Dp) (ol s k) 223 f169 true (bv false):=
 wy [ah h1,ah h2,af (bx (ab h3)),aJ h3,ah h4] 5837518341367668737
theorem ano (s:ByteArray) (k:Nat) (h1:(k:Int)<(s.size:Int)) (h2:k<s.size) (h3:¬(↑(UInt8.toNat (s.data.toList.getD k (0:UInt8))):Int)<48) (h4:¬(↑(UInt8.toNat (s.data.toList.getD k (0:UInt8))):Int)>57) (h5:i6 ((k:Int)+1)):
  bh (a7 []) (fl uw Dp) (ol s k) 159 .normal [] (ol s (k+1)):=
 wy [ah h1,ah h2,af (bx (ab h3)),aJ h3,aJ h4,yi h5] 448559376110396907521
theorem anp (s:ByteArray) (k:Nat) (h1:¬(k:Int)<(s.size:Int)):
  bh (a7 []) (fl uw Dp) (ol s k) 2 (.exit 0) [] (ol s k):=
 wy [aJ h1] 1
theorem anq (s:ByteArray) (k:Nat):
  bQ (a7 []) ((fl uw []).drop 3) (ol s k) 1 f169 true (bv (!(decide (ak s=[])))):=
 wy [] 0
noncomputable def VQ:bn:={f:=169,ps:=[.str],rs:=[.bool],fresh:=true,pre:=fun d=>decide (d.1.size<=1000000000),fn:=fun d=>(bW (ak d.1)&&decide (0<d.1.size),())}
noncomputable def GL:bF:=a7 [VQ]
theorem anr (s:ByteArray) (h1:s.size<=1000000000) (h2:(bW s.data.toList&&decide (0<s.size))=false):
  bq GL (fl GK []) 9 14 [sv s] 32 f120 true (bv false):=
 wy [ah h1,af (aQ (h2)),af h2] 3255312513
theorem ans (s:ByteArray) (h1:s.size<=1000000000) (h2:(bW s.data.toList&&decide (0<s.size))=true) (h3:(s.data).toList=((ByteArray.mk (#[(48:UInt8)])).data).toList):
  bq GL (fl GK []) 9 14 [sv s] 967 f120 true (bv true):=
 wy [ah h1,af (aQ (h2)),af (bx (az h3)),ah h3,af h2] 91206897977794689
theorem ant (s:ByteArray) (h1:s.size<=1000000000) (h2:(bW s.data.toList&&decide (0<s.size))=true) (h3:¬(s.data).toList=((ByteArray.mk (#[(48:UInt8)])).data).toList) (h4:Int.toNat 0<s.size) (h5:((↑(UInt8.toNat (s.data.toList.getD (Int.toNat 0) (0:UInt8))):Int) != 48)=(!decide ((↑(UInt8.toNat (s.data.toList.getD 0 (0:UInt8))):Int)=48))):
  bq GL (fl GK []) 9 14 [sv s] 895 f120 true (bv (!(decide (((b5 s 0).toNat:Int)=48)))):=
 wy [ah h1,af (aQ (h2)),af (bx (ab h3)),ah h4,aJ h3,af h2,ax h5] 33505088736196987199617
noncomputable def VR:bn:={f:=120,ps:=[.str],rs:=[.bool],fresh:=true,pre:=fun d=>decide (d.1.size<=1000000000),fn:=fun d=>(cx d.1,())}
theorem anu (s:ByteArray) (hl:s.size<=1000000000):Holds prog true 169 [sv s] (bv (bW (ak s)&&decide (0<s.size))):=by
 have hS:=ba;have hz:=bd s;refine bJ (c:=uw) func169 rfl rfl fun w F=> ?_
 refine cE hS 2 (anm s) ?_;refine aR.loop (ι:={k:Nat//k<=s.size/\bW ((ak s).take k)=true}) (id:=0) (b:=cat uw Dp) (rest:=(fl uw []).drop 3) (by kernel_rfl) (fun k=>ol s k.1) (fun k=>s.size-k.1) ⟨0,Nat.zero_le _,by rw [List.take_zero];rfl⟩ (fun _=>rfl) ?_;rintro⟨k,hk,hd⟩;by_cases hlt:k<s.size
 .have hmem:b5 s k∈ak s:=by rw [yl (by omega)];exact List.getElem_mem _
  have hno:¬(48<=(b5 s k).toNat/\(b5 s k).toNat<=57)->bW (ak s)=false:=fun hn=>by
   rw [Bool.eq_false_iff];intro h;have:=List.all_eq_true.1 h _ hmem;rw [ae,bz,bz]at this;exact hn this
  by_cases h1:(b5 s k).toNat<48
  .rw [hno (by omega)];exact bT (s:=ol s k) hS (ST s k (by omega) hlt (by show((b5 s k).toNat:Int)<48;omega))
  .by_cases h2:57<(b5 s k).toNat
   .rw [hno (by omega)];exact bT (s:=ol s k) hS (ann s k (by omega) hlt (by show¬((b5 s k).toNat:Int)<48;omega) (by show((b5 s k).toNat:Int)>57;omega))
   .refine bp (s:=ol s k) hS (ano s k (by omega) hlt (by show¬((b5 s k).toNat:Int)<48;omega) (by show¬((b5 s k).toNat:Int)>57;omega) (by omega)) ?_;refine⟨⟨k+1,hlt, ?_⟩,by show s.size-(k+1)<s.size-k;omega,rfl,rfl⟩;rw [FU (by omega),Gn];refine⟨hd, ?_⟩;show bW [b5 s k]=true;rw [Av,az (by omega),az (by omega)];rfl
 .refine bp (s:=ol s k) hS (anp s k (by omega)) ?_;refine cv (cD ?_);rw [ef (by omega)]at hd;have e:(bW (ak s)&&decide (0<s.size))= !(decide (ak s=[])):=by
   rw [hd,Bool.true_and];by_cases h0:ak s=[]
   .rw [az h0,ab (by rw [bd,h0];decide)];rfl
   .rw [ab h0,az (by rw [bd];exact List.length_pos_iff.2 h0)];rfl
  rw [e];exact bT (s:=ol s k) hS (anq s k)
theorem anv:VQ.Ok prog:=fun⟨s,_⟩ h=>anu s (ap h)
theorem anw:bB prog (bD GL):=cR (aT anv dY)
theorem anx (s:ByteArray) (hl:s.size<=1000000000):Holds prog true 120 [sv s] (bv (cx s)):=by
 have hS:=anw;refine bJ (c:=GK) func120 rfl rfl fun w F=> ?_
 cases hd:bW (ak s)&&decide (0<s.size)with
 |false=>
  have e:cx s=false:=by
   rw [Bool.eq_false_iff];intro h;obtain⟨h1,h2⟩:=wk h;rw [h1,az h2]at hd;cases hd
  rw [e];exact bu hS 9 (anr s hl hd)
 |true=>
  have gy:=hd;rw [ae,bz]at gy;by_cases hz:ak s=[48]
  .have e:cx s=true:=by
    unfold cx;have h1:s.size=1:=by rw [bd,hz];rfl
    rw [gy.1,az gy.2,az (show s.size<=1 by omega)];rfl
   rw [e];exact bu hS 9 (ans s hl hd hz)
  .have e:cx s= !(decide (((b5 s 0).toNat:Int)=48)):=by
    unfold cx;rw [gy.1,az gy.2,Bool.true_and,Bool.and_true];by_cases h1:s.size<=1
    .rw [az h1,Bool.true_or];have h48:¬((b5 s 0).toNat:Int)=48:=fun h=>hz (by
      obtain⟨b,hb⟩:∃b,ak s=[b]:=List.length_eq_one_iff.1 (by rw [<-bd];omega);have h2:(b.toNat:Int)=48:=by
       have h3:(((ak s).getD 0 0).toNat:Int)=48:=h;rw [hb]at h3;exact h3
      rw [hb];congr 1;exact UInt8.toNat_inj.1 (by show b.toNat=48;omega))
     rw [ab h48];rfl
    .rw [ab h1,Bool.false_or];congr 1;by_cases h4:(b5 s 0).toNat=48
     .rw [az h4,az (by omega)]
     .rw [ab h4,ab (by omega)]
   rw [e];exact bu hS 9 (ant s hl hd hz (by show 0<s.size;exact gy.2) rfl)
theorem anz:VR.Ok prog:=fun⟨s,_⟩ h=>anx s (ap h)
attribute [local irreducible] ckR
end
end Go.Proofs.YtibikmmdbdlafaaGreatDoor
/- Package exact: Check: the sign is cut off; the steps. -/
namespace Go.Proofs.YtibikmmdbdlafaaGreatDoor
open Go.RowKit Sv Go.Proofs.Tryz
noncomputable section
noncomputable def Nn:Code:=(f218.body).getD .skip
noncomputable def Np:Code:=(f168.body).getD .skip
noncomputable def VS:Code:=(f119.body).getD .skip
theorem anA (s:ByteArray) (h1:¬(s.size:Int)>=(↑(ByteArray.mk (#[(45:UInt8)])).size:Int)):
  bq (a7 []) (fl Nn []) 9 18 [sv s,sv e4] 128 f218 true (bv false):=
 wy [af (aQ (ab h1)),aJ h1] 138529738817
theorem anB (s:ByteArray) (h1:(s.size:Int)>=(↑(ByteArray.mk (#[(45:UInt8)])).size:Int)) (h2:(ByteArray.mk (#[(45:UInt8)])).size<=s.size) (h3:(decide ((s.extract 0 (ByteArray.mk (#[(45:UInt8)])).size).data.toList=((ByteArray.mk (#[(45:UInt8)])).data).toList))=(bX s)):
  bq (a7 []) (fl Nn []) 9 18 [sv s,sv e4] 255 f218 true (bv (bX s)):=
 wy [af (aQ (az h1)),ah h2,ah h1,ax h3] 4666015224418275393
noncomputable def GM:bn:={f:=218,ps:=[.str, .str],rs:=[.bool],fresh:=true,pre:=fun d=>decide (d.2.1=e4),fn:=fun d=>(bX d.1,())}
noncomputable def Nq:bn:={f:=168,ps:=[.str, .str],rs:=[.str, .bool],fresh:=true,pre:=fun d=>decide (d.2.1=e4),fn:=fun d=>(bO d.1,bX d.1,())}
noncomputable def VT:bn:={f:=119,ps:=[.str, .str],rs:=[.str, .bool],fresh:=true,pre:=fun d=>decide (d.2.1=e4),fn:=fun d=>(bO d.1,bX d.1,())}
theorem anC (s:ByteArray) (h1:(ByteArray.mk (#[(45:UInt8)]))=(ByteArray.mk (#[(45:UInt8)]))) (h2:(bX s)=false):
  bq (a7 [GM]) (fl Np []) 9 15 [sv s,sv e4] 3 f168 true (.tuple [sv s,bv false]):=
 wy [ah h1,af (cm (h2))] 129
theorem anD (s:ByteArray) (h1:(ByteArray.mk (#[(45:UInt8)]))=(ByteArray.mk (#[(45:UInt8)]))) (h2:(bX s)=true) (h3:(ByteArray.mk (#[(45:UInt8)])).size<=s.size) (h4:(s.extract (ByteArray.mk (#[(45:UInt8)])).size s.size)=(s.extract 1 s.size)):
  bq (a7 [GM]) (fl Np []) 9 15 [sv s,sv e4] 2 f168 true (.tuple [sv (s.extract 1 s.size),bv true]):=
 wy [ah h1,af (cm (h2)),ah h3,ah (by omega:s.size<=s.size),ax h4] 5436604545
theorem anE (s:ByteArray) (h1:(ByteArray.mk (#[(45:UInt8)]))=(ByteArray.mk (#[(45:UInt8)]))):
  bq (a7 [Nq]) (fl VS []) 9 11 [sv s,sv e4] 1 f119 true (.tuple [sv (bO s),bv (bX s)]):=
 wy [ah h1] 1
noncomputable def Nr:Code:=(f123.body).getD .skip
theorem anF (z:Int):
  bq (a7 []) (fl Nr []) 9 (f123.ntmps) [aH (z,[])] 1 f123 true (.tuple [iv z,bv true]):=
 wy [af (aW (v:=iv (z)) (by kernel_rfl)),af (aW (v:=aa.bk true aB []) (by kernel_rfl))] 129
theorem anG (z x:Int) (r:List Int) (h1:(x::r).isEmpty=false):
  bq (a7 []) (fl Nr []) 9 (f123.ntmps) [aH (z,x::r)] 1 f123 true (.tuple [iv z,bv false]):=
 wy [af (aW (v:=iv (z)) (by kernel_rfl)),af (aW (v:=aa.bk true aB (x::r)) (by kernel_rfl)),ax (aQ (h1))] 786561
theorem anH (s:ByteArray):Holds prog true 218 [sv s,sv e4] (bv (bX s)):=by
 have dD:(ByteArray.mk (#[(45:UInt8)])).size=1:=rfl;refine bJ (c:=Nn) func218 rfl rfl fun w F=> ?_
 by_cases h0:0<s.size
 .refine bu ba 9 (anB s (by rw [dD];omega) (by rw [dD];omega) ?_);rw [dD,show Array.toList (s.extract 0 1).data=(ak s).take 1 from by rw [show Array.toList (s.extract 0 1).data=ak (s.extract 0 1)from rfl,lK,List.drop_zero]];show decide ((ak s).take 1=[45])=bX s;unfold bX;rw [az h0,Bool.true_and];cases hb:ak s with
  |nil=>rw [bd,hb]at h0;cases h0
  |cons b r=>
   have e0:b5 s 0=b:=by show(ak s).getD 0 0=b;rw [hb];rfl
   rw [e0];show decide ([b]=[45])=_;by_cases h:b.toNat=45
   .have:b=45:=UInt8.toNat_inj.1 h;subst this;rfl
   .rw [ab h,ab (fun e=>h (by rw [(List.cons.inj e).1];rfl))]
 .have e:bX s=false:=by unfold bX;rw [ab h0];rfl
  rw [e];exact bu ba 9 (anA s (by rw [dD];omega))
theorem anI:GM.Ok prog:=fun⟨s,p,_⟩ h=>by
 have h:decide (p=e4)=true:=h;rw [ap h];exact anH s
theorem anJ (s:ByteArray):Holds prog true 168 [sv s,sv e4] (.tuple [sv (bO s),bv (bX s)]):=by
 have hS:bB prog (bD (a7 [GM])):=cR fun c hc=>by rw [List.mem_singleton.1 hc];exact anI
 refine bJ (c:=Np) func168 rfl rfl fun w F=> ?_
 cases hn:bX s with
 |true=>
  have e:bO s=s.extract 1 s.size:=by unfold bO;rw [hn]
  have h0:0<s.size:=by unfold bX at hn;rw [ae,bz]at hn;exact hn.1
  rw [e];exact bu hS 9 (anD s rfl hn (by show 1<=s.size;omega) rfl)
 |false=>
  have e:bO s=s:=by unfold bO;rw [hn]
  rw [e];exact bu hS 9 (anC s rfl hn)
theorem anK:Nq.Ok prog:=fun⟨s,p,_⟩ h=>by
 have h:decide (p=e4)=true:=h;rw [ap h];exact anJ s
theorem anL:VT.Ok prog:=fun⟨s,p,_⟩ h=>by
 have h:decide (p=e4)=true:=h;rw [ap h];have hS:bB prog (bD (a7 [Nq])):=cR fun c hc=>by rw [List.mem_singleton.1 hc];exact anK
 refine bJ (c:=VS) func119 rfl rfl fun w F=> ?_
 exact bu hS 9 (anE s rfl)
end
noncomputable section
noncomputable def iy:Code:=(f54.body).getD .skip
def Dq (l:List Int):Bool:=List.isEmpty l
noncomputable def VU:bn:={f:=123,ps:=[cV],rs:=[.int .i64, .bool],fresh:=true,pre:=fun d=>true,fn:=fun d=>(d.1.1,Dq d.1.2,())}
noncomputable def jg:bF:=a7 [Mf,VT,VR,Me,FN,VU]
def cW (u d:ByteArray) (fr cO:Bool):bC:={n:=71,sl:=[(4,sv d),(5,bv fr),(6,sv u),(7,bv cO)],bG:=[],next:=64}
theorem anM (s:ByteArray) (h1:(rZ s)=true) (h2:(ByteArray.mk (#[(45:UInt8)]))=(ByteArray.mk (#[(45:UInt8)]))):
  cT jg (fl iy []) 3 71 [sv s] 1 .normal [] (cW (bO (iL s ir)) (rY s ir) (oq s ir) (bX (iL s ir))):=
 wy [af h1,ah h2] 129
theorem anN (u d:ByteArray) (fr cO:Bool) (h1:u.size<=1000000000) (h2:(cx u)=false):
  bQ jg ((fl iy []).drop 3) (cW u d fr cO) 904 f54 true (iv 1):=
 wy [ah h1,af (bx (cm (h2))),af (cm (h2))] 50864257
theorem anO (u d:ByteArray) (fr:Bool) (h1:u.size<=1000000000) (h2:(cx u)=true) (h3:(u.data).toList=((ByteArray.mk (#[(48:UInt8)])).data).toList):
  bQ jg ((fl iy []).drop 3) (cW u d fr true) 7231 f54 true (iv 1):=
 wy [ah h1,af (bx (cm (h2))),af (cm (h2)),af (bx (az h3)),ah h3] 373619764182850216065
theorem anP (u d:ByteArray) (h1:u.size<=1000000000) (h2:(cx u)=true):
  en jg ((fl iy []).drop 3) 2 (cW u d false false) 1114515 .normal [] (cW u d false false):=
 wy [ah h1,af (bx (cm (h2))),af (cm (h2))] 13196287025281
theorem anQ (u d:ByteArray) (h1:u.size<=1000000000) (h2:(cx u)=true) (h3:d.size<=1000000000) (h4:(cx d)=false):
  bQ jg ((fl iy []).drop 3) (cW u d true false) 116629395 f54 true (iv 1):=
 wy [ah h1,af (bx (cm (h2))),af (cm (h2)),ah h3,af (bx (cm (h4))),af (cm (h4))] 1947513652482217575232953206710401
theorem anR (u d:ByteArray) (h1:u.size<=1000000000) (h2:(cx u)=true) (h3:d.size<=1000000000) (h4:(cx d)=true) (h5:(d.data).toList=((ByteArray.mk (#[(48:UInt8)])).data).toList):
  bQ jg ((fl iy []).drop 3) (cW u d true false) 116588435 f54 true (iv 1):=
 wy [ah h1,af (bx (cm (h2))),af (cm (h2)),ah h3,af (bx (cm (h4))),af (cm (h4)),af (bx (az h5)),ah h5] 2788197950501923681896353591526425951740033
theorem anS (u d:ByteArray) (h1:u.size<=1000000000) (h2:(cx u)=true) (h3:d.size<=1000000000) (h4:(cx d)=true) (h5:¬(d.data).toList=((ByteArray.mk (#[(48:UInt8)])).data).toList) (h6:(d.data).toList=((ByteArray.mk (#[(49:UInt8)])).data).toList):
  bQ jg ((fl iy []).drop 3) (cW u d true false) 115277715 f54 true (iv 1):=
 wy [ah h1,af (bx (cm (h2))),af (cm (h2)),ah h3,af (bx (cm (h4))),af (cm (h4)),af (bx (ab h5)),aJ h5,ah h6] 52614061732110455557256335874139780234039523287169
theorem anT (u d:ByteArray) (h1:u.size<=1000000000) (h2:(cx u)=true) (h3:d.size<=1000000000) (h4:(cx d)=true) (h5:¬(d.data).toList=((ByteArray.mk (#[(48:UInt8)])).data).toList) (h6:¬(d.data).toList=((ByteArray.mk (#[(49:UInt8)])).data).toList):
  en jg ((fl iy []).drop 3) 2 (cW u d true false) 81723283 .normal [] (cW u d true false):=
 wy [ah h1,af (bx (cm (h2))),af (cm (h2)),ah h3,af (bx (cm (h4))),af (cm (h4)),af (bx (ab h5)),aJ h5,aJ h6] 52614061732110455557256335874139780234039523287169
theorem anU (u d:ByteArray) (h1:u.size<=1000000000) (h2:(cx u)=true) (h3:¬(u.data).toList=((ByteArray.mk (#[(48:UInt8)])).data).toList):
  en jg ((fl iy []).drop 3) 2 (cW u d false true) 1114559 .normal [] (cW u d false true):=
 wy [ah h1,af (bx (cm (h2))),af (cm (h2)),af (bx (ab h3)),aJ h3] 103866219580300204314230564067483777
theorem anV (u d:ByteArray) (h1:u.size<=1000000000) (h2:(cx u)=true) (h3:¬(u.data).toList=((ByteArray.mk (#[(48:UInt8)])).data).toList) (h4:d.size<=1000000000) (h5:(cx d)=false):
  bQ jg ((fl iy []).drop 3) (cW u d true true) 116629439 f54 true (iv 1):=
 wy [ah h1,af (bx (cm (h2))),af (cm (h2)),af (bx (ab h3)),ah h4,af (bx (cm (h5))),af (cm (h5)),aJ h3] 730840021646247853707080807151523503615250538625
theorem anW (u d:ByteArray) (h1:u.size<=1000000000) (h2:(cx u)=true) (h3:¬(u.data).toList=((ByteArray.mk (#[(48:UInt8)])).data).toList) (h4:d.size<=1000000000) (h5:(cx d)=true) (h6:(d.data).toList=((ByteArray.mk (#[(48:UInt8)])).data).toList):
  bQ jg ((fl iy []).drop 3) (cW u d true true) 116588479 f54 true (iv 1):=
 wy [ah h1,af (bx (cm (h2))),af (cm (h2)),af (bx (ab h3)),ah h4,af (bx (cm (h5))),af (cm (h5)),af (bx (az h6)),ah h6,aJ h3] 913530863046102819659576943611420643593858064513
theorem anX (u d:ByteArray) (h1:u.size<=1000000000) (h2:(cx u)=true) (h3:¬(u.data).toList=((ByteArray.mk (#[(48:UInt8)])).data).toList) (h4:d.size<=1000000000) (h5:(cx d)=true) (h6:¬(d.data).toList=((ByteArray.mk (#[(48:UInt8)])).data).toList) (h7:(d.data).toList=((ByteArray.mk (#[(49:UInt8)])).data).toList):
  bQ jg ((fl iy []).drop 3) (cW u d true true) 115277759 f54 true (iv 1):=
 wy [ah h1,af (bx (cm (h2))),af (cm (h2)),af (bx (ab h3)),ah h4,af (bx (cm (h5))),af (cm (h5)),af (bx (ab h6)),aJ h6,aJ h3,ah h7] 65219602905605831220621709583127873508454889955457
theorem anY (u d:ByteArray) (h1:u.size<=1000000000) (h2:(cx u)=true) (h3:¬(u.data).toList=((ByteArray.mk (#[(48:UInt8)])).data).toList) (h4:d.size<=1000000000) (h5:(cx d)=true) (h6:¬(d.data).toList=((ByteArray.mk (#[(48:UInt8)])).data).toList) (h7:¬(d.data).toList=((ByteArray.mk (#[(49:UInt8)])).data).toList):
  en jg ((fl iy []).drop 3) 2 (cW u d true true) 81723327 .normal [] (cW u d true true):=
 wy [ah h1,af (bx (cm (h2))),af (cm (h2)),af (bx (ab h3)),ah h4,af (bx (cm (h5))),af (cm (h5)),af (bx (ab h6)),aJ h6,aJ h3,aJ h7] 65219602905605831220621709583127873508454889955457
theorem anZ (u d:ByteArray) (fr cO:Bool) (h1:(u.size:Int)>600):
  bQ jg ((fl iy []).drop 5) (cW u d fr cO) 56 f54 true (iv 4):=
 wy [af (bx (az h1)),ah h1] 528449
theorem an0 (u d:ByteArray) (fr cO:Bool) (h1:¬(u.size:Int)>600) (h2:(d.size:Int)>600):
  bQ jg ((fl iy []).drop 5) (cW u d fr cO) 55 f54 true (iv 4):=
 wy [af (bx (ab h1)),aJ h1,ah h2] 50860097
theorem an1 (u d:ByteArray) (fr cO:Bool) (h1:¬(u.size:Int)>600) (h2:¬(d.size:Int)>600):
  en jg ((fl iy []).drop 5) 2 (cW u d fr cO) 39 .normal [] (cW u d fr cO):=
 wy [af (bx (ab h1)),aJ h1,aJ h2] 50860097
theorem an2 (u d:ByteArray) (cO:Bool):
  bQ jg ((fl iy []).drop 7) (cW u d false cO) 2 f54 true (iv 0):=
 wy [] 0
theorem an3 (u d:ByteArray) (cO:Bool) (h1:(dt u)=true) (h2:(dt d)=true) (h3:(aD (fE u)&&aD (fE d))=true) (h4:(Dq (ep (fE u) (fE d)).2)=false):
  bQ jg ((fl iy []).drop 7) (cW u d true cO) 57 f54 true (iv 1):=
 wy [af h1,af h2,af h3,af (bx (cm (h4))),af (cm (h4))] 22269406224448
theorem an4 (u d:ByteArray) (cO:Bool) (h1:(dt u)=true) (h2:(dt d)=true) (h3:(aD (fE u)&&aD (fE d))=true) (h4:(Dq (ep (fE u) (fE d)).2)=true) (h5:¬(ep (fE u) (fE d)).1=1):
  bQ jg ((fl iy []).drop 7) (cW u d true cO) 55 f54 true (iv 1):=
 wy [af h1,af h2,af h3,af (bx (cm (h4))),af (cm (h4)),af (gJ.mpr h5)] 1711119266488384
theorem an5 (u d:ByteArray) (cO:Bool) (h1:(dt u)=true) (h2:(dt d)=true) (h3:(aD (fE u)&&aD (fE d))=true) (h4:(Dq (ep (fE u) (fE d)).2)=true) (h5:(ep (fE u) (fE d)).1=1):
  bQ jg ((fl iy []).drop 7) (cW u d true cO) 39 f54 true (iv 0):=
 wy [af h1,af h2,af h3,af (bx (cm (h4))),af (cm (h4)),af (jA.mpr h5)] 1711119266488384
theorem an6:VU.Ok prog:=fun⟨⟨z,l⟩,_⟩ _=>by
 show Holds prog true 123 [aH (z,l)] (.tuple [iv z,bv (Dq l)]);refine bJ (c:=Nr) func123 rfl rfl fun w F=> ?_
 cases l with
 |nil=>exact bu ba 9 (anF z)
 |cons x r=>exact bu ba 9 (anG z x r rfl)
end
theorem Ns:∀l:List UInt8,(∀b∈l.take (aY l),b≠47)/\(aY l<l.length->l=l.take (aY l)++47::l.drop (aY l+1))
 |[]=>⟨fun b h=>(by cases h),fun h=>(by cases h)⟩
 |b::r=>by
  obtain⟨h1,h2⟩:=Ns r;by_cases hb:b.toNat=47
  .have e:aY (b::r)=0:=by unfold aY;rw [if_pos hb]
   have an7:b=47:=UInt8.toNat_inj.1 hb;rw [e];exact⟨fun c h=>(by cases h),fun _=>(by rw [an7];rfl)⟩
  .have e:aY (b::r)=aY r+1:=by show(if b.toNat=47 then 0 else aY r+1)=_;rw [if_neg hb]
   rw [e];refine⟨fun c h=> ?_,fun h=> ?_⟩
   .rw [List.take_succ_cons]at h;rcases dV.1 h with rfl |h
    .exact fun e=>hb (by rw [e];rfl)
    .exact h1 c h
   .have h:=h2 (by rw [List.length_cons]at h;omega);rw [List.take_succ_cons,List.drop_succ_cons,List.cons_append];exact congrArg (b:: ·) h
theorem Nt (l:List UInt8):Lib.cut l [47]=(l.take (aY l),l.drop (aY l+1),decide (aY l<l.length)):=by
 obtain⟨h1,h2⟩:=Ns l;by_cases h:aY l<l.length
 .have e:=h2 h;have key:=UG (l:=l.take (aY l)) (r:=l.drop (aY l+1)) h1;rw [<-e]at key;rw [key,az h]
 .have hl:l.length<=aY l:=by omega
  rw [ef hl]at h1 ⊢;rw [UF h1,List.drop_eq_nil_of_le (by omega),ab h]
theorem VV {s:ByteArray} (h:bW (ak s)=true):∀k,k<=(ak s).length->Lib.decFrom 0 ((ak s).take k)=some (bg ((ak s).take k)).toNat
 |0,_=>by rw [List.take_zero];rfl
 |k+1,hk=>by
  have ih:=VV h k (by omega);have hv:=lP h k (by omega);have hm:b5 s k∈ak s:=by rw [yl (by omega)];exact List.getElem_mem _
  have hb:=List.all_eq_true.1 h _ hm;rw [ae,bz,bz]at hb;have eb:b5 s k=UInt8.ofNat (48+((b5 s k).toNat-48)):=by
   rw [show 48+((b5 s k).toNat-48)=(b5 s k).toNat by omega];simp
  have key:=Dec.Mx _ 0 _ ((b5 s k).toNat-48) (by omega) ih;rw [<-eb]at key;have et:(ak s).take (k+1)=(ak s).take k++[b5 s k]:=FU (by omega);rw [px (by omega),et,key];congr 1;omega
theorem VW {s:ByteArray} (h:bW (ak s)=true):Lib.decFrom 0 (ak s)=some (bg (ak s)).toNat:=by
 have:=VV h (ak s).length (aE _);rw [dA]at this;exact this
theorem Nu (s:ByteArray):ak (iL s ir)=(ak s).take (aY (ak s)):=by
 show(Lib.cut (ak s) [47]).1=_;rw [Nt]
theorem VX (s:ByteArray):ak (rY s ir)=(ak s).drop (aY (ak s)+1):=by
 show(Lib.cut (ak s) [47]).2.1=_;rw [Nt]
theorem VY (s:ByteArray):oq s ir=decide (aY (ak s)<(ak s).length):=by
 show(Lib.cut (ak s) [47]).2.2=_;rw [Nt]
theorem Dr (s:ByteArray):(bX s=true/\ak s=45::ak (bO s))\/(bX s=false/\bO s=s/\∀b r,ak s=b::r->b.toNat≠45):=by
 cases hn:bX s with
 |true=>
  left;refine⟨rfl, ?_⟩;have e:bO s=s.extract 1 s.size:=by unfold bO;rw [hn]
  unfold bX at hn;rw [ae,bz,bz]at hn;rw [e,lK,bd,dA];cases hb:ak s with
  |nil=>rw [bd,hb]at hn;exact absurd hn.1 (by decide)
  |cons b r=>
   have h2:(b5 s 0).toNat=45:=hn.2;have h3:b5 s 0=b:=by show(ak s).getD 0 0=b;rw [hb];rfl
   rw [h3]at h2;have:b=45:=UInt8.toNat_inj.1 h2;rw [this];rfl
 |false=>
  right;refine⟨rfl,by unfold bO;rw [hn],fun b r hb h=> ?_⟩;have h3:b5 s 0=b:=by show(ak s).getD 0 0=b;rw [hb];rfl
  unfold bX at hn;rw [az (by rw [bd,hb];exact Nat.succ_pos _),h3,az h]at hn;cases hn
theorem an8 {s:ByteArray} (h:∀b r,ak s=b::r->b.toNat≠45):bX s=false/\bO s=s:=by
 rcases Dr s with⟨_,h2⟩|⟨h1,h2,_⟩
 .exact absurd rfl (h 45 _ h2)
 .exact⟨h1,h2⟩
theorem an9 (s:ByteArray):bO (iL s ir)=(bO s).extract 0 (aY (ak (bO s)))/\rY s ir=(bO s).extract (aY (ak (bO s))+1) (bO s).size/\oq s ir=decide (aY (ak (bO s))<(bO s).size)/\bX (iL s ir)=bX s:=by
 rcases Dr s with⟨h1,h2⟩|⟨h1,h2,h3⟩
 .have hk:aY (ak s)=aY (ak (bO s))+1:=by
   rw [h2];show(if(45:UInt8).toNat=47 then 0 else aY (ak (bO s))+1)=_;rw [if_neg (by decide)]
  have ha:ak (iL s ir)=45::(ak (bO s)).take (aY (ak (bO s))):=by rw [Nu,hk,h2,List.take_succ_cons]
  rcases Dr (iL s ir)with⟨g1,g2⟩|⟨_,_,g3⟩
  .rw [ha]at g2;refine⟨gR ?_,gR ?_, ?_,by rw [g1,h1]⟩
   .show ak _=ak _;rw [lK,List.drop_zero];exact(List.cons.inj g2).2.symm
   .show ak _=ak _;rw [VX,lK,bd,dA,hk,h2,List.drop_succ_cons]
   .rw [VY,hk,h2,bd,List.length_cons];by_cases h:aY (ak (bO s))<(ak (bO s)).length
    .rw [az h,az (by omega)]
    .rw [ab h,ab (by omega)]
  .exact absurd rfl (g3 45 _ ha)
 .have hp:bX (iL s ir)=false/\bO (iL s ir)=iL s ir:=an8 fun b r hb=>by
   rw [Nu]at hb;cases hc:ak s with
   |nil=>rw [hc]at hb;rw [List.take_nil]at hb;cases hb
   |cons c t=>
    have h4:=h3 c t hc;rw [hc]at hb;cases hm:aY (c::t)with
    |zero=>rw [hm]at hb;cases hb
    |succ m=>
     rw [hm,List.take_succ_cons]at hb;rw [<-(List.cons.inj hb).1];exact h4
  rw [hp.1,hp.2,h1,h2];refine⟨gR ?_,gR ?_, ?_,rfl⟩
  .show ak _=ak _;rw [Nu,lK,List.drop_zero]
  .show ak _=ak _;rw [VX,lK,bd,dA]
  .rw [VY,bd]
noncomputable section
noncomputable def VZ:bn:={f:=54,ps:=[.str],rs:=[.int .i64],fresh:=true,pre:=fun d=>decide (d.1.size<=1000000000),fn:=fun d=>(ckR d.1,())}
--{
theorem Nv:bB prog (bD jg):=cR (aT Ud (aT anL (aT anz (aT AC (aT Ls (aT an6 dY))))))
theorem V0 {u:ByteArray} (h:bW (ak u)=true):Lib.hasPrefix (ak u) [45]=false:=Dec.Ur _ fun b hb=>by
 have:=List.all_eq_true.1 h b hb;rw [ae,bz,bz]at this;exact this
theorem V1:∀n:Nat,(10:Int)^n<=18446744073709551616^n
 |0=>by simp
 |n+1=>by
  rw [Int.pow_succ,Int.pow_succ];have h1:=V1 n;have h2:=bc (b:=10) (by decide) n;omega
theorem V2 {u:ByteArray} (h:bW (ak u)=true) (hl:u.size<=600):dt u=true/\fE u=aV (bg (ak u))/\aD (aV (bg (ak u)))=true/\aq (aV (bg (ak u)))=bg (ak u):=by
 have hb:=gE h;have e1:(qH u e4).data.toList=ak u:=by
  show Lib.trimPrefix (ak u) [45]=ak u;unfold Lib.trimPrefix;rw [V0 h];rfl
 have e2:ud u=bg (ak u):=by
  unfold ud;rw [e1,VW h];show((bg (ak u)).toNat:Int)=_;omega
 have e3:AO u=bg (ak u):=by
  unfold AO;rw [show pE u e4=false from V0 h,e2];rfl
 have h0:((bg (ak u)).natAbs:Int)<18446744073709551616^u.size:=by
  have h1:=V1 u.size;omega
 obtain⟨m1,m2⟩:=kV (n:=100000) (Int.lt_of_lt_of_le h0 (iG (by decide) (by omega)));refine⟨?_,by unfold fE;rw [e3],m1,m2⟩;unfold dt;rw [e1,VW h,e2];exact m1
def Ds (u d:ByteArray) (fr cO:Bool):Int:=
 if cx u=false then 1
 else if cO=true/\ak u=[48]then 1
 else if fr=true/\(cx d=false\/ak d=[48]\/ak d=[49])then 1
 else if 600<u.size\/600<d.size then 4
 else if fr=true/\Int.gcd (bg (ak u)) (bg (ak d))≠1 then 1
 else 0
theorem aoa {t:ByteArray} {k:Nat} {cO:Bool} (hk:k<=t.size):Ds (t.extract 0 k) (t.extract (k+1) t.size) (decide (k<t.size)) cO=A4 cO t k:=by
 have dD:=kZ t 0 k hk;have z2:=kZ t (k+1) t.size (aE _);unfold Ds A4;simp only [bz];have e:(600<(t.extract 0 k).size\/600<(t.extract (k+1) t.size).size)↔(600<k\/601+k<t.size):=by omega
 simp only [e]
theorem GN (u d:ByteArray) (fr cO:Bool) (hu:bW (ak u)=true) (hd:fr=true->bW (ak d)=true) (w:World) (F:Sv.Env):
  aR prog w F 71 ((fl iy []).drop 5) (cW u d fr cO).T (cW u d fr cO).H (gk prog true f54 (iv (if 600<u.size\/600<d.size then 4 else if fr=true/\Int.gcd (bg (ak u)) (bg (ak d))≠1 then 1 else 0))):=by
 have hS:=Nv;by_cases h1:600<u.size
 .rw [if_pos (.inl h1)];exact bT (s:=cW u d fr cO) hS (anZ u d fr cO (by omega))
 .by_cases h2:600<d.size
  .rw [if_pos (.inr h2)];exact bT (s:=cW u d fr cO) hS (an0 u d fr cO (by omega) (by omega))
  .rw [if_neg (by omega)];refine dZ (s:=cW u d fr cO) hS 2 (an1 u d fr cO (by omega) (by omega)) ?_;cases fr with
   |false=>
    rw [if_neg (fun h=>by cases h.1)];exact bT (s:=cW u d false cO) hS (an2 u d cO)
   |true=>
    obtain⟨a1,a2,a3,a4⟩:=V2 hu (by omega);obtain⟨b1,b2,b3,b4⟩:=V2 (hd rfl) (by omega);have k1:=an3 u d cO a1 b1;have k2:=an4 u d cO a1 b1;have dB:=an5 u d cO a1 b1;rw [a2,b2]at k1 k2 dB;have hg:ep (aV (bg (ak u))) (aV (bg (ak d)))=aV (Int.gcd (bg (ak u)) (bg (ak d))):=by unfold ep;rw [a4,b4]
    have hg':ep ((aV (bg (ak u))).1,(aV (bg (ak u))).2) ((aV (bg (ak d))).1,(aV (bg (ak d))).2)=aV (Int.gcd (bg (ak u)) (bg (ak d))):=hg;rw [hg']at k1 k2 dB;have j5:=fF a3 b3;generalize Int.gcd (bg (ak u)) (bg (ak d))=g at*;by_cases pZ:g=1
    .rw [if_neg (fun h=>h.2 pZ)];have em:aV ((g:Nat):Int)=(1,[]):=by rw [pZ];exact rC (by decide)
     rw [em]at dB;exact bT (s:=cW u d true cO) hS (dB j5 rfl rfl)
    .rw [if_pos ⟨rfl,pZ⟩];by_cases kD:(-9223372036854775807:Int)<=(g:Int)/\(g:Int)<=9223372036854775807
     .have em:aV ((g:Nat):Int)=((g:Int),[]):=rC kD;rw [em]at k2;exact bT (s:=cW u d true cO) hS (k2 j5 rfl (by show¬(g:Int)=1;omega))
     .have em:aV ((g:Nat):Int)=(if(g:Int)<0 then-1 else 1,cM 18446744073709551616 (g:Int).natAbs):=by unfold aV;rw [if_neg kD]
      rw [em]at k1;refine bT (s:=cW u d true cO) hS (k1 j5 ?_);show List.isEmpty (cM 18446744073709551616 ((g:Int).natAbs:Int))=false;have hne:=pl (b:=18446744073709551616) (by decide) (show(0:Int)<((g:Int).natAbs:Int) by omega);cases hc:cM 18446744073709551616 ((g:Int).natAbs:Int)with
      |nil=>exact absurd hc hne
      |cons x r=>rfl
theorem aob (u d:ByteArray) (fr cO:Bool) (fB:u.size<=1000000000) (wm:d.size<=1000000000) (w:World) (F:Sv.Env):
  aR prog w F 71 ((fl iy []).drop 3) (cW u d fr cO).T (cW u d fr cO).H (gk prog true f54 (iv (Ds u d fr cO))):=by
 have hS:=Nv;unfold Ds;cases ha:cx u with
 |false=>
  rw [if_pos rfl];exact bT (s:=cW u d fr cO) hS (anN u d fr cO fB ha)
 |true=>
  rw [if_neg (by decide)];have du:=(wk ha).1;by_cases hz:cO=true/\ak u=[48]
  .rw [if_pos hz];obtain⟨rfl,h48⟩:=hz;exact bT (s:=cW u d fr true) hS (anO u d fr fB ha h48)
  .rw [if_neg hz];cases fr with
   |false=>
    rw [if_neg (fun h=>by cases h.1)];cases cO with
    |false=>
     refine dZ (s:=cW u d false false) hS 2 (anP u d fB ha) ?_;exact GN u d false false du (fun h=>by cases h) w F
    |true=>
     refine dZ (s:=cW u d false true) hS 2 (anU u d fB ha (fun h=>hz ⟨rfl,h⟩)) ?_;exact GN u d false true du (fun h=>by cases h) w F
   |true=>
    cases hb:cx d with
    |false=>
     rw [if_pos ⟨rfl, .inl rfl⟩];cases cO with
     |false=>exact bT (s:=cW u d true false) hS (anQ u d fB ha wm hb)
     |true=>exact bT (s:=cW u d true true) hS (anV u d fB ha (fun h=>hz ⟨rfl,h⟩) wm hb)
    |true=>
     have dd:=(wk hb).1;by_cases h8:ak d=[48]
     .rw [if_pos ⟨rfl, .inr (.inl h8)⟩];cases cO with
      |false=>exact bT (s:=cW u d true false) hS (anR u d fB ha wm hb h8)
      |true=>exact bT (s:=cW u d true true) hS (anW u d fB ha (fun h=>hz ⟨rfl,h⟩) wm hb h8)
     .by_cases h9:ak d=[49]
      .rw [if_pos ⟨rfl, .inr (.inr h9)⟩];cases cO with
       |false=>exact bT (s:=cW u d true false) hS (anS u d fB ha wm hb h8 h9)
       |true=>exact bT (s:=cW u d true true) hS (anX u d fB ha (fun h=>hz ⟨rfl,h⟩) wm hb h8 h9)
      .rw [if_neg (fun h=>by
        rcases h.2 with h|h|h
        .cases h
        .exact h8 h
        .exact h9 h)]
       cases cO with
       |false=>
        refine dZ (s:=cW u d true false) hS 2 (anT u d fB ha wm hb h8 h9) ?_;exact GN u d true false du (fun _=>dd) w F
       |true=>
        refine dZ (s:=cW u d true true) hS 2 (anY u d fB ha (fun h=>hz ⟨rfl,h⟩) wm hb h8 h9) ?_;exact GN u d true true du (fun _=>dd) w F
theorem aoc (s:ByteArray) (hl:s.size<=1000000000):Holds prog true 54 [sv s] (iv (ckR s)):=by
 have hS:=Nv;refine bJ (c:=iy) func54 rfl rfl fun w F=> ?_
 obtain⟨e1,e2,e3,bP⟩:=an9 s;have hle:aY (ak (bO s))<=(bO s).size:=by rw [bd];exact Au _
 have hps:(bO s).size<=s.size:=by
  rcases Dr s with⟨_,h2⟩|⟨_,h2,_⟩
  .have:=congrArg List.length h2;rw [List.length_cons,<-bd,<-bd]at this;omega
  .rw [h2];exact aE _
 have hc:rZ s=true:=az (by omega);have key:=anM s hc rfl;rw [e1,e2,e3,bP]at key;have ev:ckR s=Ds ((bO s).extract 0 (aY (ak (bO s)))) ((bO s).extract (aY (ak (bO s))+1) (bO s).size) (decide (aY (ak (bO s))<(bO s).size)) (bX s):=(aoa hle).symm;rw [ev];refine cE hS 3 key ?_;exact aob _ _ _ _ (by rw [kZ _ _ _ hle];omega) (by rw [kZ _ _ _ (aE _)];omega) w F
attribute [local irreducible] ckR
theorem aod:VZ.Ok prog:=fun⟨s,_⟩ h=>by
 have h:decide (s.size<=1000000000)=true:=h;exact aoc s (ap h)
--}
end
end Go.Proofs.YtibikmmdbdlafaaGreatDoor
namespace Go.Proofs.YtibikmmdbdlafaaGreatDoor
open Go.RowKit Sv Go.Proofs.Tryz
set_option maxHeartbeats 4000000
noncomputable section
def smI2 (a:aM):Bool:=List.isEmpty (α:=Int) a.2&&gd a.1
abbrev sl (l:List ByteArray):aa:= .bk false .str l
def Pz (l:List ByteArray):Bool:=decide (l.length<=1000)&&l.all fun s=>decide (s.size<=1000000000)&&decide (ckR s=0)
def OP (s:ByteArray):Prop:=∃r,am0 r/\s=aU r
attribute [local irreducible] Gx xI fL txS okTx smI2 aU toQ iV Pz okQ
attribute [local semireducible] Gx xI fL txS okTx smI2 aU toQ iV Pz okQ
end
end Go.Proofs.YtibikmmdbdlafaaGreatDoor
/- Package num: Text and Large for numbers of any size, as known functions. -/
namespace Go.Proofs.YtibikmmdbdlafaaGreatDoor
open Go.RowKit Sv Go.Proofs.Tryz
noncomputable section
noncomputable def Nw:bF:=a7 [VH,Gf]
theorem aoe (q:bS) (h1:(gT q)=true) (h2:(bH 10000 q.1)=true):
  bq Nw (fl Mu []) 9 16 [cj q] 3 f61 true (sv (lR q.1)):=
 wy [af h1,af h2] 8256
theorem aof (q:bS) (h1:(gT q)=false) (h2:(bH 10000 q.1)=true) (h3:(lR q.1).size+(ByteArray.mk #[(47:UInt8)]).size<=9223372036854775807) (h4:(bH 10000 q.2)=true) (h5:(lR q.1++ByteArray.mk #[(47:UInt8)]).size+(lR q.2).size<=9223372036854775807):
  bq Nw (fl Mu []) 9 16 [cj q] 2 f61 true (sv (lR q.1++ByteArray.mk #[47]++lR q.2)):=
 wy [af h1,af (aW (v:=aH q.1) (by kernel_rfl)),af h2,ah h3,af (aW (v:=aH q.2) (by kernel_rfl)),af h4,ah h5] 1997062150037568
def GO (q:bS):Rat:=Rat.divInt (aq q.1) (aq q.2)
noncomputable def wo (n:Nat) (q:bS):Bool:= @decide (QR n q (GO q)) (Classical.propDecidable _)
noncomputable def nE (q:bS):ByteArray:=aU (GO q)
noncomputable def Nx:bn:={f:=61,ps:=[fZ],rs:=[.str],fresh:=true,pre:=fun d=>wo 10000 d.1,fn:=fun d=>(nE d.1,())}
theorem Ny {n:Nat} {q:bS}:wo n q=true↔QR n q (GO q):= @decide_eq_true_iff _ (Classical.propDecidable _)
theorem QR.val {n:Nat} {q:bS} {r:Rat} (h:QR n q r):GO q=r:=h.self
theorem QR.rd {n m:Nat} {q:bS} {r:Rat} (h:QR n q r) (hm:n<=m):wo m q=true:=Ny.2 (by rw [h.val];exact h.mono hm)
theorem V3 {m n:Nat} {a:aM} (h:bH m a=true) (hv:((aq a).natAbs:Int)<18446744073709551616^n):bH n a=true:=by
 by_cases hw:a.2=[]
 .rw [nk hw]at h ⊢;exact h
 .obtain⟨h1,h2,h3,h4,h5⟩:=(o7 hw).1 h;refine(o7 hw).2 ⟨h1,h2,h3,h4, ?_⟩;obtain⟨_,_,p3,_,_⟩:=jQ h;unfold ay at p3;rw [if_neg hw]at p3;have hz:=fK (b:=18446744073709551616) (by decide) h2;have e:a.2=cM 18446744073709551616 (aj a.2):=d9 (by decide) h2 h3 rfl;rw [e];exact vA (by decide) hz (by rw [p3];exact hv)
theorem QR.shrink {m n:Nat} {q:bS} {r:Rat} (h:QR m q r) (h1:(r.num.natAbs:Int)<18446744073709551616^n) (h2:(r.den:Int)<18446744073709551616^n):QR n q r:=
 ⟨V3 h.o1 (by rw [h.num];exact h1),V3 h.o2 (by rw [h.den];omega),h.num,h.den⟩
theorem v6 {n:Nat} {a:aM} (h:bH n a=true) (hn:1<=n):(lR a).size<=20*n+2:=by
 have hB:=dp h hn;have h1:=Vw (n:=n) (m:=((aq a).natAbs:Int)) (by omega) hB;unfold lR;rw [bd,Vy h,cG];have:(yF (bV a)).length<=1:=by cases bV a<;>decide
 rw [Int.toNat_natCast]at h1;omega
theorem aog:bB prog (bD Nw):=cR (aT amY (aT L9 dY))
theorem V4 {n:Nat} {q:bS} {r:Rat} (h:QR n q r):gT q=true↔r.den=1:=by
 have hd:=h.den;unfold gT;rw [ae,fU];constructor
 .rintro⟨h1,h2⟩;have h1:q.2.2=[]:=List.isEmpty_iff.1 h1;rw [lG h1]at hd;omega
 .intro e;rw [e]at hd;have hs:q.2.2=[]:=by
   refine Classical.byContradiction fun hne=> ?_
   obtain⟨h1,_,_,h4,_⟩:=(o7 hne).1 h.o2;have hv:aq q.2=q.2.1*aj q.2.2:=by unfold aq;rw [if_neg hne]
   rw [hv]at hd;rcases h1 with h1|h1<;>rw [h1]at hd<;>omega
  rw [lG hs]at hd;exact⟨List.isEmpty_iff.2 hs,by omega⟩
theorem aoh {q:bS} {r:Rat} (h:QR 10000 q r):Holds prog true 61 [cj q] (sv (aU r)):=by
 have hS:=aog;have l1:=v6 h.o1 (by decide);have l2:=v6 h.o2 (by decide);refine bJ (c:=Mu) func61 rfl rfl fun w F=> ?_
 by_cases hd:r.den=1
 .have key:=aoe q ((V4 h).2 hd) h.o1;have e:lR q.1=aU r:=by unfold lR aU;rw [if_pos hd,h.num]
  rw [e]at key;exact bu hS 9 key
 .have hw:gT q=false:=by
   cases hq:gT q with
   |false=>rfl
   |true=>exact absurd ((V4 h).1 hq) hd
  have dD:(ByteArray.mk #[47]).size=1:=rfl;have key:=aof q hw h.o1 (by rw [dD];omega) h.o2 (by rw [ByteArray.size_append,dD];omega);have e:lR q.1++ByteArray.mk #[47]++lR q.2=aU r:=by
   refine gR ?_;rw [iJ,iJ];unfold lR aU;rw [if_neg hd,jy,jy,h.num,h.den,ou];rfl
  rw [e]at key;exact bu hS 9 key
theorem V5:Nx.Ok prog:=fun⟨q,_⟩ h=>aoh (Ny.1 h)
end
end Go.Proofs.YtibikmmdbdlafaaGreatDoor
/- Continued fractions: the plain law. -/
namespace Go.Proofs.YtibikmmdbdlafaaGreatDoor
def Dt:Nat->Int->Int->List Int
 |0,_,_=>[]
 |k+1,u,v=>u/v::(if u%v=0 then []else Dt k v (u%v))
theorem V6:∀(k m:Nat) (u v:Int),0<v->v.toNat<=k->v.toNat<=m->Dt k u v=Dt m u v
 |0,m,u,v,h,h1,_=>by omega
 |k+1,0,u,v,h,_,h2=>by omega
 |k+1,m+1,u,v,h,h1,h2=>by
  unfold Dt;have a:=c6 u (show v≠0 by omega);have b:=cS u h;by_cases hz:u%v=0
  .rw [if_pos hz,if_pos hz]
  .rw [if_neg hz,if_neg hz,V6 k m v (u%v) (by omega) (by omega) (by omega)]
def cy (u v:Int):List Int:=Dt v.toNat u v
theorem ot {u v:Int} (h:0<v):cy u v=u/v::(if u%v=0 then []else cy v (u%v)):=by
 unfold cy;obtain⟨k,hk⟩:∃k,v.toNat=k+1:=⟨v.toNat-1,by omega⟩;rw [hk];have a:=c6 u (show v≠0 by omega);have b:=cS u h;show u/v::_=_;by_cases hz:u%v=0
 .rw [if_pos hz,if_pos hz]
 .rw [if_neg hz,if_neg hz,V6 k (u%v).toNat v (u%v) (by omega) (by omega) (by omega)]
theorem Nz {C:Int->Int->Prop} (h0:∀u v,0<v->u%v=0->C u v) (h1:∀u v,0<v->0<u%v->C v (u%v)->C u v) (u v:Int) (hv:0<v):C u v:=by
 have key:∀(k:Nat) (u v:Int),0<v->v.toNat<=k->C u v:=fun k=>by
  induction k with
  |zero=>intro u v h g;omega
  |succ k ih=>
   intro u v h g;have a:=c6 u (show v≠0 by omega);have b:=cS u h;by_cases hz:u%v=0
   .exact h0 u v h hz
   .exact h1 u v h (by omega) (ih v (u%v) (by omega) (by omega))
 exact key _ u v hv (aE _)
theorem NA:∀(k:Nat) (u v:Int),0<v->v<2^k->(cy u v).length<=2*k
 |0,u,v,h,h1=>by simp at h1;omega
 |k+1,u,v,h,h1=>by
  rw [ot h];have a:=c6 u (show v≠0 by omega);have b:=cS u h;by_cases hz:u%v=0
  .rw [if_pos hz,List.length_cons,List.length_nil];omega
  .rw [if_neg hz,ot (show 0<u%v by omega)];have a2:=c6 v (show u%v≠0 by omega);have b2:=cS v (show 0<u%v by omega);by_cases kS:v%(u%v)=0
   .rw [if_pos kS,List.length_cons,List.length_cons,List.length_nil];omega
   .rw [if_neg kS,List.length_cons,List.length_cons];have e:=Int.mul_ediv_add_emod v (u%v);have q1:1<=v/(u%v):=(Int.le_ediv_iff_mul_le (by omega)).2 (by omega);have aO:=dU q1 a;have:=NA k (u%v) (v%(u%v)) (by omega) (by rw [Int.pow_succ]at h1;omega);omega
def kk:List Int->Int×Int
 |[]=>(1,0)
 |n::t=>(n*(kk t).1+(kk t).2,(kk t).1)
def gU:Int×Int->List Int->Int×Int
 |x,[]=>x
 |x,n::t=>gU (n*x.1+x.2,x.1) t
theorem Du:∀(t:List Int) (a b:Int),(gU (a,b) t).1=a*(gU (1,0) t).1+b*(gU (0,1) t).1
 |[],a,b=>by simp [gU]
 |n::t,a,b=>by
  unfold gU;simp only [];rw [Du t (n*a+b) a,Du t (n*1+0) 1,Du t (n*0+1) 0];grind
theorem V7:∀t:List Int,kk t=((gU (1,0) t).1,(gU (0,1) t).1)
 |[]=>rfl
 |n::t=>by
  unfold kk gU;rw [V7 t];simp only [];rw [Du t (n*1+0) 1,Du t (n*0+1) 0];refine Prod.ext ?_ ?_
  .simp only [];grind
  .simp only [];grind
theorem V8:∀(t s:List Int) (x:Int×Int),gU x (t++s)=gU (gU x t) s
 |[],s,x=>rfl
 |n::t,s,x=>V8 t s _
theorem GP (t:List Int) (n:Int) (x:Int×Int):gU x (t++[n])=(n*(gU x t).1+(gU x t).2,(gU x t).1):=by rw [V8];rfl
theorem NB:∀t:List Int,Int.gcd (kk t).1 (kk t).2=1
 |[]=>rfl
 |n::t=>by
  show Int.gcd (n*(kk t).1+(kk t).2) (kk t).1=1;rw [Int.gcd_comm,Int.add_comm,Int.gcd_add_mul_right_right,NB t]
theorem GQ:∀t:List Int,(∀n∈t,1<=n)->1<=(kk t).1/\0<=(kk t).2
 |[],_=>by decide
 |n::t,h=>by
  obtain⟨h1,h2⟩:=GQ t fun m hm=>h m (k6 _ hm)
  have:=ar (h n k7) (show 0<=(kk t).1 by omega);show 1<=n*(kk t).1+(kk t).2/\0<=(kk t).1;omega
theorem NC {u v:Int} (h:0<v):∀n∈(if u%v=0 then []else cy v (u%v)),1<=n:=by
 refine Nz (C:=fun u v=>∀n∈(if u%v=0 then []else cy v (u%v)),1<=n) (fun u v _ hz n hn=> ?_) (fun u v hv hw ih n hn=> ?_) u v h
 .rw [if_pos hz]at hn;cases hn
 .rw [if_neg (by omega),ot hw,dV]at hn;have b:=cS u hv;rcases hn with rfl |hn
  .exact(Int.le_ediv_iff_mul_le (by omega)).2 (by omega)
  .exact ih n hn
def sg (t l:List Int):Prop:=t≠[]/\∃s,l=t++s
theorem ND {t:List Int} {n:Int} {l:List Int} (h:sg t (n::l)):∃t',t=n::t'/\(t'=[]\/sg t' l):=by
 obtain⟨h1,s,h2⟩:=h;cases t with
 |nil=>exact absurd rfl h1
 |cons m t'=>
  obtain⟨e,g⟩:=List.cons.inj (show n::l=m::(t'++s)from h2);subst e;refine⟨t',rfl, ?_⟩;by_cases h0:t'=[]
  .exact .inl h0
  .exact .inr ⟨h0,s,g⟩
theorem aoi {u v:Int} (hv:0<v) (hu:0<=u) {t:List Int} (ht:sg t (cy u v)):0<=(kk t).1/\(kk t).1<=u/\1<=(kk t).2/\(kk t).2<=v:=by
 revert hu t;refine Nz (C:=fun u v=>0<=u->∀{t:List Int},sg t (cy u v)->0<=(kk t).1/\(kk t).1<=u/\1<=(kk t).2/\(kk t).2<=v) (fun u v hv hz hu t ht=> ?_) (fun u v hv hw ih hu t ht=> ?_) u v hv
 .rw [ot hv,if_pos hz]at ht;obtain⟨t',rfl,h|h⟩:=ND ht
  .subst h;have h0:0<=u/v:=Int.ediv_nonneg hu (by omega);have h1:u/v<=u:=Int.ediv_le_self _ hu;show 0<=u/v*1+0/\u/v*1+0<=u/\(1:Int)<=1/\(1:Int)<=v;omega
  .obtain⟨g1,s,g2⟩:=h;cases t' with
   |nil=>exact absurd rfl g1
   |cons a b=>cases g2
 .rw [ot hv,if_neg (by omega)]at ht;have b:=cS u hv;have e:=Int.mul_ediv_add_emod u v;have h0:0<=u/v:=Int.ediv_nonneg hu (by omega);obtain⟨t',rfl,h|h⟩:=ND ht
  .subst h;have h1:u/v<=u:=Int.ediv_le_self _ hu;show 0<=u/v*1+0/\u/v*1+0<=u/\(1:Int)<=1/\(1:Int)<=v;omega
  .obtain⟨i1,i2,i3,i4⟩:=ih (by omega) h;have m1:=dU i2 h0;have m2:=Int.mul_nonneg h0 i1;rw [Int.mul_comm (u/v) v]at m1;have i5:=GQ t' fun m hm=>by
    obtain⟨_,s,hs⟩:=h;have:=NC (u:=u) hv m;rw [if_neg (by omega),hs]at this;exact this (List.mem_append_left _ hm)
   show 0<=u/v*(kk t').1+(kk t').2/\u/v*(kk t').1+(kk t').2<=u/\1<=(kk t').1/\(kk t').1<=v;omega
theorem V9 {B u v:Int} (hv:0<v) (h1: -B<=u-v/\u+v<=B) (h2:2*v<=B) {t:List Int} (ht:sg t (cy u v)): -B<=(kk t).1/\(kk t).1<=B/\1<=(kk t).2/\(kk t).2<=v:=by
 have e:=Int.mul_ediv_add_emod u v;have a:=c6 u (show v≠0 by omega);have b:=cS u hv;rw [ot hv]at ht;obtain⟨t',rfl,h|h⟩:=ND ht
 .subst h;show-B<=u/v*1+0/\u/v*1+0<=B/\(1:Int)<=1/\(1:Int)<=v;have c1:u/v<=B:=by
   by_cases hn:0<=u
   .have:=Int.ediv_le_self v hn;omega
   .have:=Int.ediv_neg_of_neg_of_pos (show u<0 by omega) hv;omega
  have c2: -B<=u/v:=by
   by_cases hn:0<=u
   .have:=Int.ediv_nonneg hn (show 0<=v by omega);omega
   .have h3:u<=u/v:=by
     have h0:=Int.ediv_neg_of_neg_of_pos (show u<0 by omega) hv;have:=dU (show(1:Int)<=v by omega) (show 0<= -(u/v)-1 by omega);rw [Int.mul_one,Int.sub_mul,Int.neg_mul,Int.mul_comm (u/v) v,Int.one_mul]at this;omega
    omega
  omega
 .by_cases hz:u%v=0
  .rw [if_pos hz]at h;obtain⟨g1,s,g2⟩:=h;cases t' with
   |nil=>exact absurd rfl g1
   |cons a b=>cases g2
  .rw [if_neg hz]at h;obtain⟨i1,i2,i3,i4⟩:=aoi (show 0<u%v by omega) (show 0<=v by omega) h;have i5:=GQ t' fun m hm=>by
    obtain⟨_,s,hs⟩:=h;have:=NC (u:=u) hv m;rw [if_neg hz,hs]at this;exact this (List.mem_append_left _ hm)
   show-B<=u/v*(kk t').1+(kk t').2/\u/v*(kk t').1+(kk t').2<=B/\1<=(kk t').1/\(kk t').1<=v;generalize (kk t').1=p at*;generalize (kk t').2=q at*;generalize u/v=n at*;have m1:n*p<=B/\ -B<=n*p+q/\n*p+q<=B:=by
    by_cases hn:0<=n
    .have m1:=dU i2 hn;have m2:=Int.mul_nonneg hn i1;rw [Int.mul_comm n v]at m1;omega
    .have m1:=dU i2 (show 0<= -n by omega);have m2:=Int.mul_nonneg (show 0<= -n by omega) i1;rw [Int.neg_mul,Int.neg_mul,Int.mul_comm n v]at m1;rw [Int.neg_mul]at m2;omega
   omega
theorem aoj {B u v:Int} (hv:0<v) (h1: -B<=u-v/\u+v<=B) (h2:2*v<=B):∀(k:Nat) {t:List Int},sg t ((cy u v).drop k)-> -B<=(kk t).1/\(kk t).1<=B/\1<=(kk t).2/\(kk t).2<=B/\(1<=k->1<=(kk t).1):=by
 intro k;revert h1 h2 k;refine Nz (C:=fun u v=> -B<=u-v/\u+v<=B->2*v<=B->∀(k:Nat) {t:List Int},sg t ((cy u v).drop k)-> -B<=(kk t).1/\(kk t).1<=B/\1<=(kk t).2/\(kk t).2<=B/\(1<=k->1<=(kk t).1)) (fun u v hv hz h1 h2 k t ht=> ?_) (fun u v hv hw ih h1 h2 k t ht=> ?_) u v hv
 .cases k with
  |zero=>
   rw [List.drop_zero]at ht;have:=V9 hv h1 h2 ht;omega
  |succ k=>
   rw [ot hv,if_pos hz,List.drop_succ_cons,List.drop_nil]at ht;obtain⟨g1,s,g2⟩:=ht;cases t with
   |nil=>exact absurd rfl g1
   |cons a b=>cases g2
 .have b:=cS u hv;cases k with
  |zero=>
   rw [List.drop_zero]at ht;have:=V9 hv h1 h2 ht;omega
  |succ k=>
   have hpos:∀n∈t,1<=n:=fun n hn=>by
    obtain⟨_,s,hs⟩:=ht;have h3:=NC (u:=u) hv n;rw [ot hv,List.drop_succ_cons]at hs;refine h3 (List.mem_of_mem_drop (i:=k) ?_);rw [hs];exact List.mem_append_left _ hn
   have h5:=GQ t hpos;rw [ot hv,if_neg (by omega),List.drop_succ_cons]at ht;have:=ih (by omega) (by omega) k ht;omega
theorem A5 {n:Int} (h:n≠0):(n:Rat)≠0:=by
 intro e;exact h (by exact_mod_cast e)
theorem Wa (r:Rat):r=(r.num:Rat)/(r.den:Int):=by
 rw [<-Rat.divInt_eq_div];exact(Rat.num_divInt_den r).symm
theorem NF (r:Rat):r-(r.floor:Rat)=((r.num%r.den:Int):Rat)/((r.den:Int):Rat):=by
 have hd:((r.den:Int):Rat)≠0:=A5 (by have:=r.den_pos;omega);have e:=Int.mul_ediv_add_emod r.num r.den;have e2:((r.den:Int):Rat)*((r.num/r.den:Int):Rat)+((r.num%r.den:Int):Rat)=(r.num:Rat):=by
  rw [<-Rat.intCast_mul,<-Rat.intCast_add,e]
 have e3:=Wa r;rw [Rat.floor_def];generalize hq:r.num/(r.den:Int)=q at*;generalize hm:r.num%(r.den:Int)=m at*;generalize hn:(r.num:Rat)=n at*;generalize ((r.den:Int):Rat)=d at*;subst e2;rw [e3];grind
theorem A6 (r:Rat):r-(r.floor:Rat)=0↔r.num%r.den=0:=by
 have hd:((r.den:Int):Rat)≠0:=A5 (by have:=r.den_pos;omega);rw [NF];constructor
 .intro h;refine Classical.byContradiction fun hm=> ?_
  have:=A5 hm;grind
 .intro h;rw [h];grind
theorem Dv {r:Rat} (h:r.num%r.den≠0):((r-(r.floor:Rat))⁻¹).num=r.den/\(((r-(r.floor:Rat))⁻¹).den:Int)=r.num%r.den:=by
 have hd:((r.den:Int):Rat)≠0:=A5 (by have:=r.den_pos;omega);have hm:=A5 h;have hp:0<r.num%r.den:=by
  have:=c6 r.num (show(r.den:Int)≠0 by have:=r.den_pos;omega);omega
 have e:(r-(r.floor:Rat))⁻¹ =Rat.divInt r.den (r.num%r.den):=by
  rw [Rat.divInt_eq_div,NF];grind
 rw [e];refine AQ (by omega) ?_;have hr:Int.gcd r.num r.den=1:=r.reduced;have jt:=Int.mul_ediv_add_emod r.num r.den;have qC:Int.gcd r.den (r.num%r.den+r.num/r.den*r.den)=Int.gcd r.den (r.num%r.den):=Int.gcd_add_mul_right_right ..;rw [Int.mul_comm,Int.add_comm]at jt;rw [jt,Int.gcd_comm,hr]at qC;exact qC.symm
theorem aok (r:Rat):(r-(r.floor:Rat)).num=r.num%r.den/\((r-(r.floor:Rat)).den:Int)=r.den:=by
 have hd:=r.den_pos;rw [NF,<-Rat.divInt_eq_div];refine AQ (by omega) ?_;have hr:Int.gcd r.num r.den=1:=r.reduced;have jt:=Int.mul_ediv_add_emod r.num r.den;have qC:Int.gcd r.den (r.num%r.den+r.num/r.den*r.den)=Int.gcd r.den (r.num%r.den):=Int.gcd_add_mul_right_right ..;rw [Int.mul_comm,Int.add_comm]at jt;rw [jt,Int.gcd_comm,hr]at qC;rw [Int.gcd_comm];exact qC.symm
theorem aol {n p q:Int} (hp:1<=p):(n:Rat)+(Rat.divInt p q)⁻¹ =Rat.divInt (n*p+q) p:=by
 have hp':=A5 (n:=p) (by omega);rw [Rat.divInt_eq_div,Rat.divInt_eq_div,Rat.intCast_add,Rat.intCast_mul];grind
theorem Wb (n:Int):(n:Rat)=Rat.divInt n 1:=by
 rw [Rat.divInt_eq_div];have:((1:Int):Rat)=1:=rfl;rw [this];grind
end Go.Proofs.YtibikmmdbdlafaaGreatDoor
/- Digits without zeros ahead are the notation of their value: plain. -/
namespace Go.Proofs.YtibikmmdbdlafaaGreatDoor
open Go.RowKit Sv Go.Proofs.Tryz
theorem NG {b:UInt8} (h:48<=b.toNat/\b.toNat<=57):[b]=Lib.decDigits (bg [b]).toNat/\bg [b]=(b.toNat:Int)-48:=by
 have e:bg [b]=(b.toNat:Int)-48:=by rw [pC];simp [bg]
 refine⟨?_,e⟩;rw [e,r4 (by omega)];congr 1;rw [show 48+((b.toNat:Int)-48).toNat=b.toNat by omega];simp
theorem NH {b:UInt8} (h:bW [b]=true):48<=b.toNat/\b.toNat<=57:=by
 rw [Av,ae,ae,bz,bz]at h;exact h.1
theorem Wc:∀(n:Nat) (L:List UInt8),L.length=n+1->bW L=true->(L.getD 0 0).toNat≠48->L=Lib.decDigits (bg L).toNat/\0<bg L
 |0,L,hl,hd,h0=>by
  obtain⟨b,rfl⟩:∃b,L=[b]:=List.length_eq_one_iff.1 hl;have hb:=NH hd;obtain⟨h1,h2⟩:=NG hb;have h3:b.toNat≠48:=h0;exact⟨h1,by omega⟩
 |n+1,L,hl,hd,h0=>by
  have hne:L≠[]:=fun e=>by rw [e]at hl;cases hl
  obtain⟨M,b,rfl⟩:∃M b,L=M++[b]:=⟨L.dropLast,L.getLast hne,(List.dropLast_concat_getLast hne).symm⟩;have yB:M.length=n+1:=by rw [cG,List.length_singleton]at hl;omega
  rw [Gn]at hd;have hb:=NH hd.2;have hf:(M.getD 0 0).toNat≠48:=by
   cases M with
   |nil=>cases yB
   |cons c r=>exact h0
  obtain⟨i1,i2⟩:=Wc n M yB hd.1 hf;obtain⟨_,e2⟩:=NG hb;have ev:bg (M++[b])=bg M*10+((b.toNat:Int)-48):=by
   rw [MF,e2];rfl
  refine⟨?_,by omega⟩;rw [ev,lh (by omega),show(bg M*10+((b.toNat:Int)-48)).toNat/10=(bg M).toNat by omega,<-i1,show(bg M*10+((b.toNat:Int)-48)).toNat%10=b.toNat-48 by omega,show 48+(b.toNat-48)=b.toNat by omega];simp
theorem Wd {u:ByteArray} (h:cx u=true):ak u=Lib.decDigits (bg (ak u)).toNat:=by
 unfold cx at h;rw [ae,ae,bz]at h;obtain⟨h1,h2,h3⟩:=h;by_cases hs:u.size=1
 .obtain⟨b,hb⟩:∃b,ak u=[b]:=List.length_eq_one_iff.1 (by rw [<-bd];exact hs);rw [hb]at h3 ⊢;exact(NG (NH h3)).1
 .rw [ab (by omega),Bool.false_or,Bool.not_eq_true',decide_eq_false_iff_not]at h2;exact(Wc (u.size-1) (ak u) (by rw [<-bd];omega) h3 h2).1
theorem aom {s:ByteArray} (h:ckR s=0):wh s:=by
 unfold ckR A4 at h;split at h
 .cases h
 rename_i c1;split at h
 .cases h
 rename_i c2;split at h
 .cases h
 rename_i c3;split at h
 .cases h
 rename_i c4;split at h
 .cases h
 rename_i c5;obtain⟨t,ht⟩:∃t,bO s=t:=⟨_,rfl⟩;obtain⟨k,hk⟩:∃k,aY (ak t)=k:=⟨_,rfl⟩;rw [ht,hk]at c1 c2 c3 c4 c5;have hle:k<=t.size:=by rw [<-hk,bd];exact Au _
 have ha:cx (t.extract 0 k)=true:=by cases hd:cx (t.extract 0 k)with
  |true=>rfl
  |false=>exact absurd hd c1
 have A7:=Wd ha;have aon:=gE (wk ha).1;have arF:=kZ t 0 k hle;obtain⟨A,hA⟩:∃A:Nat,bg (ak (t.extract 0 k))=(A:Int):=⟨(bg (ak (t.extract 0 k))).toNat,by omega⟩;rw [hA,Int.toNat_natCast]at A7;rw [hA]at aon c5;have hneg:bX s=true->0<A:=fun hn=>by
  rcases Nat.eq_zero_or_pos A with h0|h0
  .rw [h0,r4 (by decide)]at A7;exact absurd ⟨hn,A7⟩ c2
  .exact h0
 have yG:aZ (bX s) (A:Int)<0↔bX s=true:=by
  cases hn:bX s with
  |true=>have:=hneg hn;constructor;exact fun _=>rfl;exact fun _=>by show-(A:Int)<0;omega
  |false=>constructor;(intro h;have:(A:Int)<0:=h;omega);exact fun h=>by cases h
 have We:(aZ (bX s) (A:Int)).natAbs=A:=by cases bX s with
  |true=>show(-(A:Int)).natAbs=A;omega
  |false=>show(A:Int).natAbs=A;omega
 have hit:Lib.itoa (aZ (bX s) (A:Int))=if bX s then 45::Lib.decDigits A else Lib.decDigits A:=by
  rw [AX,We];cases hn:bX s with
  |true=>rw [az (by rw [hn]at yG;exact yG.2 rfl)]
  |false=>rw [ab (by rw [hn]at yG;exact fun h=>by cases yG.1 h)]
 have hs:ak s=if bX s then 45::ak t else ak t:=by
  rcases Dr s with⟨h1,h2⟩|⟨h1,h2,_⟩
  .rw [h1,h2,ht];rfl
  .rw [h1,<-ht,h2];rfl
 have Wf:((aZ (bX s) (A:Int)).natAbs:Int)<1000000000^(k+(t.size-k)):=by
  rw [We];have h1:=GI (t.extract 0 k).size;have h2:=iG (b:=1000000000) (by decide) (show(t.extract 0 k).size<=k+(t.size-k) by omega);omega
 by_cases hlt:k<t.size
 .have hb:cx (t.extract (k+1) t.size)=true:=by cases hd:cx (t.extract (k+1) t.size)with
   |true=>rfl
   |false=>exact absurd ⟨hlt, .inl hd⟩ c3
  have NI:=Wd hb;have aoo:=gE (wk hb).1;have arG:=kZ t (k+1) t.size (aE _);obtain⟨B,hB⟩:∃B:Nat,bg (ak (t.extract (k+1) t.size))=(B:Int):=⟨(bg (ak (t.extract (k+1) t.size))).toNat,by omega⟩;rw [hB,Int.toNat_natCast]at NI;rw [hB]at aoo c5;have hg:Int.gcd (A:Int) (B:Int)=1:=by
   by_cases hg:Int.gcd (A:Int) (B:Int)=1
   .exact hg
   .exact absurd ⟨hlt,hg⟩ c5
  have CW:2<=B:=by
   rcases Nat.lt_or_ge B 2 with h2|h2
   .refine absurd ⟨hlt, .inr ?_⟩ c3;rw [NI,r4 (by omega)];rcases (show B=0\/B=1 by omega)with rfl |rfl
    .exact .inl rfl
    .exact .inr rfl
   .exact h2
  obtain⟨r1,r2⟩:=AQ (p:=aZ (bX s) (A:Int)) (q:=(B:Int)) (by omega) (by rw [Gq];exact hg);have aop:(B:Int)<1000000000^(k+(t.size-k)):=by
   have h1:=GI (t.extract (k+1) t.size).size;have h2:=iG (b:=1000000000) (by decide) (show(t.extract (k+1) t.size).size<=k+(t.size-k) by omega);omega
  refine⟨Rat.divInt (aZ (bX s) (A:Int)) (B:Int),k+(t.size-k),gR ?_,by omega,by rw [r1];exact Wf,by rw [r2];exact aop⟩;have NJ:=(Ns (ak t)).2 (by rw [hk,<-bd];exact hlt);rw [hk]at NJ;have x1:ak (t.extract 0 k)=(ak t).take k:=by rw [lK,List.drop_zero]
  have x2:ak (t.extract (k+1) t.size)=(ak t).drop (k+1):=by rw [lK,bd,dA]
  rw [<-x1,<-x2,A7,NI]at NJ;show ak s=ak (aU _);have eq:ak (aU (Rat.divInt (aZ (bX s) (A:Int)) (B:Int)))=Lib.itoa (aZ (bX s) (A:Int))++47::Lib.decDigits B:=by
   unfold aU;rw [if_neg (by omega),r1,r2,Dec.uf]
  rw [eq,hit,hs,NJ];cases bX s<;>rfl
 .have r1:((aZ (bX s) (A:Int):Int):Rat).num=aZ (bX s) (A:Int):=Rat.num_intCast _;have r2:((aZ (bX s) (A:Int):Int):Rat).den=1:=Rat.den_intCast _;have aoq:(1:Int)<1000000000^(k+(t.size-k)):=by
   have hp:=(wk ha).2;have h2:=iG (b:=1000000000) (by decide) (show 1<=k+(t.size-k) by omega);rw [Int.pow_succ,Int.pow_zero]at h2;omega
  refine⟨((aZ (bX s) (A:Int):Int):Rat),k+(t.size-k),gR ?_,by omega,by rw [r1];exact Wf,by rw [r2];exact aoq⟩;have x1:ak (t.extract 0 k)=ak t:=by rw [lK,List.drop_zero,ef (by rw [<-bd];omega)]
  rw [x1]at A7;show ak s=ak (aU _);have eq:ak (aU ((aZ (bX s) (A:Int):Int):Rat))=Lib.itoa (aZ (bX s) (A:Int)):=by
   unfold aU;rw [if_pos r2,r1];exact jy _
  rw [eq,hit,hs,A7]
noncomputable section
noncomputable def ux:Code:=(f138.body).getD .skip
noncomputable def NK:Code:=(f78.body).getD .skip
noncomputable def wq:Code:=(f23.body).getD .skip
noncomputable def wu:Code:=(f24.body).getD .skip
noncomputable def A8:bF:=a7 [L5,AH,Ml,L1,Gg]
abbrev NL:List Nat:=[1,0,1,1,0,0,0]
abbrev aor (j:Nat) (ls:List (Int×List Int)):aa:= .bN 83 cV j 0 ls.length (bA ls.length)
abbrev aos (ls:List (Int×List Int)):fy:= .opt 83 cV ls
abbrev uy (ls:List (Int×List Int)):aa:= .bk false cV ls
noncomputable def iz (q:bS):(Int×List Int)×(Int×List Int):=kj q (dw (cJ q.1 q.2))
def NM (q:bS):bC:={n:=21,sl:=[(1, .ptr 64 0)],bG:=[(64,Uo q)],next:=65}
def si (q:bS) (ls:List (Int×List Int)):bC:={n:=21,sl:=[(1, .ptr 64 0),(3,aor 65 ls)],bG:=[(64,Uo q),(65,aos ls)],next:=66}
def GR (ls:List (Int×List Int)):bC:={n:=21,sl:=[(3,uy ls)],bG:=[],next:=64}
theorem aot (q:bS):
  cT A8 (fl ux []) 1 21 [cj q] 1 .normal [(64,64,none)] (NM q):=
 wy [] 0
theorem aou (q:bS):
  en A8 (fl ux [1,0]) 2 (NM q) 1 .normal [(64,64,none)] (si q []):=
 wy [] 0
theorem aov (q:bS) (ls:List (Int×List Int)) (h1:(pv q.1 q.2)=true) (h2:ls.length+1<=1000000) (h3:(okQ 20000 q&&okQ 20000 (dw (cJ q.1 q.2)))=true) (h4:(aD (kj q (dw (cJ q.1 q.2))).1)=true) (h5:¬eY (kj q (dw (cJ q.1 q.2))).1=0) (h6:(gQ (kj q (dw (cJ q.1 q.2))).2 (kj q (dw (cJ q.1 q.2))).1)=true) (h7:(ls.length+1)=(ls++[cJ q.1 q.2]).length) (h8:(aS.full)=(bA (ls++[cJ q.1 q.2]).length)) (h9:(jV (kj q (dw (cJ q.1 q.2)))).1.1=(jV (iz q)).1.1) (h10:(jV (kj q (dw (cJ q.1 q.2)))).1.2=(jV (iz q)).1.2) (h11:(jV (kj q (dw (cJ q.1 q.2)))).2.1=(jV (iz q)).2.1) (h12:(jV (kj q (dw (cJ q.1 q.2)))).2.2=(jV (iz q)).2.2):
  bh A8 (fl ux NL) (si q ls) 4 .normal [(64,64,none),(65,68,none)] (si (jV (iz q)) (ls++[cJ q.1 q.2])):=
 wy [af h1,yk 83 cV ls,ia 32 h2,af (aW (v:=cj q) (by kernel_rfl)),af (aW (v:=aH (cJ q.1 q.2)) (by kernel_rfl)),af h3,af h4,yn h5,af h6,ax h7,ax h8,ax h9,ax h10,ax h11,ax h12,jN 83 (au.pair (.int .i64) (au.list true aB)) (Eq.refl (ls++[cJ q.1 q.2]))] 1381362936716921143946248031930377830401
theorem Or (q:bS) (ls:List (Int×List Int)) (h1:(pv q.1 q.2)=true) (h2:ls.length+1<=1000000) (h3:(okQ 20000 q&&okQ 20000 (dw (cJ q.1 q.2)))=true) (h4:(aD (kj q (dw (cJ q.1 q.2))).1)=true) (h5:eY (kj q (dw (cJ q.1 q.2))).1=0) (h6:(ls.length+1)=(ls++[cJ q.1 q.2]).length) (h7:(aS.full)=(bA (ls++[cJ q.1 q.2]).length)) (h8:(kj q (dw (cJ q.1 q.2))).1.1=(iz q).1.1) (h9:(kj q (dw (cJ q.1 q.2))).1.2=(iz q).1.2) (h10:(kj q (dw (cJ q.1 q.2))).2.1=(iz q).2.1) (h11:(kj q (dw (cJ q.1 q.2))).2.2=(iz q).2.2):
  bh A8 (fl ux NL) (si q ls) 6 (.exit 0) [(64,64,none),(65,68,none)] (si (iz q) (ls++[cJ q.1 q.2])):=
 wy [af h1,yk 83 cV ls,ia 32 h2,af (aW (v:=cj q) (by kernel_rfl)),af (aW (v:=aH (cJ q.1 q.2)) (by kernel_rfl)),af h3,af h4,c8 h5,ax h6,ax h7,ax h8,ax h9,ax h10,ax h11,jN 83 (au.pair (.int .i64) (au.list true aB)) (Eq.refl (ls++[cJ q.1 q.2]))] 20233469033341332909475762977655750657
theorem aow (q:bS) (ls:List (Int×List Int)):
  aA.path (aA.ret (R.normal ((si q ls).T.set 3 (some (uy ls))) ((si q ls).H.drop 65) []):aA R) (dl 1) (dX prog 21 .normal [] (GR ls)):=
 wy [] 0
theorem aox (ls:List (Int×List Int)):
  bQ A8 ((fl ux [1,0]).drop 3) (GR ls) 1 f138 false (uy ls):=
 wy [] 0
noncomputable def wz:Nat->bS->List (Int×List Int)
 |0,_=>[]
 |k+1,q=>cJ q.1 q.2::(if eY (iz q).1=0 then []else wz k (jV (iz q)))
noncomputable def jh (q:bS):List (Int×List Int):=wz (aq q.2).toNat q
noncomputable def Wg:bn:={f:=138,ps:=[fZ],rs:=[.list false cV],fresh:=false,pre:=fun d=>wo 4 d.1,fn:=fun d=>(jh d.1,())}
noncomputable def NN:bF:=a7 [VZ,Mi,Wg]
noncomputable def pH (a:ByteArray):List (Int×List Int):=if ckR a=0 then jh (fL a)else []
theorem aoy (a:ByteArray) (h1:a.size<=1000000000) (h2:¬ckR a=0):
  bq NN (fl NK []) 9 18 [sv a] 3 f78 false (.tuple [uy [],iv (ckR a)]):=
 wy [ah h1,af (gJ.mpr h2)] 129
theorem aoz (a:ByteArray) (h1:a.size<=1000000000) (h2:ckR a=0) (h3:(iV a)=true) (h4:(wo 4 (fL a))=true) (h5:¬(↑(jh (fL a)).length:Int)>256):
  bq NN (fl NK []) 9 18 [sv a] 4 f78 false (.tuple [uy (jh (fL a)),iv 0]):=
 wy [ah h1,af (jA.mpr h2),af h3,af h4,aJ h5] 84947073
noncomputable def NP:bn:={f:=78,ps:=[.str],rs:=[.list false cV, .int .i64],fresh:=false,pre:=fun d=>decide (d.1.size<=24),fn:=fun d=>(pH d.1,ckR d.1,())}
noncomputable def A9:bF:=a7 [NP,AH,Nx]
abbrev NQ:List Nat:=[1,1,1,1,0,1,0,0]
abbrev Dw (j:Nat) (ls:List ByteArray):aa:= .bN 22 .str j 0 ls.length (bA ls.length)
abbrev Dx (ls:List ByteArray):fy:= .opt 22 .str ls
abbrev mN:Int×List Int:=(0,[])
def sj (l:List (Int×List Int)) (o:List ByteArray) (k:Nat):bC:={n:=31,sl:=[(6,Dw 64 o),(17,uy l),(18,iv l.length),(19,iv k)],bG:=[(64,Dx o)],next:=65}
theorem aoA (a:ByteArray) (h1:a.size<=24) (h2:¬ckR a=0):
  bq A9 (fl wq []) 9 31 [sv a] 3 f23 true (.tuple [e5 [],iv (ckR a)]):=
 wy [ah h1,af (gJ.mpr h2)] 129
theorem aoB (a:ByteArray) (h1:a.size<=24) (h2:ckR a=0):
  cT A9 (fl wq []) 6 31 [sv a] 2 .normal [] (sj (pH a) [] 0):=
 wy [ah h1,af (jA.mpr h2)] 129
theorem aoC (l:List (Int×List Int)) (o:List ByteArray) (k:Nat) (h1:(k:Int)<(l.length:Int)) (h2:k<l.length) (h3:(wo 10000 (dw (l.getD k (0,[]))))=true) (h4:o.length+1<=1000000) (h5:i6 ((k:Int)+1)) (h6:(o.length+1)=(o++[nE (dw (l.getD k (0,[])))]).length) (h7:(aS.full)=(bA (o++[nE (dw (l.getD k (0,[])))]).length)):
  bh A9 (fl wq NQ) (sj l o k) 5 .normal [(64,67,none)] (sj l (o++[nE (dw (l.getD k mN))]) (k+1)):=
 wy [ah h1,ah h2,af h3,yk 22 au.str o,ia 16 h4,yi h5,ax h6,ax h7,jN 22 (au.str) (Eq.refl (o++[nE (dw (l.getD k ((0:Int),[])))]))] 713053500923929246721101537281
theorem aoD (l:List (Int×List Int)) (o:List ByteArray) (k:Nat) (h1:¬(k:Int)<(l.length:Int)):
  bh A9 (fl wq NQ) (sj l o k) 2 (.exit 0) [(64,64,none)] (sj l o k):=
 wy [aJ h1] 1
theorem aoE (l:List (Int×List Int)) (o:List ByteArray) (k:Nat) (h1:(o)=((o.drop 0).take o.length)) (h2:o.length=0\/bt 22 au.str (bM 22 au.str o) (0+o.length-1)=true) (h3:false=true->o.length≠0):
  bQ A9 ((fl wq []).drop 7) (sj l o k) 1 f23 true (.tuple [e5 o,iv 0]):=
 wy [oT (an (rr o.length) (an (show(o)=(((bI au.str (bM 22 au.str o)).drop (0:Nat)).take o.length)from(by simp only [dI]<;>exact h1)) (an h2 h3)))] 1
noncomputable def Ha:bF:=a7 [NP,vX,xV,vE,CZ,Nx]
abbrev NR:List Nat:=[1,1,1,1,1,1,0,1,0,0]
abbrev NS:Sv.Ren:=[(64,64,none),(65,65,none),(66,66,none),(67,67,none)]
def sr (l:List (Int×List Int)) (p q r s:aM) (o:List ByteArray) (k:Nat):bC:={n:=52,sl:=[(6, .ptr 64 0),(7, .ptr 65 0),(8, .ptr 66 0),(9, .ptr 67 0),(10,Dw 68 o),(25,uy l),(26,iv l.length),(27,iv k)],bG:=[(64,mI p),(65,mI q),(66,mI r),(67,mI s),(68,Dx o)],next:=69}
noncomputable def e6 (n p r:aM):Int×List Int:=cF (bU n p) r
theorem aoF (a:ByteArray) (h1:a.size<=24) (h2:¬ckR a=0):
  bq Ha (fl wu []) 11 52 [sv a] 3 f24 true (.tuple [e5 [],iv (ckR a)]):=
 wy [ah h1,af (gJ.mpr h2)] 129
theorem aoG (a:ByteArray) (h1:a.size<=24) (h2:ckR a=0):
  cT Ha (fl wu []) 8 52 [sv a] 2 .normal NS (sr (pH a) (dF 1) (dF 0) (dF 0) (dF 1) [] 0):=
 wy [ah h1,af (jA.mpr h2)] 129
theorem aoH (l:List (Int×List Int)) (p q r s:aM) (o:List ByteArray) (k:Nat) (h1:(k:Int)<(l.length:Int)) (h2:k<l.length) (h3:(aD (l.getD k (0,[]))&&aD p)=true) (h4:(aD (bU (l.getD k (0,[])) p)&&aD r)=true) (h5:(aD (l.getD k (0,[]))&&aD q)=true) (h6:(aD (bU (l.getD k (0,[])) q)&&aD s)=true) (h7:(gQ (cF (bU (l.getD k (0,[])) p) r) (cF (bU (l.getD k (0,[])) q) s))=true) (h8:(wo 10000 (jU (cF (bU (l.getD k (0,[])) p) r) (cF (bU (l.getD k (0,[])) q) s)))=true) (h9:o.length+1<=1000000) (h10:i6 ((k:Int)+1)) (h11:(o.length+1)=(o++[nE (jU (e6 (l.getD k (0,[])) p r) (e6 (l.getD k (0,[])) q s))]).length) (h12:(aS.full)=(bA (o++[nE (jU (e6 (l.getD k (0,[])) p r) (e6 (l.getD k (0,[])) q s))]).length)) (dP:(cF (bU (l.getD k (0,[])) p) r).1=(e6 (l.getD k (0,[])) p r).1) (gD:(cF (bU (l.getD k (0,[])) p) r).2=(e6 (l.getD k (0,[])) p r).2) (iZ:(cF (bU (l.getD k (0,[])) q) s).1=(e6 (l.getD k (0,[])) q s).1) (kW:(cF (bU (l.getD k (0,[])) q) s).2=(e6 (l.getD k (0,[])) q s).2) (tP:(o++[nE (jU (cF (bU (l.getD k (0,[])) p) r) (cF (bU (l.getD k (0,[])) q) s))])=(o++[nE (jU (e6 (l.getD k (0,[])) p r) (e6 (l.getD k (0,[])) q s))])):
  bh Ha (fl wu NR) (sr l p q r s o k) 5 .normal (NS++[(68,71,none)]) (sr l (e6 (l.getD k mN) p r) (e6 (l.getD k mN) q s) p q (o++[nE (jU (e6 (l.getD k mN) p r) (e6 (l.getD k mN) q s))]) (k+1)):=
 wy [ah h1,ah h2,af (aW (v:=aH (l.getD k ((0:Int),[]))) (by kernel_rfl)),af (aW (v:=aH p) (by kernel_rfl)),af h3,af (aW (v:=aH r) (by kernel_rfl)),af h4,af (aW (v:=aH q) (by kernel_rfl)),af h5,af (aW (v:=aH s) (by kernel_rfl)),af h6,af h7,af h8,yk 22 au.str o,ia 16 h9,yi h10,ax h11,ax h12,ax dP,ax gD,ax iZ,ax kW,jN 22 (au.str) tP] 2792586535099870330547037384574267700935930258364106369315266308192139511734192578561
theorem aoI (l:List (Int×List Int)) (p q r s:aM) (o:List ByteArray) (k:Nat) (h1:¬(k:Int)<(l.length:Int)):
  bh Ha (fl wu NR) (sr l p q r s o k) 2 (.exit 0) (NS++[(68,68,none)]) (sr l p q r s o k):=
 wy [aJ h1] 1
theorem aoJ (l:List (Int×List Int)) (p q r s:aM) (o:List ByteArray) (k:Nat) (h1:(o)=((o.drop 0).take o.length)) (h2:o.length=0\/bt 22 au.str (bM 22 au.str o) (0+o.length-1)=true) (h3:false=true->o.length≠0):
  bQ Ha ((fl wu []).drop 9) (sr l p q r s o k) 1 f24 true (.tuple [e5 o,iv 0]):=
 wy [oT (an (rr o.length) (an (show(o)=(((bI au.str (bM 22 au.str o)).drop (0:Nat)).take o.length)from(by simp only [dI]<;>exact h1)) (an h2 h3)))] 1
end
noncomputable section
theorem Wh {n:Nat} {q:bS} {r:Rat} (h:QR n q r) (hn:1<=n):(r.num.natAbs:Int)<18446744073709551616^n/\(r.den:Int)<18446744073709551616^n:=by
 have h1:=dp h.o1 hn;have h2:=dp h.o2 hn;rw [h.num]at h1;rw [h.den]at h2;exact⟨h1,by omega⟩
theorem yr {q:bS} {r:Rat} (h:QR 4 q r):bH 4 (cJ q.1 q.2)=true/\aq (cJ q.1 q.2)=r.floor/\QR 9 (iz q) (r-(r.floor:Rat)):=by
 have h1:=tg h.o1 h.o2 h.pos (by decide);have h2:=ajO h (by decide);have h3:=C1 h1;rw [h2]at h3;exact⟨h1,h2,akr h h3 (by decide)⟩
theorem Wi {q:bS} {r:Rat} (h:QR 4 q r) (hz:r.num%r.den≠0):QR 4 (jV (iz q)) (r-(r.floor:Rat))⁻¹ :=by
 obtain⟨_,_,h3⟩:=yr h;have hne:r-(r.floor:Rat)≠0:=fun e=>hz ((A6 r).1 e)
 have h4:=ajN h3 (by decide) hne;obtain⟨g1,g2⟩:=Dv hz;obtain⟨l1,l2⟩:=Wh h (by decide);have hd:=r.den_pos;have:=cS r.num (show(0:Int)<r.den by omega);exact h4.shrink (by rw [g1];omega) (by rw [g2];omega)
theorem GS {q:bS} {r:Rat} (h:QR 4 q r):eY (iz q).1=0↔r.num%r.den=0:=by
 obtain⟨_,_,h3⟩:=yr h;rw [ajP h3,<-A6 r];constructor
 .intro hs;refine Classical.byContradiction fun hne=> ?_
  by_cases hl:r-(r.floor:Rat)<0
  .rw [if_pos hl]at hs;cases hs
  .rw [if_neg hl,if_neg hne]at hs;cases hs
 .intro e;rw [e];rfl
theorem Wj:∀(k:Nat) (q:bS) (r:Rat),QR 4 q r->r.den<=k->(wz k q).map aq=cy r.num r.den/\∀a∈wz k q,bH 4 a=true
 |0,q,r,h,hk=>absurd r.den_pos (by omega)
 |k+1,q,r,h,hk=>by
  obtain⟨h1,h2,h3⟩:=yr h;have hd:=r.den_pos;rw [ot (by omega)];unfold wz;rw [List.map_cons,h2,Rat.floor_def];by_cases hz:r.num%r.den=0
  .rw [if_pos ((GS h).2 hz),if_pos hz];exact⟨rfl,fun a ha=>by rw [List.mem_singleton.1 ha];exact h1⟩
  .rw [if_neg (fun e=>hz ((GS h).1 e)),if_neg hz];obtain⟨g1,g2⟩:=Dv hz;have:=cS r.num (show(0:Int)<r.den by omega);obtain⟨i1,i2⟩:=Wj k _ _ (Wi h hz) (by omega);rw [i1,g1,g2];refine⟨rfl,fun a ha=> ?_⟩;rcases dV.1 ha with rfl |ha
   .exact h1
   .exact i2 a ha
theorem Wk {q:bS} {r:Rat} (h:QR 4 q r):(jh q).map aq=cy r.num r.den/\∀a∈jh q,bH 4 a=true:=by
 unfold jh;exact Wj _ q r h (by rw [h.den];omega)
theorem aoK {q:bS} {r:Rat} (h:QR 4 q r):(jh q).length<=512:=by
 have h1:=congrArg List.length (Wk h).1;rw [gW]at h1;rw [h1];have:=r.den_pos;refine NA 256 _ _ (by omega) ?_;have h2:=(Wh h (by decide)).2;have e:(18446744073709551616:Int)^4=2^256:=by decide
 omega
theorem aoL:bB prog (bD A8):=cR (aT TV (aT tz (aT Um (aT TS (aT tw dY)))))
theorem aoM {X:Ext} {P:Program} {w0:World} {F:Env} {n:Nat} {T:av aa} {H:ai} {Q:Exit->av aa->ai->Prop} {l:List Code} {c:Code} (hl:l=[.scope c])
  (h:a8 X P w0 F n (q9 c) T H (fun e T H=>e= .ret/\Q e T H)):a8 X P w0 F n l T H Q:=by
 subst hl;refine Goal.scope (x:=c) rfl (tr (aR.mono (fun e T H h=> ?_) h));obtain⟨rfl,h⟩:=h;exact⟨fun l e=>(by cases e),h⟩
theorem Hb {q:bS} {r:Rat} (h:QR 4 q r):Holds prog false 138 [cj q] (uy (jh q)):=by
 have hS:=aoL;refine bJ (c:=ux) func138 rfl rfl fun w F=> ?_
 refine cE hS 1 (aot q) ?_;refine aoM (c:=cat ux [1,0]) (by kernel_rfl) ?_;refine dZ (s:=NM q) hS 2 (aou q) ?_;refine aR.loop (ι:={x:bS×List (Int×List Int)// ∃(r:Rat) (k:Nat),QR 4 x.1 r/\r.den<=k/\jh q=x.2++wz k x.1}) (id:=0) (b:=cat ux NL) (rest:=(fl ux [1,0]).drop 3) (by kernel_rfl) (fun x=>si x.1.1 x.1.2) (fun x=>(aq x.1.1.2).toNat)
  ⟨(q,[]),r,_,h,by rw [h.den];omega,rfl⟩ (fun _=>rfl) ?_
 rintro⟨⟨y,ls⟩,s,k,hy,hk,he⟩;have hy:QR 4 y s:=hy;have he:jh q=ls++wz k y:=he;obtain⟨h1,h2,h3⟩:=yr hy;have hlen:=aoK h;rw [he,cG]at hlen;have hd:=s.den_pos;obtain⟨k,rfl⟩:∃j,k=j+1:=⟨k-1,by omega⟩;unfold wz at he hlen;have o1:pv y.1 y.2=true:=CS.2 ⟨gC (by decide) hy.o1,gC (by decide) hy.o2,hy.pos⟩;have o2:(okQ 20000 y&&okQ 20000 (dw (cJ y.1 y.2)))=true:=by
  have h4:=C1 h1;rw [(hy.mono (show 4<=20000 by decide)).ok,(h4.mono (show 4<=20000 by decide)).ok];rfl
 have o3:aD (iz y).1=true:=gC (by decide) h3.o1;by_cases hz:s.num%s.den=0
 .have hs:=(GS hy).2 hz;rw [if_pos hs]at he hlen;refine bp (s:=si y ls) hS (Or y ls o1 (by omega) o2 o3 hs (by rw [cG];rfl) (uv _ _) rfl rfl rfl rfl) ?_;refine cv (cD ?_);rw [<-he];generalize iz y=y2;refine aR.tB (A3 (by kernel_rfl)) (i:=65) (s:=3) (e2:=83) (t:=cV) (xs:=jh q) (cap:=bA (jh q).length) (by kernel_rfl) (by kernel_rfl) ?_;refine aR.ng (A3 (by kernel_rfl)) (σ:=[]) (s:=GR (jh q)) (aow y2 _) ?_;exact aR.tv (s:=GR (jh q)) known mixed hS _ (aox (jh q)) fun T H h=>⟨rfl,h⟩
 .have hs:¬eY (iz y).1=0:=fun e=>hz ((GS hy).1 e)
  rw [if_neg hs]at he hlen;have hnx:=Wi hy hz;have hne:aq (iz y).1≠0:=by
   rw [h3.num];intro e;exact hz ((A6 s).1 (Rat.num_eq_zero.1 e))
  have Md:gQ (iz y).2 (iz y).1=true:=tU.2 ⟨gC (by decide) h3.o2,o3,hne⟩;refine bp (s:=si y ls) hS (aov y ls o1 (by simp only [List.length_cons]at hlen;omega) o2 o3 hs Md (by rw [cG];rfl) (uv _ _) rfl rfl rfl rfl) ?_;obtain⟨g1,g2⟩:=Dv hz;have hlt:=cS s.num (show(0:Int)<s.den by omega);refine⟨⟨(jV (iz y),ls++[cJ y.1 y.2]),_,k,hnx,by omega,by rw [he,ou];rfl⟩, ?_,rfl,rfl⟩;show(aq (jV (iz y)).2).toNat<(aq y.2).toNat;rw [hnx.den,hy.den];omega
theorem aoN:Wg.Ok prog:=fun⟨q,_⟩ h=>Hb (Ny.1 h)
end
set_option maxHeartbeats 1000000
noncomputable section
theorem NT:∀(n:Nat) (u:Nat),(Lib.decDigits u).length<=n->u<10^n
 |0,u,h=>by have:=GF u;omega
 |n+1,u,h=>by
  have hp:0<10^n:=Nat.pow_pos (by decide);by_cases hu:u<10
  .rw [Nat.pow_succ];omega
  .rw [lh hu,cG,List.length_singleton]at h;have:=NT n (u/10) (by omega);rw [Nat.pow_succ];omega
theorem aoO {r:Rat} {n:Nat} (h:(aU r).size<=n):r.num.natAbs<10^n/\r.den<10^n:=by
 have hb:ak (aU r)=Lib.itoa r.num++(if r.den=1 then []else 47::Lib.decDigits r.den):=by
  unfold aU;by_cases h1:r.den=1
  .rw [if_pos h1,if_pos h1,List.append_nil];exact jy _
  .rw [if_neg h1,if_neg h1,<-Dec.uf]
 rw [bd,hb,cG,AX]at h;have hl:(Lib.decDigits r.num.natAbs).length<=(if decide (r.num<0)then 45::Lib.decDigits r.num.natAbs else Lib.decDigits r.num.natAbs).length:=by split<;>simp
 refine⟨NT _ _ (by omega), ?_⟩;by_cases h1:r.den=1
 .rw [h1];cases n with
  |zero=>have:=GF r.num.natAbs;omega
  |succ n=>exact Nat.one_lt_pow (by omega) (by decide)
 .rw [if_neg h1,List.length_cons]at h;exact NT _ _ (by omega)
structure yI (a:ByteArray) (r:Rat):Prop where
 tx:a=aU r
 n:r.num.natAbs<1000000000000000000000000
 d:r.den<1000000000000000000000000
 fr:iV a=true
 qr:QR 2 (fL a) r
 q:toQ a=r
 i:mK 3 r
theorem aoP {r:Rat} (h:(aU r).size<=24):yI (aU r) r:=by
 have e:(10:Nat)^24=1000000000000000000000000:=by decide
 obtain⟨h1,h2⟩:=aoO h;rw [e]at h1 h2;have i:mK 3 r:=⟨by have:(1000000000:Int)^3=1000000000000000000000000000:=(by decide);omega,by have:(1000000000:Int)^3=1000000000000000000000000000:=(by decide);omega⟩
 have e2:(18446744073709551616:Int)^2=340282366920938463463374607431768211456:=by decide
 obtain⟨f1,f2⟩:=ak0 (n:=2) (r:=r) (by decide) (by decide) (kV (by omega)).1 (kV (by omega)).1 (by omega);exact⟨rfl,h1,h2,f1,f2,pG (k:=3) (by decide) i,i⟩
theorem wa {a:ByteArray} (hs:a.size<=24) (hc:ckR a=0):yI a (toQ a):=by
 obtain⟨r,k,rfl,_,_⟩:=aom hc;have h:=aoP hs;rw [h.q];exact h
def mO (a:ByteArray):List Int:=cy (toQ a).num (toQ a).den
def cZ (n:Int):ByteArray:=aU (n:Rat)
def uz (a:ByteArray):List ByteArray:=if ckR a=0 then(mO a).map cZ else []
theorem wb {a:ByteArray} {r:Rat} (h:yI a r):(jh (fL a)).map aq=cy r.num r.den/\(∀x∈jh (fL a),bH 4 x=true)/\(jh (fL a)).length<=160:=by
 obtain⟨h1,h2⟩:=Wk (h.qr.mono (show 2<=4 by decide));refine⟨h1,h2, ?_⟩;have e:=congrArg List.length h1;rw [gW]at e;rw [e];have:=r.den_pos;have hd:=h.d;refine NA 80 _ _ (by omega) ?_;have:(2:Int)^80=1208925819614629174706176:=by decide
 omega
theorem Wl:bB prog (bD NN):=cR (aT aod (aT Uf (aT aoN dY)))
theorem Wm:NP.Ok prog:=fun⟨a,_⟩ h=>by
 have hs:a.size<=24:=ap h;show Holds prog false 78 [sv a] (.tuple [uy (pH a),iv (ckR a)]);refine bJ (c:=NK) func78 rfl rfl fun w F=> ?_
 unfold pH;by_cases hc:ckR a=0
 .have hf:=wa hs hc;have hl:=(wb hf).2.2;rw [if_pos hc,hc];exact bu Wl 9 (aoz a (by omega) hc hf.fr (hf.qr.rd (by decide)) (by omega))
 .rw [if_neg hc];exact bu Wl 9 (aoy a (by omega) hc)
theorem aoQ:bB prog (bD A9):=cR (aT Wm (aT tz (aT V5 dY)))
noncomputable def Wn:bn:={f:=23,ps:=[.str],rs:=[.list false .str, .int .i64],fresh:=true,pre:=fun d=>decide (d.1.size<=24),fn:=fun d=>(uz d.1,ckR d.1,())}
theorem NU (e:TypeId) (t:au) (l:List t.den):l.length=0\/bt e t (bM e t l) (0+l.length-1)=true:=by
 by_cases h:l.length=0
 .exact .inl h
 .right;rw [Bx,az (show 0+l.length-1<l.length by omega)]
theorem aoR {x:aM} (h:bH 4 x=true):nE (dw x)=cZ (aq x)/\wo 10000 (dw x)=true:=by
 have q:=C1 h;exact⟨by unfold nE cZ;rw [q.val],q.rd (by decide)⟩
theorem aoS {α β:Type} (f:α->β) {l:List α} {k:Nat} (d:α) (h:k<l.length):(l.map f).take (k+1)=(l.map f).take k++[f (l.getD k d)]:=by
 rw [List.take_succ_eq_append_getElem (by rw [gW];exact h),List.getElem_map,ao,mP h];rfl
theorem aoT:Wn.Ok prog:=fun⟨a,_⟩ h=>by
 have hs:a.size<=24:=ap h;have hS:=aoQ;show Holds prog true 23 [sv a] (.tuple [e5 (uz a),iv (ckR a)]);refine bJ (c:=wq) func23 rfl rfl fun w F=> ?_
 unfold uz;by_cases hc:ckR a=0
 .have hf:=wa hs hc;obtain⟨c1,c2,c3⟩:=wb hf;have hx:(mO a).map cZ=(pH a).map fun x=>cZ (aq x):=by
   unfold pH mO;rw [if_pos hc,<-c1,List.map_map];rfl
  have hL:(pH a).length<=160/\∀x∈pH a,bH 4 x=true:=by unfold pH;rw [if_pos hc];exact⟨c3,c2⟩
  rw [if_pos hc,hc,hx];refine cE hS 6 (aoB a hs hc) ?_;obtain⟨L,aoU⟩:∃L,L=pH a:=⟨_,rfl⟩;rw [<-aoU]at hL ⊢;obtain⟨l1,l2⟩:=hL;refine aR.loop (ι:={k:Nat//k<=L.length}) (id:=0) (b:=cat wq NQ) (rest:=(fl wq []).drop 7) (by kernel_rfl) (fun k=>sj L ((L.map fun x=>cZ (aq x)).take k.1) k.1) (fun k=>L.length-k.1) ⟨0,Nat.zero_le _⟩ (fun _=>rfl) ?_;rintro⟨k,hk⟩;have hol:((L.map fun x=>cZ (aq x)).take k).length<=160:=by rw [dK];omega
  by_cases hlt:k<L.length
  .have hm:L.getD k mN∈L:=by rw [ao,mP hlt];exact List.getElem_mem _
   obtain⟨t1,t2⟩:=aoR (l2 _ hm);have hnx:=aoS (fun x:Int×List Int=>cZ (aq x)) mN hlt;have key:=aoC L ((L.map fun x=>cZ (aq x)).take k) k (by omega) hlt t2 (by omega) (by omega) (by rw [cG];rfl) (uv _ _);rw [t1,<-hnx]at key;refine bp (s:=sj L ((L.map fun x=>cZ (aq x)).take k) k) hS key ?_;exact⟨⟨k+1,hlt⟩,by show L.length-(k+1)<L.length-k;omega,rfl,rfl⟩
  .refine bp (s:=sj L ((L.map fun x=>cZ (aq x)).take k) k) hS (aoD L _ k (by omega)) ?_;refine cv (cD ?_);have e:(L.map fun x=>cZ (aq x)).take k=L.map fun x=>cZ (aq x):=ef (by rw [gW];omega)
   rw [e];exact bT (s:=sj L (L.map fun x=>cZ (aq x)) k) hS (aoE L _ k (by rw [List.drop_zero,dA]) (NU _ .str _) (fun h=>by cases h))
 .rw [if_neg hc];exact bu hS 9 (aoA a hs hc)
end
set_option maxHeartbeats 1000000
noncomputable section
def gV (l:List Int):Rat:=Rat.divInt (kk l).1 (kk l).2
def dS (l:List Int):List ByteArray:=(List.range l.length).map fun i=>aU (gV (l.take (i+1)))
def uA (a:ByteArray):List ByteArray:=if ckR a=0 then dS (mO a)else []
noncomputable def Wo:bn:={f:=24,ps:=[.str],rs:=[.list false .str, .int .i64],fresh:=true,pre:=fun d=>decide (d.1.size<=24),fn:=fun d=>(uA d.1,ckR d.1,())}
theorem aoV:bB prog (bD Ha):=cR (aT Wm (aT AI (aT z7 (aT xZ (aT Ga (aT V5 dY))))))
theorem NV {a:ByteArray} {r:Rat} (h:yI a r) (k:Nat) {t:List Int} (ht:sg t ((cy r.num r.den).drop k)): -2000000000000000000000000<=(kk t).1/\(kk t).1<=2000000000000000000000000/\1<=(kk t).2/\(kk t).2<=2000000000000000000000000/\(1<=k->1<=(kk t).1):=by
 have h1:=h.n;have h2:=h.d;have h3:=r.den_pos;exact aoj (B:=2000000000000000000000000) (by omega) ⟨by omega,by omega⟩ (by omega) k ht
theorem m8 {α:Type} {l:List α} {k:Nat} (d:α) (h:k<l.length):l.take (k+1)=l.take k++[l.getD k d]:=by
 rw [List.take_succ_eq_append_getElem h,ao,mP h];rfl
theorem Wp {l:List Int} {k:Nat} (h:k<l.length):sg (l.take (k+1)) (l.drop 0):=
 ⟨fun e=>by have:=congrArg List.length e;rw [dK,List.length_nil]at this;omega,l.drop (k+1),by rw [List.drop_zero,List.take_append_drop]⟩
structure GU (L:List Int) (k:Nat) (p q r s:aM):Prop where
 p:aq p=(gU (1,0) (L.take k)).1/\bH 2 p=true
 r:aq r=(gU (1,0) (L.take k)).2/\bH 2 r=true
 q:aq q=(gU (0,1) (L.take k)).1/\bH 2 q=true
 s:aq s=(gU (0,1) (L.take k)).2/\bH 2 s=true
theorem aoW {a:ByteArray} {x:Rat} (h:yI a x) {k:Nat} (hk:k<(cy x.num x.den).length) {p q r s n:aM} (I:GU (cy x.num x.den) k p q r s) (hn:aq n=(cy x.num x.den).getD k 0):
  GU (cy x.num x.den) (k+1) (e6 n p r) (e6 n q s) p q/\1<=aq (e6 n q s)/\aq (e6 n p r)=(kk ((cy x.num x.den).take (k+1))).1/\aq (e6 n q s)=(kk ((cy x.num x.den).take (k+1))).2:=by
 have hB:=NV h 0 (Wp hk);have hr:=V7 ((cy x.num x.den).take (k+1));have e1:(kk ((cy x.num x.den).take (k+1))).1=(gU (1,0) ((cy x.num x.den).take (k+1))).1:=by rw [hr]
 have e2:(kk ((cy x.num x.den).take (k+1))).2=(gU (0,1) ((cy x.num x.den).take (k+1))).1:=by rw [hr]
 have hs:=m8 0 hk;have v1:aq (e6 n p r)=(gU (1,0) ((cy x.num x.den).take (k+1))).1:=by
  unfold e6;rw [rB,de,hn,I.p.1,I.r.1,hs,GP]
 have v2:aq (e6 n q s)=(gU (0,1) ((cy x.num x.den).take (k+1))).1:=by
  unfold e6;rw [rB,de,hn,I.q.1,I.s.1,hs,GP]
 have e3:(18446744073709551616:Int)^2=340282366920938463463374607431768211456:=by decide
 have o1:bH 2 (e6 n p r)=true:=xT (by
  have:aq (bU n p)+aq r=aq (e6 n p r):=(rB _ _).symm;rw [this,v1,<-e1];omega)
 have o2:bH 2 (e6 n q s)=true:=xT (by
  have:aq (bU n q)+aq s=aq (e6 n q s):=(rB _ _).symm;rw [this,v2,<-e2];omega)
 refine⟨⟨⟨v1,o1⟩,⟨?_,I.p.2⟩,⟨v2,o2⟩,⟨?_,I.q.2⟩⟩,by rw [v2,<-e2];exact hB.2.2.1,by rw [v1,e1],by rw [v2,e2]⟩
 .rw [I.p.1,hs,GP]
 .rw [I.q.1,hs,GP]
theorem Hc (a:ByteArray) (hs:a.size<=24):Holds prog true 24 [sv a] (.tuple [e5 (uA a),iv (ckR a)]):=by
 have hS:=aoV;refine bJ (c:=wu) func24 rfl rfl fun w F=> ?_
 unfold uA;by_cases hc:ckR a=0
 .have hf:=wa hs hc;obtain⟨c1,c2,c3⟩:=wb hf;rw [if_pos hc,hc];refine cE hS 8 (aoG a hs hc) ?_;have hL:pH a=jh (fL a):=if_pos hc;rw [hL];show a8 _ _ _ _ _ _ _ _ (gk prog true f24 (.tuple [e5 (dS (cy (toQ a).num (toQ a).den)),iv 0]));generalize toQ a=x at*;generalize jh (fL a)=L at*;have hlen:L.length=(cy x.num x.den).length:=by rw [<-c1,gW]
  have gM:∀k,k<L.length->aq (L.getD k mN)=(cy x.num x.den).getD k 0:=fun k hk=>by
   rw [<-c1,ao,ao,List.getElem?_map,mP hk];rfl
  refine aR.loop (ι:={y:(aM×aM×aM×aM)×Nat//y.2<=L.length/\GU (cy x.num x.den) y.2 y.1.1 y.1.2.1 y.1.2.2.1 y.1.2.2.2}) (id:=0) (b:=cat wu NR) (rest:=(fl wu []).drop 9) (by kernel_rfl)
   (fun y=>sr L y.1.1.1 y.1.1.2.1 y.1.1.2.2.1 y.1.1.2.2.2 ((dS (cy x.num x.den)).take y.1.2) y.1.2) (fun y=>L.length-y.1.2)
   ⟨((dF 1,dF 0,dF 0,dF 1),0),Nat.zero_le _,⟨Gl 1,Gk (by decide)⟩,⟨Gl 0,Gk (by decide)⟩,⟨Gl 0,Gk (by decide)⟩,⟨Gl 1,Gk (by decide)⟩⟩ (fun _=>rfl) ?_
  rintro⟨⟨⟨p,q,r,s⟩,k⟩,hk,I⟩;have hk:k<=L.length:=hk;have I:GU (cy x.num x.den) k p q r s:=I;have hxl:(dS (cy x.num x.den)).length=L.length:=by unfold dS;rw [gW,List.length_range,hlen]
  have hol:((dS (cy x.num x.den)).take k).length<=160:=by rw [dK];omega
  by_cases hlt:k<L.length
  .have hm:L.getD k mN∈L:=by rw [ao,mP hlt];exact List.getElem_mem _
   have on:=c2 _ hm;obtain⟨J,j1,j2,sW⟩:=aoW hf (show k<(cy x.num x.den).length by omega) I (gM k hlt);have su:∀{y:aM} {m:Nat},m<=100->bH m y=true->aD y=true:=fun hm h=>gC (by omega) h
   have m1:=lM on I.p.2 (by decide) (by decide);have m2:=lM on I.q.2 (by decide) (by decide);have hq:gQ (e6 (L.getD k mN) p r) (e6 (L.getD k mN) q s)=true:=tU.2 ⟨su (by decide) J.p.2,su (by decide) J.q.2,by omega⟩;have Wq:=(Gd J.p.2 J.q.2 (by decide) (by omega)).qr (by omega);have tx:nE (jU (e6 (L.getD k mN) p r) (e6 (L.getD k mN) q s))=(dS (cy x.num x.den)).getD k ByteArray.empty:=by
    unfold nE;rw [Wq.val,j2,sW];unfold dS;rw [ao,List.getElem?_map,List.getElem?_range (by omega)];rfl
   have key:=aoH L p q r s ((dS (cy x.num x.den)).take k) k (by omega) hlt (by rw [ae];exact⟨su (by decide) on,su (by decide) I.p.2⟩) (by rw [ae];exact⟨su (by decide) m1,su (by decide) I.r.2⟩) (by rw [ae];exact⟨su (by decide) on,su (by decide) I.q.2⟩) (by rw [ae];exact⟨su (by decide) m2,su (by decide) I.s.2⟩) hq (Wq.rd (by decide)) (by omega) (by omega) (by rw [cG];rfl) (uv _ _) rfl rfl rfl rfl rfl;rw [tx,<-m8 ByteArray.empty (by omega)]at key;refine bp (s:=sr L p q r s ((dS (cy x.num x.den)).take k) k) hS key ?_;exact⟨⟨((e6 (L.getD k mN) p r,e6 (L.getD k mN) q s,p,q),k+1),hlt,J⟩,by show L.length-(k+1)<L.length-k;omega,rfl,rfl⟩
  .refine bp (s:=sr L p q r s ((dS (cy x.num x.den)).take k) k) hS (aoI L p q r s _ k (by omega)) ?_;refine cv (cD ?_);have e:(dS (cy x.num x.den)).take k=dS (cy x.num x.den):=ef (by omega);rw [e];exact bT (s:=sr L p q r s (dS (cy x.num x.den)) k) hS (aoJ L p q r s _ k (by rw [List.drop_zero,dA]) (NU _ .str _) (fun h=>by cases h))
 .rw [if_neg hc];exact bu hS 11 (aoF a hs hc)
theorem aoX:Wo.Ok prog:=fun⟨a,_⟩ h=>Hc a (ap h)
end
end Go.Proofs.YtibikmmdbdlafaaGreatDoor
