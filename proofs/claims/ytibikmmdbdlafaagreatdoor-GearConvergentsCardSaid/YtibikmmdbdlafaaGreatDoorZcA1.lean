import Derived.Test.YtibikmmdbdlafaaGreatDoorZcVRd
set_option linter.defProp false
set_option linter.unusedSimpArgs false
set_option linter.unusedVariables false
set_option maxRecDepth 100000
namespace Go.Proofs.YtibikmmdbdlafaaGreatDoor
open Go.RowKit Sv Go.Proofs.Tryz
noncomputable section
def aiY:bC prog (bF Bp):=adH (fun c hc=>by rw [List.mem_singleton.1 hc];exact aiR) (cK fun c hc=>by
 simp only [en,ki,or_false]at hc;rcases hc with rfl |rfl |rfl |rfl |rfl |rfl |rfl
 .exact aiP
 .exact aiQ
 .exact uS
 .exact aiO
 .exact yO
 .exact hJ
 .exact A4)
def Hf (s:AT) (n:Nat):(s.extract 0 n).data.toList=s.data.toList.take n:=by
 rw [ByteArray.data_extract,Array.toList_extract];simp [List.extract]
def MV (s:AT) (n:Nat):(s.extract n s.size).data.toList=s.data.toList.drop n:=by
 rw [ByteArray.data_extract,Array.toList_extract];simp only [List.extract];rw [eH];rw [mb,Array.length_toList];exact aI _
def zb (s:AT):s.size=s.data.toList.length:=by rw [Array.length_toList];rfl
open Lib in
def decFrom_lt:∀(l:List UInt8) (a x:Nat),decFrom a l=some x->x<(a+1)*10^l.length
 |[],a,x,h=>by cases h;simp
 |b::r,a,x,h=>by
  unfold decFrom at h;cases hd:digitVal b with
  |none=>rw [hd]at h;cases h
  |some d=>
   rw [hd]at h;have ih:=decFrom_lt r _ _ h;have auv:d<=9:=by
    unfold digitVal at hd;split at hd
    .cases hd;omega
    .cases hd
   have h1:=Nat.mul_le_mul_right (10^r.length) (show a*10+d+1<=(a+1)*10 by omega);rw [List.length_cons,Nat.pow_succ];have:(a+1)*(10^r.length*10)=(a+1)*10*10^r.length:=by grind
   omega
def aiZ {n x v:Nat} (h:aT n (aY ((x+v:Nat):Int))=true) (hn:1<=n):aT n (b8 (aY (x:Int)) (aV v))=true:=q6 (by
 have h1:=jI h hn;rw [val_mk]at h1;rw [val_mk];show((((x:Int)+(v:Int)).natAbs:Nat):Int)<_;rw [<-Int.natCast_add];exact h1)
def ai0 (s:AT) (N:Nat) (hd:Lib.decFrom 0 (ga s fq).data.toList=some N) (hN:ay (aY (N:Int))=true):
  Holds prog false 122 [sv s] (aA (aY (if pS s fq=true then-(N:Int)else N))):=by
 have hS:=aiY;have e0:((0,[]):aC)=aY ((0:Nat):Int):=by unfold aY;rw [if_pos δ];rfl
 have hst:=aiS s;rw [show nL (ga s fq) (0,[]) (pS s fq)=nL (ga s fq) (aY ((0:Nat):Int)) (pS s fq) by rw [<-e0]]at hst;refine bL (c:=sa) func122 rfl rfl fun w F=> ?_
 refine cJ hS 4 hst ?_;generalize pS s fq=neg;refine aU.loop (ι:={x:AT×Nat//Lib.decFrom x.2 x.1.data.toList=some N}) (id:=0) (b:=cat sa MT) (rest:=(fl sa []).drop 5) (by kernel_rfl) (fun x=>nL x.1.1 (aY (x.1.2:Int)) neg) (fun x=>x.1.1.size)
  ⟨(ga s fq,0),hd⟩ (fun _=>rfl) ?_
 rintro⟨⟨t,m⟩,hx⟩;have hx:Lib.decFrom m t.data.toList=some N:=hx;have hm:=MU _ _ _ hx;by_cases hz:t.size=0
 .have e:m=N:=by
   have:t.data.toList=[]:=List.eq_nil_of_length_eq_zero (by rw [<-zb];exact hz);rw [this]at hx;cases hx;rfl
  subst e;refine bx (s:=nL t (aY (m:Int)) neg) hS (aiU t (aY (m:Int)) neg (by rw [hz];decide)) ?_;refine cy (cF ?_);cases neg with
  |true=>
   have e:e6 (aY (m:Int))=aY (-(m:Int)):=by unfold e6;rw [val_mk]
   rw [if_pos rfl,<-e];exact bX (s:=nL t (aY (m:Int)) true) hS (aiV t (aY (m:Int)) true rfl hN)
  |false=>
   rw [if_neg δ];exact bX (s:=nL t (aY (m:Int)) false) hS (aiW t (aY (m:Int)) false rfl)
 .obtain⟨C,hC⟩:∃C,C=min t.size 18:=⟨_,rfl⟩;have hE:(if(t.size:Int)<18 then(t.size:Int)else 18)=(C:Int):=by split<;>omega
  have auw:1<=C:=by omega
  have ai1:C<=18:=by omega
  have U1:C<=t.size:=by omega
  obtain⟨v,hv,iO⟩:=ne C _ _ _ hx (by rw [<-zb];exact U1);have hm2:=MU _ _ _ iO;have hne:(t.extract 0 C).data.toList≠[]:=by
   rw [Hf];intro e;have:=congrArg List.length e;rw [ek,<-zb,List.length_nil]at this;omega
  have ha:Lib.atoi (t.extract 0 C).data.toList=some (v:Int):=OR (by rw [Hf];exact hv) hne;have hok:Bo (t.extract 0 C)=true:=by
   unfold Bo;rw [ha,zb,Hf,ek,az ω];rfl
  have jz:wY (t.extract 0 C)=v:=by unfold wY;rw [ha];rfl
  have key:=aiT t (t.extract C t.size) (aY (m:Int)) (aY ((m*10^C+v:Nat):Int)) neg;rw [hE,Int.toNat_natCast,jz]at key;have hP:wi (aV 10) (C:Int)=aY ((10^C:Nat):Int):=by
   unfold wi;rw [Int.toNat_natCast,Int.natCast_pow];rfl
  have MW:If (aV 10) (C:Int)=true:=by
   unfold If;rw [show ay (aV 10)=true from(nH (n:=100000) (a:=(10,[])) rfl).trans δ,az (show(0:Int)<=C by omega),az (by rw [Int.toNat_natCast];show 1+(0+1)*C<=100000;omega)];rfl
  have hMul:a7 (aY (m:Int)) (aY ((10^C:Nat):Int))=aY ((m*10^C:Nat):Int):=by
   unfold a7;rw [val_mk,val_mk,<-Int.natCast_mul]
  have o1:ay (aY (m:Int))=true:=He hN δ hm;have o3:ay (aY ((m*10^C:Nat):Int))=true:=He hN δ ω;have ai2:10^C<=10^18:=Nat.pow_le_pow_right δ ai1;have o2:ay (aY ((10^C:Nat):Int))=true:=He (y:=10^18) (a8 (show 1<=100000 by decide) (jJ δ).1) δ ai2;have auy:v<10^C:=by
   have:=decFrom_lt _ _ _ hv;rw [ek,<-zb,Nat.min_eq_left U1,aw,Nat.one_mul]at this;exact this
  have ai3:ay (aV v)=true:=(nH (n:=100000) (a:=(v,[])) rfl).trans (q5.2 ⟨by show _<=(v:Int);omega,by show(v:Int)<=_;omega⟩);have MX:ay (aY ((m*10^C+v:Nat):Int))=true:=He hN δ hm2;have hAdd:b8 (a7 (aY (m:Int)) (wi (aV 10) (C:Int))) (aV v)=aY ((m*10^C+v:Nat):Int):=by
   rw [hP,hMul];exact aiX (aiZ MX δ)
  refine bx (s:=nL t (aY (m:Int)) neg) hS (key ω hok MW (mT o1 (by show ay (wi (aV 10) (C:Int))=true;rw [hP];exact o2)) (mT (by show ay (a7 (aY (m:Int)) (wi (aV 10) (C:Int)))=true;rw [hP,hMul];exact o3) ai3) rfl (congrArg Prod.fst hAdd) (congrArg Prod.snd hAdd)) ?_;refine⟨⟨(t.extract C t.size,m*10^C+v), ?_⟩, ?_,rfl,rfl⟩
  .show Lib.decFrom (m*10^C+v) (t.extract C t.size).data.toList=some N;rw [MV];exact iO
  .show(t.extract C t.size).size<t.size;rw [zb (t.extract C t.size),MV,mb,<-zb];omega
def uU (s:AT):Int:=match Lib.decFrom 0 (ga s fq).data.toList with |some n=>n|none=>0
def Bq (s:AT):Int:=if pS s fq=true then-uU s else uU s
noncomputable def dj (s:AT):Int×List Int:=aY (Bq s)
noncomputable def jM (s:AT):Bool:=(Lib.decFrom 0 (ga s fq).data.toList).isSome&&ay (aY (uU s))
def MY:=IN 122 [.str] [cS] false (fun d=>jM d.1) fun d=>(dj d.1,())
def BT:MY.Ok prog:=fun⟨s,_⟩ h=>by
 have h:jM s=true:=h;unfold jM at h;rw [ae]at h;obtain⟨N,hN⟩:=Option.isSome_iff_exists.1 h.1;have e:uU s=N:=by unfold uU;rw [hN]
 have e2:dj s=aY (if pS s fq=true then-(N:Int)else N):=by unfold dj Bq;rw [e]
 show Holds prog false 122 [sv s] (aA (dj s));rw [e2];exact ai0 s N hN (by rw [<-e];exact h.2)
def iV (s p:AT):AT:=⟨(Lib.cut s.data.toList p.data.toList).1.toArray⟩
def sR (s p:AT):AT:=⟨(Lib.cut s.data.toList p.data.toList).2.1.toArray⟩
def oy (s p:AT):Bool:=(Lib.cut s.data.toList p.data.toList).2.2
def nf (s:AT):Bool:=decide (s.size<4294967281)
def ct (n:Int):AT:=⟨(Lib.itoa n).toArray⟩
def MZ:=IN 118 [.str, .str] [.str, .str, .bool] true (fun d=>nf d.1) fun d=>(iV d.1 d.2.1,sR d.1 d.2.1,oy d.1 d.2.1,())
def U2:=IN 177 [.int .i64] [.str] true (fun d=>gI d.1) fun d=>(ct d.1,())
def ai4 {B:Nat} {w w':World} (h:Below B w w') (n:Nat):Below B w (w'.drewN n):=⟨h.os,h.tape,h.output,h.size,h.block⟩
def sc (B:Nat) (w:World) (hB:B<=w.heap.size) (k:Nat) (os:Array Obj):Below B w (Sort.grow (w.drewN k) os):=
 ⟨rfl,rfl,rfl,by show w.heap.size<=(w.heap++os).size;rw [Array.size_append];omega,fun j hj=>by
   show(w.heap++os)[j]? =_;rw [Array.getElem?_append_left ω]⟩
def ai5 {F:Sv.Env} {w:World} (hF:uo w F) (cv:wo F):∃m,w.cell? ⟨0,0,none⟩=some (.int .i64 m):=by
 obtain⟨A,h1,m,h2⟩:=cv 0 _ rfl;obtain⟨e,fr,h3⟩:=hF.fz _ _ h1;subst h2;exact⟨m,by simp [World.cell?,h3]⟩
def U3 {F:Sv.Env} {w:World} (hF:uo w F) (cv:wo F):Lib.TabIs prog w "internal/strconv.uint64pow10" .u64 Lib.pow10Tab:=by
 obtain⟨A,h1,h2⟩:=cv 5 _ rfl;obtain⟨e,fr,h3⟩:=hF.fz _ _ h1;subst h2;unfold Lib.TabIs World.var?;rw [show prog.globalNamed "internal/strconv.uint64pow10" =some 5 by kernel_rfl];show(match w.heap[5]? with |some (.cells cs _ _)=>some cs|_=>none)=_
 rw [h3]
def U4:MZ.Ok prog:=fun⟨s,p,_⟩ h w F xs hF cv hd=>by
 have h:nf s=true:=h;unfold nf at h;rw [bE]at h;obtain⟨m,hm⟩:=ai5 hF cv;cases hd with
 |cons d1 d2=>
  cases d2 with
  |cons d2 d3=>
  cases d3;rw [d1.cg,d2.cg];refine(Tryz.strings_Cut s p m w h hm).mono ?_;rintro e w' ⟨rfl,n,rfl⟩;have hb:Below w.heap.size w (w.drewN n):=ai4 (Below.refl _ _) _;exact⟨_,⟨F.at',fun _=>none⟩,rfl, .tuple (.cons (.raw _) (.cons (.raw _) (.cons (.raw _) .nil))),⟨hF.pE,hF.all,fun b A h=>by cases h⟩,(fun b A h=>by cases h),hb⟩
def ai6:U2.Ok prog:=fun⟨n,_⟩ h w F xs hF cv hd=>by
 have h:=q5.1 (show gI n=true from h);cases hd with
 |cons d1 d2=>
  cases d2;rw [d1.cg];refine(Tryz.strconv_Itoa n h.1 h.2 w (U3 hF cv)).mono ?_;rintro e w' ⟨rfl,k,os,rfl⟩;exact⟨_,⟨F.at',fun _=>none⟩,rfl, .raw _,⟨hF.pE,hF.all,fun b A h=>by cases h⟩,(fun b A h=>by cases h),sc _ _ (aI _) _ _⟩
end
end Go.Proofs.YtibikmmdbdlafaaGreatDoor
namespace Go.Proofs.YtibikmmdbdlafaaGreatDoor
open Go.RowKit Go.Sort Go.Lib
def U5 (w:World) (T:TypeId) (nd:Nat) (hs:nd<=24):Holds (fun(b:UInt8)=>Value.int .u8 (b.toNat:Int)) (w.alloc (.cells zeros24 T)) w.heap.size 0 (Array.replicate nd (0:UInt8)):=fun j hj=>by
 have hj':j<nd:=by simpa using hj
 refine⟨?_,World.frozen?_alloc_new _ _ _ _⟩;rw [World.cell?_alloc_new,zeros24_at _ ω,getElem!_pos _ j hj];simp
def ai7 (w:World) (o:Obj) (dk:Array UInt8) (k:Nat):∃os,(putRow (fun(b:UInt8)=>Value.int .u8 (b.toNat:Int)) (w.alloc o) w.heap.size 0 dk).drewN k=grow (w.drewN k) os:=by
 rw [alloc_eq_grow];obtain⟨os',_,e⟩:=putRow_grow_new (fun(b:UInt8)=>Value.int .u8 (b.toNat:Int)) w #[o] w.heap.size 0 dk (aI _);exact⟨os',by rw [e];rfl⟩
set_option maxHeartbeats 6400000 in
set_option maxRecDepth 100000 in
def ai8 (u:Nat) (hu64:u<18446744073709551616) (w:World) (htab:Lib.TabIs Tryz.prog w "internal/strconv.uint64pow10" .u64 Lib.pow10Tab):
  Calls Tryz.prog 227 #[.int .u64 u, .int .i64 10] w fun e w'=>e= .returned (.string ⟨(decDigits u).toArray⟩)/\∃k os,w'=grow (w.drewN k) os:=by
 by_cases hs:u<100
 .have ai9:=Lib.hid (fun w=>Tryz.internal_strconv_small u hs w);have hwr:IntKind.i64.wrap (u:Int)=(u:Int):=by rw [IntKind.wrap_i64];omega
  go_enter Tryz.func227,Tryz.ntmps227
  go_wp2_with fail
  refine(ai9.out _).mono ?_;rintro e w' ⟨rfl,rfl⟩
  go_wp2
  go_ret
  exact⟨rfl,0, #[],by simp [World.drewN_zero]⟩
 .have hu1:1<=u:=by omega
  have hnd20:nDigits u<=20:=by have:=numDigits_eq u hu1 hu64;split at this<;>omega
  have M0:=Lib.hid (fun w h=>Tryz.internal_strconv_numDigits u hu1 hu64 w h);have Ff:=U5 w 260 (nDigits u) ω;have hfmt:=Tryz.internal_strconv_formatBase10 w.heap.size 0 24 u (Array.replicate (nDigits u) 0) (w.alloc (.cells zeros24 260)) Ff (by rw [Array.size_replicate];exact lt_pow_nDigits u) hu64 (by rw [Array.size_replicate];omega);rw [Array.size_replicate]at hfmt;have aja:=Lib.hid hfmt;have ajb:=Lib.hid (tabIs_alloc htab (.cells zeros24 260));clear Ff hfmt htab
  go_enter Tryz.func227,Tryz.ntmps227
  go_wp2_with fail
  refine(M0.out _ ajb.out).mono ?_;rintro e w' ⟨rfl,rfl⟩;have hal:Tryz.prog.arrayLen 260=24:=by simp [Program.arrayLen,Tryz.underlying260]
  have auz:∀W,(Instr.sliceAt 260 (.pointer (some ⟨w.heap.size,0,none⟩)) none (some (.int .i64 (nDigits u:Int))) none).run Tryz.prog W= .ok (.slice (some ⟨w.heap.size,0,none⟩) (nDigits u) 24) W:=fun W=>by
   rw [run_sliceAt_array_h W 260 ⟨w.heap.size,0,none⟩ (by simp [Program.arrayLen,Program.elem,Tryz.underlying260]) .i64 (nDigits u:Int) ω (by rw [hal];omega)]
   go_simp
  clear hal
  go_wp2_with fail
  refine aja.out.mono ?_;rintro e w' ⟨rfl,k,v',dk,rfl,hF⟩;have hcv:(convert 205 9 (.slice (some ⟨w.heap.size,0,none⟩) (nDigits u) 24)).run Tryz.prog ((putRow (fun(b:UInt8)=>Value.int .u8 (b.toNat:Int)) (w.alloc (.cells zeros24 260)) w.heap.size 0 dk).drewN k)= .ok (.string ⟨(decDigits u).toArray⟩) ((putRow (fun(b:UInt8)=>Value.int .u8 (b.toNat:Int)) (w.alloc (.cells zeros24 260)) w.heap.size 0 dk).drewN k):=by
   have h:=run_convert_bytes_back (P:=Tryz.prog) ((putRow (fun(b:UInt8)=>Value.int .u8 (b.toNat:Int)) (w.alloc (.cells zeros24 260)) w.heap.size 0 dk).drewN k) 205 9 5 ⟨w.heap.size,0,none⟩ 24 (decDigits u) Tryz.underlying205 Tryz.underlying5 Tryz.underlying9 (fun j hj=>by
    rw [row_is_numeral hF j hj,add_plain,World.cell?_drewN];exact cell?_putRow (fun(b:UInt8)=>Value.int .u8 (b.toNat:Int)) _ w.heap.size 0 _ dk (U5 w 260 (nDigits u) ω) (by rw [hF.size,Array.size_replicate]) j (by rw [hF.size];rw [decDigits_length]at hj;exact hj))
   rw [decDigits_length]at h;exact h
  go_wp2
  go_ret
  obtain⟨os,ajc⟩:=ai7 w (.cells zeros24 260) dk k;exact⟨rfl,k,os,ajc⟩
end Go.Proofs.YtibikmmdbdlafaaGreatDoor
namespace Go.Proofs.YtibikmmdbdlafaaGreatDoor.Dec
open Go.Lib
def zc (d:Nat) (h:d<10):(UInt8.ofNat (48+d)).toNat=48+d:=by
 rw [UInt8.toNat_ofNat'];omega
def M3 (u:Nat):∀b∈decDigits u,48<=b.toNat/\b.toNat<=57:=by
 induction u using Nat.strongRecOn with
 |_ u ih=>
  intro b hb;rw [decDigits]at hb;split at hb
  .simp only [List.mem_singleton]at hb;subst hb;rw [zc _ ω];omega
  .rcases List.mem_append.1 hb with h|h
   .exact ih (u/10) ω b h
   .simp only [List.mem_singleton]at h;subst h;rw [zc _ ω];omega
def Hg (u:Nat):0<(decDigits u).length:=by
 rw [decDigits];split<;>simp
def M4 (k:Nat):∀u,u<10^(k+1)->(decDigits u).length<=k+1:=by
 induction k with
 |zero=>intro u hu;rw [decDigits,dif_pos (by simpa using hu)];simp
 |succ k ih=>
  intro u hu;rw [decDigits];split
  .simp
  .have:=ih (u/10) (by rw [Nat.div_lt_iff_lt_mul ω];rw [Nat.pow_succ]at hu;exact hu);simp;omega
def ajd (u:Nat) (h:u<1000000000000000000):(decDigits u).length<=18:=M4 17 u (by simpa using h)
def aje (u:Nat) (h:0<u):∀b r,decDigits u=b::r->b.toNat≠48:=by
 induction u using Nat.strongRecOn with
 |_ u ih=>
  intro b r hb;rw [decDigits]at hb;split at hb
  .injection hb with h1 _
   subst h1;rw [zc _ ω];omega
  .have hp:=Hg (u/10);cases hd:decDigits (u/10)with
   |nil=>rw [hd]at hp;simp at hp
   |cons c t=>
    rw [hd]at hb;injection hb with h1 _
    subst h1;exact ih (u/10) ω ω c t hd
def M5 (l:List UInt8):∀(acc m:Nat) (d:Nat),d<10->decFrom acc l=some m->decFrom acc (l++[UInt8.ofNat (48+d)])=some (m*10+d):=by
 induction l with
 |nil=>
  intro acc m d hd h;simp only [decFrom,tC]at h;subst h;simp only [List.nil_append,decFrom,digitVal,zc d hd];rw [if_pos ω];show some (acc*10+(48+d-48))=_;congr 1;omega
 |cons b r ih=>
  intro acc m d hd h;rw [List.cons_append];unfold decFrom at h ⊢;cases hv:digitVal b with
  |none=>rw [hv]at h;cases h
  |some v=>rw [hv]at h;exact ih _ _ _ hd h
def U6 (u:Nat):decFrom 0 (decDigits u)=some u:=by
 induction u using Nat.strongRecOn with
 |_ u ih=>
  rw [decDigits];split
  .have:=M5 [] 0 0 u ω rfl;simpa using this
  .have:=M5 (decDigits (u/10)) 0 (u/10) (u%10) ω (ih (u/10) ω);rw [this];congr 1;omega
def U7 (l:List UInt8) (h:∀b∈l,48<=b.toNat/\b.toNat<=57):hasPrefix l [45]=false:=by
 cases l with
 |nil=>rfl
 |cons b r=>
  have:=h b τ;have hb:(45==b)=false:=by
   rw [e8];intro e;subst e;simp at this
  simp [hasPrefix,List.isPrefixOf,hb]
def oz (u:Nat):itoa (u:Int)=decDigits u:=by unfold itoa;rw [if_neg ω];simp
end Go.Proofs.YtibikmmdbdlafaaGreatDoor.Dec
namespace Go.Proofs.YtibikmmdbdlafaaGreatDoor
open Go.RowKit Sv Go.Proofs.Tryz
noncomputable section
def jm (n:Int):(ct n).data.toList=Lib.itoa n:=by unfold ct;simp
def itoa_neg {n:Int} (h:n<0):Lib.itoa n=45::Lib.decDigits n.natAbs:=by
 unfold Lib.itoa;rw [if_pos h]
def ib {n:Int} (h:¬n<0):Lib.itoa n=Lib.decDigits n.natAbs:=by
 unfold Lib.itoa;rw [if_neg h,show n.toNat=n.natAbs by omega]
def se (n:Int):pS (ct n) fq=decide (n<0):=by
 unfold pS;rw [jm,show(fq:AT).data.toList=[45]from rfl];by_cases h:n<0
 .rw [itoa_neg h,az h];simp [Lib.hasPrefix]
 .rw [ib h,ab h];exact Dec.U7 _ (Dec.M3 _)
def xi (n:Int):(ga (ct n) fq).data.toList=Lib.decDigits n.natAbs:=by
 have hp:=se n;unfold pS at hp;unfold ga Lib.trimPrefix;rw [hp,jm,show(fq:AT).data.toList=[45]from rfl];by_cases h:n<0
 .rw [itoa_neg h,az h];simp
 .rw [ib h,ab h];simp
def va (n:Int):uU (ct n)=n.natAbs:=by
 unfold uU;rw [xi,Dec.U6]
def ajf (n:Int):Bq (ct n)=n:=by
 unfold Bq;rw [se,va];by_cases h:n<0
 .rw [az h,if_pos rfl];omega
 .rw [ab h,if_neg δ];omega
def M6 (n:Int):dj (ct n)=aY n:=by unfold dj;rw [ajf]
def sf {n:Int} (h:ay (aY (n.natAbs:Int))=true):jM (ct n)=true:=by
 unfold jM;rw [xi,Dec.U6,va,h];rfl
def eI (u:Int):AT:=⟨(Lib.decDigits u.toNat).toArray⟩
def sS (u b:Int):Bool:=wO u&&(b==10)
def U8:=k_a f179
def U9:=IN 227 [aE, .int .i64] [.str] true (fun d=>sS d.1 d.2.1) fun d=>(eI d.1,())
noncomputable def U':bp:={f:=179,ps:=[aE, .int .i64],rs:=[.str],fresh:=true,pre:=fun d=>sS d.1 d.2.1,fn:=fun d=>(eI d.1,())}
def ajg (u b:Int) (h1:(sS u b)=true):
  bh (bc [U9]) (fl U8 []) 9 8 [cu u,iv b] 1 f179 true (sv (eI u)):=
 wy [af h1] 1
def ajh:U9.Ok prog:=fun⟨u,b,_⟩ h w F xs hF cv hd=>by
 have h:sS u b=true:=h;unfold sS at h;rw [ae,fU]at h;obtain⟨h1,rfl⟩:=h;have h1:=sy.1 h1;cases hd with
 |cons d1 d2=>
  cases d2 with
  |cons d2 d3=>
  cases d3;rw [d1.cg,d2.cg];have:=ai8 u.toNat ω w (U3 hF cv);rw [show((u.toNat:Nat):Int)=u from Int.toNat_of_nonneg h1.1]at this;refine this.mono ?_;rintro e w' ⟨rfl,k,os,rfl⟩;exact⟨_,⟨F.at',fun _=>none⟩,rfl, .raw _,⟨hF.pE,hF.all,fun b A h=>by cases h⟩,(fun b A h=>by cases h),sc _ _ (aI _) _ _⟩
def aji:U'.Ok prog:=fun⟨u,b,_⟩ h=>by
 have h:sS u b=true:=h;refine bL (c:=U8) func179 rfl rfl fun w F=> ?_
 exact bw (uz ajh) 9 (ajg u b h)
def fw (s:AT) (c:Int):AT:=⟨(Lib.repeatL s.data.toList c.toNat).toArray⟩
def Br (s:AT) (c:Int):Bool:=decide (s.size<=1000000)&&(decide (0<=c)&&decide (c<=1000000))
def Va:=IN 180 [.str, .int .i64] [.str] true (fun d=>Br d.1 d.2.1) fun d=>(fw d.1 d.2.1,())
def ajj:Va.Ok prog:=fun⟨s,c,_⟩ h w F xs hF cv hd=>by
 have h:Br s c=true:=h;unfold Br at h;rw [ae,ae,bE,bE,bE]at h;obtain⟨h1,h2,h3⟩:=h;cases hd with
 |cons d1 d2=>
  cases d2 with
  |cons d2 d3=>
  cases d3;rw [d1.cg,d2.cg];have hm:s.size*c.toNat<=1000000*1000000:=Nat.mul_le_mul h1 ω;have:=Tryz.strings_Repeat s c.toNat w ω ω;rw [show((c.toNat:Nat):Int)=c from Int.toNat_of_nonneg h2]at this;refine this.mono ?_;rintro e w' ⟨rfl,hb⟩;exact⟨_,⟨F.at',fun _=>none⟩,rfl, .raw _,⟨hF.pE,hF.all,fun b A h=>by cases h⟩,(fun b A h=>by cases h),hb⟩
def M7:=k_a f55
abbrev kg:AT:=⟨#[47]⟩
def M8:=bc [MZ,MY,Bm]
def fh (s:AT):Bool:=nf s&&(jM (iV s kg)&&(!oy s kg||jM (sR s kg)))
noncomputable def aW (s:AT):(Int×List Int)×(Int×List Int):=if oy s kg=true then(dj (iV s kg),dj (sR s kg))else dH (dj (iV s kg))
def DO:=IN 55 [.str] [fT] false (fun d=>fh d.1) fun d=>(aW d.1,())
def ajk (s:AT) (h1:(nf s)=true) (h2:(oy s (ByteArray.mk #[47]))=false) (h3:(jM (iV s (ByteArray.mk #[47])))=true):
  bh M8 (fl M7 []) 9 (f55.ntmps) [sv s] 3 f55 false (bM (dH (dj (iV s kg)))):=
 wy [af h1,af (cj (h2)),af h3] 12417
def ajl (s:AT) (h1:(nf s)=true) (h2:(oy s (ByteArray.mk #[47]))=true) (h3:(jM (iV s (ByteArray.mk #[47])))=true) (h4:(jM (sR s (ByteArray.mk #[47])))=true):
  bh M8 (fl M7 []) 9 (f55.ntmps) [sv s] 2 f55 false (bM (dj (iV s kg),dj (sR s kg))):=
 wy [af h1,af (cj (h2)),af h3,af h4] 1060993
def Vb:bC prog (bF M8):=cK (aP U4 (aP BT (aP DM dQ)))
def ajm (s:AT) (h:fh s=true):Holds prog false 55 [sv s] (bM (aW s)):=by
 unfold fh at h;rw [ae,ae]at h;obtain⟨h1,h2,h3⟩:=h;refine bL (c:=M7) func55 rfl rfl fun w F=> ?_
 unfold aW;cases hc:oy s kg with
 |true=>
  rw [if_pos rfl];rw [hc]at h3;exact bw Vb 9 (ajl s h1 hc h2 h3)
 |false=>
  rw [if_neg δ];exact bw Vb 9 (ajk s h1 hc h2)
def pc:DO.Ok prog:=fun⟨s,_⟩ h=>ajm s h
def Vc:=k_a f91
def Vd:=k_a f59
def M9:=bc [MM,MK,G8,ML,G7]
def ajn (a b:bB) (h1:(ay b.1)=true) (h2:(okQ 20000 a&&okQ 20000 (y8 b))=true):
  bh M9 (fl Vc []) 9 (f91.ntmps) [bM a,bM b] 1 f91 false (bM (zf a (y8 b))):=
 wy [af (aF (v:=bM a)),af (aF (v:=bM b)),af h1,af h2] 67383425
def ajo (a b:bB) (h1:(eO b.2 b.1)=true) (h2:(okQ 20000 a&&okQ 20000 (kf b))=true):
  bh M9 (fl Vd []) 9 (f59.ntmps) [bM a,bM b] 1 f59 false (bM (Ib a (kf b))):=
 wy [af (aF (v:=bM a)),af (aF (v:=bM b)),af h1,af h2] 67383425
noncomputable def c9 (a b:bB):(Int×List Int)×(Int×List Int):=zf a (y8 b)
noncomputable def Ve (a b:bB):(Int×List Int)×(Int×List Int):=Ib a (kf b)
def Na (a b:bB):Bool:=okQ 20000 a&&(okQ 20000 b&& !(aj b.1==0))
def Hh:=IN 91 [fT,fT] [fT] false (fun d=>okQ 20000 d.1&&okQ 20000 d.2.1) fun d=>(c9 d.1 d.2.1,())
def Vf:=IN 59 [fT,fT] [fT] false (fun d=>Na d.1 d.2.1) fun d=>(Ve d.1 d.2.1,())
def Vg:bC prog (bF M9):=cK (aP UR (aP UN (aP MQ (aP UO (aP u4 dQ)))))
def ajp {n:Nat} {b:bB} (h:okQ n b=true) (hn:1<=n):okQ n (y8 b)=true:=by
 obtain⟨h1,h2,h3⟩:=fb.1 h;exact fb.2 ⟨oo h1 hn,h2,h3⟩
def FSz {a b:bB} (h:okQ 20000 a=true) (g:okQ 20000 b=true):(okQ 20000 a&&okQ 20000 b)=true:=by rw [h,g];rfl
def ajq (a b:bB) (h:okQ 20000 a=true) (g:okQ 20000 b=true):Holds prog false 91 [bM a,bM b] (bM (c9 a b)):=by
 refine bL (c:=Vc) func91 rfl rfl fun w F=> ?_
 exact bw Vg 9 (ajn a b (a8 (show 20000<=100000 by decide) (fb.1 g).1) (FSz h (ajp g δ)))
def Nb:Hh.Ok prog:=fun⟨a,b,_⟩ h=>by
 have h:(okQ 20000 a&&okQ 20000 b)=true:=h;rw [ae]at h;exact ajq a b h.1 h.2
def ajr (a b:bB) (h:okQ 20000 a=true) (g:okQ 20000 b=true) (hb:aj b.1≠0):Holds prog false 59 [bM a,bM b] (bM (Ve a b)):=by
 obtain⟨g1,g2,g3⟩:=fb.1 g;have m:= @a8 20000 100000;refine bL (c:=Vd) func59 rfl rfl fun w F=> ?_
 exact bw Vg 9 (ajo a b (fa.2 ⟨m δ g2,m δ g1,hb⟩) (FSz h (y7 g2 g1 δ hb).ok))
def ajs:Vf.Ok prog:=fun⟨a,b,_⟩ h=>by
 have h:Na a b=true:=h;unfold Na at h;simp only [ae,Bool.not_eq_true',e8]at h;exact ajr a b h.1 h.2.1 h.2.2
def pe {n:Nat} {a b:bB} {r s:Rat} (h:QR n a r) (g:QR n b s) (hn:1<=n):QR (n+n+1) (c9 a b) (r-s):=by
 rw [Rat.sub_eq_add_neg];exact aiC h (ON g hn) hn
def ajt {n m:Nat} {a b:bB} {r s:Rat} (h:QR n a r) (g:QR m b s):mS a b=if r<s then-1 else if r=s then 0 else 1:=by
 unfold mS fM jH;rw [de,de,h.num,h.den,g.num,g.den];have hl:=Rat.lt_iff r s;have he:r=s↔r.num*s.den=s.num*r.den:=by
  constructor
  .intro e;rw [e]
  .intro e;have h1:Rat.divInt r.num r.den=Rat.divInt s.num s.den:=(Rat.divInt_eq_divInt_iff (by have:=r.den_pos;omega) (by have:=s.den_pos;omega)).2 e;rw [Rat.num_divInt_den,Rat.num_divInt_den]at h1;exact h1
 by_cases h1:r<s
 .have:=hl.1 h1;rw [if_pos h1,if_pos ω]
 .have n1:¬r.num*s.den<s.num*r.den:=fun hh=>h1 (hl.2 hh)
  rw [if_neg h1,if_neg ω];by_cases h2:r=s
  .have:=he.1 h2;rw [if_pos h2,if_pos ω]
  .have n2:¬r.num*s.den=s.num*r.den:=fun hh=>h2 (he.2 hh)
   rw [if_neg h2,if_neg ω]
def jN:=k_a f127
def nM:=bc [U2,Gv,Mq,U',Va]
abbrev DP:List Nat:=[1,1,1,1,1,0,0,0]
abbrev Hi:List Nat:=[1,1,1,1,1,1,1,1,0,1,0,0]
abbrev lY:List Int:=[1000000000000000000]
abbrev ry:av:= .int .u8
abbrev Vh (j:Nat) (ps:List AT):aa:= .bR 9 .str j 0 ps.length (bH ps.length)
abbrev Vi (ps:List AT):fJ:= .opt 9 .str ps
abbrev mU (l:List AT):aa:= .bn false .str l
abbrev Nc (p:aa) (s:List Int):fJ:= .blk (.cells 207 [p, .bR 5 ry 65 0 s.length (bH s.length)] true false false)
abbrev Vj:List AT:=[]
abbrev Vk:aa:= .raw (.pointer none)
def Nd (neg:Bool) (w:List Int):bD:={n:=69,sl:=[(3,bv neg),(4, .bn false aE w),(5, .bR 167 aE 64 0 1 (bH 1)),(6,Vh 65 [])],bJ:=[(64, .opt 167 aE lY),(65,Vi [])],next:=66}
def lg (neg:Bool) (w:List Int) (ps:List AT):bD:={n:=69,sl:=[(3,bv neg),(4, .bn false aE w),(5, .bn false aE lY),(6,Vh 64 ps)],bJ:=[(64,Vi ps)],next:=65}
def Hj (neg:Bool) (ps:List AT):bD:={n:=69,sl:=[(3,bv neg),(6,mU ps)],bJ:=[],next:=64}
def DQ (neg:Bool) (ps:List AT):bD:={n:=69,sl:=[(3,bv neg),(6,mU ps),(10, .ptr 64 0)],bJ:=[(64,Nc Vk []),(65, .opt 5 ry [])],next:=66}
def wZ (ps:List AT) (z:Int):bD:={n:=69,sl:=[(6,mU ps),(10, .ptr 64 0),(11,iv z)],bJ:=[(64,Nc Vk []),(65, .opt 5 ry [])],next:=66}
def mV (ps:List AT) (s:List Int) (z:Int):bD:={n:=69,sl:=[(6,mU ps),(10, .ptr 64 0),(11,iv z)],bJ:=[(64,Nc (.ptr 64 0) s),(65, .opt 5 ry s)],next:=66}
def aju (a:aC) (h1:a.2.isEmpty=true) (h2:(gI a.1)=true):
  bh nM (fl jN []) 4 69 [aA a] 3 f127 true (sv (ct a.1)):=
 wy [af (aM (h1)),af h2] 129
def ajv (a:aC) (h1:a.2.isEmpty=false) (h2:(ay a)=true) (h3:(aa.raw (Value.int .u64 (1000000000000000000:Int))::List.append._f [] PUnit.unit (List.flatten._f [] PUnit.unit))=(List.flatMap (fun x=>[aa.raw (Value.int .u64 x)]) [(1000000000000000000:Int)])):
  aD.path (pF prog nM (fl jN []) 6 69 [aA a]) (dl 2) (ef prog 69 .normal [(64,65,some 1)] (Nd (bY a) (aB a))):=
 mp (og (aM h1) h2 (rr (bY a)) (rr (aB a)) (an (rr (1:Nat)) (an (rr (aX.known (1:Nat))) (rr (bH (1:Nat))))) (rr Vj.length) (an h3 (rr (1:Nat))) (rr Vj) trivial)
section
variable (neg:Bool) (w:List Int)
def ajw:
  aD.path (aD.ret (R.normal ((Nd neg w).T.set 5 (some (.bn false aE lY))) ((Nd neg w).H.drop 64) []):aD R) (dl 1) (ef prog 69 .normal [(64,65,none)] (lg neg w [])):=
 wy [] 0
def ajx (ps:List AT) (h1:(w.length:Int)>0) (h2:(pR w [1000000000000000000])=true) (h3:(↑(cI w [1000000000000000000]).length:Int)>0) (h4:Int.toNat 0<(cI w [1000000000000000000]).length) (h5:(sS ((cI w [1000000000000000000]).getD (Int.toNat 0) 0) 10)=true) (h6:(↑(e7 w [1000000000000000000]).length:Int)>0) (h7:i6 (18-(↑(eI ((cI w [1000000000000000000]).getD (Int.toNat 0) 0)).size:Int))) (h8:(Br (ByteArray.mk #[48]) (18-(↑(eI ((cI w [1000000000000000000]).getD (Int.toNat 0) 0)).size:Int)))=true) (h9:(fw (ByteArray.mk #[48]) (18-(↑(eI ((cI w [1000000000000000000]).getD (Int.toNat 0) 0)).size:Int))).size+(eI ((cI w [1000000000000000000]).getD (Int.toNat 0) 0)).size<=9223372036854775807) (h10:ps.length+1<=1000000) (h11:(ps.length+1)=(ps++[fw (ByteArray.mk #[48]) (18-(↑(eI ((cI w [1000000000000000000]).getD 0 0)).size:Int))++eI ((cI w [1000000000000000000]).getD 0 0)]).length) (h12:(aX.full)=(bH (ps++[fw (ByteArray.mk #[48]) (18-(↑(eI ((cI w [1000000000000000000]).getD 0 0)).size:Int))++eI ((cI w [1000000000000000000]).getD 0 0)]).length)) (dF:(ps++[fw (ByteArray.mk #[48]) (18-(↑(eI ((cI w [1000000000000000000]).getD (Int.toNat 0) 0)).size:Int))++eI ((cI w [1000000000000000000]).getD (Int.toNat 0) 0)])=(ps++[fw (ByteArray.mk #[48]) (18-(↑(eI ((cI w [1000000000000000000]).getD 0 0)).size:Int))++eI ((cI w [1000000000000000000]).getD 0 0)])):
  bt nM (fl jN DP) (lg neg w ps) 23 .normal [(64,66,none)] (lg neg (e7 w lY) (ps++[fw (ByteArray.mk #[48]) (18-((eI ((cI w lY).getD 0 0)).size:Int))++eI ((cI w lY).getD 0 0)])):=
 wy [ah h1,af h2,ah h3,ah h4,af h5,ah h6,yi h7,af h8,ah h9,yk 9 av.str ps,jF 16 h10,ax h11,ax h12,kW 9 (av.str) dF] 18883085600279906147891464042451054721
def ajy (ps:List AT) (h1:(w.length:Int)>0) (h2:(pR w [1000000000000000000])=true) (h3:(↑(cI w [1000000000000000000]).length:Int)>0) (h4:Int.toNat 0<(cI w [1000000000000000000]).length) (h5:(sS ((cI w [1000000000000000000]).getD (Int.toNat 0) 0) 10)=true) (h6:¬(↑(e7 w [1000000000000000000]).length:Int)>0) (h7:ps.length+1<=1000000) (h8:(ps.length+1)=(ps++[eI ((cI w [1000000000000000000]).getD 0 0)]).length) (h9:(aX.full)=(bH (ps++[eI ((cI w [1000000000000000000]).getD 0 0)]).length)) (h10:(ps++[eI ((cI w [1000000000000000000]).getD (Int.toNat 0) 0)])=(ps++[eI ((cI w [1000000000000000000]).getD 0 0)])):
  bt nM (fl jN DP) (lg neg w ps) 19 .normal [(64,66,none)] (lg neg (e7 w lY) (ps++[eI ((cI w lY).getD 0 0)])):=
 wy [ah h1,af h2,ah h3,ah h4,af h5,aJ h6,yk 9 av.str ps,jF 16 h7,ax h8,ax h9,kW 9 (av.str) h10] 56580049495547654937508646498433
def ajz (ps:List AT) (h1:(w.length:Int)>0) (h2:(pR w [1000000000000000000])=true) (h3:¬(↑(cI w [1000000000000000000]).length:Int)>0) (h4:(↑(e7 w [1000000000000000000]).length:Int)>0) (h5:ps.length+1<=1000000) (h6:(ps.length+1)=(ps++[fw (ByteArray.mk #[48]) 17++ByteArray.mk #[48]]).length) (h7:(aX.full)=(bH (ps++[fw (ByteArray.mk #[48]) 17++ByteArray.mk #[48]]).length)) (h8:(ps++[fw (ByteArray.mk #[48]) (18-(↑(ByteArray.mk #[48]).size:Int))++ByteArray.mk #[48]])=(ps++[fw (ByteArray.mk #[48]) 17++ByteArray.mk #[48]])):
  bt nM (fl jN DP) (lg neg w ps) 21 .normal [(64,66,none)] (lg neg (e7 w lY) (ps++[fw (ByteArray.mk #[48]) 17++ByteArray.mk #[48]])):=
 wy [ah h1,af h2,aJ h3,ah h4,yk 9 av.str ps,jF 16 h5,ax h6,ax h7,kW 9 (av.str) h8] 46277912488612378417574150418561
def ajA (ps:List AT) (h1:¬(w.length:Int)>0):
  bt nM (fl jN DP) (lg neg w ps) 2 (.exit 0) [(64,64,none)] (lg neg w ps):=
 wy [aJ h1] 1
def ajB (ps:List AT):
  aD.path (aD.ret (R.normal ((lg neg w ps).T.set 6 (some (mU ps))) ((lg neg w ps).H.drop 64) []):aD R) (dl 1) (ef prog 69 .normal [] (Hj neg ps)):=
 wy [] 0
end
def ajC (neg:Bool) (ps:List AT):
  cY nM ((fl jN []).drop 7) 1 (Hj neg ps) 1 .normal [(64,64,none)] (DQ neg ps):=
 wy [] 0
section
variable (ps:List AT)
def ajD (h1:wC.length+(ByteArray.mk #[45]).size<=1000000) (h2:i6 ((ps.length:Int)-1)) (h3:(wC.length+(ByteArray.mk #[45]).size)=(List.length [45])) (h4:(aX.full)=(bH (List.length [45]))) (h5:(bN ry none++List.map (fun x=>(↑(UInt8.toNat x):Int)) (ByteArray.mk #[45]).data.toList)=([45])):
  cY nM ((fl jN []).drop 8) 3 (DQ true ps) 11 .normal [(64,64,none),(65,66,none)] (mV ps [45] ((ps.length:Int)-1)):=
 wy [jF 1 h1,yi h2,ax h3,ax h4,pG prog 5 (.int .u8) h5] 97937158488233710599536640
def ajE (h1:i6 ((ps.length:Int)-1)):
  cY nM ((fl jN []).drop 8) 3 (DQ false ps) 2 .normal [(64,64,none),(65,65,none)] (wZ ps ((ps.length:Int)-1)):=
 wy [yi h1] 64
def ajF (z:Int) (h1:z>=0) (h2:0<=z) (h3:z.toNat<ps.length) (h4:(Nat.beq (ps.getD z.toNat ByteArray.empty).size 0)=false) (h5:wC.length+(ps.getD z.toNat ByteArray.empty).size<=1000000) (h6:i6 (z-1)) (h7:(wC.length+(ps.getD z.toNat ByteArray.empty).size)=(List.map (fun x=>(↑(UInt8.toNat x):Int)) (ps.getD z.toNat ByteArray.empty).data.toList).length) (h8:(aX.full)=(bH (List.map (fun x=>(↑(UInt8.toNat x):Int)) (ps.getD z.toNat ByteArray.empty).data.toList).length)) (h9:(bN ry none++List.map (fun x=>(↑(UInt8.toNat x):Int)) (ps.getD z.toNat ByteArray.empty).data.toList)=(List.map (fun x=>(↑(UInt8.toNat x):Int)) (ps.getD z.toNat ByteArray.empty).data.toList)):
  bt nM (fl jN Hi) (wZ ps z) 11 .normal [(64,64,none),(65,66,none)] (mV ps (dV (ps.getD z.toNat ByteArray.empty)) (z-1)):=
 wy [ah h1,ah h2,ah h3,af h4,jF 1 h5,yi h6,ax h7,ax h8,pG prog 5 (.int .u8) h9] 723092382634460629853043437697
def ajG (s:List Int) (z:Int) (h1:z>=0) (h2:0<=z) (h3:z.toNat<ps.length) (h4:(Nat.beq (ps.getD z.toNat ByteArray.empty).size 0)=false) (h5:s.length+(ps.getD z.toNat ByteArray.empty).size<=1000000) (h6:i6 (z-1)) (h7:(s.length+(ps.getD z.toNat ByteArray.empty).size)=(s++List.map (fun x=>(↑(UInt8.toNat x):Int)) (ps.getD z.toNat ByteArray.empty).data.toList).length) (h8:(aX.full)=(bH (s++List.map (fun x=>(↑(UInt8.toNat x):Int)) (ps.getD z.toNat ByteArray.empty).data.toList).length)):
  bt nM (fl jN Hi) (mV ps s z) 17 .normal [(64,64,none),(65,66,none)] (mV ps (s++dV (ps.getD z.toNat ByteArray.empty)) (z-1)):=
 wy [ah h1,ah h2,ah h3,af h4,yk 5 ry s,jF 1 h5,yi h6,ax h7,ax h8,kW 5 (.int .u8) (Eq.refl (s++List.map (fun x=>(↑(UInt8.toNat x):Int)) (ps.getD z.toNat ByteArray.empty).data.toList))] 51428980992071965952313753874561
def ajH (s:List Int) (z:Int) (h1:¬z>=0):
  bt nM (fl jN Hi) (mV ps s z) 2 (.exit 2) [(64,64,none),(65,65,none)] (mV ps s z):=
 wy [aJ h1] 1
def ajI (s:List Int) (z:Int) (h1:1<=s.length) (h2:s.length<=140737488355328) (h3:s.length-1<s.length) (h4:List.map (fun x=>(↑(UInt8.toNat x):Int)) (ByteArray.mk (List.toArray (List.map (fun x=>UInt8.ofNat x.toNat) (s.take s.length)))).data.toList=s.take s.length) (h5:(ByteArray.mk (List.toArray (List.map (fun x=>UInt8.ofNat x.toNat) (s.take s.length))))=(ByteArray.mk (List.toArray (List.map (fun x=>UInt8.ofNat x.toNat) s)))):
  bS nM ((fl jN []).drop 12) (mV ps s z) 1 f127 true (sv (oX s)):=
 wy [af (aF (v:=aa.bR 5 (.int .u8) (65:Nat) (0:Nat) s.length (bH s.length))),af (fF h1),af (fF h2),yv 5 ry h3,af (show(decide (List.map (fun x=>(↑(UInt8.toNat x):Int)) (ByteArray.mk (List.toArray (List.map (fun x=>UInt8.ofNat x.toNat) ((bN (.int .u8) (bU 5 ry s)).take s.length)))).data.toList=(bN (.int .u8) (bU 5 ry s)).take s.length))=true from(by simp only [ep]<;>exact az h4)),ax (show(ByteArray.mk (List.toArray (List.map (fun x=>UInt8.ofNat x.toNat) ((bN (.int .u8) (bU 5 ry s)).take s.length))))=(ByteArray.mk (List.toArray (List.map (fun x=>UInt8.ofNat x.toNat) s)))from(by simp only [ep]<;>exact h5))] 108372612023324801
end
abbrev mW (j:Nat) (l:List Int):aa:= .bR 3 (.int .i64) j 0 l.length (bH l.length)
abbrev mX (l:List Int):fJ:= .opt 3 (.int .i64) l
abbrev lZ:av:= .pair .bool (.list false (.int .i64))
abbrev rv (a:Bool×List Int):aa:= .agg [bv a.1,lv a.2]
def w4:=k_a f184
def Nf:=k_a f132
def w5:=k_a f71
def vf:=k_a f134
def Ng:=k_a f186
section
variable (l:List Int)
def ag:Int:=vl 1000000000 l
def Bs:Bool:=l.all fun x=>decide (0<=x)&&decide (x<1000000000)
def ew:List Int:=iP l l.length
def Nh:Bool:=Nat.beq (ew l).length l.length
end
noncomputable def aK (z:Int):List Int:=cO 1000000000 z
def okA (l:List Int):Bool:=Bs l&&(Nh l&&decide (l.length<=100000))
def okB (l:List Int):Bool:=Bs l&&decide (l.length<=300000)
def l5 (w:List Int):bD:={n:=21,sl:=[(0,lv w)],bJ:=[],next:=64}
abbrev Hl:List Nat:=[1,0,0,0]
section
variable (w:List Int)
def ajJ:
  cZ (bc []) (fl w4 []) 1 21 [lv w] 1 .normal [] (l5 w):=
 wy [] 0
def ajK (h1:(w.length:Int)>0) (h2:i6 ((w.length:Int)-1)) (h3:0<=(w.length:Int)-1) (h4:((w.length:Int)-1).toNat<w.length) (h5:w.getD ((w.length:Int)-1).toNat 0=0) (h6:((w.take ((w.length:Int)-1).toNat).drop 0)=(w.take (w.length-1))):
  bt (bc []) (fl w4 Hl) (l5 w) 1023 .normal [] (l5 (w.take (w.length-1))):=
 wy [af (aM (az h1)),yi h2,ah h3,ah h4,ah h1,cX h5,ah (by omega:((w.length:Int)-(1:Int)).toNat<=w.length),ax h6] 642491796976714818348818632769
def ajL (h1:(w.length:Int)>0) (h2:i6 ((w.length:Int)-1)) (h3:0<=(w.length:Int)-1) (h4:((w.length:Int)-1).toNat<w.length) (h5:¬w.getD ((w.length:Int)-1).toNat 0=0):
  bt (bc []) (fl w4 Hl) (l5 w) 767 (.exit 0) [] (l5 w):=
 wy [af (aM (az h1)),yi h2,ah h3,ah h4,ah h1,yn h5] 448504778965001703489
def ajM (h1:¬(w.length:Int)>0):
  bt (bc []) (fl w4 Hl) (l5 w) 512 (.exit 0) [] (l5 w):=
 wy [af (aM (ab h1)),aJ h1] 8865903284289
def Vl:
  bS (bc []) ((fl w4 []).drop 2) (l5 w) 1 f184 false (lv w):=
 wy [] 0
end
def Ho:=IN 184 [.list false (.int .i64)] [.list false (.int .i64)] false (fun d=>decide (List.length (α:=Int) d.1<=1000000)) fun d=>(ew d.1,())
noncomputable def Ni:bG:=ow [Ho] (bc [])
def ajN (w:List Int) (h1:w.length<=1000000) (h2:(decide ((↑(ew w).length:Int)>0))=(decide (0<(↑(ew w).length:Int)))):
  bh Ni (fl Nf []) 9 15 [bv true,lv w] 31 f132 false (.agg [bv (decide (0<((ew w).length:Int))),lv (ew w)]):=
 wy [ah h1,ax h2] 2147483649
def ajO (w:List Int) (h1:w.length<=1000000):
  bh Ni (fl Nf []) 9 15 [bv false,lv w] 16 f132 false (.agg [bv false,lv (ew w)]):=
 wy [ah h1] 1
section
variable (a b:List Int) (h1:¬(a.length:Int)=(b.length:Int))
def ajP (h2:(a.length:Int)<(b.length:Int)):
  bh (bc []) (fl vf []) 3 41 [lv a,lv b] 7 f134 true (iv (-1)):=
 wy [af (gC.mpr h1),ah h2] 129
def ajQ (h2:¬(a.length:Int)<(b.length:Int)):
  bh (bc []) (fl vf []) 3 41 [lv a,lv b] 5 f134 true (iv 1):=
 wy [af (gC.mpr h1),aJ h2] 129
end
def mY (a b:List Int) (k:Nat):bD:={n:=41,sl:=[(0,lv a),(1,lv b),(5,iv ((k:Int)-1))],bJ:=[],next:=64}
def Hp (a b:List Int) (k:Nat):bD:={n:=41,sl:=[(0,lv a),(1,lv b),(5,iv ((k:Int)-1-1))],bJ:=[],next:=64}
abbrev DR:List Nat:=[1,1,0,1,0,0]
section
variable (a b:List Int)
def Ly (h1:(a.length:Int)=(b.length:Int)) (h2:i6 ((a.length:Int)-1)):
  cZ (bc []) (fl vf []) 4 41 [lv a,lv b] 2 .normal [] (mY a b a.length):=
 wy [af (eR.mpr h1),yi h2] 129
def ajR (k:Nat) (h1:(k:Int)-1>=0) (h2:0<=(k:Int)-1) (h3:((k:Int)-1).toNat<a.length) (h4:((k:Int)-1).toNat<b.length) (h5:a.getD ((k:Int)-1).toNat 0<b.getD ((k:Int)-1).toNat 0):
  bS (bc []) (fl vf DR) (mY a b k) 7 f134 true (iv (-1)):=
 wy [ah h1,ah h2,ah h3,af (aF (v:=iv (a.getD ((k:Int)-(1:Int)).toNat (0:Int)))),ah h4,af (aF (v:=iv (b.getD ((k:Int)-(1:Int)).toNat (0:Int)))),ah h5] 31204045762689
def ajS (k:Nat) (h1:(k:Int)-1>=0) (h2:0<=(k:Int)-1) (h3:((k:Int)-1).toNat<a.length) (h4:((k:Int)-1).toNat<b.length) (h5:¬a.getD ((k:Int)-1).toNat 0<b.getD ((k:Int)-1).toNat 0) (h6:a.getD ((k:Int)-1).toNat 0>b.getD ((k:Int)-1).toNat 0):
  bS (bc []) (fl vf DR) (mY a b k) 13 f134 true (iv 1):=
 wy [ah h1,ah h2,ah h3,af (aF (v:=iv (a.getD ((k:Int)-(1:Int)).toNat (0:Int)))),ah h4,af (aF (v:=iv (b.getD ((k:Int)-(1:Int)).toNat (0:Int)))),aJ h5,ah h6] 156579657712784783981949057
def ajT (k:Nat) (h1:(k:Int)-1>=0) (h2:0<=(k:Int)-1) (h3:((k:Int)-1).toNat<a.length) (h4:((k:Int)-1).toNat<b.length) (h5:¬a.getD ((k:Int)-1).toNat 0<b.getD ((k:Int)-1).toNat 0) (h6:¬a.getD ((k:Int)-1).toNat 0>b.getD ((k:Int)-1).toNat 0) (h7:i6 ((k:Int)-1-1)):
  bt (bc []) (fl vf DR) (mY a b k) 9 .normal [] (Hp a b k):=
 wy [ah h1,ah h2,ah h3,af (aF (v:=iv (a.getD ((k:Int)-(1:Int)).toNat (0:Int)))),ah h4,af (aF (v:=iv (b.getD ((k:Int)-(1:Int)).toNat (0:Int)))),aJ h5,aJ h6,yi h7] 11298040011281207258074067073
def ajU (k:Nat) (h1:¬(k:Int)-1>=0):
  bt (bc []) (fl vf DR) (mY a b k) 2 (.exit 0) [] (mY a b k):=
 wy [aJ h1] 1
def ajV (k:Nat):
  bS (bc []) ((fl vf []).drop 5) (mY a b k) 1 f134 true (iv 0):=
 wy [] 0
end
def ajW (a:List Int) (k:Nat) (h1:(k:Int)<(a.length:Int)) (h2:k<a.length):
  bh (bc []) (fl Ng []) 9 13 [lv a,iv k] 3 f186 true (iv (a.getD k 0)):=
 wy [ah h1,ah h2] 8193
def ajX (a:List Int) (k:Int) (h1:¬k<(a.length:Int)):
  bh (bc []) (fl Ng []) 9 13 [lv a,iv k] 2 f186 true (iv 0):=
 wy [aJ h1] 1
def lp (x y:Int):Int:=if x<y then-1 else if y<x then 1 else 0
def bW (a:List Int) (k:Int):Int:=a.getD k.toNat 0
def Nj:=IN 134 [.list false (.int .i64), .list false (.int .i64)] [.int .i64] true (fun d=>okA d.1&&okA d.2.1) fun d=>(lp (ag d.1) (ag d.2.1),())
def Vm:=IN 186 [.list false (.int .i64), .int .i64] [.int .i64] true (fun d=>decide (0<=d.2.1)) fun d=>(bW d.1 d.2.1,())
noncomputable def mkR (z:Int):Bool×List Int:=(decide (z<0),aK (z.natAbs:Int))
def bk (neg:Bool) (v:Int):Int:=match neg with |true=> -v|false=>v
abbrev Vn:fJ:= .blk (.cells 97 [bv false, .raw (.slice none 0 0)] true false false)
def ma (n:Int) (neg:Bool) (w:List Int):bD:={n:=25,sl:=[(0,iv n),(2, .ptr 64 0),(3,mW 65 w),(4,bv neg)],bJ:=[(64,Vn),(65,mX w)],next:=66}
abbrev Hq:List Nat:=[1,1,1,0,0,0]
def DS:=IN 132 [.bool, .list false (.int .i64)] [lZ] false (fun d=>okB d.2.1) fun d=>(mkR (bk d.1 (ag d.2.1)),())
def ajY (l:List Int) (hl:l.length<=1000000):Holds prog false 184 [lv l] (lv (ew l)):=by
 refine bL (c:=w4) func184 rfl rfl fun w0 F=> ?_
 refine cJ cC 1 (ajJ l) ?_;have ajZ:l5 l=l5 (l.take l.length):=by rw [dK]
 rw [ajZ];refine aU.loop (ι:={k:Nat//k<=l.length/\iP l k=ew l}) (id:=0) (b:=cat w4 Hl) (rest:=(fl w4 []).drop 2) (by kernel_rfl) (fun k=>l5 (l.take k.1)) (fun k=>k.1) ⟨l.length,aI _,rfl⟩ (fun _=>rfl) ?_;rintro⟨k,hk,hv⟩;have hk:k<=l.length:=hk;have lk:(l.take k).length=k:=by rw [ek];omega
 cases k with
 |zero=>
  refine bx (s:=l5 (l.take 0)) cC (ajM _ ω) ?_;refine cy (cF ?_);have e:ew l=l.take 0:=by rw [<-hv];rfl
  rw [e];exact bX (s:=l5 (l.take 0)) cC (Vl _)
 |succ k=>
  have e0:((((l.take (k+1)).length:Nat):Int)-1).toNat=k:=by omega
  have e1:(l.take (k+1)).getD k 0=l.getD k 0:=by simp [ao,List.getElem?_take]
  have e2:(l.take (k+1)).take ((l.take (k+1)).length-1)=l.take k:=by rw [lk,List.take_take];congr 1;omega
  by_cases hz:l.getD k 0=0
  .refine bx (s:=l5 (l.take (k+1))) cC (ajK _ ω ω ω ω (by rw [e0,e1];exact hz) (by rw [e0,lk,List.drop_zero,Nat.add_sub_cancel])) ?_;have iO:iP l k=ew l:=by rw [<-hv,iP,if_pos hz]
   rw [e2];exact⟨⟨k,by omega,iO⟩,fG _,rfl,rfl⟩
  .refine bx (s:=l5 (l.take (k+1))) cC (ajL _ ω ω ω ω (by rw [e0,e1];exact hz)) ?_;refine cy (cF ?_);have e:ew l=l.take (k+1):=by rw [<-hv,iP,if_neg hz]
   rw [e];exact bX (s:=l5 (l.take (k+1))) cC (Vl _)
def Nk:Ho.Ok prog:=fun⟨l,_⟩ h=>ajY l (ap h)
def Vo:bC prog (bF Ni):=uM (fun c hc=>by
 simp only [en,ki,or_false]at hc;obtain rfl:=hc;exact Nk) cC
def lq:(1:Int)<1000000000:=by decide
section
variable {l:List Int}
def pf:Bs l=true↔aS 1000000000 l:=by
 unfold Bs aS;simp only [List.all_eq_true,ae,bE]
def aj0:Nh l=true↔e5 l:=by
 unfold Nh ew;constructor
 .intro h;have h:=ac h;have:=Gb l l.length (aI _);obtain⟨m,h1,h2,_⟩:=Dl l l.length (aI _);rw [h2,ek]at h;have hm:m=l.length:=by omega
  rw [h2,hm,dK]at this;exact this
 .intro h;rw [Tf h];exact Nat.beq_refl _
def fO:okA l=true↔aS 1000000000 l/\e5 l/\l.length<=100000:=by
 unfold okA;rw [ae,ae,pf,aj0,bE]
def oA:okB l=true↔aS 1000000000 l/\l.length<=300000:=by
 unfold okB;rw [ae,pf,bE]
def ze (h:aS 1000000000 l):ew l=aK (ag l):=by
 refine qY lq (Te h _ (aI _)) (Gb l _ (aI _)) ?_;unfold ew ag;rw [Lw l _ (aI _),dK]
def BY (h:aS 1000000000 l) (ht:e5 l):aK (ag l)=l:=(qY lq h ht rfl).symm
end
def co {z:Int} (h:0<=z):aS 1000000000 (aK z)/\e5 (aK z)/\ag (aK z)=z:=qX lq h
def Hr {z:Int} (h:0<=z):aK z=[]↔z=0:=by
 obtain⟨h1,h2,h3⟩:=co h;rw [<-Gd lq h1 h2];show ag (aK z)=0↔_;rw [h3]
def eh {l:List Int} (h:aS 1000000000 l):0<=ag l:=fY δ h
def aj1 (neg:Bool) (w:List Int) (h:okB w=true):Holds prog false 132 [bv neg,lv w] (rv (mkR (bk neg (ag w)))):=by
 obtain⟨hd,hl⟩:=oA.1 h;have hn:=eh hd;have et:=ze hd;refine bL (c:=Nf) func132 rfl rfl fun w0 F=> ?_
 cases neg with
 |true=>
  have e:mkR (bk true (ag w))=(decide ((0:Int)<((ew w).length:Int)),ew w):=by
   show(decide (-ag w<0),aK ((-ag w).natAbs:Int))=_;rw [et,show((-ag w).natAbs:Int)=ag w by omega];congr 1;have hz:=Hr hn;by_cases h0:ag w=0
   .have:aK (ag w)=[]:=hz.2 h0;rw [this,h0];rfl
   .have:aK (ag w)≠[]:=fun h=>h0 (hz.1 h)
    have:=List.length_pos_iff.2 this;rw [az ω,az ω]
  rw [e];exact bw Vo 9 (ajN w ω rfl)
 |false=>
  have e:mkR (bk false (ag w))=(false,ew w):=by
   show(decide (ag w<0),aK ((ag w).natAbs:Int))=_;rw [et,show((ag w).natAbs:Int)=ag w by omega,ab ω]
  rw [e];exact bw Vo 9 (ajO w ω)
def tc:DS.Ok prog:=fun⟨neg,w,_⟩ h=>aj1 neg w h
def Vp {x y:Int} (h:x<y):lp x y= -1:=by unfold lp;rw [if_pos h]
def Vq {x y:Int} (h:y<x):lp x y=1:=by unfold lp;rw [if_neg ω,if_pos h]
def aj2 {x y:Int} (h:x=y):lp x y=0:=by unfold lp;rw [if_neg ω,if_neg ω]
def aj3 (a b:List Int) (h:okA a=true) (g:okA b=true):Holds prog true 134 [lv a,lv b] (iv (lp (ag a) (ag b))):=by
 obtain⟨ha,ta,la⟩:=fO.1 h;obtain⟨hb,tb,lb⟩:=fO.1 g;refine bL (c:=vf) func134 rfl rfl fun w0 F=> ?_
 by_cases hab:a.length=b.length
 .refine cJ cC 4 (Ly a b ω ω) ?_;refine aU.loop (ι:={k:Nat//k<=a.length/\∀j,k<=j->j<a.length->a.getD j 0=b.getD j 0}) (id:=0) (b:=cat vf DR) (rest:=(fl vf []).drop 5) (by kernel_rfl) (fun k=>mY a b k.1) (fun k=>k.1) ⟨a.length,aI _,fun j h1 h2=>by omega⟩ (fun _=>rfl) ?_;rintro⟨k,hk,heq⟩;cases k with
  |zero=>
   refine bx (s:=mY a b 0) cC (ajU a b 0 ω) ?_;refine cy (cF ?_);have e:a=b:=by
    refine List.ext_getElem hab fun j h1 h2=> ?_
    have:=heq j (Nat.zero_le _) h1;rwa [uB h1,uB h2]at this
   rw [aj2 (show ag a=ag b by rw [e])];exact bX (s:=mY a b 0) cC (ajV a b 0)
  |succ k=>
   have e0:(((k+1:Nat):Int)-1).toNat=k:=by omega
   have e1:Hp a b (k+1)=mY a b k:=by
    unfold Hp mY;rw [show(((k+1:Nat):Int)-1-1)=(k:Int)-1 by omega]
   have hka:k<a.length:=by omega
   by_cases h2:a.getD k 0<b.getD k 0
   .rw [Vp (show ag a<ag b from Gc lq ha hb hab hka h2 fun j g1 g2=>heq j ω g2)];exact bX (s:=mY a b (k+1)) cC (ajR a b (k+1) ω ω ω ω (by rw [e0];exact h2))
   .by_cases h3:a.getD k 0>b.getD k 0
    .rw [Vq (show ag b<ag a from Gc lq hb ha hab.symm ω (show b.getD k 0<a.getD k 0 by omega) fun j g1 g2=>(heq j ω ω).symm)];exact bX (s:=mY a b (k+1)) cC (ajS a b (k+1) ω ω ω ω (by rw [e0];exact h2) (by rw [e0];exact h3))
    .refine bx (s:=mY a b (k+1)) (s':=Hp a b (k+1)) cC (ajT a b (k+1) ω ω ω ω (by rw [e0];exact h2) (by rw [e0];exact h3) ω) ?_;rw [e1];exact⟨⟨k,by omega,fun j g1 g2=>by
      by_cases hj:j=k
      .rw [hj];omega
      .exact heq j ω g2⟩,fG _,rfl,rfl⟩
 .by_cases hlt:a.length<b.length
  .rw [Vp (show ag a<ag b from wD lq ha hb tb hlt)];exact bw cC 3 (ajP a b ω ω)
  .rw [Vq (show ag b<ag a from wD lq hb ha ta ω)];exact bw cC 3 (ajQ a b ω ω)
def Vr:Nj.Ok prog:=fun⟨a,b,_⟩ h=>by
 have h:(okA a&&okA b)=true:=h;rw [ae]at h;exact aj3 a b h.1 h.2
def aj4:Vm.Ok prog:=fun⟨a,k,_⟩ h=>by
 have h0:(0:Int)<=k:=ap h;obtain⟨n,rfl⟩:=Int.eq_ofNat_of_zero_le h0;show Holds prog true 186 [lv a,iv n] (iv (a.getD (n:Int).toNat 0));rw [Int.toNat_natCast];refine bL (c:=Ng) func186 rfl rfl fun w0 F=> ?_
 by_cases h1:n<a.length
 .exact bw cC 9 (ajW a n ω h1)
 .rw [show a.getD n 0=0 by rw [ao,List.getElem?_eq_none ω];rfl];exact bw cC 9 (ajX a n ω)
noncomputable def Bt:bG:=ow [DS] (bc [])
def aj5 (n:Int):
  cZ Bt (fl w5 []) 3 25 [iv n] 1 .normal [(64,64,none)] (ma n (decide (n<0)) []):=
 wy [] 0
section
variable (n:Int) (neg:Bool) (w:List Int)
def TO (h1:¬n=0) (h2:¬Int.tmod n 1000000000<0) (h3:w.length+1<=1000000) (h4:i6 (Int.tdiv n 1000000000)) (h5:(w.length+1)=(w++[Int.tmod n 1000000000]).length) (h6:(aX.full)=(bH (w++[Int.tmod n 1000000000]).length)):
  bt Bt (fl w5 Hq) (ma n neg w) 9 .normal [(64,64,none),(65,67,none)] (ma (Int.tdiv n 1000000000) neg (w++[Int.tmod n 1000000000])):=
 wy [af (gC.mpr h1),aJ h2,yk 3 (.int .i64) w,jF 8 h3,yi h4,ax h5,ax h6,kW 3 (.int .i64) (Eq.refl (w++[Int.tmod n (1000000000:Int)]))] 40564821351257725478366412283905
def aj6 (h1:¬n=0) (h2:Int.tmod n 1000000000<0) (h3:i6 (0-Int.tmod n 1000000000)) (h4:w.length+1<=1000000) (h5:i6 (Int.tdiv n 1000000000)) (h6:(w.length+1)=(w++[0-Int.tmod n 1000000000]).length) (h7:(aX.full)=(bH (w++[0-Int.tmod n 1000000000]).length)):
  bt Bt (fl w5 Hq) (ma n neg w) 11 .normal [(64,64,none),(65,67,none)] (ma (Int.tdiv n 1000000000) neg (w++[0-Int.tmod n 1000000000])):=
 wy [af (gC.mpr h1),ah h2,yi h3,yk 3 (.int .i64) w,jF 8 h4,yi h5,ax h6,ax h7,kW 3 (.int .i64) (Eq.refl (w++[(0:Int)-Int.tmod n (1000000000:Int)]))] 2920667139783965744155195771461633
def aj7 (h1:n=0):
  bt Bt (fl w5 Hq) (ma n neg w) 2 (.exit 0) [(64,64,none),(65,65,none)] (ma n neg w):=
 wy [af (eR.mpr h1)] 1
def aj8 (h1:(Nat.beq w.length 0||bz 3 (.int .i64) (bU 3 (.int .i64) w) (w.length-1))=true) (h2:(okB ((w.drop 0).take w.length))=true):
  bS Bt ((fl w5 []).drop 4) (ma n neg w) 1 f71 false (rv (mkR (bk neg (ag ((w.drop 0).take w.length))))):=
 wy [af (show(Nat.beq w.length (0:Nat)||bz 3 (.int .i64) (bU 3 (.int .i64) w) ((0:Nat)+w.length-(1:Nat)))=true from(by simp only [aw]<;>exact h1)),af (show(okB (((bN (.int .i64) (bU 3 (.int .i64) w)).drop (0:Nat)).take w.length))=true from(by simp only [ep]<;>exact h2)),ax (show((mkR (bk neg (ag (((bN (.int .i64) (bU 3 (.int .i64) w)).drop (0:Nat)).take w.length)))).1)=((mkR (bk neg (ag ((w.drop (0:Nat)).take w.length)))).1)from(by simp only [ep]<;>rfl)),ax (show((mkR (bk neg (ag (((bN (.int .i64) (bU 3 (.int .i64) w)).drop (0:Nat)).take w.length)))).2)=((mkR (bk neg (ag ((w.drop (0:Nat)).take w.length)))).2)from(by simp only [ep]<;>rfl))] 1060993
end
def Nl:=IN 71 [.int .i64] [lZ] false (fun d=>decide (-9223372036854775808<=d.1)&&decide (d.1<=9223372036854775807)) fun d=>(mkR d.1,())
def aj9:bC prog (bF Bt):=uM (fun c hc=>by
 simp only [en,ki,or_false]at hc;obtain rfl:=hc;exact tc) cC
def ph {α:Type} (l:List α) (x:α):aX.full=bH (l++[x]).length:=by simp [bH]
def rz {α:Type} (l:List α) (x:α):l.length+1=(l++[x]).length:=by simp
def Bu (e:TypeId) (l:List Int):(Nat.beq l.length 0||bz e (.int .i64) (bU e (.int .i64) l) (l.length-1))=true:=by
 by_cases h:l.length=0
 .rw [h];rfl
 .rw [fm,az (show l.length-1<l.length by omega),Bool.or_true]
def aka {n:Int} (h0:n≠0):∃d,(if Int.tmod n 1000000000<0 then 0-Int.tmod n 1000000000 else Int.tmod n 1000000000)=d/\0<=d/\d<1000000000/\((Int.tdiv n 1000000000).natAbs:Int)*1000000000+d=n.natAbs/\(Int.tdiv n 1000000000).natAbs<n.natAbs/\(Int.tdiv n 1000000000<0->n<0)/\(0<Int.tdiv n 1000000000->0<n):=by
 refine⟨_,rfl, ?_⟩;rcases Int.lt_or_le n 0 with hn|hn
 .have e1:Int.tdiv n 1000000000= -((-n)/1000000000):=by
   have h:=Int.neg_tdiv (a:= -n) (b:=1000000000);rw [Int.neg_neg]at h;rw [h,Int.tdiv_eq_ediv_of_nonneg (show 0<= -n by omega)]
  have e2:Int.tmod n 1000000000= -((-n)%1000000000):=by
   have h:=Int.neg_tmod (a:= -n) (b:=1000000000);rw [Int.neg_neg]at h;rw [h,Int.tmod_eq_emod_of_nonneg (show 0<= -n by omega)]
  rw [e1,e2];split<;>omega
 .rw [Int.tdiv_eq_ediv_of_nonneg hn,Int.tmod_eq_emod_of_nonneg hn];rw [if_neg ω];omega
def akb (n0:Int) (hl: -9223372036854775808<=n0) (hh:n0<=9223372036854775807):Holds prog false 71 [iv n0] (rv (mkR n0)):=by
 have hS:=aj9;refine bL (c:=w5) func71 rfl rfl fun w0 F=> ?_
 refine cJ hS 3 (aj5 n0) ?_;refine aU.loop (ι:={s:Int×List Int// -9223372036854775808<=s.1/\s.1<=9223372036854775807/\aS 1000000000 s.2/\(s.1.natAbs:Int)<1000000000^(4-s.2.length)/\s.2.length<=4/\ag s.2+1000000000^s.2.length*(s.1.natAbs:Int)=n0.natAbs}) (id:=0) (b:=cat w5 Hq) (rest:=(fl w5 []).drop 4) (by kernel_rfl) (fun s=>ma s.1.1 (decide (n0<0)) s.1.2) (fun s=>s.1.1.natAbs) ⟨(n0,[]),hl,hh, .nil,by show(n0.natAbs:Int)<1000000000^4;omega,by simp,by show(0:Int)+1*_=_;omega⟩ (fun _=>rfl) ?_;rintro⟨⟨n,w⟩,b1,b2,b3,gy,Hs,zg⟩;have b1: -9223372036854775808<=n:=b1;have b2:n<=9223372036854775807:=b2;have b3:aS 1000000000 w:=b3;have gy:(n.natAbs:Int)<1000000000^(4-w.length):=gy;have Hs:w.length<=4:=Hs;have zg:ag w+1000000000^w.length*(n.natAbs:Int)=n0.natAbs:=zg;by_cases h0:n=0
 .refine bx (s:=ma n (decide (n0<0)) w) hS (aj7 n _ w h0) ?_;refine cy (cF ?_);have hv:ag w=n0.natAbs:=by rw [h0]at zg;simpa using zg
  have key:=aj8 n (decide (n0<0)) w;rw [List.drop_zero,dK]at key;have e:mkR (bk (decide (n0<0)) (ag w))=mkR n0:=by
   rw [hv];by_cases hn:n0<0
   .rw [az hn];show mkR (-(n0.natAbs:Int))=_;congr 1;omega
   .rw [ab hn];show mkR (n0.natAbs:Int)=_;congr 1;omega
  rw [e]at key;exact bX (s:=ma n (decide (n0<0)) w) hS (key (Bu _ w) (oA.2 ⟨b3,by omega⟩))
 .obtain⟨d,d1,d2,d3,d4,d5,d6,d7⟩:=aka h0;have auA:w.length<4:=by
   rcases Nat.lt_or_ge w.length 4 with h|h
   .exact h
   .have:4-w.length=0:=by omega
    rw [this]at gy;simp at gy;omega
  have hp:(1000000000:Int)^(4-w.length)=1000000000^(4-(w.length+1))*1000000000:=by rw [<-Int.pow_succ];congr 1;omega
  have uV:∃j:{s:Int×List Int// -9223372036854775808<=s.1/\s.1<=9223372036854775807/\aS 1000000000 s.2/\(s.1.natAbs:Int)<1000000000^(4-s.2.length)/\s.2.length<=4/\ag s.2+1000000000^s.2.length*(s.1.natAbs:Int)=n0.natAbs},j.1.1.natAbs<n.natAbs/\(ma (Int.tdiv n 1000000000) (decide (n0<0)) (w++[d])).T=(ma j.1.1 (decide (n0<0)) j.1.2).T/\(ma (Int.tdiv n 1000000000) (decide (n0<0)) (w++[d])).H=(ma j.1.1 (decide (n0<0)) j.1.2).H:=by
   refine⟨⟨(Int.tdiv n 1000000000,w++[d]),by show _<=Int.tdiv n _;omega,by show Int.tdiv n _<=_;omega,b3.app (.cons ⟨d2,d3⟩ .nil), ?_,by show(w++[d]).length<=4;simp;omega, ?_⟩,d5,rfl,rfl⟩
   .show((Int.tdiv n 1000000000).natAbs:Int)<1000000000^(4-(w++[d]).length);rw [<-rz];rw [hp]at gy;omega
   .show ag (w++[d])+1000000000^(w++[d]).length*((Int.tdiv n 1000000000).natAbs:Int)=_;have ev:ag (w++[d])=ag w+1000000000^w.length*d:=yG _ _ _;rw [<-rz,ev,Int.pow_succ,<-zg,<-d4];grind
  by_cases hm:Int.tmod n 1000000000<0
  .rw [if_pos hm]at d1;subst d1;exact bx (s:=ma n (decide (n0<0)) w) hS (aj6 n _ w h0 hm ω ω ω (rz _ _) (ph _ _)) uV
  .rw [if_neg hm]at d1;subst d1;exact bx (s:=ma n (decide (n0<0)) w) hS (TO n _ w h0 hm ω ω (rz _ _) (ph _ _)) uV
def Vs:Nl.Ok prog:=fun⟨n,_⟩ h=>by
 have h:(decide (-9223372036854775808<=n)&&decide (n<=9223372036854775807))=true:=h;rw [ae]at h;exact akb n (ap h.1) (ap h.2)
end
end Go.Proofs.YtibikmmdbdlafaaGreatDoor
