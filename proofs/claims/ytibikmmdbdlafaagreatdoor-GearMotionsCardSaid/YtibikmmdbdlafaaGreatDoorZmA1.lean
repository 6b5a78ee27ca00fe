import Derived.Test.YtibikmmdbdlafaaGreatDoorZmVRd
set_option linter.defProp false
set_option linter.unusedVariables false
set_option linter.unusedSimpArgs false
set_option maxRecDepth 100000
namespace Go.Proofs.YtibikmmdbdlafaaGreatDoor
open Go.RowKit Sv Go.Proofs.Tryz
noncomputable section
def ahg:bD prog (bG AK):=abK (fun c hc=>by rw [List.mem_singleton.1 hc];exact ag8) (cY fun c hc=>by
 simp only [ep,j7,or_false]at hc;rcases hc with rfl |rfl |rfl |rfl |rfl |rfl |rfl
 .exact ag6
 .exact ag7
 .exact tU
 .exact No
 .exact CF
 .exact Ak
 .exact Aj)
def Gj (s:ByteArray) (n:Nat):(s.extract 0 n).data.toList=s.data.toList.take n:=by
 rw [ByteArray.data_extract,Array.toList_extract];simp [List.extract]
def Ts (s:ByteArray) (n:Nat):(s.extract n s.size).data.toList=s.data.toList.drop n:=by
 rw [ByteArray.data_extract,Array.toList_extract];simp only [List.extract];rw [eF];rw [mW,Array.length_toList];exact aG _
def gf (s:ByteArray):s.size=s.data.toList.length:=by rw [Array.length_toList];rfl
open Lib in
theorem decFrom_lt:∀(l:List UInt8) (a x:Nat),decFrom a l=some x->x<(a+1)*10^l.length
 |[],a,x,h=>by cases h;simp
 |b::r,a,x,h=>by
  unfold decFrom at h;cases hd:digitVal b with
  |none=>rw [hd]at h;cases h
  |some d=>
   rw [hd]at h;have ih:=decFrom_lt r _ _ h;have asI:d<=9:=by
    unfold digitVal at hd;split at hd
    .cases hd;omega
    .cases hd
   have h1:=Nat.mul_le_mul_right (10^r.length) (show a*10+d+1<=(a+1)*10 by omega);rw [List.length_cons,Nat.pow_succ];have:(a+1)*(10^r.length*10)=(a+1)*10*10^r.length:=by grind
   omega
def ahh {n x v:Nat} (h:bK n (aY ((x+v:Nat):Int))=true) (hn:1<=n):bK n (dx (aY (x:Int)) (bX v))=true:=CD (by
 have h1:=d8 h hn;rw [val_mk]at h1;rw [val_mk];show((((x:Int)+(v:Int)).natAbs:Nat):Int)<_;rw [<-Int.natCast_add];exact h1)
def ahi (s:ByteArray) (N:Nat) (hd:Lib.decFrom 0 (qQ s e4).data.toList=some N) (hN:aH (aY (N:Int))=true):
  Holds prog false 122 [sv s] (aJ (aY (if pJ s e4=true then-(N:Int)else N))):=by
 have hS:=ahg;have e0:((0,[]):aW)=aY ((0:Nat):Int):=by unfold aY;rw [if_pos (by decide)];rfl
 have hst:=ag9 s;rw [show nG (qQ s e4) (0,[]) (pJ s e4)=nG (qQ s e4) (aY ((0:Nat):Int)) (pJ s e4) by rw [<-e0]]at hst;refine bL (c:=rc) func122 rfl rfl fun w F=> ?_
 refine cC hS 4 hst ?_;generalize pJ s e4=neg;refine aP.loop (ι:={x:ByteArray×Nat//Lib.decFrom x.2 x.1.data.toList=some N}) (id:=0) (b:=cat rc LU) (rest:=(fl rc []).drop 5) (by kernel_rfl) (fun x=>nG x.1.1 (aY (x.1.2:Int)) neg) (fun x=>x.1.1.size)
  ⟨(qQ s e4,0),hd⟩ (fun _=>rfl) ?_
 rintro⟨⟨t,m⟩,hx⟩;have hx:Lib.decFrom m t.data.toList=some N:=hx;have hm:=nm _ _ _ hx;by_cases hz:t.size=0
 .have e:m=N:=by
   have:t.data.toList=[]:=List.eq_nil_of_length_eq_zero (by rw [<-gf];exact hz);rw [this]at hx;cases hx;rfl
  subst e;refine bl (s:=nG t (aY (m:Int)) neg) hS (ahb t (aY (m:Int)) neg (by rw [hz];decide)) ?_;refine cw (cz ?_);cases neg with
  |true=>
   have e:eY (aY (m:Int))=aY (-(m:Int)):=by unfold eY;rw [val_mk]
   rw [if_pos rfl,<-e];exact bP (s:=nG t (aY (m:Int)) true) hS (ahc t (aY (m:Int)) true rfl hN)
  |false=>
   rw [if_neg (by decide)];exact bP (s:=nG t (aY (m:Int)) false) hS (ahd t (aY (m:Int)) false rfl)
 .obtain⟨C,hC⟩:∃C,C=min t.size 18:=⟨_,rfl⟩;have hE:(if(t.size:Int)<18 then(t.size:Int)else 18)=(C:Int):=by split<;>omega
  have asJ:1<=C:=by omega
  have ahj:C<=18:=by omega
  have Tt:C<=t.size:=by omega
  obtain⟨v,hv,iO⟩:=Tr C _ _ _ hx (by rw [<-gf];exact Tt);have hm2:=nm _ _ _ iO;have hne:(t.extract 0 C).data.toList≠[]:=by
   rw [Gj];intro e;have:=congrArg List.length e;rw [ei,<-gf,List.length_nil]at this;omega
  have ha:Lib.atoi (t.extract 0 C).data.toList=some (v:Int):=ahe (by rw [Gj];exact hv) hne;have hok:AJ (t.extract 0 C)=true:=by
   unfold AJ;rw [ha,gf,Gj,ei,ax (by omega)];rfl
  have ke:wB (t.extract 0 C)=v:=by unfold wB;rw [ha];rfl
  have key:=aha t (t.extract C t.size) (aY (m:Int)) (aY ((m*10^C+v:Nat):Int)) neg;rw [hE,Int.toNat_natCast,ke]at key;have hP:sj (bX 10) (C:Int)=aY ((10^C:Nat):Int):=by
   unfold sj;rw [Int.toNat_natCast,Int.natCast_pow];rfl
  have LV:AH (bX 10) (C:Int)=true:=by
   unfold AH;rw [show aH (bX 10)=true from(nC (n:=100000) (a:=(10,[])) rfl).trans (by decide),ax (show(0:Int)<=C by omega),ax (by rw [Int.toNat_natCast];show 1+(0+1)*C<=100000;omega)];rfl
  have hMul:ct (aY (m:Int)) (aY ((10^C:Nat):Int))=aY ((m*10^C:Nat):Int):=by
   unfold ct;rw [val_mk,val_mk,<-Int.natCast_mul]
  have o1:aH (aY (m:Int))=true:=Gi hN (by decide) hm;have o3:aH (aY ((m*10^C:Nat):Int))=true:=Gi hN (by decide) (by omega);have ahk:10^C<=10^18:=Nat.pow_le_pow_right (by decide) ahj;have o2:aH (aY ((10^C:Nat):Int))=true:=Gi (y:=10^18) (iz (show 1<=100000 by decide) (kZ (by decide)).1) (by decide) ahk;have asK:v<10^C:=by
   have:=decFrom_lt _ _ _ hv;rw [ei,<-gf,Nat.min_eq_left Tt,aw,Nat.one_mul]at this;exact this
  have ahl:aH (bX v)=true:=(nC (n:=100000) (a:=(v,[])) rfl).trans (qJ.2 ⟨by show _<=(v:Int);omega,by show(v:Int)<=_;omega⟩);have ahm:aH (aY ((m*10^C+v:Nat):Int))=true:=Gi hN (by decide) hm2;have hAdd:dx (ct (aY (m:Int)) (sj (bX 10) (C:Int))) (bX v)=aY ((m*10^C+v:Nat):Int):=by
   rw [hP,hMul];exact ahf (ahh ahm (by decide))
  refine bl (s:=nG t (aY (m:Int)) neg) hS (key (by omega) hok LV (mP o1 (by show aH (sj (bX 10) (C:Int))=true;rw [hP];exact o2)) (mP (by show aH (ct (aY (m:Int)) (sj (bX 10) (C:Int)))=true;rw [hP,hMul];exact o3) ahl) rfl (congrArg Prod.fst hAdd) (congrArg Prod.snd hAdd)) ?_;refine⟨⟨(t.extract C t.size,m*10^C+v), ?_⟩, ?_,rfl,rfl⟩
  .show Lib.decFrom (m*10^C+v) (t.extract C t.size).data.toList=some N;rw [Ts];exact iO
  .show(t.extract C t.size).size<t.size;rw [gf (t.extract C t.size),Ts,mW,<-gf];omega
def uv (s:ByteArray):Int:=match Lib.decFrom 0 (qQ s e4).data.toList with |some n=>n|none=>0
def wn (s:ByteArray):Int:=if pJ s e4=true then-uv s else uv s
noncomputable def fJ (s:ByteArray):Int×List Int:=aY (wn s)
noncomputable def jG (s:ByteArray):Bool:=(Lib.decFrom 0 (qQ s e4).data.toList).isSome&&aH (aY (uv s))
noncomputable def LW:bp:={f:=122,ps:=[.str],rs:=[dR],fresh:=false,pre:=fun d=>jG d.1,fn:=fun d=>(fJ d.1,())}
def Tu:LW.Ok prog:=fun⟨s,_⟩ h=>by
 have h:jG s=true:=h;unfold jG at h;rw [ae]at h;obtain⟨N,hN⟩:=Option.isSome_iff_exists.1 h.1;have e:uv s=N:=by unfold uv;rw [hN]
 have e2:fJ s=aY (if pJ s e4=true then-(N:Int)else N):=by unfold fJ wn;rw [e]
 show Holds prog false 122 [sv s] (aJ (fJ s));rw [e2];exact ahi s N hN (by rw [<-e];exact h.2)
def iV (s p:ByteArray):ByteArray:=⟨(Lib.cut s.data.toList p.data.toList).1.toArray⟩
def sw (s p:ByteArray):ByteArray:=⟨(Lib.cut s.data.toList p.data.toList).2.1.toArray⟩
def ox (s p:ByteArray):Bool:=(Lib.cut s.data.toList p.data.toList).2.2
def sx (s:ByteArray):Bool:=decide (s.size<4294967281)
def cg (n:Int):ByteArray:=⟨(Lib.itoa n).toArray⟩
noncomputable def LX:bp:={f:=118,ps:=[.str, .str],rs:=[.str, .str, .bool],fresh:=true,pre:=fun d=>sx d.1,fn:=fun d=>(iV d.1 d.2.1,sw d.1 d.2.1,ox d.1 d.2.1,())}
noncomputable def Tv:bp:={f:=177,ps:=[.int .i64],rs:=[.str],fresh:=true,pre:=fun d=>gA d.1,fn:=fun d=>(cg d.1,())}
def ahn {B:Nat} {w w':World} (h:Below B w w') (n:Nat):Below B w (w'.drewN n):=⟨h.os,h.tape,h.output,h.size,h.block⟩
def rh (B:Nat) (w:World) (hB:B<=w.heap.size) (k:Nat) (os:Array Obj):Below B w (Sort.grow (w.drewN k) os):=
 ⟨rfl,rfl,rfl,by show w.heap.size<=(w.heap++os).size;rw [Array.size_append];omega,fun j hj=>by
   show(w.heap++os)[j]? =_;rw [Array.getElem?_append_left (by omega)]⟩
def aho {F:Sv.Env} {w:World} (hF:tM w F) (cu:vK F):∃m,w.cell? ⟨0,0,none⟩=some (.int .i64 m):=by
 obtain⟨A,h1,m,h2⟩:=cu 0 _ rfl;obtain⟨e,fr,h3⟩:=hF.fz _ _ h1;subst h2;exact⟨m,by simp [World.cell?,h3]⟩
def Tw {F:Sv.Env} {w:World} (hF:tM w F) (cu:vK F):Lib.TabIs prog w "internal/strconv.uint64pow10" .u64 Lib.pow10Tab:=by
 obtain⟨A,h1,h2⟩:=cu 5 _ rfl;obtain⟨e,fr,h3⟩:=hF.fz _ _ h1;subst h2;unfold Lib.TabIs World.var?;rw [show prog.globalNamed "internal/strconv.uint64pow10" =some 5 by kernel_rfl];show(match w.heap[5]? with |some (.cells cs _ _)=>some cs|_=>none)=_
 rw [h3]
def Tx:LX.Ok prog:=fun⟨s,p,_⟩ h w F xs hF cu hd=>by
 have h:sx s=true:=h;unfold sx at h;rw [bB]at h;obtain⟨m,hm⟩:=aho hF cu;cases hd with
 |cons d1 d2=>
  cases d2 with
  |cons d2 d3=>
  cases d3;rw [d1.b8,d2.b8];refine(Tryz.strings_Cut s p m w h hm).mono ?_;rintro e w' ⟨rfl,n,rfl⟩;have hb:Below w.heap.size w (w.drewN n):=ahn (Below.refl _ _) _;exact⟨_,⟨F.at',fun _=>none⟩,rfl, .tuple (.cons (.raw _) (.cons (.raw _) (.cons (.raw _) .nil))),⟨hF.ob,hF.all,fun b A h=>by cases h⟩,(fun b A h=>by cases h),hb⟩
def ahp:Tv.Ok prog:=fun⟨n,_⟩ h w F xs hF cu hd=>by
 have h:=qJ.1 (show gA n=true from h);cases hd with
 |cons d1 d2=>
  cases d2;rw [d1.b8];refine(Tryz.strconv_Itoa n h.1 h.2 w (Tw hF cu)).mono ?_;rintro e w' ⟨rfl,k,os,rfl⟩;exact⟨_,⟨F.at',fun _=>none⟩,rfl, .raw _,⟨hF.ob,hF.all,fun b A h=>by cases h⟩,(fun b A h=>by cases h),rh _ _ (aG _) _ _⟩
end
end Go.Proofs.YtibikmmdbdlafaaGreatDoor
namespace Go.Proofs.YtibikmmdbdlafaaGreatDoor
open Go.RowKit Go.Sort Go.Lib
def Ty (w:World) (T:TypeId) (nd:Nat) (hs:nd<=24):Holds (fun(b:UInt8)=>Value.int .u8 (b.toNat:Int)) (w.alloc (.cells zeros24 T)) w.heap.size 0 (Array.replicate nd (0:UInt8)):=fun j hj=>by
 have hj':j<nd:=by simpa using hj
 refine⟨?_,World.frozen?_alloc_new _ _ _ _⟩;rw [World.cell?_alloc_new,zeros24_at _ (by omega),getElem!_pos _ j hj];simp
def ahq (w:World) (o:Obj) (dk:Array UInt8) (k:Nat):∃os,(putRow (fun(b:UInt8)=>Value.int .u8 (b.toNat:Int)) (w.alloc o) w.heap.size 0 dk).drewN k=grow (w.drewN k) os:=by
 rw [alloc_eq_grow];obtain⟨os',_,e⟩:=putRow_grow_new (fun(b:UInt8)=>Value.int .u8 (b.toNat:Int)) w #[o] w.heap.size 0 dk (aG _);exact⟨os',by rw [e];rfl⟩
set_option maxHeartbeats 6400000 in
set_option maxRecDepth 100000 in
theorem ahr (u:Nat) (hu64:u<18446744073709551616) (w:World) (htab:Lib.TabIs Tryz.prog w "internal/strconv.uint64pow10" .u64 Lib.pow10Tab):
  Calls Tryz.prog 227 #[.int .u64 u, .int .i64 10] w fun e w'=>e= .returned (.string ⟨(decDigits u).toArray⟩)/\∃k os,w'=grow (w.drewN k) os:=by
 by_cases hs:u<100
 .have ahs:=Lib.hid (fun w=>Tryz.internal_strconv_small u hs w);have hwr:IntKind.i64.wrap (u:Int)=(u:Int):=by rw [IntKind.wrap_i64];omega
  go_enter Tryz.func227,Tryz.ntmps227
  go_wp2_with fail
  refine(ahs.out _).mono ?_;rintro e w' ⟨rfl,rfl⟩
  go_wp2
  go_ret
  exact⟨rfl,0, #[],by simp [World.drewN_zero]⟩
 .have hu1:1<=u:=by omega
  have hnd20:nDigits u<=20:=by have:=numDigits_eq u hu1 hu64;split at this<;>omega
  have LY:=Lib.hid (fun w h=>Tryz.internal_strconv_numDigits u hu1 hu64 w h);have Ep:=Ty w 260 (nDigits u) (by omega);have hfmt:=Tryz.internal_strconv_formatBase10 w.heap.size 0 24 u (Array.replicate (nDigits u) 0) (w.alloc (.cells zeros24 260)) Ep (by rw [Array.size_replicate];exact lt_pow_nDigits u) hu64 (by rw [Array.size_replicate];omega);rw [Array.size_replicate]at hfmt;have aht:=Lib.hid hfmt;have ahu:=Lib.hid (tabIs_alloc htab (.cells zeros24 260));clear Ep hfmt htab
  go_enter Tryz.func227,Tryz.ntmps227
  go_wp2_with fail
  refine(LY.out _ ahu.out).mono ?_;rintro e w' ⟨rfl,rfl⟩;have hal:Tryz.prog.arrayLen 260=24:=by simp [Program.arrayLen,Tryz.underlying260]
  have asL:∀W,(Instr.sliceAt 260 (.pointer (some ⟨w.heap.size,0,none⟩)) none (some (.int .i64 (nDigits u:Int))) none).run Tryz.prog W= .ok (.slice (some ⟨w.heap.size,0,none⟩) (nDigits u) 24) W:=fun W=>by
   rw [run_sliceAt_array_h W 260 ⟨w.heap.size,0,none⟩ (by simp [Program.arrayLen,Program.elem,Tryz.underlying260]) .i64 (nDigits u:Int) (by omega) (by rw [hal];omega)]
   go_simp
  clear hal
  go_wp2_with fail
  refine aht.out.mono ?_;rintro e w' ⟨rfl,k,v',dk,rfl,hF⟩;have hcv:(convert 205 9 (.slice (some ⟨w.heap.size,0,none⟩) (nDigits u) 24)).run Tryz.prog ((putRow (fun(b:UInt8)=>Value.int .u8 (b.toNat:Int)) (w.alloc (.cells zeros24 260)) w.heap.size 0 dk).drewN k)= .ok (.string ⟨(decDigits u).toArray⟩) ((putRow (fun(b:UInt8)=>Value.int .u8 (b.toNat:Int)) (w.alloc (.cells zeros24 260)) w.heap.size 0 dk).drewN k):=by
   have h:=run_convert_bytes_back (P:=Tryz.prog) ((putRow (fun(b:UInt8)=>Value.int .u8 (b.toNat:Int)) (w.alloc (.cells zeros24 260)) w.heap.size 0 dk).drewN k) 205 9 5 ⟨w.heap.size,0,none⟩ 24 (decDigits u) Tryz.underlying205 Tryz.underlying5 Tryz.underlying9 (fun j hj=>by
    rw [row_is_numeral hF j hj,add_plain,World.cell?_drewN];exact cell?_putRow (fun(b:UInt8)=>Value.int .u8 (b.toNat:Int)) _ w.heap.size 0 _ dk (Ty w 260 (nDigits u) (by omega)) (by rw [hF.size,Array.size_replicate]) j (by rw [hF.size];rw [decDigits_length]at hj;exact hj))
   rw [decDigits_length]at h;exact h
  go_wp2
  go_ret
  obtain⟨os,ahv⟩:=ahq w (.cells zeros24 260) dk k;exact⟨rfl,k,os,ahv⟩
end Go.Proofs.YtibikmmdbdlafaaGreatDoor
namespace Go.Proofs.YtibikmmdbdlafaaGreatDoor.Dec
open Go.Lib
def AL (d:Nat) (h:d<10):(UInt8.ofNat (48+d)).toNat=48+d:=by
 rw [UInt8.toNat_ofNat'];omega
def LZ (u:Nat):∀b∈decDigits u,48<=b.toNat/\b.toNat<=57:=by
 induction u using Nat.strongRecOn with
 |_ u ih=>
  intro b hb;rw [decDigits]at hb;split at hb
  .simp only [List.mem_singleton]at hb;subst hb;rw [AL _ (by omega)];omega
  .rcases List.mem_append.1 hb with h|h
   .exact ih (u/10) (by omega) b h
   .simp only [List.mem_singleton]at h;subst h;rw [AL _ (by omega)];omega
def Tz (u:Nat):0<(decDigits u).length:=by
 rw [decDigits];split<;>simp
def L0 (k:Nat):∀u,u<10^(k+1)->(decDigits u).length<=k+1:=by
 induction k with
 |zero=>intro u hu;rw [decDigits,dif_pos (by simpa using hu)];simp
 |succ k ih=>
  intro u hu;rw [decDigits];split
  .simp
  .have:=ih (u/10) (by rw [Nat.div_lt_iff_lt_mul (by omega)];rw [Nat.pow_succ]at hu;exact hu);simp;omega
def ahw (u:Nat) (h:u<1000000000000000000):(decDigits u).length<=18:=L0 17 u (by simpa using h)
def ahx (u:Nat) (h:0<u):∀b r,decDigits u=b::r->b.toNat≠48:=by
 induction u using Nat.strongRecOn with
 |_ u ih=>
  intro b r hb;rw [decDigits]at hb;split at hb
  .injection hb with h1 _
   subst h1;rw [AL _ (by omega)];omega
  .have hp:=Tz (u/10);cases hd:decDigits (u/10)with
   |nil=>rw [hd]at hp;simp at hp
   |cons c t=>
    rw [hd]at hb;injection hb with h1 _
    subst h1;exact ih (u/10) (by omega) (by omega) c t hd
def L1 (l:List UInt8):∀(acc m:Nat) (d:Nat),d<10->decFrom acc l=some m->decFrom acc (l++[UInt8.ofNat (48+d)])=some (m*10+d):=by
 induction l with
 |nil=>
  intro acc m d hd h;simp only [decFrom,sV]at h;subst h;simp only [List.nil_append,decFrom,digitVal,AL d hd];rw [if_pos (by omega)];show some (acc*10+(48+d-48))=_;congr 1;omega
 |cons b r ih=>
  intro acc m d hd h;rw [List.cons_append];unfold decFrom at h ⊢;cases hv:digitVal b with
  |none=>rw [hv]at h;cases h
  |some v=>rw [hv]at h;exact ih _ _ _ hd h
def TA (u:Nat):decFrom 0 (decDigits u)=some u:=by
 induction u using Nat.strongRecOn with
 |_ u ih=>
  rw [decDigits];split
  .have:=L1 [] 0 0 u (by omega) rfl;simpa using this
  .have:=L1 (decDigits (u/10)) 0 (u/10) (u%10) (by omega) (ih (u/10) (by omega));rw [this];congr 1;omega
def TB (l:List UInt8) (h:∀b∈l,48<=b.toNat/\b.toNat<=57):hasPrefix l [45]=false:=by
 cases l with
 |nil=>rfl
 |cons b r=>
  have:=h b (by simp);have hb:(45==b)=false:=by
   rw [fF];intro e;subst e;simp at this
  simp [hasPrefix,List.isPrefixOf,hb]
def uw (u:Nat):itoa (u:Int)=decDigits u:=by unfold itoa;rw [if_neg (by omega)];simp
end Go.Proofs.YtibikmmdbdlafaaGreatDoor.Dec
namespace Go.Proofs.YtibikmmdbdlafaaGreatDoor
open Go.RowKit Sv Go.Proofs.Tryz
noncomputable section
def jH (n:Int):(cg n).data.toList=Lib.itoa n:=by unfold cg;simp
def itoa_neg {n:Int} (h:n<0):Lib.itoa n=45::Lib.decDigits n.natAbs:=by
 unfold Lib.itoa;rw [if_pos h]
def wC {n:Int} (h:¬n<0):Lib.itoa n=Lib.decDigits n.natAbs:=by
 unfold Lib.itoa;rw [if_neg h,show n.toNat=n.natAbs by omega]
def rk (n:Int):pJ (cg n) e4=decide (n<0):=by
 unfold pJ;rw [jH,show(e4:ByteArray).data.toList=[45]from rfl];by_cases h:n<0
 .rw [itoa_neg h,ax h];simp [Lib.hasPrefix]
 .rw [wC h,ab h];exact Dec.TB _ (Dec.LZ _)
def TC (n:Int):(qQ (cg n) e4).data.toList=Lib.decDigits n.natAbs:=by
 have hp:=rk n;unfold pJ at hp;unfold qQ Lib.trimPrefix;rw [hp,jH,show(e4:ByteArray).data.toList=[45]from rfl];by_cases h:n<0
 .rw [itoa_neg h,ax h];simp
 .rw [wC h,ab h];simp
def TD (n:Int):uv (cg n)=n.natAbs:=by
 unfold uv;rw [TC,Dec.TA]
def ahy (n:Int):wn (cg n)=n:=by
 unfold wn;rw [rk,TD];by_cases h:n<0
 .rw [ax h,if_pos rfl];omega
 .rw [ab h,if_neg (by decide)];omega
def nn (n:Int):fJ (cg n)=aY n:=by unfold fJ;rw [ahy]
def rm {n:Int} (h:aH (aY (n.natAbs:Int))=true):jG (cg n)=true:=by
 unfold jG;rw [TC,Dec.TA,TD,h];rfl
def eh (u:Int):ByteArray:=⟨(Lib.decDigits u.toNat).toArray⟩
def sy (u b:Int):Bool:=rV u&&(b==10)
noncomputable def TE:Code:=(f179.body).getD .skip
noncomputable def TF:bp:={f:=227,ps:=[aD, .int .i64],rs:=[.str],fresh:=true,pre:=fun d=>sy d.1 d.2.1,fn:=fun d=>(eh d.1,())}
noncomputable def TG:bp:={f:=179,ps:=[aD, .int .i64],rs:=[.str],fresh:=true,pre:=fun d=>sy d.1 d.2.1,fn:=fun d=>(eh d.1,())}
def ahz (u b:Int) (h1:(sy u b)=true):
  bu (aR [TF]) (fl TE []) 9 8 [cr u,iv b] 1 f179 true (sv (eh u)):=
 wy [af h1] 1
def ahA:TF.Ok prog:=fun⟨u,b,_⟩ h w F xs hF cu hd=>by
 have h:sy u b=true:=h;unfold sy at h;rw [ae,gT]at h;obtain⟨h1,rfl⟩:=h;have h1:=pF.1 h1;cases hd with
 |cons d1 d2=>
  cases d2 with
  |cons d2 d3=>
  cases d3;rw [d1.b8,d2.b8];have:=ahr u.toNat (by omega) w (Tw hF cu);rw [show((u.toNat:Nat):Int)=u from Int.toNat_of_nonneg h1.1]at this;refine this.mono ?_;rintro e w' ⟨rfl,k,os,rfl⟩;exact⟨_,⟨F.at',fun _=>none⟩,rfl, .raw _,⟨hF.ob,hF.all,fun b A h=>by cases h⟩,(fun b A h=>by cases h),rh _ _ (aG _) _ _⟩
def ahB:TG.Ok prog:=fun⟨u,b,_⟩ h=>by
 have h:sy u b=true:=h;refine bL (c:=TE) func179 rfl rfl fun w F=> ?_
 exact bx (tV ahA) 9 (ahz u b h)
def fa (s:ByteArray) (c:Int):ByteArray:=⟨(Lib.repeatL s.data.toList c.toNat).toArray⟩
def wp (s:ByteArray) (c:Int):Bool:=decide (s.size<=1000000)&&(decide (0<=c)&&decide (c<=1000000))
noncomputable def TH:bp:={f:=180,ps:=[.str, .int .i64],rs:=[.str],fresh:=true,pre:=fun d=>wp d.1 d.2.1,fn:=fun d=>(fa d.1 d.2.1,())}
def ahC:TH.Ok prog:=fun⟨s,c,_⟩ h w F xs hF cu hd=>by
 have h:wp s c=true:=h;unfold wp at h;rw [ae,ae,bB,bB,bB]at h;obtain⟨h1,h2,h3⟩:=h;cases hd with
 |cons d1 d2=>
  cases d2 with
  |cons d2 d3=>
  cases d3;rw [d1.b8,d2.b8];have hm:s.size*c.toNat<=1000000*1000000:=Nat.mul_le_mul h1 (by omega);have:=Tryz.strings_Repeat s c.toNat w (by omega) (by omega);rw [show((c.toNat:Nat):Int)=c from Int.toNat_of_nonneg h2]at this;refine this.mono ?_;rintro e w' ⟨rfl,hb⟩;exact⟨_,⟨F.at',fun _=>none⟩,rfl, .raw _,⟨hF.ob,hF.all,fun b A h=>by cases h⟩,(fun b A h=>by cases h),hb⟩
noncomputable def L2:Code:=(f55.body).getD .skip
abbrev j6:ByteArray:=⟨#[47]⟩
noncomputable def L3:bI:=aR [LX,LW,Gc]
def gg (s:ByteArray):Bool:=sx s&&(jG (iV s j6)&&(!ox s j6||jG (sw s j6)))
noncomputable def cq (s:ByteArray):(Int×List Int)×(Int×List Int):=if ox s j6=true then(fJ (iV s j6),fJ (sw s j6))else cT (fJ (iV s j6))
noncomputable def Gk:bp:={f:=55,ps:=[.str],rs:=[fX],fresh:=false,pre:=fun d=>gg d.1,fn:=fun d=>(cq d.1,())}
def ahD (s:ByteArray) (h1:(sx s)=true) (h2:(ox s (ByteArray.mk #[47]))=false) (h3:(jG (iV s (ByteArray.mk #[47])))=true):
  bu L3 (fl L2 []) 9 (f55.ntmps) [sv s] 3 f55 false (cc (cT (fJ (iV s j6)))):=
 wy [af h1,af (cn (h2)),af h3] 12417
def ahE (s:ByteArray) (h1:(sx s)=true) (h2:(ox s (ByteArray.mk #[47]))=true) (h3:(jG (iV s (ByteArray.mk #[47])))=true) (h4:(jG (sw s (ByteArray.mk #[47])))=true):
  bu L3 (fl L2 []) 9 (f55.ntmps) [sv s] 2 f55 false (cc (fJ (iV s j6),fJ (sw s j6))):=
 wy [af h1,af (cn (h2)),af h3,af h4] 1060993
def TI:bD prog (bG L3):=cY (aX Tx (aX Tu (aX LR eA)))
def ahF (s:ByteArray) (h:gg s=true):Holds prog false 55 [sv s] (cc (cq s)):=by
 unfold gg at h;rw [ae,ae]at h;obtain⟨h1,h2,h3⟩:=h;refine bL (c:=L2) func55 rfl rfl fun w F=> ?_
 unfold cq;cases hc:ox s j6 with
 |true=>
  rw [if_pos rfl];rw [hc]at h3;exact bx TI 9 (ahE s h1 hc h2 h3)
 |false=>
  rw [if_neg (by decide)];exact bx TI 9 (ahD s h1 hc h2)
def L4:Gk.Ok prog:=fun⟨s,_⟩ h=>ahF s h
noncomputable def TJ:Code:=(f91.body).getD .skip
noncomputable def TK:Code:=(f59.body).getD .skip
noncomputable def L5:bI:=aR [CZ,LM,LP,AG,LN]
def ahG (a b:b5) (h1:(aH b.1)=true) (h2:(okQ 20000 a&&okQ 20000 (GT b))=true):
  bu L5 (fl TJ []) 9 (f91.ntmps) [cc a,cc b] 1 f91 false (cc (ji a (GT b))):=
 wy [af (aV (v:=cc a)),af (aV (v:=cc b)),af h1,af h2] 67383425
def ahH (a b:b5) (h1:(jo b.2 b.1)=true) (h2:(okQ 20000 a&&okQ 20000 (AF b))=true):
  bu L5 (fl TK []) 9 (f59.ntmps) [cc a,cc b] 1 f59 false (cc (fB a (AF b))):=
 wy [af (aV (v:=cc a)),af (aV (v:=cc b)),af h1,af h2] 67383425
noncomputable def TL (a b:b5):(Int×List Int)×(Int×List Int):=ji a (GT b)
noncomputable def wD (a b:b5):(Int×List Int)×(Int×List Int):=fB a (AF b)
def AM (a b:b5):Bool:=okQ 20000 a&&(okQ 20000 b&& !(au b.1==0))
noncomputable def TM:bp:={f:=91,ps:=[fX,fX],rs:=[fX],fresh:=false,pre:=fun d=>okQ 20000 d.1&&okQ 20000 d.2.1,fn:=fun d=>(TL d.1 d.2.1,())}
noncomputable def L6:bp:={f:=59,ps:=[fX,fX],rs:=[fX],fresh:=false,pre:=fun d=>AM d.1 d.2.1,fn:=fun d=>(wD d.1 d.2.1,())}
def TN:bD prog (bG L5):=cY (aX Gg (aX Te (aX Tg (aX C1 (aX Tf eA)))))
def ahI {n:Nat} {b:b5} (h:okQ n b=true) (hn:1<=n):okQ n (GT b)=true:=by
 obtain⟨h1,h2,h3⟩:=ow.1 h;exact ow.2 ⟨pz h1 hn,h2,h3⟩
def TP {a b:b5} (h:okQ 20000 a=true) (g:okQ 20000 b=true):(okQ 20000 a&&okQ 20000 b)=true:=by rw [h,g];rfl
def ahJ (a b:b5) (h:okQ 20000 a=true) (g:okQ 20000 b=true):Holds prog false 91 [cc a,cc b] (cc (TL a b)):=by
 refine bL (c:=TJ) func91 rfl rfl fun w F=> ?_
 exact bx TN 9 (ahG a b (iz (show 20000<=100000 by decide) (ow.1 g).1) (TP h (ahI g (by decide))))
def Kp:TM.Ok prog:=fun⟨a,b,_⟩ h=>by
 have h:(okQ 20000 a&&okQ 20000 b)=true:=h;rw [ae]at h;exact ahJ a b h.1 h.2
def ahK (a b:b5) (h:okQ 20000 a=true) (g:okQ 20000 b=true) (hb:au b.1≠0):Holds prog false 59 [cc a,cc b] (cc (wD a b)):=by
 obtain⟨g1,g2,g3⟩:=ow.1 g;have m:= @iz 20000 100000;refine bL (c:=TK) func59 rfl rfl fun w F=> ?_
 exact bx TN 9 (ahH a b (wz.2 ⟨m (by decide) g2,m (by decide) g1,hb⟩) (TP h (CX g2 g1 (by decide) hb).ok))
def TQ:L6.Ok prog:=fun⟨a,b,_⟩ h=>by
 have h:AM a b=true:=h;unfold AM at h;simp only [ae,Bool.not_eq_true',fF]at h;exact ahK a b h.1 h.2.1 h.2.2
def ahL {n m:Nat} {a b:b5} {r s:Rat} (h:QR n a r) (g:QR m b s) (hn:1<=n) (hm:1<=m) (hs:s≠0):QR (n+m) (wD a b) (r/s):=by
 rw [Rat.div_def];exact ol h (Nm g hm hs) hn hm
noncomputable def jI:Code:=(f127.body).getD .skip
noncomputable def nH:bI:=aR [Tv,CE,Lq,TG,TH]
abbrev C3:List Nat:=[1,1,1,1,1,0,0,0]
abbrev Gl:List Nat:=[1,1,1,1,1,1,1,1,0,1,0,0]
abbrev mw:List Int:=[1000000000000000000]
abbrev qR:av:= .int .u8
abbrev TR (j:Nat) (ps:List ByteArray):aa:= .bR 9 .str j 0 ps.length (bJ ps.length)
abbrev TS (ps:List ByteArray):fG:= .opt 9 .str ps
abbrev C4 (l:List ByteArray):aa:= .bh false .str l
abbrev L7 (p:aa) (s:List Int):fG:= .blk (.cells 207 [p, .bR 5 qR 65 0 s.length (bJ s.length)] true false false)
abbrev TT:List ByteArray:=[]
abbrev TU:aa:= .raw (.pointer none)
def L8 (neg:Bool) (w:List Int):bC:={n:=69,sl:=[(3,bv neg),(4, .bh false aD w),(5, .bR 167 aD 64 0 1 (bJ 1)),(6,TR 65 [])],bF:=[(64, .opt 167 aD mw),(65,TS [])],next:=66}
def k6 (neg:Bool) (w:List Int) (ps:List ByteArray):bC:={n:=69,sl:=[(3,bv neg),(4, .bh false aD w),(5, .bh false aD mw),(6,TR 64 ps)],bF:=[(64,TS ps)],next:=65}
def Gm (neg:Bool) (ps:List ByteArray):bC:={n:=69,sl:=[(3,bv neg),(6,C4 ps)],bF:=[],next:=64}
def C5 (neg:Bool) (ps:List ByteArray):bC:={n:=69,sl:=[(3,bv neg),(6,C4 ps),(10, .ptr 64 0)],bF:=[(64,L7 TU []),(65, .opt 5 qR [])],next:=66}
def wE (ps:List ByteArray) (z:Int):bC:={n:=69,sl:=[(6,C4 ps),(10, .ptr 64 0),(11,iv z)],bF:=[(64,L7 TU []),(65, .opt 5 qR [])],next:=66}
def mQ (ps:List ByteArray) (s:List Int) (z:Int):bC:={n:=69,sl:=[(6,C4 ps),(10, .ptr 64 0),(11,iv z)],bF:=[(64,L7 (.ptr 64 0) s),(65, .opt 5 qR s)],next:=66}
def ahM (a:aW) (h1:a.2.isEmpty=true) (h2:(gA a.1)=true):
  bu nH (fl jI []) 4 69 [aJ a] 3 f127 true (sv (cg a.1)):=
 wy [af (aN (h1)),af h2] 129
def ahN (a:aW) (h1:a.2.isEmpty=false) (h2:(aH a)=true) (h3:(aa.raw (Value.int .u64 (1000000000000000000:Int))::List.append._f [] PUnit.unit (List.flatten._f [] PUnit.unit))=(List.flatMap (fun x=>[aa.raw (Value.int .u64 x)]) [(1000000000000000000:Int)])):
  aC.path (o4 prog nH (fl jI []) 6 69 [aJ a]) (dl 2) (dP prog 69 .normal [(64,65,some 1)] (L8 (bW a) (ay a))):=
 mp (og (aN h1) h2 (rr (bW a)) (rr (ay a)) (an (rr (1:Nat)) (an (rr (aZ.known (1:Nat))) (rr (bJ (1:Nat))))) (rr TT.length) (an h3 (rr (1:Nat))) (rr TT) trivial)
def ahO (neg:Bool) (w:List Int):
  aC.path (aC.ret (R.normal ((L8 neg w).T.set 5 (some (.bh false aD mw))) ((L8 neg w).H.drop 64) []):aC R) (dl 1) (dP prog 69 .normal [(64,65,none)] (k6 neg w [])):=
 wy [] 0
def ahP (neg:Bool) (w:List Int) (ps:List ByteArray) (h1:(w.length:Int)>0) (h2:(pI w [1000000000000000000])=true) (h3:(↑(cI w [1000000000000000000]).length:Int)>0) (h4:Int.toNat 0<(cI w [1000000000000000000]).length) (h5:(sy ((cI w [1000000000000000000]).getD (Int.toNat 0) 0) 10)=true) (h6:(↑(eT w [1000000000000000000]).length:Int)>0) (h7:i6 (18-(↑(eh ((cI w [1000000000000000000]).getD (Int.toNat 0) 0)).size:Int))) (h8:(wp (ByteArray.mk #[48]) (18-(↑(eh ((cI w [1000000000000000000]).getD (Int.toNat 0) 0)).size:Int)))=true) (h9:(fa (ByteArray.mk #[48]) (18-(↑(eh ((cI w [1000000000000000000]).getD (Int.toNat 0) 0)).size:Int))).size+(eh ((cI w [1000000000000000000]).getD (Int.toNat 0) 0)).size<=9223372036854775807) (h10:ps.length+1<=1000000) (h11:(ps.length+1)=(ps++[fa (ByteArray.mk #[48]) (18-(↑(eh ((cI w [1000000000000000000]).getD 0 0)).size:Int))++eh ((cI w [1000000000000000000]).getD 0 0)]).length) (h12:(aZ.full)=(bJ (ps++[fa (ByteArray.mk #[48]) (18-(↑(eh ((cI w [1000000000000000000]).getD 0 0)).size:Int))++eh ((cI w [1000000000000000000]).getD 0 0)]).length)) (dG:(ps++[fa (ByteArray.mk #[48]) (18-(↑(eh ((cI w [1000000000000000000]).getD (Int.toNat 0) 0)).size:Int))++eh ((cI w [1000000000000000000]).getD (Int.toNat 0) 0)])=(ps++[fa (ByteArray.mk #[48]) (18-(↑(eh ((cI w [1000000000000000000]).getD 0 0)).size:Int))++eh ((cI w [1000000000000000000]).getD 0 0)])):
  bg nH (fl jI C3) (k6 neg w ps) 23 .normal [(64,66,none)] (k6 neg (eT w mw) (ps++[fa (ByteArray.mk #[48]) (18-((eh ((cI w mw).getD 0 0)).size:Int))++eh ((cI w mw).getD 0 0)])):=
 wy [ah h1,af h2,ah h3,ah h4,af h5,ah h6,yi h7,af h8,ah h9,yk 9 av.str ps,lM 16 h10,az h11,az h12,oh 9 (av.str) dG] 18883085600279906147891464042451054721
def ahQ (neg:Bool) (w:List Int) (ps:List ByteArray) (h1:(w.length:Int)>0) (h2:(pI w [1000000000000000000])=true) (h3:(↑(cI w [1000000000000000000]).length:Int)>0) (h4:Int.toNat 0<(cI w [1000000000000000000]).length) (h5:(sy ((cI w [1000000000000000000]).getD (Int.toNat 0) 0) 10)=true) (h6:¬(↑(eT w [1000000000000000000]).length:Int)>0) (h7:ps.length+1<=1000000) (h8:(ps.length+1)=(ps++[eh ((cI w [1000000000000000000]).getD 0 0)]).length) (h9:(aZ.full)=(bJ (ps++[eh ((cI w [1000000000000000000]).getD 0 0)]).length)) (h10:(ps++[eh ((cI w [1000000000000000000]).getD (Int.toNat 0) 0)])=(ps++[eh ((cI w [1000000000000000000]).getD 0 0)])):
  bg nH (fl jI C3) (k6 neg w ps) 19 .normal [(64,66,none)] (k6 neg (eT w mw) (ps++[eh ((cI w mw).getD 0 0)])):=
 wy [ah h1,af h2,ah h3,ah h4,af h5,aA h6,yk 9 av.str ps,lM 16 h7,az h8,az h9,oh 9 (av.str) h10] 56580049495547654937508646498433
def ahR (neg:Bool) (w:List Int) (ps:List ByteArray) (h1:(w.length:Int)>0) (h2:(pI w [1000000000000000000])=true) (h3:¬(↑(cI w [1000000000000000000]).length:Int)>0) (h4:(↑(eT w [1000000000000000000]).length:Int)>0) (h5:ps.length+1<=1000000) (h6:(ps.length+1)=(ps++[fa (ByteArray.mk #[48]) 17++ByteArray.mk #[48]]).length) (h7:(aZ.full)=(bJ (ps++[fa (ByteArray.mk #[48]) 17++ByteArray.mk #[48]]).length)) (h8:(ps++[fa (ByteArray.mk #[48]) (18-(↑(ByteArray.mk #[48]).size:Int))++ByteArray.mk #[48]])=(ps++[fa (ByteArray.mk #[48]) 17++ByteArray.mk #[48]])):
  bg nH (fl jI C3) (k6 neg w ps) 21 .normal [(64,66,none)] (k6 neg (eT w mw) (ps++[fa (ByteArray.mk #[48]) 17++ByteArray.mk #[48]])):=
 wy [ah h1,af h2,aA h3,ah h4,yk 9 av.str ps,lM 16 h5,az h6,az h7,oh 9 (av.str) h8] 46277912488612378417574150418561
def ahS (neg:Bool) (w:List Int) (ps:List ByteArray) (h1:¬(w.length:Int)>0):
  bg nH (fl jI C3) (k6 neg w ps) 2 (.exit 0) [(64,64,none)] (k6 neg w ps):=
 wy [aA h1] 1
def ahT (neg:Bool) (w:List Int) (ps:List ByteArray):
  aC.path (aC.ret (R.normal ((k6 neg w ps).T.set 6 (some (C4 ps))) ((k6 neg w ps).H.drop 64) []):aC R) (dl 1) (dP prog 69 .normal [] (Gm neg ps)):=
 wy [] 0
def ahU (neg:Bool) (ps:List ByteArray):
  dD nH ((fl jI []).drop 7) 1 (Gm neg ps) 1 .normal [(64,64,none)] (C5 neg ps):=
 wy [] 0
def ahV (ps:List ByteArray) (h1:vS.length+(ByteArray.mk #[45]).size<=1000000) (h2:i6 ((ps.length:Int)-1)) (h3:(vS.length+(ByteArray.mk #[45]).size)=(List.length [45])) (h4:(aZ.full)=(bJ (List.length [45]))) (h5:(bM qR none++List.map (fun x=>(↑(UInt8.toNat x):Int)) (ByteArray.mk #[45]).data.toList)=([45])):
  dD nH ((fl jI []).drop 8) 3 (C5 true ps) 11 .normal [(64,64,none),(65,66,none)] (mQ ps [45] ((ps.length:Int)-1)):=
 wy [lM 1 h1,yi h2,az h3,az h4,o5 prog 5 (.int .u8) h5] 97937158488233710599536640
def ahW (ps:List ByteArray) (h1:i6 ((ps.length:Int)-1)):
  dD nH ((fl jI []).drop 8) 3 (C5 false ps) 2 .normal [(64,64,none),(65,65,none)] (wE ps ((ps.length:Int)-1)):=
 wy [yi h1] 64
def ahX (ps:List ByteArray) (z:Int) (h1:z>=0) (h2:0<=z) (h3:z.toNat<ps.length) (h4:(Nat.beq (ps.getD z.toNat ByteArray.empty).size 0)=false) (h5:vS.length+(ps.getD z.toNat ByteArray.empty).size<=1000000) (h6:i6 (z-1)) (h7:(vS.length+(ps.getD z.toNat ByteArray.empty).size)=(List.map (fun x=>(↑(UInt8.toNat x):Int)) (ps.getD z.toNat ByteArray.empty).data.toList).length) (h8:(aZ.full)=(bJ (List.map (fun x=>(↑(UInt8.toNat x):Int)) (ps.getD z.toNat ByteArray.empty).data.toList).length)) (h9:(bM qR none++List.map (fun x=>(↑(UInt8.toNat x):Int)) (ps.getD z.toNat ByteArray.empty).data.toList)=(List.map (fun x=>(↑(UInt8.toNat x):Int)) (ps.getD z.toNat ByteArray.empty).data.toList)):
  bg nH (fl jI Gl) (wE ps z) 11 .normal [(64,64,none),(65,66,none)] (mQ ps (dN (ps.getD z.toNat ByteArray.empty)) (z-1)):=
 wy [ah h1,ah h2,ah h3,af h4,lM 1 h5,yi h6,az h7,az h8,o5 prog 5 (.int .u8) h9] 723092382634460629853043437697
def ahY (ps:List ByteArray) (s:List Int) (z:Int) (h1:z>=0) (h2:0<=z) (h3:z.toNat<ps.length) (h4:(Nat.beq (ps.getD z.toNat ByteArray.empty).size 0)=false) (h5:s.length+(ps.getD z.toNat ByteArray.empty).size<=1000000) (h6:i6 (z-1)) (h7:(s.length+(ps.getD z.toNat ByteArray.empty).size)=(s++List.map (fun x=>(↑(UInt8.toNat x):Int)) (ps.getD z.toNat ByteArray.empty).data.toList).length) (h8:(aZ.full)=(bJ (s++List.map (fun x=>(↑(UInt8.toNat x):Int)) (ps.getD z.toNat ByteArray.empty).data.toList).length)):
  bg nH (fl jI Gl) (mQ ps s z) 17 .normal [(64,64,none),(65,66,none)] (mQ ps (s++dN (ps.getD z.toNat ByteArray.empty)) (z-1)):=
 wy [ah h1,ah h2,ah h3,af h4,yk 5 qR s,lM 1 h5,yi h6,az h7,az h8,oh 5 (.int .u8) (Eq.refl (s++List.map (fun x=>(↑(UInt8.toNat x):Int)) (ps.getD z.toNat ByteArray.empty).data.toList))] 51428980992071965952313753874561
def ahZ (ps:List ByteArray) (s:List Int) (z:Int) (h1:¬z>=0):
  bg nH (fl jI Gl) (mQ ps s z) 2 (.exit 2) [(64,64,none),(65,65,none)] (mQ ps s z):=
 wy [aA h1] 1
def ah0 (ps:List ByteArray) (s:List Int) (z:Int) (h1:1<=s.length) (h2:s.length<=140737488355328) (h3:s.length-1<s.length) (h4:List.map (fun x=>(↑(UInt8.toNat x):Int)) (ByteArray.mk (List.toArray (List.map (fun x=>UInt8.ofNat x.toNat) (s.take s.length)))).data.toList=s.take s.length) (h5:(ByteArray.mk (List.toArray (List.map (fun x=>UInt8.ofNat x.toNat) (s.take s.length))))=(ByteArray.mk (List.toArray (List.map (fun x=>UInt8.ofNat x.toNat) s)))):
  bH nH ((fl jI []).drop 12) (mQ ps s z) 1 f127 true (sv (oM s)):=
 wy [af (aV (v:=aa.bR 5 (.int .u8) (65:Nat) (0:Nat) s.length (bJ s.length))),af (fo h1),af (fo h2),yv 5 qR h3,af (show(decide (List.map (fun x=>(↑(UInt8.toNat x):Int)) (ByteArray.mk (List.toArray (List.map (fun x=>UInt8.ofNat x.toNat) ((bM (.int .u8) (ba 5 qR s)).take s.length)))).data.toList=(bM (.int .u8) (ba 5 qR s)).take s.length))=true from(by simp only [ew]<;>exact ax h4)),az (show(ByteArray.mk (List.toArray (List.map (fun x=>UInt8.ofNat x.toNat) ((bM (.int .u8) (ba 5 qR s)).take s.length))))=(ByteArray.mk (List.toArray (List.map (fun x=>UInt8.ofNat x.toNat) s)))from(by simp only [ew]<;>exact h5))] 108372612023324801
abbrev mR (j:Nat) (l:List Int):aa:= .bR 3 (.int .i64) j 0 l.length (bJ l.length)
abbrev mS (l:List Int):fG:= .opt 3 (.int .i64) l
abbrev lW:av:= .pair .bool (.list false (.int .i64))
abbrev rv (a:Bool×List Int):aa:= .agg [bv a.1,lv a.2]
noncomputable def wF:Code:=(f184.body).getD .skip
noncomputable def L9:Code:=(f132.body).getD .skip
noncomputable def wG:Code:=(f71.body).getD .skip
noncomputable def qT:Code:=(f134.body).getD .skip
noncomputable def Ma:Code:=(f186.body).getD .skip
def ag (l:List Int):Int:=vl 1000000000 l
def AN (l:List Int):Bool:=l.all fun x=>decide (0<=x)&&decide (x<1000000000)
def ec (l:List Int):List Int:=iP l l.length
def Mb (l:List Int):Bool:=Nat.beq (ec l).length l.length
noncomputable def aI (z:Int):List Int:=cM 1000000000 z
def okA (l:List Int):Bool:=AN l&&(Mb l&&decide (l.length<=100000))
def okB (l:List Int):Bool:=AN l&&decide (l.length<=300000)
def lX (w:List Int):bC:={n:=21,sl:=[(0,lv w)],bF:=[],next:=64}
abbrev Gn:List Nat:=[1,0,0,0]
def ah1 (w:List Int):
  cO (aR []) (fl wF []) 1 21 [lv w] 1 .normal [] (lX w):=
 wy [] 0
def ah2 (w:List Int) (h1:(w.length:Int)>0) (h2:i6 ((w.length:Int)-1)) (h3:0<=(w.length:Int)-1) (h4:((w.length:Int)-1).toNat<w.length) (h5:w.getD ((w.length:Int)-1).toNat 0=0) (h6:((w.take ((w.length:Int)-1).toNat).drop 0)=(w.take (w.length-1))):
  bg (aR []) (fl wF Gn) (lX w) 1023 .normal [] (lX (w.take (w.length-1))):=
 wy [af (aN (ax h1)),yi h2,ah h3,ah h4,ah h1,cW h5,ah (by omega:((w.length:Int)-(1:Int)).toNat<=w.length),az h6] 642491796976714818348818632769
def ah3 (w:List Int) (h1:(w.length:Int)>0) (h2:i6 ((w.length:Int)-1)) (h3:0<=(w.length:Int)-1) (h4:((w.length:Int)-1).toNat<w.length) (h5:¬w.getD ((w.length:Int)-1).toNat 0=0):
  bg (aR []) (fl wF Gn) (lX w) 767 (.exit 0) [] (lX w):=
 wy [af (aN (ax h1)),yi h2,ah h3,ah h4,ah h1,yn h5] 448504778965001703489
def ah4 (w:List Int) (h1:¬(w.length:Int)>0):
  bg (aR []) (fl wF Gn) (lX w) 512 (.exit 0) [] (lX w):=
 wy [af (aN (ab h1)),aA h1] 8865903284289
def TV (w:List Int):
  bH (aR []) ((fl wF []).drop 2) (lX w) 1 f184 false (lv w):=
 wy [] 0
noncomputable def Gp:bp:={f:=184,ps:=[.list false (.int .i64)],rs:=[.list false (.int .i64)],fresh:=false,pre:=fun d=>decide (List.length (α:=Int) d.1<=1000000),fn:=fun d=>(ec d.1,())}
noncomputable def Mc:bI:=ov [Gp] (aR [])
def ah5 (w:List Int) (h1:w.length<=1000000) (h2:(decide ((↑(ec w).length:Int)>0))=(decide (0<(↑(ec w).length:Int)))):
  bu Mc (fl L9 []) 9 15 [bv true,lv w] 31 f132 false (.agg [bv (decide (0<((ec w).length:Int))),lv (ec w)]):=
 wy [ah h1,az h2] 2147483649
def ah6 (w:List Int) (h1:w.length<=1000000):
  bu Mc (fl L9 []) 9 15 [bv false,lv w] 16 f132 false (.agg [bv false,lv (ec w)]):=
 wy [ah h1] 1
def ah7 (a b:List Int) (h1:¬(a.length:Int)=(b.length:Int)) (h2:(a.length:Int)<(b.length:Int)):
  bu (aR []) (fl qT []) 3 41 [lv a,lv b] 7 f134 true (iv (-1)):=
 wy [af (e7.mpr h1),ah h2] 129
def ah8 (a b:List Int) (h1:¬(a.length:Int)=(b.length:Int)) (h2:¬(a.length:Int)<(b.length:Int)):
  bu (aR []) (fl qT []) 3 41 [lv a,lv b] 5 f134 true (iv 1):=
 wy [af (e7.mpr h1),aA h2] 129
def np (a b:List Int) (k:Nat):bC:={n:=41,sl:=[(0,lv a),(1,lv b),(5,iv ((k:Int)-1))],bF:=[],next:=64}
def Gq (a b:List Int) (k:Nat):bC:={n:=41,sl:=[(0,lv a),(1,lv b),(5,iv ((k:Int)-1-1))],bF:=[],next:=64}
abbrev C6:List Nat:=[1,1,0,1,0,0]
def ah9 (a b:List Int) (h1:(a.length:Int)=(b.length:Int)) (h2:i6 ((a.length:Int)-1)):
  cO (aR []) (fl qT []) 4 41 [lv a,lv b] 2 .normal [] (np a b a.length):=
 wy [af (gu.mpr h1),yi h2] 129
def aia (a b:List Int) (k:Nat) (h1:(k:Int)-1>=0) (h2:0<=(k:Int)-1) (h3:((k:Int)-1).toNat<a.length) (h4:((k:Int)-1).toNat<b.length) (h5:a.getD ((k:Int)-1).toNat 0<b.getD ((k:Int)-1).toNat 0):
  bH (aR []) (fl qT C6) (np a b k) 7 f134 true (iv (-1)):=
 wy [ah h1,ah h2,ah h3,af (aV (v:=iv (a.getD ((k:Int)-(1:Int)).toNat (0:Int)))),ah h4,af (aV (v:=iv (b.getD ((k:Int)-(1:Int)).toNat (0:Int)))),ah h5] 31204045762689
def aib (a b:List Int) (k:Nat) (h1:(k:Int)-1>=0) (h2:0<=(k:Int)-1) (h3:((k:Int)-1).toNat<a.length) (h4:((k:Int)-1).toNat<b.length) (h5:¬a.getD ((k:Int)-1).toNat 0<b.getD ((k:Int)-1).toNat 0) (h6:a.getD ((k:Int)-1).toNat 0>b.getD ((k:Int)-1).toNat 0):
  bH (aR []) (fl qT C6) (np a b k) 13 f134 true (iv 1):=
 wy [ah h1,ah h2,ah h3,af (aV (v:=iv (a.getD ((k:Int)-(1:Int)).toNat (0:Int)))),ah h4,af (aV (v:=iv (b.getD ((k:Int)-(1:Int)).toNat (0:Int)))),aA h5,ah h6] 156579657712784783981949057
def aic (a b:List Int) (k:Nat) (h1:(k:Int)-1>=0) (h2:0<=(k:Int)-1) (h3:((k:Int)-1).toNat<a.length) (h4:((k:Int)-1).toNat<b.length) (h5:¬a.getD ((k:Int)-1).toNat 0<b.getD ((k:Int)-1).toNat 0) (h6:¬a.getD ((k:Int)-1).toNat 0>b.getD ((k:Int)-1).toNat 0) (h7:i6 ((k:Int)-1-1)):
  bg (aR []) (fl qT C6) (np a b k) 9 .normal [] (Gq a b k):=
 wy [ah h1,ah h2,ah h3,af (aV (v:=iv (a.getD ((k:Int)-(1:Int)).toNat (0:Int)))),ah h4,af (aV (v:=iv (b.getD ((k:Int)-(1:Int)).toNat (0:Int)))),aA h5,aA h6,yi h7] 11298040011281207258074067073
def aid (a b:List Int) (k:Nat) (h1:¬(k:Int)-1>=0):
  bg (aR []) (fl qT C6) (np a b k) 2 (.exit 0) [] (np a b k):=
 wy [aA h1] 1
def aie (a b:List Int) (k:Nat):
  bH (aR []) ((fl qT []).drop 5) (np a b k) 1 f134 true (iv 0):=
 wy [] 0
def aif (a:List Int) (k:Nat) (h1:(k:Int)<(a.length:Int)) (h2:k<a.length):
  bu (aR []) (fl Ma []) 9 13 [lv a,iv k] 3 f186 true (iv (a.getD k 0)):=
 wy [ah h1,ah h2] 8193
def aih (a:List Int) (k:Int) (h1:¬k<(a.length:Int)):
  bu (aR []) (fl Ma []) 9 13 [lv a,iv k] 2 f186 true (iv 0):=
 wy [aA h1] 1
def lE (x y:Int):Int:=if x<y then-1 else if y<x then 1 else 0
def bT (a:List Int) (k:Int):Int:=a.getD k.toNat 0
noncomputable def Md:bp:={f:=134,ps:=[.list false (.int .i64), .list false (.int .i64)],rs:=[.int .i64],fresh:=true,pre:=fun d=>okA d.1&&okA d.2.1,fn:=fun d=>(lE (ag d.1) (ag d.2.1),())}
noncomputable def TW:bp:={f:=186,ps:=[.list false (.int .i64), .int .i64],rs:=[.int .i64],fresh:=true,pre:=fun d=>decide (0<=d.2.1),fn:=fun d=>(bT d.1 d.2.1,())}
noncomputable def mkR (z:Int):Bool×List Int:=(decide (z<0),aI (z.natAbs:Int))
def bn (neg:Bool) (v:Int):Int:=match neg with |true=> -v|false=>v
abbrev TX:fG:= .blk (.cells 97 [bv false, .raw (.slice none 0 0)] true false false)
def k7 (n:Int) (neg:Bool) (w:List Int):bC:={n:=25,sl:=[(0,iv n),(2, .ptr 64 0),(3,mR 65 w),(4,bv neg)],bF:=[(64,TX),(65,mS w)],next:=66}
abbrev Gr:List Nat:=[1,1,1,0,0,0]
noncomputable def C7:bp:={f:=132,ps:=[.bool, .list false (.int .i64)],rs:=[lW],fresh:=false,pre:=fun d=>okB d.2.1,fn:=fun d=>(mkR (bn d.1 (ag d.2.1)),())}
def aii (l:List Int) (hl:l.length<=1000000):Holds prog false 184 [lv l] (lv (ec l)):=by
 refine bL (c:=wF) func184 rfl rfl fun w0 F=> ?_
 refine cC bc 1 (ah1 l) ?_;have aij:lX l=lX (l.take l.length):=by rw [dI]
 rw [aij];refine aP.loop (ι:={k:Nat//k<=l.length/\iP l k=ec l}) (id:=0) (b:=cat wF Gn) (rest:=(fl wF []).drop 2) (by kernel_rfl) (fun k=>lX (l.take k.1)) (fun k=>k.1) ⟨l.length,aG _,rfl⟩ (fun _=>rfl) ?_;rintro⟨k,hk,hv⟩;have hk:k<=l.length:=hk;have lk:(l.take k).length=k:=by rw [ei];omega
 cases k with
 |zero=>
  refine bl (s:=lX (l.take 0)) bc (ah4 _ (by omega)) ?_;refine cw (cz ?_);have e:ec l=l.take 0:=by rw [<-hv];rfl
  rw [e];exact bP (s:=lX (l.take 0)) bc (TV _)
 |succ k=>
  have e0:((((l.take (k+1)).length:Nat):Int)-1).toNat=k:=by omega
  have e1:(l.take (k+1)).getD k 0=l.getD k 0:=by simp [ao,List.getElem?_take]
  have e2:(l.take (k+1)).take ((l.take (k+1)).length-1)=l.take k:=by rw [lk,List.take_take];congr 1;omega
  by_cases hz:l.getD k 0=0
  .refine bl (s:=lX (l.take (k+1))) bc (ah2 _ (by omega) (by omega) (by omega) (by omega) (by rw [e0,e1];exact hz) (by rw [e0,lk,List.drop_zero,Nat.add_sub_cancel])) ?_;have iO:iP l k=ec l:=by rw [<-hv,iP,if_pos hz]
   rw [e2];exact⟨⟨k,by omega,iO⟩,e8 _,rfl,rfl⟩
  .refine bl (s:=lX (l.take (k+1))) bc (ah3 _ (by omega) (by omega) (by omega) (by omega) (by rw [e0,e1];exact hz)) ?_;refine cw (cz ?_);have e:ec l=l.take (k+1):=by rw [<-hv,iP,if_neg hz]
   rw [e];exact bP (s:=lX (l.take (k+1))) bc (TV _)
def Me:Gp.Ok prog:=fun⟨l,_⟩ h=>aii l (ap h)
def EQ:bD prog (bG Mc):=uk (fun c hc=>by
 simp only [ep,j7,or_false]at hc;obtain rfl:=hc;exact Me) bc
def k8:(1:Int)<1000000000:=by decide
def C8 {l:List Int}:AN l=true↔aT 1000000000 l:=by
 unfold AN aT;simp only [List.all_eq_true,ae,bB]
def aik {l:List Int}:Mb l=true↔eX l:=by
 unfold Mb ec;constructor
 .intro h;have h:=ac h;have:=Fg l l.length (aG _);obtain⟨m,h1,h2,_⟩:=ll l l.length (aG _);rw [h2,ei]at h;have hm:m=l.length:=by omega
  rw [h2,hm,dI]at this;exact this
 .intro h;rw [RD h];exact Nat.beq_refl _
def fE {l:List Int}:okA l=true↔aT 1000000000 l/\eX l/\l.length<=100000:=by
 unfold okA;rw [ae,ae,C8,aik,bB]
def oy {l:List Int}:okB l=true↔aT 1000000000 l/\l.length<=300000:=by
 unfold okB;rw [ae,C8,bB]
def nq {l:List Int} (h:aT 1000000000 l):ec l=aI (ag l):=by
 refine qE k8 (RC h _ (aG _)) (Fg l _ (aG _)) ?_;unfold ec ag;rw [Kz l _ (aG _),dI]
def Gs {l:List Int} (h:aT 1000000000 l) (ht:eX l):aI (ag l)=l:=(qE k8 h ht rfl).symm
def gN {z:Int} (h:0<=z):aT 1000000000 (aI z)/\eX (aI z)/\ag (aI z)=z:=qD k8 h
def Gt {z:Int} (h:0<=z):aI z=[]↔z=0:=by
 obtain⟨h1,h2,h3⟩:=gN h;rw [<-Fi k8 h1 h2];show ag (aI z)=0↔_;rw [h3]
def gO {l:List Int} (h:aT 1000000000 l):0<=ag l:=fO (by decide) h
def Kx (neg:Bool) (w:List Int) (h:okB w=true):Holds prog false 132 [bv neg,lv w] (rv (mkR (bn neg (ag w)))):=by
 obtain⟨hd,hl⟩:=oy.1 h;have hn:=gO hd;have et:=nq hd;refine bL (c:=L9) func132 rfl rfl fun w0 F=> ?_
 cases neg with
 |true=>
  have e:mkR (bn true (ag w))=(decide ((0:Int)<((ec w).length:Int)),ec w):=by
   show(decide (-ag w<0),aI ((-ag w).natAbs:Int))=_;rw [et,show((-ag w).natAbs:Int)=ag w by omega];congr 1;have hz:=Gt hn;by_cases h0:ag w=0
   .have:aI (ag w)=[]:=hz.2 h0;rw [this,h0];rfl
   .have:aI (ag w)≠[]:=fun h=>h0 (hz.1 h)
    have:=List.length_pos_iff.2 this;rw [ax (by omega),ax (by omega)]
  rw [e];exact bx EQ 9 (ah5 w (by omega) rfl)
 |false=>
  have e:mkR (bn false (ag w))=(false,ec w):=by
   show(decide (ag w<0),aI ((ag w).natAbs:Int))=_;rw [et,show((ag w).natAbs:Int)=ag w by omega,ab (by omega)]
  rw [e];exact bx EQ 9 (ah6 w (by omega))
def Gu:C7.Ok prog:=fun⟨neg,w,_⟩ h=>Kx neg w h
def TY {x y:Int} (h:x<y):lE x y= -1:=by unfold lE;rw [if_pos h]
def TZ {x y:Int} (h:y<x):lE x y=1:=by unfold lE;rw [if_neg (by omega),if_pos h]
def ail {x y:Int} (h:x=y):lE x y=0:=by unfold lE;rw [if_neg (by omega),if_neg (by omega)]
def aim (a b:List Int) (h:okA a=true) (g:okA b=true):Holds prog true 134 [lv a,lv b] (iv (lE (ag a) (ag b))):=by
 obtain⟨ha,ta,la⟩:=fE.1 h;obtain⟨hb,tb,lb⟩:=fE.1 g;refine bL (c:=qT) func134 rfl rfl fun w0 F=> ?_
 by_cases hab:a.length=b.length
 .refine cC bc 4 (ah9 a b (by omega) (by omega)) ?_;refine aP.loop (ι:={k:Nat//k<=a.length/\∀j,k<=j->j<a.length->a.getD j 0=b.getD j 0}) (id:=0) (b:=cat qT C6) (rest:=(fl qT []).drop 5) (by kernel_rfl) (fun k=>np a b k.1) (fun k=>k.1) ⟨a.length,aG _,fun j h1 h2=>by omega⟩ (fun _=>rfl) ?_;rintro⟨k,hk,heq⟩;cases k with
  |zero=>
   refine bl (s:=np a b 0) bc (aid a b 0 (by omega)) ?_;refine cw (cz ?_);have e:a=b:=by
    refine List.ext_getElem hab fun j h1 h2=> ?_
    have:=heq j (Nat.zero_le _) h1;rwa [hJ h1,hJ h2]at this
   rw [ail (show ag a=ag b by rw [e])];exact bP (s:=np a b 0) bc (aie a b 0)
  |succ k=>
   have e0:(((k+1:Nat):Int)-1).toNat=k:=by omega
   have e1:Gq a b (k+1)=np a b k:=by
    unfold Gq np;rw [show(((k+1:Nat):Int)-1-1)=(k:Int)-1 by omega]
   have hka:k<a.length:=by omega
   by_cases h2:a.getD k 0<b.getD k 0
   .rw [TY (show ag a<ag b from Fh k8 ha hb hab hka h2 fun j g1 g2=>heq j (by omega) g2)];exact bP (s:=np a b (k+1)) bc (aia a b (k+1) (by omega) (by omega) (by omega) (by omega) (by rw [e0];exact h2))
   .by_cases h3:a.getD k 0>b.getD k 0
    .rw [TZ (show ag b<ag a from Fh k8 hb ha hab.symm (by omega) (show b.getD k 0<a.getD k 0 by omega) fun j g1 g2=>(heq j (by omega) (by omega)).symm)];exact bP (s:=np a b (k+1)) bc (aib a b (k+1) (by omega) (by omega) (by omega) (by omega) (by rw [e0];exact h2) (by rw [e0];exact h3))
    .refine bl (s:=np a b (k+1)) (s':=Gq a b (k+1)) bc (aic a b (k+1) (by omega) (by omega) (by omega) (by omega) (by rw [e0];exact h2) (by rw [e0];exact h3) (by omega)) ?_;rw [e1];exact⟨⟨k,by omega,fun j g1 g2=>by
      by_cases hj:j=k
      .rw [hj];omega
      .exact heq j (by omega) g2⟩,e8 _,rfl,rfl⟩
 .by_cases hlt:a.length<b.length
  .rw [TY (show ag a<ag b from vU k8 ha hb tb hlt)];exact bx bc 3 (ah7 a b (by omega) (by omega))
  .rw [TZ (show ag b<ag a from vU k8 hb ha ta (by omega))];exact bx bc 3 (ah8 a b (by omega) (by omega))
def T3:Md.Ok prog:=fun⟨a,b,_⟩ h=>by
 have h:(okA a&&okA b)=true:=h;rw [ae]at h;exact aim a b h.1 h.2
def ain:TW.Ok prog:=fun⟨a,k,_⟩ h=>by
 have h0:(0:Int)<=k:=ap h;obtain⟨n,rfl⟩:=Int.eq_ofNat_of_zero_le h0;show Holds prog true 186 [lv a,iv n] (iv (a.getD (n:Int).toNat 0));rw [Int.toNat_natCast];refine bL (c:=Ma) func186 rfl rfl fun w0 F=> ?_
 by_cases h1:n<a.length
 .exact bx bc 9 (aif a n (by omega) h1)
 .rw [show a.getD n 0=0 by rw [ao,List.getElem?_eq_none (by omega)];rfl];exact bx bc 9 (aih a n (by omega))
noncomputable def AO:bI:=ov [C7] (aR [])
def aio (n:Int):
  cO AO (fl wG []) 3 25 [iv n] 1 .normal [(64,64,none)] (k7 n (decide (n<0)) []):=
 wy [] 0
def aip (n:Int) (neg:Bool) (w:List Int) (h1:¬n=0) (h2:¬Int.tmod n 1000000000<0) (h3:w.length+1<=1000000) (h4:i6 (Int.tdiv n 1000000000)) (h5:(w.length+1)=(w++[Int.tmod n 1000000000]).length) (h6:(aZ.full)=(bJ (w++[Int.tmod n 1000000000]).length)):
  bg AO (fl wG Gr) (k7 n neg w) 9 .normal [(64,64,none),(65,67,none)] (k7 (Int.tdiv n 1000000000) neg (w++[Int.tmod n 1000000000])):=
 wy [af (e7.mpr h1),aA h2,yk 3 (.int .i64) w,lM 8 h3,yi h4,az h5,az h6,oh 3 (.int .i64) (Eq.refl (w++[Int.tmod n (1000000000:Int)]))] 40564821351257725478366412283905
def aiq (n:Int) (neg:Bool) (w:List Int) (h1:¬n=0) (h2:Int.tmod n 1000000000<0) (h3:i6 (0-Int.tmod n 1000000000)) (h4:w.length+1<=1000000) (h5:i6 (Int.tdiv n 1000000000)) (h6:(w.length+1)=(w++[0-Int.tmod n 1000000000]).length) (h7:(aZ.full)=(bJ (w++[0-Int.tmod n 1000000000]).length)):
  bg AO (fl wG Gr) (k7 n neg w) 11 .normal [(64,64,none),(65,67,none)] (k7 (Int.tdiv n 1000000000) neg (w++[0-Int.tmod n 1000000000])):=
 wy [af (e7.mpr h1),ah h2,yi h3,yk 3 (.int .i64) w,lM 8 h4,yi h5,az h6,az h7,oh 3 (.int .i64) (Eq.refl (w++[(0:Int)-Int.tmod n (1000000000:Int)]))] 2920667139783965744155195771461633
def air (n:Int) (neg:Bool) (w:List Int) (h1:n=0):
  bg AO (fl wG Gr) (k7 n neg w) 2 (.exit 0) [(64,64,none),(65,65,none)] (k7 n neg w):=
 wy [af (gu.mpr h1)] 1
def ais (n:Int) (neg:Bool) (w:List Int) (h1:(Nat.beq w.length 0||bz 3 (.int .i64) (ba 3 (.int .i64) w) (w.length-1))=true) (h2:(okB ((w.drop 0).take w.length))=true):
  bH AO ((fl wG []).drop 4) (k7 n neg w) 1 f71 false (rv (mkR (bn neg (ag ((w.drop 0).take w.length))))):=
 wy [af (show(Nat.beq w.length (0:Nat)||bz 3 (.int .i64) (ba 3 (.int .i64) w) ((0:Nat)+w.length-(1:Nat)))=true from(by simp only [aw]<;>exact h1)),af (show(okB (((bM (.int .i64) (ba 3 (.int .i64) w)).drop (0:Nat)).take w.length))=true from(by simp only [ew]<;>exact h2)),az (show((mkR (bn neg (ag (((bM (.int .i64) (ba 3 (.int .i64) w)).drop (0:Nat)).take w.length)))).1)=((mkR (bn neg (ag ((w.drop (0:Nat)).take w.length)))).1)from(by simp only [ew]<;>rfl)),az (show((mkR (bn neg (ag (((bM (.int .i64) (ba 3 (.int .i64) w)).drop (0:Nat)).take w.length)))).2)=((mkR (bn neg (ag ((w.drop (0:Nat)).take w.length)))).2)from(by simp only [ew]<;>rfl))] 1060993
noncomputable def Mf:bp:={f:=71,ps:=[.int .i64],rs:=[lW],fresh:=false,pre:=fun d=>decide (-9223372036854775808<=d.1)&&decide (d.1<=9223372036854775807),fn:=fun d=>(mkR d.1,())}
def ait:bD prog (bG AO):=uk (fun c hc=>by
 simp only [ep,j7,or_false]at hc;obtain rfl:=hc;exact Gu) bc
def ux {α:Type} (l:List α) (x:α):aZ.full=bJ (l++[x]).length:=by simp [bJ]
def qU {α:Type} (l:List α) (x:α):l.length+1=(l++[x]).length:=by simp
def AP (e:TypeId) (l:List Int):(Nat.beq l.length 0||bz e (.int .i64) (ba e (.int .i64) l) (l.length-1))=true:=by
 by_cases h:l.length=0
 .rw [h];rfl
 .rw [Ea,ax (show l.length-1<l.length by omega),Bool.or_true]
def aiu {n:Int} (h0:n≠0):∃d,(if Int.tmod n 1000000000<0 then 0-Int.tmod n 1000000000 else Int.tmod n 1000000000)=d/\0<=d/\d<1000000000/\((Int.tdiv n 1000000000).natAbs:Int)*1000000000+d=n.natAbs/\(Int.tdiv n 1000000000).natAbs<n.natAbs/\(Int.tdiv n 1000000000<0->n<0)/\(0<Int.tdiv n 1000000000->0<n):=by
 refine⟨_,rfl, ?_⟩;rcases Int.lt_or_le n 0 with hn|hn
 .have e1:Int.tdiv n 1000000000= -((-n)/1000000000):=by
   have h:=Int.neg_tdiv (a:= -n) (b:=1000000000);rw [Int.neg_neg]at h;rw [h,Int.tdiv_eq_ediv_of_nonneg (show 0<= -n by omega)]
  have e2:Int.tmod n 1000000000= -((-n)%1000000000):=by
   have h:=Int.neg_tmod (a:= -n) (b:=1000000000);rw [Int.neg_neg]at h;rw [h,Int.tmod_eq_emod_of_nonneg (show 0<= -n by omega)]
  rw [e1,e2];split<;>omega
 .rw [Int.tdiv_eq_ediv_of_nonneg hn,Int.tmod_eq_emod_of_nonneg hn];rw [if_neg (by omega)];omega
def aiv (n0:Int) (hl: -9223372036854775808<=n0) (hh:n0<=9223372036854775807):Holds prog false 71 [iv n0] (rv (mkR n0)):=by
 have hS:=ait;refine bL (c:=wG) func71 rfl rfl fun w0 F=> ?_
 refine cC hS 3 (aio n0) ?_;refine aP.loop (ι:={s:Int×List Int// -9223372036854775808<=s.1/\s.1<=9223372036854775807/\aT 1000000000 s.2/\(s.1.natAbs:Int)<1000000000^(4-s.2.length)/\s.2.length<=4/\ag s.2+1000000000^s.2.length*(s.1.natAbs:Int)=n0.natAbs}) (id:=0) (b:=cat wG Gr) (rest:=(fl wG []).drop 4) (by kernel_rfl) (fun s=>k7 s.1.1 (decide (n0<0)) s.1.2) (fun s=>s.1.1.natAbs) ⟨(n0,[]),hl,hh, .nil,by show(n0.natAbs:Int)<1000000000^4;omega,by simp,by show(0:Int)+1*_=_;omega⟩ (fun _=>rfl) ?_;rintro⟨⟨n,w⟩,b1,b2,b3,gi,Gv,yt⟩;have b1: -9223372036854775808<=n:=b1;have b2:n<=9223372036854775807:=b2;have b3:aT 1000000000 w:=b3;have gi:(n.natAbs:Int)<1000000000^(4-w.length):=gi;have Gv:w.length<=4:=Gv;have yt:ag w+1000000000^w.length*(n.natAbs:Int)=n0.natAbs:=yt;by_cases h0:n=0
 .refine bl (s:=k7 n (decide (n0<0)) w) hS (air n _ w h0) ?_;refine cw (cz ?_);have hv:ag w=n0.natAbs:=by rw [h0]at yt;simpa using yt
  have key:=ais n (decide (n0<0)) w;rw [List.drop_zero,dI]at key;have e:mkR (bn (decide (n0<0)) (ag w))=mkR n0:=by
   rw [hv];by_cases hn:n0<0
   .rw [ax hn];show mkR (-(n0.natAbs:Int))=_;congr 1;omega
   .rw [ab hn];show mkR (n0.natAbs:Int)=_;congr 1;omega
  rw [e]at key;exact bP (s:=k7 n (decide (n0<0)) w) hS (key (AP _ w) (oy.2 ⟨b3,by omega⟩))
 .obtain⟨d,d1,d2,d3,d4,d5,d6,d7⟩:=aiu h0;have asM:w.length<4:=by
   rcases Nat.lt_or_ge w.length 4 with h|h
   .exact h
   .have:4-w.length=0:=by omega
    rw [this]at gi;simp at gi;omega
  have hp:(1000000000:Int)^(4-w.length)=1000000000^(4-(w.length+1))*1000000000:=by rw [<-Int.pow_succ];congr 1;omega
  have uy:∃j:{s:Int×List Int// -9223372036854775808<=s.1/\s.1<=9223372036854775807/\aT 1000000000 s.2/\(s.1.natAbs:Int)<1000000000^(4-s.2.length)/\s.2.length<=4/\ag s.2+1000000000^s.2.length*(s.1.natAbs:Int)=n0.natAbs},j.1.1.natAbs<n.natAbs/\(k7 (Int.tdiv n 1000000000) (decide (n0<0)) (w++[d])).T=(k7 j.1.1 (decide (n0<0)) j.1.2).T/\(k7 (Int.tdiv n 1000000000) (decide (n0<0)) (w++[d])).H=(k7 j.1.1 (decide (n0<0)) j.1.2).H:=by
   refine⟨⟨(Int.tdiv n 1000000000,w++[d]),by show _<=Int.tdiv n _;omega,by show Int.tdiv n _<=_;omega,b3.app (.cons ⟨d2,d3⟩ .nil), ?_,by show(w++[d]).length<=4;simp;omega, ?_⟩,d5,rfl,rfl⟩
   .show((Int.tdiv n 1000000000).natAbs:Int)<1000000000^(4-(w++[d]).length);rw [<-qU];rw [hp]at gi;omega
   .show ag (w++[d])+1000000000^(w++[d]).length*((Int.tdiv n 1000000000).natAbs:Int)=_;have ev:ag (w++[d])=ag w+1000000000^w.length*d:=x6 _ _ _;rw [<-qU,ev,Int.pow_succ,<-yt,<-d4];grind
  by_cases hm:Int.tmod n 1000000000<0
  .rw [if_pos hm]at d1;subst d1;exact bl (s:=k7 n (decide (n0<0)) w) hS (aiq n _ w h0 hm (by omega) (by omega) (by omega) (qU _ _) (ux _ _)) uy
  .rw [if_neg hm]at d1;subst d1;exact bl (s:=k7 n (decide (n0<0)) w) hS (aip n _ w h0 hm (by omega) (by omega) (qU _ _) (ux _ _)) uy
def T4:Mf.Ok prog:=fun⟨n,_⟩ h=>by
 have h:(decide (-9223372036854775808<=n)&&decide (n<=9223372036854775807))=true:=h;rw [ae]at h;exact aiv n (ap h.1) (ap h.2)
end
end Go.Proofs.YtibikmmdbdlafaaGreatDoor
