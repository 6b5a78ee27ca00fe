/- The reference of chapter 1: floorDiv, IsWhole, IsZero, Neg, Sub, Floor as known functions. -/
import Derived.Test.YtibikmmdbdlafaaGreatDoorZxA19
import Derived.Test.YtibikmmdbdlafaaGreatDoorZxF4
import Derived.Test.YtibikmmdbdlafaaGreatDoorZxGAw1
import Derived.Deep.RegionLaw
import Derived.Lib.SliceRun
import Derived.Shelf.RegionOpenPlain
set_option linter.unusedVariables false
set_option linter.unusedSimpArgs false
set_option linter.unusedSectionVars false
set_option maxRecDepth 100000
namespace Go.Proofs.YtibikmmdbdlafaaGreatDoor
open Go.RowKit Sv Go.Proofs.Tryz
noncomputable section
noncomputable def Wr:Code:=(Tryz.f87.body).getD .skip
noncomputable def Ws:Code:=(Tryz.f85.body).getD .skip
noncomputable def GV:Code:=(Tryz.f86.body).getD .skip
noncomputable def Wt:Code:=(Tryz.f29.body).getD .skip
noncomputable def NW:Code:=(Tryz.f43.body).getD .skip
noncomputable def Wu:bF:=a7 [Ar]
def wA (s:ByteArray):Bool:=decide (((aY (ak s):Nat):Int)=(s.size:Int))
theorem aoY (s:ByteArray) (h1:s.size<=1000000000) (h2:((↑(aY s.data.toList):Int)==(s.size:Int))=(wA s)):
  bq Wu (fl Wr []) 9 8 [sv s] 1 Tryz.f87 true (bv (wA s)):=
 wy [ah h1,ax h2] 129
noncomputable def Wv:bn:={f:=87,ps:=[.str],rs:=[.bool],fresh:=true,pre:=fun d=>decide (d.1.size<=1000000000),fn:=fun d=>(wA d.1,())}
def wB (s:ByteArray):Bool:=decide (ak s=[48])
theorem aoZ (s:ByteArray) (h1:(decide (s.data.toList=((ByteArray.mk #[(48:UInt8)]).data).toList))=(wB s)):
  bq (a7 []) (fl Ws []) 9 5 [sv s] 1 Tryz.f85 true (bv (wB s)):=
 wy [ax h1] 1
noncomputable def Ww:bn:={f:=85,ps:=[.str],rs:=[.bool],fresh:=true,pre:=fun d=>true,fn:=fun d=>(wB d.1,())}
noncomputable def GW:bF:=a7 [M3]
theorem ao0 (s:ByteArray) (h1:jX s<0) (h2:Int.toNat 1<=s.size) (h3:(s.extract (Int.toNat 1) s.size)=(s.extract 1 s.size)):
  bq GW (fl GV []) 9 14 [sv s] 3 Tryz.f86 true (sv (s.extract 1 s.size)):=
 wy [ah h1,ah h2,ah (by omega:s.size<=s.size),ax h3] 4345823296
theorem ao1 (s:ByteArray) (h1:¬jX s<0) (h2:jX s=0):
  bq GW (fl GV []) 9 14 [sv s] 6 Tryz.f86 true (sv s):=
 wy [aJ h1,c8 h2] 524352
theorem ao2 (s:ByteArray) (h1:¬jX s<0) (h2:¬jX s=0) (h3:(ByteArray.mk #[(45:UInt8)]).size+s.size<=9223372036854775807):
  bq GW (fl GV []) 9 14 [sv s] 4 Tryz.f86 true (sv (ByteArray.mk #[45]++s)):=
 wy [aJ h1,yn h2,ah h3] 50856000
noncomputable def Lk (s:ByteArray):ByteArray:=aU (-toQ s)
noncomputable def Wx:bn:={f:=86,ps:=[.str],rs:=[.str],fresh:=true,pre:=fun d=>eL d.1,fn:=fun d=>(Lk d.1,())}
noncomputable def Wy:bF:=a7 [Wx,MV]
noncomputable def wC (s t:ByteArray):ByteArray:=aU (toQ s-toQ t)
theorem ao3 (s t:ByteArray) (h1:(eL t)=true) (h2:(eL s&&eL (Lk t))=true):
  bq Wy (fl Wt []) 9 9 [sv s,sv t] 1 Tryz.f29 true (sv (aU (toQ s+toQ (Lk t)))):=
 wy [af h1,af h2] 129
noncomputable def Wz:bn:={f:=29,ps:=[.str, .str],rs:=[.str],fresh:=true,pre:=fun d=>eL d.1&&eL d.2.1,fn:=fun d=>(wC d.1 d.2.1,())}
noncomputable def NX:bF:=a7 [Wv,Gp,SR,Gm]
theorem ao4 (s:ByteArray) (h1:s.size<=1000000000) (h2:(wA s)=true):
  bq NX (fl NW []) 9 17 [sv s] 3 Tryz.f43 true (sv s):=
 wy [ah h1,af h2] 129
theorem ao5 (s:ByteArray) (h1:s.size<=1000000000) (h2:(wA s)=false) (h3:(iu s)=true) (h4:(okZ (mkR (ptN s))&&(okZ (mkR (ptD s))&&decide (0<vZ (mkR (ptD s)))))=true) (h5:(okZ (mkR (vZ (mkR (ptN s))/vZ (mkR (ptD s)))))=true):
  bq NX (fl NW []) 9 17 [sv s] 2 Tryz.f43 true (sv (b8 (vZ (mkR (vZ (mkR (ptN s))/vZ (mkR (ptD s))))))):=
 wy [ah h1,af h2,af h3,af h4,af h5] 84947073
noncomputable def gI (s:ByteArray):ByteArray:=aU ((toQ s).floor:Rat)
noncomputable def WA:bn:={f:=43,ps:=[.str],rs:=[.str],fresh:=true,pre:=fun d=>eL d.1,fn:=fun d=>(gI d.1,())}
end
set_option maxHeartbeats 1000000
noncomputable section
theorem ao6 {x y:Int} (hy:0<y): -x/y=if x%y=0 then-(x/y)else-(x/y+1):=by
 have a:=c6 x (show y≠0 by omega);have b:=cS x hy;have e:=Int.mul_ediv_add_emod x y;split
 .rename_i h;refine((Int.ediv_emod_unique (r:=0) hy).2 ⟨?_,Int.le_refl _,hy⟩).1;rw [Int.mul_neg];omega
 .rename_i h;refine((Int.ediv_emod_unique (r:=y-x%y) hy).2 ⟨?_,by omega,by omega⟩).1;rw [Int.mul_neg,Int.mul_add,Int.mul_one];omega
theorem ao7:SR.Ok prog:=fun⟨⟨n,x⟩,⟨m,y⟩,_⟩ h=>by
 have h:(okZ (n,x)&&(okZ (m,y)&&decide (0<vZ (m,y))))=true:=h;rw [ae,ae,bz]at h;obtain⟨h1,h2,h3⟩:=h;obtain⟨g1,g2⟩:=nw.1 h1;obtain⟨g3,g4⟩:=nw.1 h2;have g1:okA x=true:=g1;have g3:okA y=true:=g3;have hm:m=false:=by
  cases m with
  |false=>rfl
  |true=>have:0<ag y:=g4 rfl;have:0< -ag y:=h3;omega
 subst hm;have hy:0<ag y:=h3;obtain⟨WB,xt,xl⟩:=fc.1 g1;have hx0:=dC WB;have hxl:ag x<1000000000^x.length:=fC (by decide) WB;have jO:0<=ag x/ag y:=Int.ediv_nonneg hx0 (by omega);have hq1:ag x/ag y<=ag x:=Int.ediv_le_self _ hx0;have qf:=c6 (ag x) (show ag y≠0 by omega);have ao8:okA (aC (ag x/ag y))=true:=tk jO (by omega) xl;have WC:okB (aC (ag x/ag y))=true:=vS jO (k:=x.length) (by omega) (by omega);have hp:(okA x&&(okA y&&decide ((0:Int)<ag y)))=true:=by rw [g1,g3,az hy];rfl
 have eq:=(fY jO).2.2;show Holds prog false 97 [rv (n,x),rv (false,y)] (rv (mkR (aZ n (ag x)/ag y)));refine bJ (c:=FQ) func97 rfl rfl fun w F=> ?_
 cases n with
 |false=>
  have key:=ahF x y hp WC;rw [eq]at key;exact bu tV 9 key
 |true=>
  show a8 _ _ _ _ _ _ _ _ (gk _ _ _ (rv (mkR (-ag x/ag y))));rw [ao6 hy];by_cases hz:ag x%ag y=0
  .rw [if_pos hz];have key:=ahE x y hp (by rw [hz,(pd (Int.le_refl 0)).2 rfl];decide) WC;rw [eq]at key;exact bu tV 9 key
  .rw [if_neg hz];have hne:((aC (ag x%ag y)).length:Int)>0:=Dl fun e=>hz ((pd qf).1 e)
   have e1:ag [1]=1:=rj _ _;have Gj:=bc (b:=1000000000) (by decide) x.length;have key:=ahD x y hp hne (by unfold rA;rw [ao8];rfl) (vS (k:=x.length+1) (by rw [eq,e1];omega) (by rw [eq,e1,Int.pow_succ];omega) (by omega));rw [eq,e1,(fY (show 0<=ag x/ag y+1 by omega)).2.2]at key;exact bu tV 9 key
def eK (r:Rat):List UInt8:=if r.den=1 then []else 47::Lib.decDigits r.den
theorem lj (r:Rat):ak (aU r)=(if decide (r.num<0)then 45::(Lib.decDigits r.num.natAbs++eK r)else Lib.decDigits r.num.natAbs++eK r):=by
 have e:ak (aU r)=Lib.itoa r.num++eK r:=by
  unfold aU eK;by_cases h1:r.den=1
  .rw [if_pos h1,if_pos h1,List.append_nil];exact jy _
  .rw [if_neg h1,if_neg h1,<-Dec.uf]
 rw [e,AX];by_cases hn:r.num<0
 .rw [az hn];rfl
 .rw [ab hn];rfl
theorem GX {r:Rat} (h:r.num<0):ak (aU r)=45::(Lib.decDigits r.num.natAbs++eK r):=by rw [lj,az h];rfl
theorem GY {r:Rat} (h:¬r.num<0):ak (aU r)=Lib.decDigits r.num.natAbs++eK r:=by rw [lj,ab h];rfl
theorem WD:aU 0=ByteArray.mk #[48]:=by
 refine gR ?_;show ak (aU 0)=_;rw [GY (by decide)];show Lib.decDigits 0++eK 0=[48];rw [r4 (by decide)];unfold eK;rw [if_pos (by decide)];rfl
theorem WE (r:Rat):jX (aU r)=if r<0 then-1 else if r=0 then 0 else 1:=by
 by_cases h1:r<0
 .have hn:=AJ.2 h1;have hb:=GX hn;rw [if_pos h1];unfold jX;have hne:aU r≠ByteArray.mk #[48]:=fun e=>by
   rw [e]at hb;have:(48:UInt8)=45:=(List.cons.inj hb).1;cases this
  rw [if_neg hne,if_pos];refine⟨by rw [bd,hb];simp, ?_⟩;show((ak (aU r)).getD 0 0).toNat=45;rw [hb];rfl
 .rw [if_neg h1];have hn:¬r.num<0:=fun h=>h1 (AJ.1 h)
  by_cases h0:r=0
  .rw [if_pos h0,h0,WD];unfold jX;rw [if_pos rfl]
  .rw [if_neg h0];have hnz:r.num≠0:=fun e=>h0 (Rat.num_eq_zero.1 e)
   have hb:=GY hn;have hd:=MS r.num.natAbs;obtain⟨k1,k2⟩:=MT (R:=eK r) hd (ik r.num.natAbs);unfold jX;have hne:aU r≠ByteArray.mk #[48]:=fun e=>by
    rw [e]at hb;have hb:[48]=Lib.decDigits r.num.natAbs++eK r:=hb;cases hq:Lib.decDigits r.num.natAbs with
    |nil=>exact hd hq
    |cons b t=>
     rw [hq]at hb;have:=Dec.akE r.num.natAbs (by omega) b t hq;rw [<-(List.cons.inj hb).1]at this;exact this rfl
   rw [if_neg hne,if_neg];rintro⟨_,hq⟩;have hq:((ak (aU r)).getD 0 0).toNat=45:=hq;rw [hb]at hq;exact k2 hq
theorem ao9 {r:Rat} (h:r.num<0):(aU r).extract 1 (aU r).size=aU (-r):=by
 refine gR ?_;rw [Mc];show(ak (aU r)).drop 1=ak (aU (-r));rw [GX h,GY (show¬(-r).num<0 by rw [Rat.neg_num];omega)];unfold eK;rw [Rat.neg_num,Rat.neg_den,Int.natAbs_neg];rfl
theorem apa {r:Rat} (h:0<r.num):ByteArray.mk #[45]++aU r=aU (-r):=by
 refine gR ?_;rw [iJ];show [45]++ak (aU r)=ak (aU (-r));rw [GY (by omega),GX (show(-r).num<0 by rw [Rat.neg_num];omega)];unfold eK;rw [Rat.neg_num,Rat.neg_den,Int.natAbs_neg];rfl
theorem WG {k:Nat} {r:Rat} (h:mK k r):mK k (-r):=by
 obtain⟨h1,h2⟩:=h;exact⟨by rw [Rat.neg_num,Int.natAbs_neg];exact h1,by rw [Rat.neg_den];exact h2⟩
theorem NY:bB prog (bD GW):=ri Vd
theorem WH {k:Nat} {r:Rat} (hk:k<=10000) (h:mK k r):(aU r).size<=1000000:=by
 have l1:=AW h.1;have l2:=AW h.2;rw [bd,lj];have:(eK r).length<=9*k+2:=by unfold eK;split<;>simp;omega
 split
 .rw [List.length_cons,cG];omega
 .rw [cG];omega
theorem OF:Wx.Ok prog:=fun⟨s,_⟩ h=>by
 obtain⟨r,k,rfl,hk,hi⟩:=uk.1 h;have hz:=WH hk hi;have hs:=WE r;show Holds prog true 86 [sv (aU r)] (sv (aU (-toQ (aU r))));rw [pG hk hi];refine bJ (c:=GV) func86 rfl rfl fun w F=> ?_
 by_cases h1:r<0
 .rw [if_pos h1]at hs;have hn:=AJ.2 h1;have hb:=GX hn;have key:=ao0 (aU r) (by omega) (by rw [bd,hb];show 1<=_;simp) rfl;rw [ao9 hn]at key;exact bu NY 9 key
 .rw [if_neg h1]at hs;by_cases h0:r=0
  .rw [if_pos h0]at hs;rw [h0,show(-0:Rat)=0 from rfl];rw [h0]at hs;exact bu NY 9 (ao1 (aU 0) (by omega) hs)
  .rw [if_neg h0]at hs;have hn:¬r.num<0:=fun h=>h1 (AJ.1 h)
   have hnz:r.num≠0:=fun e=>h0 (Rat.num_eq_zero.1 e)
   have dD:(ByteArray.mk #[45]).size=1:=rfl;have key:=ao2 (aU r) (by omega) (by omega) (by rw [dD];omega);rw [apa (by omega)]at key;exact bu NY 9 key
theorem apb:bB prog (bD Wy):=cR (aT OF (aT U' dY))
theorem apc:Wz.Ok prog:=fun⟨s,t,_⟩ h=>by
 have h:(eL s&&eL t)=true:=h;rw [ae]at h;obtain⟨r,k,rfl,hk,hi⟩:=uk.1 h.2;have e:Lk (aU r)=aU (-r):=by unfold Lk;rw [pG hk hi]
 have key:=ao3 s (aU r) h.2 (by rw [h.1,e,il hk (WG hi)];rfl);rw [e,pG hk (WG hi)]at key;show Holds prog true 29 [sv s,sv (aU r)] (sv (aU (toQ s-toQ (aU r))));rw [pG hk hi,Rat.sub_eq_add_neg];refine bJ (c:=Wt) func29 rfl rfl fun w F=> ?_
 exact bu apb 9 key
theorem apd:bB prog (bD Wu):=ri tl
theorem ape:Wv.Ok prog:=fun⟨s,_⟩ h=>by
 have hs:s.size<=1000000000:=ap h;show Holds prog true 87 [sv s] (bv (wA s));refine bJ (c:=Wr) func87 rfl rfl fun w F=> ?_
 exact bu apd 9 (aoY s hs rfl)
theorem apf:Ww.Ok prog:=fun⟨s,_⟩ h=>by
 show Holds prog true 85 [sv s] (bv (wB s));refine bJ (c:=Ws) func85 rfl rfl fun w F=> ?_
 exact bu ba 9 (aoZ s rfl)
theorem WI (r:Rat):wB (aU r)=decide (r=0):=by
 unfold wB;refine decide_eq_decide.2 ⟨fun h=> ?_,fun h=>by rw [h,WD]⟩;have e:aU r=ByteArray.mk #[48]:=gR h;have hs:=WE r;rw [e]at hs;unfold jX at hs;rw [if_pos rfl]at hs;refine Classical.byContradiction fun h0=> ?_
 by_cases h1:r<0
 .rw [if_pos h1]at hs;cases hs
 .rw [if_neg h1,if_neg h0]at hs;cases hs
theorem apg (r:Rat):wA (aU r)=decide (r.den=1):=by
 unfold wA;refine decide_eq_decide.2 ?_;have v8:aY (Lib.decDigits r.num.natAbs++eK r)=(Lib.decDigits r.num.natAbs).length:=by
  unfold eK;split
  .rw [List.append_nil];exact tm _ (ik _)
  .exact tn _ _ (ik _)
 rw [bd,lj,U3,v8];have hl:(if decide (r.num<0)then 45::(Lib.decDigits r.num.natAbs++eK r)else Lib.decDigits r.num.natAbs++eK r).length=(Lib.decDigits r.num.natAbs).length+(eK r).length+(if decide (r.num<0)then 1 else 0):=by
  split
  .rw [List.length_cons,cG]
  .rw [cG];rfl
 rw [hl];unfold eK;by_cases h:r.den=1
 .rw [if_pos h];simp [h]
 .rw [if_neg h,List.length_cons];constructor
  .intro e;omega
  .intro e;exact absurd e h
theorem WJ:bB prog (bD NX):=cR (aT ape (aT MK (aT ao7 (aT MD dY))))
theorem WK (r:Rat):(r.num/(r.den:Int)).natAbs<=r.num.natAbs+1:=by
 have hd:=r.den_pos;have e:=Int.mul_ediv_add_emod r.num r.den;have a:=c6 r.num (show(r.den:Int)≠0 by omega);have b:=cS r.num (show(0:Int)<r.den by omega);by_cases hn:0<=r.num
 .have h3:=Int.ediv_nonneg hn (show(0:Int)<=r.den by omega);have h4:=Int.ediv_le_self (r.den:Int) hn;omega
 .have h3:=Int.ediv_neg_of_neg_of_pos (show r.num<0 by omega) (show(0:Int)<r.den by omega);have h4:=dU (show(1:Int)<=r.den by omega) (show 0<= -(r.num/r.den)-1 by omega);rw [Int.mul_one,Int.sub_mul,Int.neg_mul,Int.mul_comm (r.num/r.den) r.den,Int.one_mul]at h4;omega
attribute [local irreducible] mkR vZ okZ aU iu jr qB ptN ptD okA
theorem aph:WA.Ok prog:=fun⟨s,_⟩ h=>by
 obtain⟨r,k,rfl,hk,hi⟩:=uk.1 h;have hz:=WH hk hi;have G:=uj hk hi;have hw:=apg r;show Holds prog true 43 [sv (aU r)] (sv (aU ((toQ (aU r)).floor:Rat)));rw [pG hk hi];refine bJ (c:=NW) func43 rfl rfl fun w F=> ?_
 by_cases h1:r.den=1
 .rw [az h1]at hw;have e:((r.floor:Int):Rat)=r:=by
   have e1:=Wa r;rw [Rat.floor_def,h1];rw [h1]at e1;show((r.num/1:Int):Rat)=r;rw [Int.ediv_one];have:(((1:Nat):Int):Rat)=1:=rfl;rw [this]at e1;grind
  rw [e];exact bu WJ 9 (ao4 (aU r) (by omega) hw)
 .rw [ab h1]at hw;have hd:=r.den_pos;have um:okZ (mkR r.num)=true:=iq hi.1 (by omega);have yD:okZ (mkR (r.den:Int))=true:=iq (k:=k) (by have:=hi.2;omega) (by omega);have hb:((r.num/(r.den:Int)).natAbs:Int)<1000000000^(k+1):=by
   have h2:=WK r;have h5:=hi.1;have h6:=bc (b:=1000000000) (by decide) k;rw [Int.pow_succ];omega
  have key:=ao5 (aU r) (by omega) hw G.pt;rw [G.n,G.d,dr,dr,dr]at key;have e:b8 (r.num/(r.den:Int))=aU ((r.floor:Int):Rat):=by
   rw [Rat.floor_def];unfold aU;rw [if_pos (Rat.den_intCast _),Rat.num_intCast]
  rw [e]at key;exact bu WJ 9 (key (by rw [um,yD,az (show(0:Int)<(r.den:Int) by omega)];rfl) (iq hb (by omega)))
end
end Go.Proofs.YtibikmmdbdlafaaGreatDoor
namespace Go.Proofs.YtibikmmdbdlafaaGreatDoor
open Go.RowKit Sv Go.Proofs.Tryz
set_option maxRecDepth 100000 in
set_option maxHeartbeats 4000000 in
theorem api (g k:Nat) (x y:Int) (cur:Array Value) (w:World) (hb:w.heap[g]? =some (.cells cur 3 (0,0))) (h0:cur[0]? =some (.int .i64 x)) (h1:cur[1]? =some (.int .i64 y)) (hk:2<=k):
  Calls prog 101 #[.slice (some ⟨g,0,none⟩) 2 k, .int .i64 0, .int .i64 1] w fun e w'=>e= .returned (.slice (some ⟨g,0,none⟩) 1 k)/\w'=(w.drew.setCells g 0 [.int .i64 y]).setCells g 1 [.int .i64 0]:=by
 obtain⟨i0,sU,LJ,LK,Tl⟩:=info_parts Tryz.Th;have c0:w.cell? ⟨g,0,none⟩=some (.int .i64 x):=by rw [cell_of_row _ _ 0 cur _ _ hb];exact h0
 have c1:w.cell? ⟨g,1,none⟩=some (.int .i64 y):=by rw [cell_of_row _ _ 1 cur _ _ hb];exact h1
 have f0:w.frozen? ⟨g,0,none⟩=false:=by simp [World.frozen?,hb]
 have f1:w.frozen? ⟨g,1,none⟩=false:=by simp [World.frozen?,hb]
 have k1:¬k=1:=by omega
 have k0:0<=k:=by omega
 have arH:1<=k:=by omega
 refine calls_of_wp func101 rfl ?_;simp only [Tryz.ntmps101,List.size_toArray,List.length_cons,List.length_nil,Nat.reduceAdd,Nat.reduceSub,Array.replicate_succ,Array.replicate_zero,List.push_toArray,List.append_toArray,List.nil_append,List.cons_append]
 go_wp2_with fail
 have s1:=Lib.hid (show∀t u,[Value.int .i64 y][t]? =some u->w.drew.cell? ((⟨g,1,none⟩:Addr).add t)=some u from fun t u hu=>by
  cases t with
  |zero=>simp at hu;subst hu;exact c1
  |succ t=>simp at hu)
 have s2:=Lib.hid (show∀t,t<[Value.int .i64 y].length->(w.drew.cell? ⟨g,0+0*1+t,none⟩).isSome=true/\w.drew.frozen? ⟨g,0+0*1+t,none⟩=false from fun t ht=>by
  obtain rfl:t=0:=by simpa using ht
  exact⟨by show(w.cell? _).isSome=true;rw [c0];rfl,f0⟩)
 have s3:=Lib.hid (show∀u∈[Value.int .i64 y],u.oneCell'=true from fun u hu=>by simp at hu;subst hu;rfl);obtain⟨uB,NZ⟩:∃uB,uB=w.drew.setCells g (0+0*1) [.int .i64 y]:=⟨_,rfl⟩;have hW:=Lib.hid NZ;have b1:eD uB g 3 (cur.setIfInBounds 0 (.int .i64 y)):=by rw [NZ];exact(eD.drew hb).set 0 _
 have e1:(cur.setIfInBounds 0 (Value.int .i64 y))[1]? =some (.int .i64 y):=by rw [Array.getElem?_setIfInBounds];simpa using h1
 have w1:uB.cell? ⟨g,1,none⟩=some (.int .i64 y):=by rw [b1.cell 1];exact e1
 have hc1:∀j,j<1->(uB.cell? ⟨g,1+j,none⟩).isSome=true:=fun j hj=>by
  obtain rfl:j=0:=by omega
  rw [Nat.add_zero,w1];rfl
 have xg:∀j,j<1->uB.frozen? ⟨g,1+j,none⟩=false:=fun j hj=>b1.frozen _
 have BE:∀w,(zeroValue 3).run prog w= .ok (.int .i64 0) w:=fun w=>lA (by simp [mR,sU,LJ]) w
 have gS:∀ty,(Builtin.clear_ #[93] ty #[.slice (some ⟨g,1,none⟩) 1 (k-1)]).run prog uB= .ok (.tuple #[]) (uB.setCells g 1 [.int .i64 0]):=fun ty=>
  Lib.run_clear_slice uB _ _ ty _ Tryz.underlying93 BE rfl rfl g 1 1 (k-1) (by decide) hc1 xg
 clear NZ;have mx:prog.follows .mixedOrders=true:=mixed
 go_region_law_o (refine step_append_room rfl (.tmp 22) (.tmp 25) 93 rfl 3 i0 1 Tryz.underlying93 sU LK g 0 0 k (by simp [Act.eval,Act.put]) ⟨g,1,none⟩ 1 (k-1) [.int .i64 y] (by simp [Act.eval,Act.put]) rfl s1.out s3.out (by omega) s2.out ?_;rw [<-hW.out])
 go_wp2
 go_ret
 exact⟨rfl,by rw [hW.out]⟩
noncomputable section
def WL (i:Nat) (H:ai) (blk:Option bf):aI:=match blk with
 |some (.cells e [.raw (.int .i64 _), .raw (.int .i64 y)] false false false)=>cond (Nat.beq e 3) (.ok (.slice i 0 1 .full) (H.set i (.cells e [.raw (.int .i64 y)] false false false))) .no
 |_=> .no
def N0 (args:List aa) (H:ai):aI:=match args with
 |[.slice i 0 2 .full, .raw (.int .i64 0), .raw (.int .i64 1)]=>WL i H (H.get i)
 |_=> .no
def GZ:er:=fun f args H=> @Bool.rec (fun _=>aI) (bD Ms f args H) (N0 args H) (Nat.beq f 101)
theorem wc {args:List aa} {H:ai} {v:aa} {H':ai} (h:N0 args H= .ok v H'):∃i x y,args=[.slice i 0 2 .full, .raw (.int .i64 0), .raw (.int .i64 1)]/\H.get i=some (.cells 3 [.raw (.int .i64 x), .raw (.int .i64 y)] false false false)/\
  v= .slice i 0 1 .full/\H'=H.set i (.cells 3 [.raw (.int .i64 y)] false false false):=by
 unfold N0 at h;split at h
 .rename_i i;unfold WL at h;split at h
  .rename_i e x y hg;cases hb:Nat.beq e 3 with
   |false=>rw [hb]at h;cases h
   |true=>
    rw [hb]at h;obtain rfl:=ac hb;cases h;exact⟨i,x,y,rfl,hg,rfl,rfl⟩
  .cases h
 .cases h
theorem apj:bB prog GZ where
 mono f args H v H' h:=by
  unfold GZ at h;cases hb:Nat.beq f 101 with
  |false=>rw [hb]at h;exact Mt.mono _ _ _ _ _ h
  |true=>
   rw [hb]at h;obtain⟨i,x,y,_,_,_,rfl⟩:=wc h;exact aE _
 ct f args H v H' h B ρ xs w m hH cn hd hf:=by
  unfold GZ at h;cases hb:Nat.beq f 101 with
  |false=>rw [hb]at h;exact Mt.ct _ _ _ _ _ h B ρ xs w m hH cn hd hf
  |true=>
   rw [hb]at h;obtain rfl:=ac hb;obtain⟨i,x,y,rfl,hg,rfl,rfl⟩:=wc h
   match xs,hd with
   |[x0,x1,x2], .cons d0 (.cons d1 (.cons d2 .nil))=>
    obtain⟨g,c,k,cL,hk,hlk,rfl⟩:=d0.gY;have hk:k=c:=hk;subst hk;rw [d1.b7,d2.b7];obtain⟨ys,fz,g1,g2,g3,_,g5,g6⟩:=l6 hH hg cL;have g2:=g2 rfl;subst g2;have g5:=g5 rfl;have n0:ys[0]? =some (.int .i64 x):=by
     obtain⟨z,dD,z2⟩:=g3.get (i:=0) rfl;rw [z2.b7]at dD;simpa using dD
    have n1:ys[1]? =some (.int .i64 y):=by
     obtain⟨z,dD,z2⟩:=g3.get (i:=1) rfl;rw [z2.b7]at dD;simpa using dD
    refine Tj (n:=0) (callsIn_wide.2 ((api g k x y ys w g1 n0 n1 hlk).mono ?_));rintro e w' ⟨rfl,rfl⟩;have lp:eD (w.drew.setCells g 0 [.int .i64 y]) g 3 (ys.setIfInBounds 0 (.int .i64 y)):=(eD.drew g1).set 0 _;have kA:eD ((w.drew.setCells g 0 [.int .i64 y]).setCells g 1 [.int .i64 0]) g 3 ((ys.setIfInBounds 0 (.int .i64 y)).setIfInBounds 1 (.int .i64 0)):=lp.set 1 _;have gh:∀j,j≠g->((w.drew.setCells g 0 [.int .i64 y]).setCells g 1 [.int .i64 0]).heap[j]? =w.heap[j]? :=fun j hj=>(Below.heap_setCell _ _ _ j hj).trans (Below.heap_setCell _ _ _ j hj)
    have ld:aF ρ [aa.raw (Value.int .i64 y)] (((ys.setIfInBounds 0 (Value.int .i64 y)).setIfInBounds 1 (.int .i64 0)).toList.take [aa.raw (Value.int .i64 y)].length):=by
     have e1:(((ys.setIfInBounds 0 (Value.int .i64 y)).setIfInBounds 1 (.int .i64 0)).toList.take [aa.raw (Value.int .i64 y)].length)=[.int .i64 y]:=by
      have hs:0<ys.size:=(dx.1 n0).1;refine List.ext_getElem? fun j=> ?_
      rw [List.getElem?_take];cases j with
      |zero=>simp [hs]
      |succ j=>simp
     rw [e1];exact .cons (.raw _) .nil
    obtain⟨p1,p2⟩:=uK hH hg cL rfl (k:= .cells 3 [.raw (.int .i64 y)] false false false) ((w.drew.setCells g 0 [.int .i64 y]).setCells g 1 [.int .i64 0]) _ rfl rfl rfl (by show(World.setCell (World.setCell w.drew ⟨g,0,none⟩ _) ⟨g,1,none⟩ _).heap.size=_;simp [World.setCell]) kA gh
     ⟨_,_,rfl,fun _=>rfl,ld,(fun hh=>by cases hh),fun _=>⟨g,k,cL,by simpa using g5⟩⟩
    exact⟨_,ρ,rfl, .slice cL rfl (by omega),p1,p2⟩
end
end Go.Proofs.YtibikmmdbdlafaaGreatDoor
