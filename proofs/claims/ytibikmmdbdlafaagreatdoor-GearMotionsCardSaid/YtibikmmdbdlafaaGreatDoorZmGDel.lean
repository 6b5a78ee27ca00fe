import Derived.Test.YtibikmmdbdlafaaGreatDoorZmA18
set_option linter.defProp false
set_option linter.unusedVariables false
set_option linter.unusedSimpArgs false
set_option linter.unusedSectionVars false
set_option maxRecDepth 100000
namespace Go.Proofs.YtibikmmdbdlafaaGreatDoor
open Go.RowKit Sv Go.Proofs.Tryz
noncomputable section
def Bb (neg:Bool) (u:AT) (k:Nat):Int:=
 if cD (u.extract 0 k)=false then 1
 else if neg=true/\ak (u.extract 0 k)=[48]then 1
 else if k<u.size/\(cD (u.extract (k+1) u.size)=false\/ak (u.extract (k+1) u.size)=[48]\/ak (u.extract (k+1) u.size)=[49])then 1
 else if 600<k\/601+k<u.size then 4
 else if k<u.size/\Int.gcd (bt (ak (u.extract 0 k))) (bt (ak (u.extract (k+1) u.size)))≠1 then 1
 else 0
def ckR (s:AT):Int:=Bb (bZ s) (bQ s) (bk (ak (bQ s)))
noncomputable def NV:bp:={f:=20,ps:=[.str],rs:=[.int .i64],fresh:=true,pre:=fun d=>decide (d.1.size<=1000000000),fn:=fun d=>(ckR d.1,())}
--{
def Wh:bD prog (bG jO):=cY (aX GL (aX anZ (aX VQ (aX Ur eA))))
def NW {t:AT} (h:bY (ak t)=true):bZ t=false/\bQ t=t:=by
 have e:bZ t=false:=by
  unfold bZ;by_cases h0:0<t.size
  .have hm:b7 t 0∈ak t:=by rw [kp (by rw [<-c8];exact h0)];exact List.getElem_mem _
   have:=List.all_eq_true.1 h _ hm;rw [ae,bB,bB]at this;rw [ab (show¬(b7 t 0).toNat=45 by omega),Bool.and_false]
  .rw [ab h0];rfl
 refine⟨e, ?_⟩;unfold bQ;rw [e]
def Wi {t:AT} (h:bY (ak t)=true):lP t=bt (ak t):=by
 obtain⟨h1,h2⟩:=NW h;unfold lP;rw [h1,h2];rfl
def Hs:∀n:Nat,(10:Int)^n<=1000000000^n
 |0=>by simp
 |n+1=>by
  rw [Int.pow_succ,Int.pow_succ];have h1:=Hs n;have h2:=dK (b:=10) (by decide) n;omega
def Wj {z:Int} (h:0<=z):ag (mkR z).2=z:=by
 show ag (aI (z.natAbs:Int))=z;rw [(gN (Int.natCast_nonneg _)).2.2];omega
def Wk {t:AT} (h:bY (ak t)=true) (hl:t.size<=100000):okA (mkR (bt (ak t))).2=true:=by
 have h1:=uJ h;have h2:=Hs t.size;show okA (aI ((bt (ak t)).natAbs:Int))=true;exact GI (k:=t.size) (Int.natCast_nonneg _) (by omega) hl
def wV {t:AT} (h:cD t=true):bY (ak t)=true/\0<t.size:=by
 unfold cD at h;rw [ae,ae,bB]at h;exact⟨h.2.2,h.1⟩
abbrev NX (e:Int):Exit->aq aa->ai->Prop:=fy prog true f20 (iv e)
def NY (s u:AT) (neg:Bool) (hl:u.size<=1000000000) (hs:0<u.size->0<s.size) (hn:neg=true↔(0<s.size/\(b7 s 0).toNat=45)) (w:World) (F:Sv.Env):
  aP prog w F 96 ((fl iF []).drop 5) (dn s u (bk (ak u))).T (dn s u (bk (ak u))).H (NX (Bb neg u (bk (ak u)))):=by
 have hS:=Wh;have hle:bk (ak u)<=u.size:=by rw [c8];exact mi _
 obtain⟨k,hk⟩:∃k,bk (ak u)=k:=⟨_,rfl⟩;rw [hk]at hle ⊢;have uK:(k:Int).toNat=k:=by omega
 have Hi:((k:Int)+1).toNat=k+1:=by omega
 have hz:=lf u 0 k hle;have nB:=lf u (k+1) u.size (aG _);have atg:((ByteArray.mk (#[(48:UInt8)])).data).toList=[48]:=rfl;have ath:((ByteArray.mk (#[(49:UInt8)])).data).toList=[49]:=rfl;unfold Bb;cases ha:cD (u.extract 0 k)with
 |false=>
  rw [if_pos rfl];have key:=an3 s u (k:Int) (by omega);rw [uK]at key;exact bP (s:=dn s u k) hS (key hle (by omega) ha)
 |true=>
  rw [if_neg (by decide)];obtain⟨da,pa⟩:=wV ha;have hs0:0<s.size:=hs (by omega)
  -- behind the second part
  have rest:(¬(k<u.size/\(cD (u.extract (k+1) u.size)=false\/ak (u.extract (k+1) u.size)=[48]\/ak (u.extract (k+1) u.size)=[49])))->aP prog w F 96 ((fl iF []).drop 9) (dn s u k).T (dn s u k).H (NX (if 600<k\/601+k<u.size then 4 else if k<u.size/\Int.gcd (bt (ak (u.extract 0 k))) (bt (ak (u.extract (k+1) u.size)))≠1 then 1 else 0)):=fun hno=>by
   by_cases h6:600<k
   .rw [if_pos (.inl h6)];exact bP (s:=dn s u k) hS (aoc s u (k:Int) (by omega))
   .by_cases h7:601+k<u.size
    .rw [if_pos (.inr h7)];exact bP (s:=dn s u k) hS (aod s u (k:Int) (by omega) (by omega) (by omega) (by omega))
    .rw [if_neg (by omega)];refine dZ (s:=dn s u k) hS 2 (aoe s u (k:Int) (by omega) (by omega) (by omega) (by omega)) ?_;by_cases hlt:k<u.size
     .have db:bY (ak (u.extract (k+1) u.size))=true:=by
       cases hb:cD (u.extract (k+1) u.size)with
       |false=>exact absurd ⟨hlt, .inl hb⟩ hno
       |true=>exact(wV hb).1
      have hpt:jk u=true:=by
       unfold jk;rw [hk,(NW da).2,(NW db).2,da,db,ax (by omega)];rfl
      have e1:ptN u=bt (ak (u.extract 0 k)):=by unfold ptN;rw [hk];exact Wi da
      have e2:ptD u=bt (ak (u.extract (k+1) u.size)):=by unfold ptD;rw [hk,if_pos hlt];exact Wi db
      have o1:=Wk da (by omega);have o2:=Wk db (by omega);have b1:=uJ da;have b2:=uJ db;have k1:=aog s u (k:Int) (by omega) hpt;have k2:=aoh s u (k:Int) (by omega) hpt;have dF:=aoi s u (k:Int) (by omega) hpt;rw [e1,e2,Wj b1.1,Wj b2.1]at k1 k2 dF;generalize bt (ak (u.extract 0 k))=A at*;generalize bt (ak (u.extract (k+1) u.size))=B at*;have kn:=dc o1 o2;by_cases hg:Int.gcd A B=1
      .rw [if_neg (fun h=>h.2 hg)];have e3:aI ((Int.gcd A B:Nat):Int)=[1]:=by
        rw [hg];have h11:eX [(1:Int)]:=fun k hk=>by
         obtain rfl:k=0:=by simpa using hk.symm
         show(1:Int)≠0;decide
        have:=Gs (l:=[(1:Int)]) (.cons (show(0:Int)<=1/\(1:Int)<1000000000 by decide) .nil) h11;rw [show ag [(1:Int)]=1 from tX _ _]at this;exact this
       rw [e3]at dF;exact bP (s:=dn s u k) hS (dF kn rfl (by decide) rfl)
      .rw [if_pos ⟨hlt,hg⟩];by_cases nh:((aI ((Int.gcd A B:Nat):Int)).length:Int)=1
       .refine bP (s:=dn s u k) hS (k2 kn nh (by show 0<_;omega) fun h=> ?_);obtain⟨c,hc⟩:∃c,aI ((Int.gcd A B:Nat):Int)=[c]:=List.length_eq_one_iff.1 (by omega);have h:(aI ((Int.gcd A B:Nat):Int)).getD 0 0=1:=h;rw [hc]at h;have h:c=1:=h;have hv:=(gN (Int.natCast_nonneg (Int.gcd A B))).2.2;rw [hc,h,show ag [(1:Int)]=1 from tX _ _]at hv;omega
       .exact bP (s:=dn s u k) hS (k1 kn nh)
     .rw [if_neg (fun h=>hlt h.1)];exact bP (s:=dn s u k) hS (aof s u (k:Int) (by omega))
  -- the second part
  have second:aP prog w F 96 ((fl iF []).drop 7) (dn s u k).T (dn s u k).H (NX (if k<u.size/\(cD (u.extract (k+1) u.size)=false\/ak (u.extract (k+1) u.size)=[48]\/ak (u.extract (k+1) u.size)=[49])then 1 else if 600<k\/601+k<u.size then 4 else if k<u.size/\Int.gcd (bt (ak (u.extract 0 k))) (bt (ak (u.extract (k+1) u.size)))≠1 then 1 else 0)):=by
   by_cases hlt:k<u.size
   .have Wl:=an8 s u (k:Int) (by omega) (by omega) (by omega);have kT:=an9 s u (k:Int) (by omega) (by omega) (by omega);have DI:=aoa s u (k:Int) (by omega) (by omega) (by omega);have DJ:=aob s u (k:Int) (by omega) (by omega) (by omega);rw [Hi]at Wl kT DI DJ;cases hb:cD (u.extract (k+1) u.size)with
    |false=>
     rw [if_pos ⟨hlt, .inl rfl⟩];exact bP (s:=dn s u k) hS (Wl (by omega) (by omega) hb)
    |true=>
     by_cases h8:ak (u.extract (k+1) u.size)=[48]
     .rw [if_pos ⟨hlt, .inr (.inl h8)⟩];exact bP (s:=dn s u k) hS (kT (by omega) (by omega) hb h8)
     .by_cases h9:ak (u.extract (k+1) u.size)=[49]
      .rw [if_pos ⟨hlt, .inr (.inr h9)⟩];exact bP (s:=dn s u k) hS (DI (by omega) (by omega) hb h8 h9)
      .have hno:¬(k<u.size/\(cD (u.extract (k+1) u.size)=false\/ak (u.extract (k+1) u.size)=[48]\/ak (u.extract (k+1) u.size)=[49])):=fun h=>by
        rcases h.2 with h|h|h
        .rw [hb]at h;cases h
        .exact h8 h
        .exact h9 h
       have Eu:=hno;rw [hb]at Eu;rw [if_neg Eu];refine dZ (s:=dn s u k) hS 2 (DJ (by omega) (by omega) hb h8 h9) ?_;exact rest hno
   .have hno:¬(k<u.size/\(cD (u.extract (k+1) u.size)=false\/ak (u.extract (k+1) u.size)=[48]\/ak (u.extract (k+1) u.size)=[49])):=fun h=>hlt h.1
    rw [if_neg hno];refine dZ (s:=dn s u k) hS 2 (an7 s u (k:Int) (by omega)) ?_;exact rest hno
  have kT:=an4 s u (k:Int) (by omega);have DI:=an5 s u (k:Int) (by omega);have DJ:=an6 s u (k:Int) (by omega);rw [uK]at kT DI DJ;by_cases lg:(b7 s 0).toNat=45
  .have hneg:neg=true:=hn.2 ⟨hs0,lg⟩;have Ht:((b7 s 0).toNat:Int)=45:=by omega
   by_cases h0:ak (u.extract 0 k)=[48]
   .rw [if_pos ⟨hneg,h0⟩];exact bP (s:=dn s u k) hS (kT hle (by omega) ha hs0 Ht h0)
   .rw [if_neg (fun h=>h0 h.2)];refine dZ (s:=dn s u k) hS 2 (DI hle (by omega) ha hs0 Ht h0) ?_;exact second
  .have Ht:¬((b7 s 0).toNat:Int)=45:=by omega
   rw [if_neg (fun h=>lg (hn.1 h.1).2)];refine dZ (s:=dn s u k) hS 2 (DJ hle (by omega) ha hs0 Ht) ?_;exact second
def aoj (s:AT) (hl:s.size<=1000000000):Holds prog true 20 [sv s] (iv (ckR s)):=by
 have hS:=Wh;refine bL (c:=iF) func20 rfl rfl fun w F=> ?_
 unfold ckR;by_cases h0:0<s.size
 .by_cases lg:(b7 s 0).toNat=45
  .have e1:bZ s=true:=by unfold bZ;rw [ax h0,ax lg];rfl
   have e2:bQ s=s.extract 1 s.size:=by unfold bQ;rw [e1]
   have hz:=lf s 1 s.size (aG _);rw [e1,e2];refine cC hS 5 (an1 s (by omega) (by show 0<s.size;exact h0) (by show((b7 s 0).toNat:Int)=45;omega) (by show 1<=s.size;omega) (by show(s.extract 1 s.size).size<=_;omega) rfl rfl) ?_;exact NY s _ true (by omega) (fun _=>h0) ⟨fun _=>⟨h0,lg⟩,fun _=>rfl⟩ w F
  .have e1:bZ s=false:=by unfold bZ;rw [ax h0,ab lg];rfl
   have e2:bQ s=s:=by unfold bQ;rw [e1]
   rw [e1,e2];refine cC hS 5 (an0 s (by omega) (by show 0<s.size;exact h0) (by show¬((b7 s 0).toNat:Int)=45;omega) hl) ?_;exact NY s s false hl id ⟨fun h=>(by cases h),fun h=>absurd h.2 lg⟩ w F
 .have e1:bZ s=false:=by unfold bZ;rw [ab h0];rfl
  have e2:bQ s=s:=by unfold bQ;rw [e1]
  rw [e1,e2];refine cC hS 5 (an2 s (by omega) hl) ?_;exact NY s s false hl id ⟨fun h=>(by cases h),fun h=>absurd h.1 h0⟩ w F
attribute [local irreducible] ckR
def Wm:NV.Ok prog:=fun⟨s,_⟩ h=>by
 have h:decide (s.size<=1000000000)=true:=h;exact aoj s (ap h)
--}
end
def NZ:∀{l:List Int},(∀x∈l,1<=x/\x<=400)->uI l<=400^l.length
 |[],_=>Int.le_refl 1
 |x::l,h=>by
  have h1:=h x (kK ..);have h2:=NZ (l:=l) fun y hy=>h y (j8 _ hy)
  have h3:=se (l:=l) fun y hy=>(h y (j8 _ hy)).1
  show x*uI l<=400^(l.length+1);rw [Int.pow_succ,Int.mul_comm (400^l.length)];exact Int.mul_le_mul h1.2 h2 (by omega) (by decide)
def Wn {t:List (Int×Int)} (h:yL t):∀x∈t.map Prod.fst,1<=x/\x<=400:=fun x hx=>by
 obtain⟨q,hq,rfl⟩:=List.mem_map.1 hx;exact(h q hq).1
def Wo {t:List (Int×Int)} (h:yL t):∀x∈t.map Prod.snd,1<=x/\x<=400:=fun x hx=>by
 obtain⟨q,hq,rfl⟩:=List.mem_map.1 hx;exact(h q hq).2
def aok {n:Nat} (h:n<=4):(400:Int)^n<=25600000000:=by
 have:n=0\/n=1\/n=2\/n=3\/n=4:=by omega
 rcases this with e|e|e|e|e<;>rw [e]<;>decide
def aol {t:List (Int×Int)} (hg:yL t) (h4:t.length<=4):He (gS t):=by
 have q0:=se fun x hx=>(Wo hg x hx).1
 have q1:=NZ (Wo hg);have f0:=se fun x hx=>(Wn hg x hx).1
 have f1:=NZ (Wn hg);rw [w4]at q1 f1;have hp:=aok h4;rw [Fd];exact amG (by omega) (by omega) (by omega)
noncomputable section
noncomputable def uR:Code:=(f169.body).getD .skip
noncomputable def Hu:Code:=(f120.body).getD .skip
noncomputable def wW:Code:=(f13.body).getD .skip
def nO (s:AT) (k:Nat):bC:={n:=22,sl:=[(0,sv s),(5,iv s.size),(6,iv k)],bF:=[],next:=64}
abbrev uS:List Nat:=[1,0,1,0,0]
def aom (s:AT):
  cO (aR []) (fl uR []) 2 22 [sv s] 1 .normal [] (nO s 0):=
 wy [] 0
def TO (s:AT) (k:Nat) (h1:(k:Int)<(s.size:Int)) (h2:k<s.size) (h3:(↑(UInt8.toNat (s.data.toList.getD k (0:UInt8))):Int)<48):
  bH (aR []) (fl uR uS) (nO s k) 225 f169 true (bv false):=
 wy [ah h1,ah h2,af (aS (ax h3)),ah h3] 17801616826369
def aon (s:AT) (k:Nat) (h1:(k:Int)<(s.size:Int)) (h2:k<s.size) (h3:¬(↑(UInt8.toNat (s.data.toList.getD k (0:UInt8))):Int)<48) (h4:(↑(UInt8.toNat (s.data.toList.getD k (0:UInt8))):Int)>57):
  bH (aR []) (fl uR uS) (nO s k) 223 f169 true (bv false):=
 wy [ah h1,ah h2,af (aS (ab h3)),aA h3,ah h4] 5837518341367668737
def aoo (s:AT) (k:Nat) (h1:(k:Int)<(s.size:Int)) (h2:k<s.size) (h3:¬(↑(UInt8.toNat (s.data.toList.getD k (0:UInt8))):Int)<48) (h4:¬(↑(UInt8.toNat (s.data.toList.getD k (0:UInt8))):Int)>57) (h5:i6 ((k:Int)+1)):
  bg (aR []) (fl uR uS) (nO s k) 159 .normal [] (nO s (k+1)):=
 wy [ah h1,ah h2,af (aS (ab h3)),aA h3,aA h4,yi h5] 448559376110396907521
def aop (s:AT) (k:Nat) (h1:¬(k:Int)<(s.size:Int)):
  bg (aR []) (fl uR uS) (nO s k) 2 (.exit 0) [] (nO s k):=
 wy [aA h1] 1
def aoq (s:AT) (k:Nat):
  bH (aR []) ((fl uR []).drop 3) (nO s k) 1 f169 true (bv (!(decide (ak s=[])))):=
 wy [] 0
noncomputable def Wp:bp:={f:=169,ps:=[.str],rs:=[.bool],fresh:=true,pre:=fun d=>decide (d.1.size<=1000000000),fn:=fun d=>(bY (ak d.1)&&decide (0<d.1.size),())}
noncomputable def Hv:bI:=aR [Wp]
def aor (s:AT) (h1:s.size<=1000000000) (h2:(bY s.data.toList&&decide (0<s.size))=false):
  bu Hv (fl Hu []) 9 14 [sv s] 32 f120 true (bv false):=
 wy [ah h1,af (aN (h2)),af h2] 3255312513
def aos (s:AT) (h1:s.size<=1000000000) (h2:(bY s.data.toList&&decide (0<s.size))=true) (h3:(s.data).toList=((ByteArray.mk (#[(48:UInt8)])).data).toList):
  bu Hv (fl Hu []) 9 14 [sv s] 967 f120 true (bv true):=
 wy [ah h1,af (aN (h2)),af (aS (ax h3)),ah h3,af h2] 91206897977794689
def aot (s:AT) (h1:s.size<=1000000000) (h2:(bY s.data.toList&&decide (0<s.size))=true) (h3:¬(s.data).toList=((ByteArray.mk (#[(48:UInt8)])).data).toList) (h4:Int.toNat 0<s.size) (h5:((↑(UInt8.toNat (s.data.toList.getD (Int.toNat 0) (0:UInt8))):Int) != 48)=(!decide ((↑(UInt8.toNat (s.data.toList.getD 0 (0:UInt8))):Int)=48))):
  bu Hv (fl Hu []) 9 14 [sv s] 895 f120 true (bv (!(decide (((b7 s 0).toNat:Int)=48)))):=
 wy [ah h1,af (aN (h2)),af (aS (ab h3)),ah h4,aA h3,af h2,az h5] 33505088736196987199617
def pU (l:List AT) (k:Nat):bC:={n:=19,sl:=[(0, .bh false .str l),(3,iv k)],bF:=[],next:=64}
noncomputable def Bc:bI:=aR [NV]
def aou (l:List AT):
  cO Bc (fl wW []) 2 19 [.bh false .str l] 1 .normal [] (pU l 0):=
 wy [] 0
def aov (l:List AT) (k:Nat) (h1:(k:Int)<(l.length:Int)) (h2:k<l.length) (h3:(l.getD k ByteArray.empty).size<=1000000000) (h4:¬ckR (l.getD k ByteArray.empty)=0):
  bH Bc (fl wW uS) (pU l k) 7 f13 true (iv (ckR (l.getD k ByteArray.empty))):=
 wy [ah h1,ah h2,ah h3,af (e7.mpr h4)] 67903489
def aow (l:List AT) (k:Nat) (h1:(k:Int)<(l.length:Int)) (h2:k<l.length) (h3:(l.getD k ByteArray.empty).size<=1000000000) (h4:ckR (l.getD k ByteArray.empty)=0) (h5:i6 ((k:Int)+1)):
  bg Bc (fl wW uS) (pU l k) 5 .normal [] (pU l (k+1)):=
 wy [ah h1,ah h2,ah h3,af (gu.mpr h4),yi h5] 5436612609
def aox (l:List AT) (k:Nat) (h1:¬(k:Int)<(l.length:Int)):
  bg Bc (fl wW uS) (pU l k) 2 (.exit 0) [] (pU l k):=
 wy [aA h1] 1
def aoy (l:List AT) (k:Nat):
  bH Bc ((fl wW []).drop 3) (pU l k) 1 f13 true (iv 0):=
 wy [] 0
noncomputable def Wq:bp:={f:=120,ps:=[.str],rs:=[.bool],fresh:=true,pre:=fun d=>decide (d.1.size<=1000000000),fn:=fun d=>(cD d.1,())}
def js:List AT->Int
 |[]=>0
 |s::r=>if ckR s=0 then js r else ckR s
noncomputable def Wr:bp:={f:=13,ps:=[.list false .str],rs:=[.int .i64],fresh:=true,pre:=fun d=>decide (List.length (α:=AT) d.1<=1000000)&&List.all (α:=AT) d.1 fun s=>decide (s.size<=1000000000),fn:=fun d=>(js d.1,())}
def aoz (s:AT) (hl:s.size<=1000000000):Holds prog true 169 [sv s] (bv (bY (ak s)&&decide (0<s.size))):=by
 have hS:=bc;have hz:=c8 s;refine bL (c:=uR) func169 rfl rfl fun w F=> ?_
 refine cC hS 2 (aom s) ?_;refine aP.loop (ι:={k:Nat//k<=s.size/\bY ((ak s).take k)=true}) (id:=0) (b:=cat uR uS) (rest:=(fl uR []).drop 3) (by kernel_rfl) (fun k=>nO s k.1) (fun k=>s.size-k.1) ⟨0,Nat.zero_le _,by rw [List.take_zero];rfl⟩ (fun _=>rfl) ?_;rintro⟨k,hk,hd⟩;by_cases hlt:k<s.size
 .have hmem:b7 s k∈ak s:=by rw [kp (by omega)];exact List.getElem_mem _
  have hno:¬(48<=(b7 s k).toNat/\(b7 s k).toNat<=57)->bY (ak s)=false:=fun hn=>by
   rw [Bool.eq_false_iff];intro h;have:=List.all_eq_true.1 h _ hmem;rw [ae,bB,bB]at this;exact hn this
  by_cases h1:(b7 s k).toNat<48
  .rw [hno (by omega)];exact bP (s:=nO s k) hS (TO s k (by omega) hlt (by show((b7 s k).toNat:Int)<48;omega))
  .by_cases h2:57<(b7 s k).toNat
   .rw [hno (by omega)];exact bP (s:=nO s k) hS (aon s k (by omega) hlt (by show¬((b7 s k).toNat:Int)<48;omega) (by show((b7 s k).toNat:Int)>57;omega))
   .refine bl (s:=nO s k) hS (aoo s k (by omega) hlt (by show¬((b7 s k).toNat:Int)<48;omega) (by show¬((b7 s k).toNat:Int)>57;omega) (by omega)) ?_;refine⟨⟨k+1,hlt, ?_⟩,by show s.size-(k+1)<s.size-k;omega,rfl,rfl⟩;rw [GK (by omega),Hf];refine⟨hd, ?_⟩;show bY [b7 s k]=true;rw [im,ax (by omega),ax (by omega)];rfl
 .refine bl (s:=nO s k) hS (aop s k (by omega)) ?_;refine cw (cz ?_);rw [eF (by omega)]at hd;have e:(bY (ak s)&&decide (0<s.size))= !(decide (ak s=[])):=by
   rw [hd,Bool.true_and];by_cases h0:ak s=[]
   .rw [ax h0,ab (by rw [c8,h0];decide)];rfl
   .rw [ab h0,ax (by rw [c8];exact List.length_pos_iff.2 h0)];rfl
  rw [e];exact bP (s:=nO s k) hS (aoq s k)
def aoA:Wp.Ok prog:=fun⟨s,_⟩ h=>aoz s (ap h)
def aoB:bD prog (bG Hv):=cY (aX aoA eA)
def aoC (s:AT) (hl:s.size<=1000000000):Holds prog true 120 [sv s] (bv (cD s)):=by
 have hS:=aoB;refine bL (c:=Hu) func120 rfl rfl fun w F=> ?_
 cases hd:bY (ak s)&&decide (0<s.size)with
 |false=>
  have e:cD s=false:=by
   rw [Bool.eq_false_iff];intro h;obtain⟨h1,h2⟩:=wV h;rw [h1,ax h2]at hd;cases hd
  rw [e];exact bx hS 9 (aor s hl hd)
 |true=>
  have gJ:=hd;rw [ae,bB]at gJ;by_cases hz:ak s=[48]
  .have e:cD s=true:=by
    unfold cD;have h1:s.size=1:=by rw [c8,hz];rfl
    rw [gJ.1,ax gJ.2,ax (show s.size<=1 by omega)];rfl
   rw [e];exact bx hS 9 (aos s hl hd hz)
  .have e:cD s= !(decide (((b7 s 0).toNat:Int)=48)):=by
    unfold cD;rw [gJ.1,ax gJ.2,Bool.true_and,Bool.and_true];by_cases h1:s.size<=1
    .rw [ax h1,Bool.true_or];have h48:¬((b7 s 0).toNat:Int)=48:=fun h=>hz (by
      obtain⟨b,hb⟩:∃b,ak s=[b]:=List.length_eq_one_iff.1 (by rw [<-c8];omega);have h2:(b.toNat:Int)=48:=by
       have h3:(((ak s).getD 0 0).toNat:Int)=48:=h;rw [hb]at h3;exact h3
      rw [hb];congr 1;exact UInt8.toNat_inj.1 (by show b.toNat=48;omega))
     rw [ab h48];rfl
    .rw [ab h1,Bool.false_or];congr 1;by_cases h4:(b7 s 0).toNat=48
     .rw [ax h4,ax (by omega)]
     .rw [ab h4,ab (by omega)]
   rw [e];exact bx hS 9 (aot s hl hd hz (by show 0<s.size;exact gJ.2) rfl)
def aoD:Wq.Ok prog:=fun⟨s,_⟩ h=>aoC s (ap h)
def aoE:bD prog (bG Bc):=cY (aX Wm eA)
attribute [local irreducible] ckR
def aoF (l:List AT) (hn:l.length<=1000000) (hl:∀s∈l,s.size<=1000000000):Holds prog true 13 [.bh false .str l] (iv (js l)):=by
 have hS:=aoE;obtain⟨E,hE⟩:∃E,js l=E:=⟨_,rfl⟩;rw [hE];refine bL (c:=wW) func13 rfl rfl fun w F=> ?_
 refine cC hS 2 (aou l) ?_;refine aP.loop (ι:={k:Nat//k<=l.length/\js (l.drop k)=E}) (id:=0) (b:=cat wW uS) (rest:=(fl wW []).drop 3) (by kernel_rfl) (fun k=>pU l k.1) (fun k=>l.length-k.1) ⟨0,Nat.zero_le _,hE⟩ (fun _=>rfl) ?_;rintro⟨k,hk,hd⟩;have hd:js (l.drop k)=E:=hd;by_cases hlt:k<l.length
 .have eg:l.getD k ByteArray.empty=l[k]:=by simp [ao,hlt]
  have hsz:(l.getD k ByteArray.empty).size<=1000000000:=by rw [eg];exact hl _ (List.getElem_mem _)
  rw [List.drop_eq_getElem_cons hlt,<-eg]at hd;have aoG:∀(s:AT) (r:List AT),js (s::r)=if ckR s=0 then js r else ckR s:=fun _ _=>rfl
  rw [aoG]at hd;by_cases h0:ckR (l.getD k ByteArray.empty)=0
  .rw [if_pos h0]at hd;refine bl (s:=pU l k) hS (aow l k (by omega) hlt hsz h0 (by omega)) ?_;exact⟨⟨k+1,hlt,hd⟩,by show l.length-(k+1)<l.length-k;omega,rfl,rfl⟩
  .rw [if_neg h0]at hd;subst hd;exact bP (s:=pU l k) hS (aov l k (by omega) hlt hsz h0)
 .refine bl (s:=pU l k) hS (aox l k (by omega)) ?_;refine cw (cz ?_);rw [List.drop_eq_nil_of_le (by omega)]at hd;subst hd;exact bP (s:=pU l k) hS (aoy l k)
def aoH:Wr.Ok prog:=fun⟨l,_⟩ h=>by
 have h:(decide (List.length (α:=AT) l<=1000000)&&List.all (α:=AT) l fun s=>decide (s.size<=1000000000))=true:=h;rw [ae,bB]at h;exact aoF l h.1 fun s hs=>ap (List.all_eq_true.1 h.2 s hs)
end
noncomputable section
noncomputable def N0:Code:=(f218.body).getD .skip
noncomputable def N1:Code:=(f168.body).getD .skip
noncomputable def Ws:Code:=(f119.body).getD .skip
def aoI (s:AT) (h1:¬(s.size:Int)>=(↑(ByteArray.mk (#[(45:UInt8)])).size:Int)):
  bu (aR []) (fl N0 []) 9 18 [sv s,sv e4] 128 f218 true (bv false):=
 wy [af (aN (ab h1)),aA h1] 138529738817
def aoJ (s:AT) (h1:(s.size:Int)>=(↑(ByteArray.mk (#[(45:UInt8)])).size:Int)) (h2:(ByteArray.mk (#[(45:UInt8)])).size<=s.size) (h3:(decide ((s.extract 0 (ByteArray.mk (#[(45:UInt8)])).size).data.toList=((ByteArray.mk (#[(45:UInt8)])).data).toList))=(bZ s)):
  bu (aR []) (fl N0 []) 9 18 [sv s,sv e4] 255 f218 true (bv (bZ s)):=
 wy [af (aN (ax h1)),ah h2,ah h1,az h3] 4666015224418275393
noncomputable def Hw:bp:={f:=218,ps:=[.str, .str],rs:=[.bool],fresh:=true,pre:=fun d=>decide (d.2.1=e4),fn:=fun d=>(bZ d.1,())}
noncomputable def N2:bp:={f:=168,ps:=[.str, .str],rs:=[.str, .bool],fresh:=true,pre:=fun d=>decide (d.2.1=e4),fn:=fun d=>(bQ d.1,bZ d.1,())}
noncomputable def Wt:bp:={f:=119,ps:=[.str, .str],rs:=[.str, .bool],fresh:=true,pre:=fun d=>decide (d.2.1=e4),fn:=fun d=>(bQ d.1,bZ d.1,())}
def aoK (s:AT) (h1:(ByteArray.mk (#[(45:UInt8)]))=(ByteArray.mk (#[(45:UInt8)]))) (h2:(bZ s)=false):
  bu (aR [Hw]) (fl N1 []) 9 15 [sv s,sv e4] 3 f168 true (.tuple [sv s,bv false]):=
 wy [ah h1,af (cn (h2))] 129
def aoL (s:AT) (h1:(ByteArray.mk (#[(45:UInt8)]))=(ByteArray.mk (#[(45:UInt8)]))) (h2:(bZ s)=true) (h3:(ByteArray.mk (#[(45:UInt8)])).size<=s.size) (h4:(s.extract (ByteArray.mk (#[(45:UInt8)])).size s.size)=(s.extract 1 s.size)):
  bu (aR [Hw]) (fl N1 []) 9 15 [sv s,sv e4] 2 f168 true (.tuple [sv (s.extract 1 s.size),bv true]):=
 wy [ah h1,af (cn (h2)),ah h3,ah (by omega:s.size<=s.size),az h4] 5436604545
def aoM (s:AT) (h1:(ByteArray.mk (#[(45:UInt8)]))=(ByteArray.mk (#[(45:UInt8)]))):
  bu (aR [N2]) (fl Ws []) 9 11 [sv s,sv e4] 1 f119 true (.tuple [sv (bQ s),bv (bZ s)]):=
 wy [ah h1] 1
noncomputable def N3:Code:=(f123.body).getD .skip
def aoN (z:Int):
  bu (aR []) (fl N3 []) 9 (f123.ntmps) [aJ (z,[])] 1 f123 true (.tuple [iv z,bv true]):=
 wy [af (aV (v:=iv (z))),af (aV (v:=aa.bh true aD []))] 129
def aoO (z x:Int) (r:List Int) (h1:(x::r).isEmpty=false):
  bu (aR []) (fl N3 []) 9 (f123.ntmps) [aJ (z,x::r)] 1 f123 true (.tuple [iv z,bv false]):=
 wy [af (aV (v:=iv (z))),af (aV (v:=aa.bh true aD (x::r))),az (aN (h1))] 786561
def aoP (s:AT):Holds prog true 218 [sv s,sv e4] (bv (bZ s)):=by
 have cQ:(ByteArray.mk (#[(45:UInt8)])).size=1:=rfl;refine bL (c:=N0) func218 rfl rfl fun w F=> ?_
 by_cases h0:0<s.size
 .refine bx bc 9 (aoJ s (by rw [cQ];omega) (by rw [cQ];omega) ?_);rw [cQ,show Array.toList (s.extract 0 1).data=(ak s).take 1 from by rw [show Array.toList (s.extract 0 1).data=ak (s.extract 0 1)from rfl,lZ,List.drop_zero]];show decide ((ak s).take 1=[45])=bZ s;unfold bZ;rw [ax h0,Bool.true_and];cases hb:ak s with
  |nil=>rw [c8,hb]at h0;cases h0
  |cons b r=>
   have e0:b7 s 0=b:=by show(ak s).getD 0 0=b;rw [hb];rfl
   rw [e0];show decide ([b]=[45])=_;by_cases h:b.toNat=45
   .have:b=45:=UInt8.toNat_inj.1 h;subst this;rfl
   .rw [ab h,ab (fun e=>h (by rw [(List.cons.inj e).1];rfl))]
 .have e:bZ s=false:=by unfold bZ;rw [ab h0];rfl
  rw [e];exact bx bc 9 (aoI s (by rw [cQ];omega))
def aoQ:Hw.Ok prog:=fun⟨s,p,_⟩ h=>by
 have h:decide (p=e4)=true:=h;rw [ap h];exact aoP s
def aoR (s:AT):Holds prog true 168 [sv s,sv e4] (.tuple [sv (bQ s),bv (bZ s)]):=by
 have hS:bD prog (bG (aR [Hw])):=cY fun c hc=>by rw [List.mem_singleton.1 hc];exact aoQ
 refine bL (c:=N1) func168 rfl rfl fun w F=> ?_
 cases hn:bZ s with
 |true=>
  have e:bQ s=s.extract 1 s.size:=by unfold bQ;rw [hn]
  have h0:0<s.size:=by unfold bZ at hn;rw [ae,bB]at hn;exact hn.1
  rw [e];exact bx hS 9 (aoL s rfl hn (by show 1<=s.size;omega) rfl)
 |false=>
  have e:bQ s=s:=by unfold bQ;rw [hn]
  rw [e];exact bx hS 9 (aoK s rfl hn)
def aoS:N2.Ok prog:=fun⟨s,p,_⟩ h=>by
 have h:decide (p=e4)=true:=h;rw [ap h];exact aoR s
def aoT:Wt.Ok prog:=fun⟨s,p,_⟩ h=>by
 have h:decide (p=e4)=true:=h;rw [ap h];have hS:bD prog (bG (aR [N2])):=cY fun c hc=>by rw [List.mem_singleton.1 hc];exact aoS
 refine bL (c:=Ws) func119 rfl rfl fun w F=> ?_
 exact bx hS 9 (aoM s rfl)
noncomputable def iG:Code:=(f54.body).getD .skip
def DK (l:List Int):Bool:=List.isEmpty l
noncomputable def Wu:bp:={f:=123,ps:=[dR],rs:=[.int .i64, .bool],fresh:=true,pre:=fun d=>true,fn:=fun d=>(d.1.1,DK d.1.2,())}
noncomputable def jt:bI:=aR [LX,Wt,Wq,LW,F5,Wu]
def c6 (u d:AT) (fr cP:Bool):bC:={n:=71,sl:=[(4,sv d),(5,bv fr),(6,sv u),(7,bv cP)],bF:=[],next:=64}
def H4 (s:AT) (h1:(sx s)=true) (h2:(ByteArray.mk (#[(45:UInt8)]))=(ByteArray.mk (#[(45:UInt8)]))):
  cO jt (fl iG []) 3 71 [sv s] 1 .normal [] (c6 (bQ (iV s iD)) (sw s iD) (ox s iD) (bZ (iV s iD))):=
 wy [af h1,ah h2] 129
def aoU (u d:AT) (fr cP:Bool) (h1:u.size<=1000000000) (h2:(cD u)=false):
  bH jt ((fl iG []).drop 3) (c6 u d fr cP) 904 f54 true (iv 1):=
 wy [ah h1,af (aS (cn (h2))),af (cn (h2))] 50864257
def aoV (u d:AT) (fr:Bool) (h1:u.size<=1000000000) (h2:(cD u)=true) (h3:(u.data).toList=((ByteArray.mk (#[(48:UInt8)])).data).toList):
  bH jt ((fl iG []).drop 3) (c6 u d fr true) 7231 f54 true (iv 1):=
 wy [ah h1,af (aS (cn (h2))),af (cn (h2)),af (aS (ax h3)),ah h3] 373619764182850216065
def aoW (u d:AT) (h1:u.size<=1000000000) (h2:(cD u)=true):
  dD jt ((fl iG []).drop 3) 2 (c6 u d false false) 1114515 .normal [] (c6 u d false false):=
 wy [ah h1,af (aS (cn (h2))),af (cn (h2))] 13196287025281
def aoX (u d:AT) (h1:u.size<=1000000000) (h2:(cD u)=true) (h3:d.size<=1000000000) (h4:(cD d)=false):
  bH jt ((fl iG []).drop 3) (c6 u d true false) 116629395 f54 true (iv 1):=
 wy [ah h1,af (aS (cn (h2))),af (cn (h2)),ah h3,af (aS (cn (h4))),af (cn (h4))] 1947513652482217575232953206710401
def aoY (u d:AT) (h1:u.size<=1000000000) (h2:(cD u)=true) (h3:d.size<=1000000000) (h4:(cD d)=true) (h5:(d.data).toList=((ByteArray.mk (#[(48:UInt8)])).data).toList):
  bH jt ((fl iG []).drop 3) (c6 u d true false) 116588435 f54 true (iv 1):=
 wy [ah h1,af (aS (cn (h2))),af (cn (h2)),ah h3,af (aS (cn (h4))),af (cn (h4)),af (aS (ax h5)),ah h5] 2788197950501923681896353591526425951740033
def T0 (u d:AT) (h1:u.size<=1000000000) (h2:(cD u)=true) (h3:d.size<=1000000000) (h4:(cD d)=true) (h5:¬(d.data).toList=((ByteArray.mk (#[(48:UInt8)])).data).toList) (h6:(d.data).toList=((ByteArray.mk (#[(49:UInt8)])).data).toList):
  bH jt ((fl iG []).drop 3) (c6 u d true false) 115277715 f54 true (iv 1):=
 wy [ah h1,af (aS (cn (h2))),af (cn (h2)),ah h3,af (aS (cn (h4))),af (cn (h4)),af (aS (ab h5)),aA h5,ah h6] 52614061732110455557256335874139780234039523287169
def aoZ (u d:AT) (h1:u.size<=1000000000) (h2:(cD u)=true) (h3:d.size<=1000000000) (h4:(cD d)=true) (h5:¬(d.data).toList=((ByteArray.mk (#[(48:UInt8)])).data).toList) (h6:¬(d.data).toList=((ByteArray.mk (#[(49:UInt8)])).data).toList):
  dD jt ((fl iG []).drop 3) 2 (c6 u d true false) 81723283 .normal [] (c6 u d true false):=
 wy [ah h1,af (aS (cn (h2))),af (cn (h2)),ah h3,af (aS (cn (h4))),af (cn (h4)),af (aS (ab h5)),aA h5,aA h6] 52614061732110455557256335874139780234039523287169
def ao0 (u d:AT) (h1:u.size<=1000000000) (h2:(cD u)=true) (h3:¬(u.data).toList=((ByteArray.mk (#[(48:UInt8)])).data).toList):
  dD jt ((fl iG []).drop 3) 2 (c6 u d false true) 1114559 .normal [] (c6 u d false true):=
 wy [ah h1,af (aS (cn (h2))),af (cn (h2)),af (aS (ab h3)),aA h3] 103866219580300204314230564067483777
def ao1 (u d:AT) (h1:u.size<=1000000000) (h2:(cD u)=true) (h3:¬(u.data).toList=((ByteArray.mk (#[(48:UInt8)])).data).toList) (h4:d.size<=1000000000) (h5:(cD d)=false):
  bH jt ((fl iG []).drop 3) (c6 u d true true) 116629439 f54 true (iv 1):=
 wy [ah h1,af (aS (cn (h2))),af (cn (h2)),af (aS (ab h3)),ah h4,af (aS (cn (h5))),af (cn (h5)),aA h3] 730840021646247853707080807151523503615250538625
def ao2 (u d:AT) (h1:u.size<=1000000000) (h2:(cD u)=true) (h3:¬(u.data).toList=((ByteArray.mk (#[(48:UInt8)])).data).toList) (h4:d.size<=1000000000) (h5:(cD d)=true) (h6:(d.data).toList=((ByteArray.mk (#[(48:UInt8)])).data).toList):
  bH jt ((fl iG []).drop 3) (c6 u d true true) 116588479 f54 true (iv 1):=
 wy [ah h1,af (aS (cn (h2))),af (cn (h2)),af (aS (ab h3)),ah h4,af (aS (cn (h5))),af (cn (h5)),af (aS (ax h6)),ah h6,aA h3] 913530863046102819659576943611420643593858064513
def ao3 (u d:AT) (h1:u.size<=1000000000) (h2:(cD u)=true) (h3:¬(u.data).toList=((ByteArray.mk (#[(48:UInt8)])).data).toList) (h4:d.size<=1000000000) (h5:(cD d)=true) (h6:¬(d.data).toList=((ByteArray.mk (#[(48:UInt8)])).data).toList) (h7:(d.data).toList=((ByteArray.mk (#[(49:UInt8)])).data).toList):
  bH jt ((fl iG []).drop 3) (c6 u d true true) 115277759 f54 true (iv 1):=
 wy [ah h1,af (aS (cn (h2))),af (cn (h2)),af (aS (ab h3)),ah h4,af (aS (cn (h5))),af (cn (h5)),af (aS (ab h6)),aA h6,aA h3,ah h7] 65219602905605831220621709583127873508454889955457
def ao4 (u d:AT) (h1:u.size<=1000000000) (h2:(cD u)=true) (h3:¬(u.data).toList=((ByteArray.mk (#[(48:UInt8)])).data).toList) (h4:d.size<=1000000000) (h5:(cD d)=true) (h6:¬(d.data).toList=((ByteArray.mk (#[(48:UInt8)])).data).toList) (h7:¬(d.data).toList=((ByteArray.mk (#[(49:UInt8)])).data).toList):
  dD jt ((fl iG []).drop 3) 2 (c6 u d true true) 81723327 .normal [] (c6 u d true true):=
 wy [ah h1,af (aS (cn (h2))),af (cn (h2)),af (aS (ab h3)),ah h4,af (aS (cn (h5))),af (cn (h5)),af (aS (ab h6)),aA h6,aA h3,aA h7] 65219602905605831220621709583127873508454889955457
def ao5 (u d:AT) (fr cP:Bool) (h1:(u.size:Int)>600):
  bH jt ((fl iG []).drop 5) (c6 u d fr cP) 56 f54 true (iv 4):=
 wy [af (aS (ax h1)),ah h1] 528449
def ao6 (u d:AT) (fr cP:Bool) (h1:¬(u.size:Int)>600) (h2:(d.size:Int)>600):
  bH jt ((fl iG []).drop 5) (c6 u d fr cP) 55 f54 true (iv 4):=
 wy [af (aS (ab h1)),aA h1,ah h2] 50860097
def ao7 (u d:AT) (fr cP:Bool) (h1:¬(u.size:Int)>600) (h2:¬(d.size:Int)>600):
  dD jt ((fl iG []).drop 5) 2 (c6 u d fr cP) 39 .normal [] (c6 u d fr cP):=
 wy [af (aS (ab h1)),aA h1,aA h2] 50860097
def ao8 (u d:AT) (cP:Bool):
  bH jt ((fl iG []).drop 7) (c6 u d false cP) 2 f54 true (iv 0):=
 wy [] 0
def ao9 (u d:AT) (cP:Bool) (h1:(jG u)=true) (h2:(jG d)=true) (h3:(aH (fJ u)&&aH (fJ d))=true) (h4:(DK (dT (fJ u) (fJ d)).2)=false):
  bH jt ((fl iG []).drop 7) (c6 u d true cP) 57 f54 true (iv 1):=
 wy [af h1,af h2,af h3,af (aS (cn (h4))),af (cn (h4))] 22269406224448
def apa (u d:AT) (cP:Bool) (h1:(jG u)=true) (h2:(jG d)=true) (h3:(aH (fJ u)&&aH (fJ d))=true) (h4:(DK (dT (fJ u) (fJ d)).2)=true) (h5:¬(dT (fJ u) (fJ d)).1=1):
  bH jt ((fl iG []).drop 7) (c6 u d true cP) 55 f54 true (iv 1):=
 wy [af h1,af h2,af h3,af (aS (cn (h4))),af (cn (h4)),af (e7.mpr h5)] 1711119266488384
def apb (u d:AT) (cP:Bool) (h1:(jG u)=true) (h2:(jG d)=true) (h3:(aH (fJ u)&&aH (fJ d))=true) (h4:(DK (dT (fJ u) (fJ d)).2)=true) (h5:(dT (fJ u) (fJ d)).1=1):
  bH jt ((fl iG []).drop 7) (c6 u d true cP) 39 f54 true (iv 0):=
 wy [af h1,af h2,af h3,af (aS (cn (h4))),af (cn (h4)),af (gu.mpr h5)] 1711119266488384
def Pi:Wu.Ok prog:=fun⟨⟨z,l⟩,_⟩ _=>by
 show Holds prog true 123 [aJ (z,l)] (.tuple [iv z,bv (DK l)]);refine bL (c:=N3) func123 rfl rfl fun w F=> ?_
 cases l with
 |nil=>exact bx bc 9 (aoN z)
 |cons x r=>exact bx bc 9 (aoO z x r rfl)
end
def N4:∀l:List UInt8,(∀b∈l.take (bk l),b≠47)/\(bk l<l.length->l=l.take (bk l)++47::l.drop (bk l+1))
 |[]=>⟨fun b h=>(by cases h),fun h=>(by cases h)⟩
 |b::r=>by
  obtain⟨h1,h2⟩:=N4 r;by_cases hb:b.toNat=47
  .have e:bk (b::r)=0:=by unfold bk;rw [if_pos hb]
   have apc:b=47:=UInt8.toNat_inj.1 hb;rw [e];exact⟨fun c h=>(by cases h),fun _=>(by rw [apc];rfl)⟩
  .have e:bk (b::r)=bk r+1:=by show(if b.toNat=47 then 0 else bk r+1)=_;rw [if_neg hb]
   rw [e];refine⟨fun c h=> ?_,fun h=> ?_⟩
   .rw [List.take_succ_cons]at h;rcases ep.1 h with rfl |h
    .exact fun e=>hb (by rw [e];rfl)
    .exact h1 c h
   .have h:=h2 (by rw [List.length_cons]at h;omega);rw [List.take_succ_cons,List.drop_succ_cons,List.cons_append];exact congrArg (b:: ·) h
def N5 (l:List UInt8):Lib.cut l [47]=(l.take (bk l),l.drop (bk l+1),decide (bk l<l.length)):=by
 obtain⟨h1,h2⟩:=N4 l;by_cases h:bk l<l.length
 .have e:=h2 h;have key:=VK (l:=l.take (bk l)) (r:=l.drop (bk l+1)) h1;rw [<-e]at key;rw [key,ax h]
 .have hl:l.length<=bk l:=by omega
  rw [eF hl]at h1 ⊢;rw [VJ h1,List.drop_eq_nil_of_le (by omega),ab h]
def Wv {s:AT} (h:bY (ak s)=true):∀k,k<=(ak s).length->Lib.decFrom 0 ((ak s).take k)=some (bt ((ak s).take k)).toNat
 |0,_=>by rw [List.take_zero];rfl
 |k+1,hk=>by
  have ih:=Wv h k (by omega);have hv:=A0 h k (by omega);have hm:b7 s k∈ak s:=by rw [kp (by omega)];exact List.getElem_mem _
  have hb:=List.all_eq_true.1 h _ hm;rw [ae,bB,bB]at hb;have eb:b7 s k=UInt8.ofNat (48+((b7 s k).toNat-48)):=by
   rw [show 48+((b7 s k).toNat-48)=(b7 s k).toNat by omega];simp
  have key:=Dec.L1 _ 0 _ ((b7 s k).toNat-48) (by omega) ih;rw [<-eb]at key;have et:(ak s).take (k+1)=(ak s).take k++[b7 s k]:=GK (by omega);rw [MD (by omega),et,key];congr 1;omega
def Ww {s:AT} (h:bY (ak s)=true):Lib.decFrom 0 (ak s)=some (bt (ak s)).toNat:=by
 have:=Wv h (ak s).length (aG _);rw [dI]at this;exact this
def N6 (s:AT):ak (iV s iD)=(ak s).take (bk (ak s)):=by
 show(Lib.cut (ak s) [47]).1=_;rw [N5]
def LO (s:AT):ak (sw s iD)=(ak s).drop (bk (ak s)+1):=by
 show(Lib.cut (ak s) [47]).2.1=_;rw [N5]
def Wx (s:AT):ox s iD=decide (bk (ak s)<(ak s).length):=by
 show(Lib.cut (ak s) [47]).2.2=_;rw [N5]
def DL (s:AT):(bZ s=true/\ak s=45::ak (bQ s))\/(bZ s=false/\bQ s=s/\∀b r,ak s=b::r->b.toNat≠45):=by
 cases hn:bZ s with
 |true=>
  left;refine⟨rfl, ?_⟩;have e:bQ s=s.extract 1 s.size:=by unfold bQ;rw [hn]
  unfold bZ at hn;rw [ae,bB,bB]at hn;rw [e,lZ,c8,dI];cases hb:ak s with
  |nil=>rw [c8,hb]at hn;exact absurd hn.1 (by decide)
  |cons b r=>
   have h2:(b7 s 0).toNat=45:=hn.2;have h3:b7 s 0=b:=by show(ak s).getD 0 0=b;rw [hb];rfl
   rw [h3]at h2;have:b=45:=UInt8.toNat_inj.1 h2;rw [this];rfl
 |false=>
  right;refine⟨rfl,by unfold bQ;rw [hn],fun b r hb h=> ?_⟩;have h3:b7 s 0=b:=by show(ak s).getD 0 0=b;rw [hb];rfl
  unfold bZ at hn;rw [ax (by rw [c8,hb];exact Nat.succ_pos _),h3,ax h]at hn;cases hn
def apd {s:AT} (h:∀b r,ak s=b::r->b.toNat≠45):bZ s=false/\bQ s=s:=by
 rcases DL s with⟨_,h2⟩|⟨h1,h2,_⟩
 .exact absurd rfl (h 45 _ h2)
 .exact⟨h1,h2⟩
def ape (s:AT):bQ (iV s iD)=(bQ s).extract 0 (bk (ak (bQ s)))/\sw s iD=(bQ s).extract (bk (ak (bQ s))+1) (bQ s).size/\ox s iD=decide (bk (ak (bQ s))<(bQ s).size)/\bZ (iV s iD)=bZ s:=by
 rcases DL s with⟨h1,h2⟩|⟨h1,h2,h3⟩
 .have hk:bk (ak s)=bk (ak (bQ s))+1:=by
   rw [h2];show(if(45:UInt8).toNat=47 then 0 else bk (ak (bQ s))+1)=_;rw [if_neg (by decide)]
  have ha:ak (iV s iD)=45::(ak (bQ s)).take (bk (ak (bQ s))):=by rw [N6,hk,h2,List.take_succ_cons]
  rcases DL (iV s iD)with⟨g1,g2⟩|⟨_,_,g3⟩
  .rw [ha]at g2;refine⟨iW ?_,iW ?_, ?_,by rw [g1,h1]⟩
   .show ak _=ak _;rw [lZ,List.drop_zero];exact(List.cons.inj g2).2.symm
   .show ak _=ak _;rw [LO,lZ,c8,dI,hk,h2,List.drop_succ_cons]
   .rw [Wx,hk,h2,c8,List.length_cons];by_cases h:bk (ak (bQ s))<(ak (bQ s)).length
    .rw [ax h,ax (by omega)]
    .rw [ab h,ab (by omega)]
  .exact absurd rfl (g3 45 _ ha)
 .have hp:bZ (iV s iD)=false/\bQ (iV s iD)=iV s iD:=apd fun b r hb=>by
   rw [N6]at hb;cases hc:ak s with
   |nil=>rw [hc]at hb;rw [List.take_nil]at hb;cases hb
   |cons c t=>
    have h4:=h3 c t hc;rw [hc]at hb;cases hm:bk (c::t)with
    |zero=>rw [hm]at hb;cases hb
    |succ m=>
     rw [hm,List.take_succ_cons]at hb;rw [<-(List.cons.inj hb).1];exact h4
  rw [hp.1,hp.2,h1,h2];refine⟨iW ?_,iW ?_, ?_,rfl⟩
  .show ak _=ak _;rw [N6,lZ,List.drop_zero]
  .show ak _=ak _;rw [LO,lZ,c8,dI]
  .rw [Wx,c8]
noncomputable section
noncomputable def N7:bp:={f:=54,ps:=[.str],rs:=[.int .i64],fresh:=true,pre:=fun d=>decide (d.1.size<=1000000000),fn:=fun d=>(ckR d.1,())}
--{
def N8:bD prog (bG jt):=cY (aX Tx (aX aoT (aX aoD (aX Tu (aX x5 (aX Pi eA))))))
def Wy {u:AT} (h:bY (ak u)=true):Lib.hasPrefix (ak u) [45]=false:=Dec.TB _ fun b hb=>by
 have:=List.all_eq_true.1 h b hb;rw [ae,bB,bB]at this;exact this
def Wz:∀n:Nat,(10:Int)^n<=18446744073709551616^n
 |0=>by simp
 |n+1=>by
  rw [Int.pow_succ,Int.pow_succ];have h1:=Wz n;have h2:=dK (b:=10) (by decide) n;omega
def WA {u:AT} (h:bY (ak u)=true) (hl:u.size<=600):jG u=true/\fJ u=aY (bt (ak u))/\aH (aY (bt (ak u)))=true/\au (aY (bt (ak u)))=bt (ak u):=by
 have hb:=uJ h;have e1:(qQ u e4).data.toList=ak u:=by
  show Lib.trimPrefix (ak u) [45]=ak u;unfold Lib.trimPrefix;rw [Wy h];rfl
 have e2:uv u=bt (ak u):=by
  unfold uv;rw [e1,Ww h];show((bt (ak u)).toNat:Int)=_;omega
 have e3:wn u=bt (ak u):=by
  unfold wn;rw [show pJ u e4=false from Wy h,e2];rfl
 have h0:((bt (ak u)).natAbs:Int)<18446744073709551616^u.size:=by
  have h1:=Wz u.size;omega
 obtain⟨m1,m2⟩:=kZ (n:=100000) (Int.lt_of_lt_of_le h0 (iQ (by decide) (by omega)));refine⟨?_,by unfold fJ;rw [e3],m1,m2⟩;unfold jG;rw [e1,Ww h,e2];exact m1
def DM (u d:AT) (fr cP:Bool):Int:=
 if cD u=false then 1
 else if cP=true/\ak u=[48]then 1
 else if fr=true/\(cD d=false\/ak d=[48]\/ak d=[49])then 1
 else if 600<u.size\/600<d.size then 4
 else if fr=true/\Int.gcd (bt (ak u)) (bt (ak d))≠1 then 1
 else 0
def apf {t:AT} {k:Nat} {cP:Bool} (hk:k<=t.size):DM (t.extract 0 k) (t.extract (k+1) t.size) (decide (k<t.size)) cP=Bb cP t k:=by
 have cQ:=lf t 0 k hk;have z2:=lf t (k+1) t.size (aG _);unfold DM Bb;simp only [bB];have e:(600<(t.extract 0 k).size\/600<(t.extract (k+1) t.size).size)↔(600<k\/601+k<t.size):=by omega
 simp only [e]
def Hx (u d:AT) (fr cP:Bool) (hu:bY (ak u)=true) (hd:fr=true->bY (ak d)=true) (w:World) (F:Sv.Env):
  aP prog w F 71 ((fl iG []).drop 5) (c6 u d fr cP).T (c6 u d fr cP).H (fy prog true f54 (iv (if 600<u.size\/600<d.size then 4 else if fr=true/\Int.gcd (bt (ak u)) (bt (ak d))≠1 then 1 else 0))):=by
 have hS:=N8;by_cases h1:600<u.size
 .rw [if_pos (.inl h1)];exact bP (s:=c6 u d fr cP) hS (ao5 u d fr cP (by omega))
 .by_cases h2:600<d.size
  .rw [if_pos (.inr h2)];exact bP (s:=c6 u d fr cP) hS (ao6 u d fr cP (by omega) (by omega))
  .rw [if_neg (by omega)];refine dZ (s:=c6 u d fr cP) hS 2 (ao7 u d fr cP (by omega) (by omega)) ?_;cases fr with
   |false=>
    rw [if_neg (fun h=>by cases h.1)];exact bP (s:=c6 u d false cP) hS (ao8 u d cP)
   |true=>
    obtain⟨a1,a2,a3,a4⟩:=WA hu (by omega);obtain⟨b1,b2,b3,b4⟩:=WA (hd rfl) (by omega);have k1:=ao9 u d cP a1 b1;have k2:=apa u d cP a1 b1;have dF:=apb u d cP a1 b1;rw [a2,b2]at k1 k2 dF;have hg:dT (aY (bt (ak u))) (aY (bt (ak d)))=aY (Int.gcd (bt (ak u)) (bt (ak d))):=by unfold dT;rw [a4,b4]
    have hg':dT ((aY (bt (ak u))).1,(aY (bt (ak u))).2) ((aY (bt (ak d))).1,(aY (bt (ak d))).2)=aY (Int.gcd (bt (ak u)) (bt (ak d))):=hg;rw [hg']at k1 k2 dF;have kn:=dc a3 b3;generalize Int.gcd (bt (ak u)) (bt (ak d))=g at*;by_cases qh:g=1
    .rw [if_neg (fun h=>h.2 qh)];have em:aY ((g:Nat):Int)=(1,[]):=by rw [qh];exact rT (by decide)
     rw [em]at dF;exact bP (s:=c6 u d true cP) hS (dF kn rfl rfl)
    .rw [if_pos ⟨rfl,qh⟩];by_cases kP:(-9223372036854775807:Int)<=(g:Int)/\(g:Int)<=9223372036854775807
     .have em:aY ((g:Nat):Int)=((g:Int),[]):=rT kP;rw [em]at k2;exact bP (s:=c6 u d true cP) hS (k2 kn rfl (by show¬(g:Int)=1;omega))
     .have em:aY ((g:Nat):Int)=(if(g:Int)<0 then-1 else 1,cM 18446744073709551616 (g:Int).natAbs):=by unfold aY;rw [if_neg kP]
      rw [em]at k1;refine bP (s:=c6 u d true cP) hS (k1 kn ?_);show List.isEmpty (cM 18446744073709551616 ((g:Int).natAbs:Int))=false;have hne:=Af (b:=18446744073709551616) (by decide) (show(0:Int)<((g:Int).natAbs:Int) by omega);cases hc:cM 18446744073709551616 ((g:Int).natAbs:Int)with
      |nil=>exact absurd hc hne
      |cons x r=>rfl
def apg (u d:AT) (fr cP:Bool) (fD:u.size<=1000000000) (wX:d.size<=1000000000) (w:World) (F:Sv.Env):
  aP prog w F 71 ((fl iG []).drop 3) (c6 u d fr cP).T (c6 u d fr cP).H (fy prog true f54 (iv (DM u d fr cP))):=by
 have hS:=N8;unfold DM;cases ha:cD u with
 |false=>
  rw [if_pos rfl];exact bP (s:=c6 u d fr cP) hS (aoU u d fr cP fD ha)
 |true=>
  rw [if_neg (by decide)];have du:=(wV ha).1;by_cases hz:cP=true/\ak u=[48]
  .rw [if_pos hz];obtain⟨rfl,h48⟩:=hz;exact bP (s:=c6 u d fr true) hS (aoV u d fr fD ha h48)
  .rw [if_neg hz];cases fr with
   |false=>
    rw [if_neg (fun h=>by cases h.1)];cases cP with
    |false=>
     refine dZ (s:=c6 u d false false) hS 2 (aoW u d fD ha) ?_;exact Hx u d false false du (fun h=>by cases h) w F
    |true=>
     refine dZ (s:=c6 u d false true) hS 2 (ao0 u d fD ha (fun h=>hz ⟨rfl,h⟩)) ?_;exact Hx u d false true du (fun h=>by cases h) w F
   |true=>
    cases hb:cD d with
    |false=>
     rw [if_pos ⟨rfl, .inl rfl⟩];cases cP with
     |false=>exact bP (s:=c6 u d true false) hS (aoX u d fD ha wX hb)
     |true=>exact bP (s:=c6 u d true true) hS (ao1 u d fD ha (fun h=>hz ⟨rfl,h⟩) wX hb)
    |true=>
     have dd:=(wV hb).1;by_cases h8:ak d=[48]
     .rw [if_pos ⟨rfl, .inr (.inl h8)⟩];cases cP with
      |false=>exact bP (s:=c6 u d true false) hS (aoY u d fD ha wX hb h8)
      |true=>exact bP (s:=c6 u d true true) hS (ao2 u d fD ha (fun h=>hz ⟨rfl,h⟩) wX hb h8)
     .by_cases h9:ak d=[49]
      .rw [if_pos ⟨rfl, .inr (.inr h9)⟩];cases cP with
       |false=>exact bP (s:=c6 u d true false) hS (T0 u d fD ha wX hb h8 h9)
       |true=>exact bP (s:=c6 u d true true) hS (ao3 u d fD ha (fun h=>hz ⟨rfl,h⟩) wX hb h8 h9)
      .rw [if_neg (fun h=>by
        rcases h.2 with h|h|h
        .cases h
        .exact h8 h
        .exact h9 h)]
       cases cP with
       |false=>
        refine dZ (s:=c6 u d true false) hS 2 (aoZ u d fD ha wX hb h8 h9) ?_;exact Hx u d true false du (fun _=>dd) w F
       |true=>
        refine dZ (s:=c6 u d true true) hS 2 (ao4 u d fD ha (fun h=>hz ⟨rfl,h⟩) wX hb h8 h9) ?_;exact Hx u d true true du (fun _=>dd) w F
def H5 (s:AT) (hl:s.size<=1000000000):Holds prog true 54 [sv s] (iv (ckR s)):=by
 have hS:=N8;refine bL (c:=iG) func54 rfl rfl fun w F=> ?_
 obtain⟨e1,e2,e3,bU⟩:=ape s;have hle:bk (ak (bQ s))<=(bQ s).size:=by rw [c8];exact mi _
 have hps:(bQ s).size<=s.size:=by
  rcases DL s with⟨_,h2⟩|⟨_,h2,_⟩
  .have:=congrArg List.length h2;rw [List.length_cons,<-c8,<-c8]at this;omega
  .rw [h2];exact aG _
 have hc:sx s=true:=ax (by omega);have key:=H4 s hc rfl;rw [e1,e2,e3,bU]at key;have ev:ckR s=DM ((bQ s).extract 0 (bk (ak (bQ s)))) ((bQ s).extract (bk (ak (bQ s))+1) (bQ s).size) (decide (bk (ak (bQ s))<(bQ s).size)) (bZ s):=(apf hle).symm;rw [ev];refine cC hS 3 key ?_;exact apg _ _ _ _ (by rw [lf _ _ _ hle];omega) (by rw [lf _ _ _ (aG _)];omega) w F
attribute [local irreducible] ckR
def WB:N7.Ok prog:=fun⟨s,_⟩ h=>by
 have h:decide (s.size<=1000000000)=true:=h;exact H5 s (ap h)
--}
end
section
set_option maxHeartbeats 4000000
noncomputable section
noncomputable def N9:Code:=(f126.body).getD .skip
noncomputable def WC:Code:=(f60.body).getD .skip
def DN (x:Int):Int:=(Lib.bitLen x.toNat:Int)
noncomputable def WD:bp:={f:=201,ps:=[aD],rs:=[.int .i64],fresh:=true,pre:=fun d=>rV d.1,fn:=fun d=>(DN d.1,())}
def smI2 (a:aW):Bool:=List.isEmpty (α:=Int) a.2&&gA a.1
abbrev sl (l:List AT):aa:= .bh false .str l
def Qh (l:List AT):Bool:=decide (l.length<=1000)&&l.all fun s=>decide (s.size<=1000000000)&&decide (ckR s=0)
noncomputable def aph (t:List (Int×Int)):(Int×List Int)×(Int×List Int):=uG t t.length
def Pg (s:AT):Prop:=∃r,He r/\s=aU r
def api:WD.Ok prog:=fun⟨x,_⟩ h w F xs hF cu hd=>by
 have h:=pF.1 h;cases hd with
 |cons d1 d2=>
  cases d2;rw [d1.b8];refine(Tryz.bits_Len64 x w h.1 (by omega)).mono fun e w' ⟨h1,h2⟩=> ?_
  subst h2;exact⟨_,⟨F.at',fun _=>none⟩,h1, .raw _,⟨hF.ob,hF.all,fun b A h=>by cases h⟩,(fun b A h=>by cases h),Below.refl _ _⟩
attribute [local irreducible] fB ji cq txS okTx smI2 aU toQ gg Qh okQ
attribute [local semireducible] fB ji cq txS okTx smI2 aU toQ gg Qh okQ
def Oa {t:List (Int×Int)} (h:dH t=0):QR 5 (aph t) (gS t)/\yL t/\t.length<=4:=by
 obtain⟨h1,h2⟩:=Du h;have q:=Nd h2 t.length (aG _);rw [amF]at q;exact⟨q.mono (by omega),Nz.2 h2,h1⟩
end
end
noncomputable section
noncomputable def LT:bI:=aR [Vw,Gd]
def Pl (q:b5) (h1:(hM q)=true) (h2:(bK 10000 q.1)=true):
  bu LT (fl Nf []) 9 16 [cc q] 3 f61 true (sv (l5 q.1)):=
 wy [af h1,af h2] 8256
def apj (q:b5) (h1:(hM q)=false) (h2:(bK 10000 q.1)=true) (h3:(l5 q.1).size+(ByteArray.mk #[47]).size<=9223372036854775807) (h4:(bK 10000 q.2)=true) (h5:(l5 q.1++ByteArray.mk #[47]).size+(l5 q.2).size<=9223372036854775807):
  bu LT (fl Nf []) 9 16 [cc q] 2 f61 true (sv (l5 q.1++ByteArray.mk #[47]++l5 q.2)):=
 wy [af h1,af (aV (v:=aJ q.1)),af h2,ah h3,af (aV (v:=aJ q.2)),af h4,ah h5] 1997062150037568
def Hy (q:b5):Rat:=Rat.divInt (au q.1) (au q.2)
noncomputable def DO (n:Nat) (q:b5):Bool:= @decide (QR n q (Hy q)) (Classical.propDecidable _)
noncomputable def uT (q:b5):AT:=aU (Hy q)
noncomputable def Ob:bp:={f:=61,ps:=[fX],rs:=[.str],fresh:=true,pre:=fun d=>DO 10000 d.1,fn:=fun d=>(uT d.1,())}
noncomputable def Oc:bI:=aR [CE,WD]
def apk (a:aW) (h1:(aH a)=true) (h2:(↑(ay a).length:Int)=0):
  bu Oc (fl N9 []) 3 13 [aJ a] 129 f126 true (bv false):=
 wy [af h1,cW h2] 129
def apl (a:aW) (h1:(aH a)=true) (h2:¬(↑(ay a).length:Int)=0) (h3:i6 ((↑(ay a).length:Int)-1)) (h4:i6 (64*((↑(ay a).length:Int)-1))) (h5:0<=(↑(ay a).length:Int)-1) (h6:((↑(ay a).length:Int)-1).toNat<(ay a).length) (h7:(rV ((ay a).getD ((↑(ay a).length:Int)-1).toNat 0))=true) (h8:i6 (64*((↑(ay a).length:Int)-1)+DN ((ay a).getD ((↑(ay a).length:Int)-1).toNat 0))) (h9:¬64*((↑(ay a).length:Int)-1)+DN ((ay a).getD ((↑(ay a).length:Int)-1).toNat 0)>1800):
  bu Oc (fl N9 []) 3 13 [aJ a] 128 f126 true (bv false):=
 wy [af h1,yn h2,yi h3,yi h4,ah h5,ah h6,af h7,yi h8,af (aN (ab h9)),aA h9] 196191390154312195870044289
noncomputable def WE:bp:={f:=126,ps:=[dR],rs:=[.bool],fresh:=true,pre:=fun d=>bK 28 d.1,fn:=fun d=>(false,())}
noncomputable def WG:bI:=aR [WE]
def apm (q:b5) (h1:(bK 28 q.1)=true) (h2:(bK 28 q.2)=true):
  bu WG (fl WC []) 3 11 [cc q] 23 f60 true (bv false):=
 wy [af h1,af h2] 33554433
noncomputable def Od:bp:={f:=60,ps:=[fX],rs:=[.bool],fresh:=true,pre:=fun d=>bK 28 d.1.1&&bK 28 d.1.2,fn:=fun d=>(false,())}
def WH {n:Nat} {q:b5}:DO n q=true↔QR n q (Hy q):= @decide_eq_true_iff _ (Classical.propDecidable _)
def QR.val {n:Nat} {q:b5} {r:Rat} (h:QR n q r):Hy q=r:=h.self
def QR.rd {n m:Nat} {q:b5} {r:Rat} (h:QR n q r) (hm:n<=m):DO m q=true:=WH.2 (by rw [h.val];exact h.mono hm)
def WI {m n:Nat} {a:aW} (h:bK m a=true) (hv:((au a).natAbs:Int)<18446744073709551616^n):bK n a=true:=by
 by_cases hw:a.2=[]
 .rw [nC hw]at h ⊢;exact h
 .obtain⟨h1,h2,h3,h4,h5⟩:=(pq hw).1 h;refine(pq hw).2 ⟨h1,h2,h3,h4, ?_⟩;obtain⟨_,_,p3,_,_⟩:=jD h;unfold ay at p3;rw [if_neg hw]at p3;have hz:=fO (b:=18446744073709551616) (by decide) h2;have e:a.2=cM 18446744073709551616 (aj a.2):=qE (by decide) h2 h3 rfl;rw [e];exact iS (by decide) hz (by rw [p3];exact hv)
def QR.shrink {m n:Nat} {q:b5} {r:Rat} (h:QR m q r) (h1:(r.num.natAbs:Int)<18446744073709551616^n) (h2:(r.den:Int)<18446744073709551616^n):QR n q r:=
 ⟨WI h.o1 (by rw [h.num];exact h1),WI h.o2 (by rw [h.den];omega),h.num,h.den⟩
def WJ {n:Nat} {a:aW} (h:bK n a=true) (hn:1<=n):(l5 a).size<=20*n+2:=by
 have hB:=d8 h hn;have h1:=Vl (n:=n) (m:=((au a).natAbs:Int)) (by omega) hB;unfold l5;rw [c8,Vn h,dU];have:(ul (bW a)).length<=1:=by cases bW a<;>decide
 rw [Int.toNat_natCast]at h1;omega
def apn:bD prog (bG LT):=cY (aX al9 (aX LQ eA))
def WK {n:Nat} {q:b5} {r:Rat} (h:QR n q r):hM q=true↔r.den=1:=by
 have hd:=h.den;unfold hM;rw [ae,gT];constructor
 .rintro⟨h1,h2⟩;have h1:q.2.2=[]:=List.isEmpty_iff.1 h1;rw [lN h1]at hd;omega
 .intro e;rw [e]at hd;have hs:q.2.2=[]:=by
   refine Classical.byContradiction fun hne=> ?_
   obtain⟨h1,_,_,h4,_⟩:=(pq hne).1 h.o2;have hv:au q.2=q.2.1*aj q.2.2:=by unfold au;rw [if_neg hne]
   rw [hv]at hd;rcases h1 with h1|h1<;>rw [h1]at hd<;>omega
  rw [lN hs]at hd;exact⟨List.isEmpty_iff.2 hs,by omega⟩
def apo {q:b5} {r:Rat} (h:QR 10000 q r):Holds prog true 61 [cc q] (sv (aU r)):=by
 have hS:=apn;have l1:=WJ h.o1 (by decide);have l2:=WJ h.o2 (by decide);refine bL (c:=Nf) func61 rfl rfl fun w F=> ?_
 by_cases hd:r.den=1
 .have key:=Pl q ((WK h).2 hd) h.o1;have e:l5 q.1=aU r:=by unfold l5 aU;rw [if_pos hd,h.num]
  rw [e]at key;exact bx hS 9 key
 .have hw:hM q=false:=by
   cases hq:hM q with
   |false=>rfl
   |true=>exact absurd ((WK h).1 hq) hd
  have cQ:(ByteArray.mk #[47]).size=1:=rfl;have key:=apj q hw h.o1 (by rw [cQ];omega) h.o2 (by rw [ByteArray.size_append,cQ];omega);have e:l5 q.1++ByteArray.mk #[47]++l5 q.2=aU r:=by
   refine iW ?_;rw [dp,dp];unfold l5 aU;rw [if_neg hd,jH,jH,h.num,h.den,q5];rfl
  rw [e]at key;exact bx hS 9 key
def WL:Ob.Ok prog:=fun⟨q,_⟩ h=>apo (WH.1 h)
def WM:bD prog (bG Oc):=cY (aX FB (aX api eA))
def apq:WE.Ok prog:=fun⟨a,_⟩ h=>by
 have h:bK 28 a=true:=h;have G7:aH a=true:=iz (by decide) h;obtain⟨p1,p2,p3,dY,kg⟩:=jD h;show Holds prog true 126 [aJ a] (bv false);refine bL (c:=N9) func126 rfl rfl fun w F=> ?_
 by_cases h0:(ay a).length=0
 .exact bx WM 3 (apk a G7 (by omega))
 .obtain⟨m,hm⟩:∃m,(ay a).length=m+1:=⟨(ay a).length-1,by omega⟩;have em:((ay a).length:Int)-1=(m:Int):=by omega
  have hx:=p1.get (by decide) m;have hx0:=p2 m hm;obtain⟨s,l1,l2,_,_⟩:=K7 (x:=(ay a).getD m 0) (by omega);have l3:DN ((ay a).getD m 0)=64-(s:Int):=by unfold dM at l1;unfold DN;omega
  have key:=apl a G7 (by omega);rw [em,Int.toNat_natCast,l3]at key;exact bx WM 3 (key (by omega) (by omega) (by omega) (by omega) (pF.2 hx) (by omega) (by omega))
def apr:bD prog (bG WG):=tV apq
def WN:Od.Ok prog:=fun⟨q,_⟩ h=>by
 have h:(bK 28 q.1&&bK 28 q.2)=true:=h;rw [ae]at h;show Holds prog true 60 [cc q] (bv false);refine bL (c:=WC) func60 rfl rfl fun w F=> ?_
 exact bx apr 3 (apm q h.1 h.2)
end
def Oe {b:UInt8} (h:48<=b.toNat/\b.toNat<=57):[b]=Lib.decDigits (bt [b]).toNat/\bt [b]=(b.toNat:Int)-48:=by
 have e:bt [b]=(b.toNat:Int)-48:=by rw [MJ];simp [bt]
 refine⟨?_,e⟩;rw [e,q2 (by omega)];congr 1;rw [show 48+((b.toNat:Int)-48).toNat=b.toNat by omega];simp
def Of {b:UInt8} (h:bY [b]=true):48<=b.toNat/\b.toNat<=57:=by
 rw [im,ae,ae,bB,bB]at h;exact h.1
def WO:∀(n:Nat) (L:List UInt8),L.length=n+1->bY L=true->(L.getD 0 0).toNat≠48->L=Lib.decDigits (bt L).toNat/\0<bt L
 |0,L,hl,hd,h0=>by
  obtain⟨b,rfl⟩:∃b,L=[b]:=List.length_eq_one_iff.1 hl;have hb:=Of hd;obtain⟨h1,h2⟩:=Oe hb;have h3:b.toNat≠48:=h0;exact⟨h1,by omega⟩
 |n+1,L,hl,hd,h0=>by
  have hne:L≠[]:=fun e=>by rw [e]at hl;cases hl
  obtain⟨M,b,rfl⟩:∃M b,L=M++[b]:=⟨L.dropLast,L.getLast hne,(List.dropLast_concat_getLast hne).symm⟩;have yP:M.length=n+1:=by rw [dU,List.length_singleton]at hl;omega
  rw [Hf]at hd;have hb:=Of hd.2;have hf:(M.getD 0 0).toNat≠48:=by
   cases M with
   |nil=>cases yP
   |cons c r=>exact h0
  obtain⟨i1,i2⟩:=WO n M yP hd.1 hf;obtain⟨_,e2⟩:=Oe hb;have ev:bt (M++[b])=bt M*10+((b.toNat:Int)-48):=by
   rw [NB,e2];rfl
  refine⟨?_,by omega⟩;rw [ev,lO (by omega),show(bt M*10+((b.toNat:Int)-48)).toNat/10=(bt M).toNat by omega,<-i1,show(bt M*10+((b.toNat:Int)-48)).toNat%10=b.toNat-48 by omega,show 48+(b.toNat-48)=b.toNat by omega];simp
def WQ {u:AT} (h:cD u=true):ak u=Lib.decDigits (bt (ak u)).toNat:=by
 unfold cD at h;rw [ae,ae,bB]at h;obtain⟨h1,h2,h3⟩:=h;by_cases hs:u.size=1
 .obtain⟨b,hb⟩:∃b,ak u=[b]:=List.length_eq_one_iff.1 (by rw [<-c8];exact hs);rw [hb]at h3 ⊢;exact(Oe (Of h3)).1
 .rw [ab (by omega),Bool.false_or,Bool.not_eq_true',decide_eq_false_iff_not]at h2;exact(WO (u.size-1) (ak u) (by rw [<-c8];omega) h3 h2).1
def aps {s:AT} (h:ckR s=0):sO s:=by
 unfold ckR Bb at h;split at h
 .cases h
 rename_i c1;split at h
 .cases h
 rename_i c2;split at h
 .cases h
 rename_i c3;split at h
 .cases h
 rename_i c4;split at h
 .cases h
 rename_i c5;obtain⟨t,ht⟩:∃t,bQ s=t:=⟨_,rfl⟩;obtain⟨k,hk⟩:∃k,bk (ak t)=k:=⟨_,rfl⟩;rw [ht,hk]at c1 c2 c3 c4 c5;have hle:k<=t.size:=by rw [<-hk,c8];exact mi _
 have ha:cD (t.extract 0 k)=true:=by cases hd:cD (t.extract 0 k)with
  |true=>rfl
  |false=>exact absurd hd c1
 have Bd:=WQ ha;have apt:=uJ (wV ha).1;have ati:=lf t 0 k hle;obtain⟨A,hA⟩:∃A:Nat,bt (ak (t.extract 0 k))=(A:Int):=⟨(bt (ak (t.extract 0 k))).toNat,by omega⟩;rw [hA,Int.toNat_natCast]at Bd;rw [hA]at apt c5;have hneg:bZ s=true->0<A:=fun hn=>by
  rcases Nat.eq_zero_or_pos A with h0|h0
  .rw [h0,q2 (by decide)]at Bd;exact absurd ⟨hn,Bd⟩ c2
  .exact h0
 have yJ:bn (bZ s) (A:Int)<0↔bZ s=true:=by
  cases hn:bZ s with
  |true=>have:=hneg hn;constructor;exact fun _=>rfl;exact fun _=>by show-(A:Int)<0;omega
  |false=>constructor;(intro h;have:(A:Int)<0:=h;omega);exact fun h=>by cases h
 have WR:(bn (bZ s) (A:Int)).natAbs=A:=by cases bZ s with
  |true=>show(-(A:Int)).natAbs=A;omega
  |false=>show(A:Int).natAbs=A;omega
 have hit:Lib.itoa (bn (bZ s) (A:Int))=if bZ s then 45::Lib.decDigits A else Lib.decDigits A:=by
  rw [A9,WR];cases hn:bZ s with
  |true=>rw [ax (by rw [hn]at yJ;exact yJ.2 rfl)]
  |false=>rw [ab (by rw [hn]at yJ;exact fun h=>by cases yJ.1 h)]
 have hs:ak s=if bZ s then 45::ak t else ak t:=by
  rcases DL s with⟨h1,h2⟩|⟨h1,h2,_⟩
  .rw [h1,h2,ht];rfl
  .rw [h1,<-ht,h2];rfl
 have WS:((bn (bZ s) (A:Int)).natAbs:Int)<1000000000^(k+(t.size-k)):=by
  rw [WR];have h1:=Hs (t.extract 0 k).size;have h2:=iQ (b:=1000000000) (by decide) (show(t.extract 0 k).size<=k+(t.size-k) by omega);omega
 by_cases hlt:k<t.size
 .have hb:cD (t.extract (k+1) t.size)=true:=by cases hd:cD (t.extract (k+1) t.size)with
   |true=>rfl
   |false=>exact absurd ⟨hlt, .inl hd⟩ c3
  have Og:=WQ hb;have apu:=uJ (wV hb).1;have atj:=lf t (k+1) t.size (aG _);obtain⟨B,hB⟩:∃B:Nat,bt (ak (t.extract (k+1) t.size))=(B:Int):=⟨(bt (ak (t.extract (k+1) t.size))).toNat,by omega⟩;rw [hB,Int.toNat_natCast]at Og;rw [hB]at apu c5;have hg:Int.gcd (A:Int) (B:Int)=1:=by
   by_cases hg:Int.gcd (A:Int) (B:Int)=1
   .exact hg
   .exact absurd ⟨hlt,hg⟩ c5
  have Dk:2<=B:=by
   rcases Nat.lt_or_ge B 2 with h2|h2
   .refine absurd ⟨hlt, .inr ?_⟩ c3;rw [Og,q2 (by omega)];rcases (show B=0\/B=1 by omega)with rfl |rfl
    .exact .inl rfl
    .exact .inr rfl
   .exact h2
  obtain⟨r1,r2⟩:=sa (p:=bn (bZ s) (A:Int)) (q:=(B:Int)) (by omega) (by rw [Hg];exact hg);have apv:(B:Int)<1000000000^(k+(t.size-k)):=by
   have h1:=Hs (t.extract (k+1) t.size).size;have h2:=iQ (b:=1000000000) (by decide) (show(t.extract (k+1) t.size).size<=k+(t.size-k) by omega);omega
  refine⟨Rat.divInt (bn (bZ s) (A:Int)) (B:Int),k+(t.size-k),iW ?_,by omega,by rw [r1];exact WS,by rw [r2];exact apv⟩;have Oh:=(N4 (ak t)).2 (by rw [hk,<-c8];exact hlt);rw [hk]at Oh;have x1:ak (t.extract 0 k)=(ak t).take k:=by rw [lZ,List.drop_zero]
  have x2:ak (t.extract (k+1) t.size)=(ak t).drop (k+1):=by rw [lZ,c8,dI]
  rw [<-x1,<-x2,Bd,Og]at Oh;show ak s=ak (aU _);have eq:ak (aU (Rat.divInt (bn (bZ s) (A:Int)) (B:Int)))=Lib.itoa (bn (bZ s) (A:Int))++47::Lib.decDigits B:=by
   unfold aU;rw [if_neg (by omega),r1,r2,Dec.uw]
  rw [eq,hit,hs,Oh];cases bZ s<;>rfl
 .have r1:((bn (bZ s) (A:Int):Int):Rat).num=bn (bZ s) (A:Int):=Rat.num_intCast _;have r2:((bn (bZ s) (A:Int):Int):Rat).den=1:=Rat.den_intCast _;have apw:(1:Int)<1000000000^(k+(t.size-k)):=by
   have hp:=(wV ha).2;have h2:=iQ (b:=1000000000) (by decide) (show 1<=k+(t.size-k) by omega);rw [Int.pow_succ,Int.pow_zero]at h2;omega
  refine⟨((bn (bZ s) (A:Int):Int):Rat),k+(t.size-k),iW ?_,by omega,by rw [r1];exact WS,by rw [r2];exact apw⟩;have x1:ak (t.extract 0 k)=ak t:=by rw [lZ,List.drop_zero,eF (by rw [<-c8];omega)]
  rw [x1]at Bd;show ak s=ak (aU _);have eq:ak (aU ((bn (bZ s) (A:Int):Int):Rat))=Lib.itoa (bn (bZ s) (A:Int)):=by
   unfold aU;rw [if_pos r2,r1];exact jH _
  rw [eq,hit,hs,Bd]
noncomputable section
noncomputable def DP:Code:=(f21.body).getD .skip
noncomputable def WT:Code:=(f30.body).getD .skip
noncomputable def Oi:Code:=(f31.body).getD .skip
noncomputable def Oj:Code:=(f32.body).getD .skip
noncomputable def Hz:Code:=(f73.body).getD .skip
abbrev apx:AT:=ByteArray.mk #[49]
def apy (s:AT) (h1:(s.data).toList=((ByteArray.mk #[48]).data).toList):
  bu (aR []) (fl DP []) 9 13 [sv s] 3 f21 true (iv 0):=
 wy [ah h1] 1
def apz (s:AT) (h1:¬(s.data).toList=((ByteArray.mk #[48]).data).toList) (h2:(s.size:Int)>0) (h3:Int.toNat 0<s.size) (h4:(↑(UInt8.toNat (s.data.toList.getD (Int.toNat 0) (0:UInt8))):Int)=45):
  bu (aR []) (fl DP []) 9 13 [sv s] 126 f21 true (iv (-1)):=
 wy [aA h1,af (aN (ax h2)),ah h3,ah h2,cW h4] 22267308286081
def apA (s:AT) (h1:¬(s.data).toList=((ByteArray.mk #[48]).data).toList) (h2:(s.size:Int)>0) (h3:Int.toNat 0<s.size) (h4:¬(↑(UInt8.toNat (s.data.toList.getD (Int.toNat 0) (0:UInt8))):Int)=45):
  bu (aR []) (fl DP []) 9 13 [sv s] 94 f21 true (iv 1):=
 wy [aA h1,af (aN (ax h2)),ah h3,ah h2,yn h4] 22267308286081
def apB (s:AT) (h1:¬(s.data).toList=((ByteArray.mk #[48]).data).toList) (h2:¬(s.size:Int)>0):
  bu (aR []) (fl DP []) 9 13 [sv s] 64 f21 true (iv 1):=
 wy [aA h1,af (aN (ab h2)),aA h2] 50864257
def lq (s:AT):Int:=if s=ByteArray.mk #[48]then 0 else if 0<s.size/\(b7 s 0).toNat=45 then-1 else 1
def HA {a b:AT} (h:a.data.toList=b.data.toList):a=b:=by
 cases a;cases b;simp at h;rw [h]
def apC (s:AT):Holds prog true 21 [sv s] (iv (lq s)):=by
 have hS:=bc;refine bL (c:=DP) func21 rfl rfl fun w F=> ?_
 unfold lq;by_cases h0:s=ByteArray.mk #[48]
 .rw [if_pos h0];exact bx hS 9 (apy s (congrArg ak h0))
 .rw [if_neg h0];by_cases h1:0<s.size
  .by_cases h2:(b7 s 0).toNat=45
   .rw [if_pos ⟨h1,h2⟩];exact bx hS 9 (apz s (fun h=>h0 (HA h)) (by omega) (by omega) (by show((b7 s 0).toNat:Int)=45;omega))
   .rw [if_neg fun h=>h2 h.2];exact bx hS 9 (apA s (fun h=>h0 (HA h)) (by omega) (by omega) (by show¬((b7 s 0).toNat:Int)=45;omega))
  .rw [if_neg fun h=>h1 h.1];exact bx hS 9 (apB s (fun h=>h0 (HA h)) (by omega))
noncomputable def Ol:bp:={f:=21,ps:=[.str],rs:=[.int .i64],fresh:=true,pre:=fun d=>true,fn:=fun d=>(lq d.1,())}
noncomputable def HB:bI:=aR [Df]
noncomputable def Om:bI:=aR [Ol]
def uU (s:AT):AT:=s.extract 0 (bk (ak s))
def uV (s:AT):AT:=if bk (ak s)=s.size then ByteArray.mk #[49]else s.extract (bk (ak s)+1) s.size
def sP (s:AT):AT:=if lq s<0 then s.extract 1 s.size else s
def apD (s:AT) (h1:s.size<=1000000000) (h2:bk s.data.toList<=s.size):
  bu HB (fl WT []) 9 7 [sv s] 1 f30 true (sv (s.extract 0 (bk (ak s)))):=
 wy [ah h1,ah h2] 524289
def apE (s:AT) (h1:s.size<=1000000000) (h2:(↑(bk s.data.toList):Int)=(s.size:Int)):
  bu HB (fl Oi []) 9 14 [sv s] 3 f31 true (sv apx):=
 wy [ah h1,cW h2] 129
def apF (s:AT) (h1:s.size<=1000000000) (h2:¬(↑(bk s.data.toList):Int)=(s.size:Int)) (h3:i6 ((↑(bk s.data.toList):Int)+1)) (h4:((↑(bk s.data.toList):Int)+1).toNat<=s.size) (h5:(s.extract ((↑(bk s.data.toList):Int)+1).toNat s.size)=(s.extract (bk s.data.toList+1) s.size)):
  bu HB (fl Oi []) 9 14 [sv s] 2 f31 true (sv (s.extract (bk (ak s)+1) s.size)):=
 wy [ah h1,yn h2,yi h3,ah h4,ah (by omega:s.size<=s.size),az h5] 417752690817
def apG (s:AT) (h1:lq s<0) (h2:Int.toNat 1<=s.size) (h3:(s.extract (Int.toNat 1) s.size)=(s.extract 1 s.size)):
  bu Om (fl Oj []) 9 9 [sv s] 3 f32 true (sv (s.extract 1 s.size)):=
 wy [ah h1,ah h2,ah (by omega:s.size<=s.size),az h3] 4345823296
def apH (s:AT) (h1:¬lq s<0):
  bu Om (fl Oj []) 9 9 [sv s] 2 f32 true (sv s):=
 wy [aA h1] 64
def WU:Ol.Ok prog:=fun⟨s,_⟩ _=>apC s
def On:bD prog (bG HB):=tV GL
def WV:bD prog (bG Om):=tV WU
def WW:∀l:List UInt8,bk l<=l.length
 |[]=>aG _
 |b::r=>by
  have:=WW r;unfold bk;split
  .exact Nat.zero_le _
  .simp;omega
def WX (s:AT):bk (ak s)<=s.size:=by rw [c8];exact WW _
noncomputable def WY:bp:={f:=30,ps:=[.str],rs:=[.str],fresh:=true,pre:=fun d=>decide (d.1.size<=1000000000),fn:=fun d=>(uU d.1,())}
noncomputable def WZ:bp:={f:=31,ps:=[.str],rs:=[.str],fresh:=true,pre:=fun d=>decide (d.1.size<=1000000000),fn:=fun d=>(uV d.1,())}
noncomputable def W0:bp:={f:=32,ps:=[.str],rs:=[.str],fresh:=true,pre:=fun d=>true,fn:=fun d=>(sP d.1,())}
noncomputable def HC:bI:=aR [WY,WZ,W0]
def apI (s:AT) (h1:s.size<=1000000000) (h2:(↑(sP (uU s)).size:Int)>600):
  bu HC (fl Hz []) 9 14 [sv s] 112 f73 true (iv 4):=
 wy [ah h1,af (aS (ax h2)),ah h2] 208340000769
def apJ (s:AT) (h1:s.size<=1000000000) (h2:¬(↑(sP (uU s)).size:Int)>600) (h3:(↑(uV s).size:Int)>600):
  bu HC (fl Hz []) 9 14 [sv s] 111 f73 true (iv 4):=
 wy [ah h1,af (aS (ab h2)),aA h2,ah h3] 1139233650122753
def apK (s:AT) (h1:s.size<=1000000000) (h2:¬(↑(sP (uU s)).size:Int)>600) (h3:¬(↑(uV s).size:Int)>600):
  bu HC (fl Hz []) 9 14 [sv s] 79 f73 true (iv 0):=
 wy [ah h1,af (aS (ab h2)),aA h2,aA h3] 1139233650122753
def pV (s:AT):Int:=if 600<(sP (uU s)).size\/600<(uV s).size then 4 else 0
def apL:WY.Ok prog:=fun⟨s,_⟩ h=>by
 have hz:=ap h;refine bL (c:=WT) func30 rfl rfl fun w F=> ?_
 exact bx On 9 (apD s hz (WX s))
def apM:WZ.Ok prog:=fun⟨s,_⟩ h=>by
 have hz:=ap h;have hl:bk s.data.toList<=s.size:=WX s;show Holds prog true 31 [sv s] (sv (uV s));refine bL (c:=Oi) func31 rfl rfl fun w F=> ?_
 unfold uV;by_cases h1:bk s.data.toList=s.size
 .rw [if_pos h1];exact bx On 9 (apE s hz (by omega))
 .rw [if_neg h1];exact bx On 9 (apF s hz (by omega) (by have hz:s.size<=1000000000:=hz;omega) (by omega) (by rw [show((bk s.data.toList:Int)+1).toNat=bk s.data.toList+1 by omega]))
def apN {s:AT} (h:lq s<0):0<s.size:=by
 unfold lq at h;split at h
 .exact absurd h (by decide)
 .split at h
  .rename_i h1;exact h1.1
  .exact absurd h (by decide)
def apO:W0.Ok prog:=fun⟨s,_⟩ _=>by
 show Holds prog true 32 [sv s] (sv (sP s));refine bL (c:=Oj) func32 rfl rfl fun w F=> ?_
 unfold sP;by_cases h1:lq s<0
 .rw [if_pos h1];exact bx WV 9 (apG s h1 (by have:=apN h1;omega) rfl)
 .rw [if_neg h1];exact bx WV 9 (apH s h1)
def apP:bD prog (bG HC):=cY (aX apL (aX apM (aX apO eA)))
def apQ (s:AT) (hz:s.size<=1000000000):Holds prog true 73 [sv s] (iv (pV s)):=by
 have hS:=apP;refine bL (c:=Hz) func73 rfl rfl fun w F=> ?_
 unfold pV;by_cases h1:600<(sP (uU s)).size
 .rw [if_pos (.inl h1)];exact bx hS 9 (apI s hz (by omega))
 .by_cases h2:600<(uV s).size
  .rw [if_pos (.inr h2)];exact bx hS 9 (apJ s hz (by omega) (by omega))
  .rw [if_neg (fun h=>h.elim h1 h2)];exact bx hS 9 (apK s hz (by omega) (by omega))
def Oo (s:AT) (i j:Nat):(s.extract i j).size<=s.size:=by rw [ByteArray.size_extract];omega
def apR {s:AT} (h:s.size<=600):pV s=0:=by
 have h1:=Oo s 0 (bk (ak s));have h2:(sP (uU s)).size<=(uU s).size:=by unfold sP;split;exact Oo _ _ _;exact aG _
 have h3:(uV s).size<=600:=by
  unfold uV;split
  .decide
  .have:=Oo s (bk (ak s)+1) s.size;omega
 have h4:(uU s).size<=s.size:=h1;unfold pV;rw [if_neg (by omega)]
noncomputable def W1:bp:={f:=73,ps:=[.str],rs:=[.int .i64],fresh:=true,pre:=fun d=>decide (d.1.size<=1000000000),fn:=fun d=>(pV d.1,())}
def apS:W1.Ok prog:=fun⟨s,_⟩ h=>apQ s (ap h)
end
set_option maxRecDepth 100000 in
set_option maxHeartbeats 4000000 in
theorem apT (g k:Nat) (x y:Int) (cur:Array Value) (w:World) (hb:w.heap[g]? =some (.cells cur 3 (0,0))) (h0:cur[0]? =some (.int .i64 x)) (h1:cur[1]? =some (.int .i64 y)) (hk:2<=k):
  Calls prog 101 #[.slice (some ⟨g,0,none⟩) 2 k, .int .i64 0, .int .i64 1] w fun e w'=>e= .returned (.slice (some ⟨g,0,none⟩) 1 k)/\w'=(w.drew.setCells g 0 [.int .i64 y]).setCells g 1 [.int .i64 0]:=by
 obtain⟨i0,tv,MM,MN,UT⟩:=info_parts Tryz.UQ;have c0:w.cell? ⟨g,0,none⟩=some (.int .i64 x):=by rw [cell_of_row _ _ 0 cur _ _ hb];exact h0
 have c1:w.cell? ⟨g,1,none⟩=some (.int .i64 y):=by rw [cell_of_row _ _ 1 cur _ _ hb];exact h1
 have f0:w.frozen? ⟨g,0,none⟩=false:=by simp [World.frozen?,hb]
 have f1:w.frozen? ⟨g,1,none⟩=false:=by simp [World.frozen?,hb]
 have k1:¬k=1:=by omega
 have k0:0<=k:=by omega
 have atk:1<=k:=by omega
 refine calls_of_wp func101 rfl ?_;simp only [Tryz.ntmps101,List.size_toArray,List.length_cons,List.length_nil,Nat.reduceAdd,Nat.reduceSub,Array.replicate_succ,Array.replicate_zero,List.push_toArray,List.append_toArray,List.nil_append,List.cons_append]
 go_wp2_with fail
 have s1:=Lib.hid (show∀t u,[Value.int .i64 y][t]? =some u->w.drew.cell? ((⟨g,1,none⟩:Addr).add t)=some u from fun t u hu=>by
  cases t with
  |zero=>simp at hu;subst hu;exact c1
  |succ t=>simp at hu)
 have s2:=Lib.hid (show∀t,t<[Value.int .i64 y].length->(w.drew.cell? ⟨g,0+0*1+t,none⟩).isSome=true/\w.drew.frozen? ⟨g,0+0*1+t,none⟩=false from fun t ht=>by
  obtain rfl:t=0:=by simpa using ht
  exact⟨by show(w.cell? _).isSome=true;rw [c0];rfl,f0⟩)
 have s3:=Lib.hid (show∀u∈[Value.int .i64 y],u.oneCell'=true from fun u hu=>by simp at hu;subst hu;rfl);obtain⟨uW,Oq⟩:∃uW,uW=w.drew.setCells g (0+0*1) [.int .i64 y]:=⟨_,rfl⟩;have hW:=Lib.hid Oq;have b1:eE uW g 3 (cur.setIfInBounds 0 (.int .i64 y)):=by rw [Oq];exact(eE.drew hb).set 0 _
 have e1:(cur.setIfInBounds 0 (Value.int .i64 y))[1]? =some (.int .i64 y):=by rw [Array.getElem?_setIfInBounds];simpa using h1
 have w1:uW.cell? ⟨g,1,none⟩=some (.int .i64 y):=by rw [b1.cell 1];exact e1
 have hc1:∀j,j<1->(uW.cell? ⟨g,1+j,none⟩).isSome=true:=fun j hj=>by
  obtain rfl:j=0:=by omega
  rw [Nat.add_zero,w1];rfl
 have xK:∀j,j<1->uW.frozen? ⟨g,1+j,none⟩=false:=fun j hj=>b1.frozen _
 have BN:∀w,(zeroValue 3).run prog w= .ok (.int .i64 0) w:=fun w=>Eb (by simp [mX,tv,MM]) w
 have gp:∀ty,(Builtin.clear_ #[93] ty #[.slice (some ⟨g,1,none⟩) 1 (k-1)]).run prog uW= .ok (.tuple #[]) (uW.setCells g 1 [.int .i64 0]):=fun ty=>
  Lib.run_clear_slice uW _ _ ty _ Tryz.underlying93 BN rfl rfl g 1 1 (k-1) (by decide) hc1 xK
 clear Oq;have mx:prog.follows .mixedOrders=true:=mixed
 go_region_law_o (refine step_append_room rfl (.tmp 22) (.tmp 25) 93 rfl 3 i0 1 Tryz.underlying93 tv MN g 0 0 k (by simp [Act.eval,Act.put]) ⟨g,1,none⟩ 1 (k-1) [.int .i64 y] (by simp [Act.eval,Act.put]) rfl s1.out s3.out (by omega) s2.out ?_;rw [<-hW.out])
 go_wp2
 go_ret
 exact⟨rfl,by rw [hW.out]⟩
noncomputable section
def W2 (i:Nat) (H:ai) (blk:Option bq):aK:=match blk with
 |some (.cells e [.raw (.int .i64 _), .raw (.int .i64 y)] false false false)=>cond (Nat.beq e 3) (.ok (.slice i 0 1 .full) (H.set i (.cells e [.raw (.int .i64 y)] false false false))) .no
 |_=> .no
def Ot (args:List aa) (H:ai):aK:=match args with
 |[.slice i 0 2 .full, .raw (.int .i64 0), .raw (.int .i64 1)]=>W2 i H (H.get i)
 |_=> .no
def HD:er:=fun f args H=> @Bool.rec (fun _=>aK) (bG Nb f args H) (Ot args H) (Nat.beq f 101)
def W3 {args:List aa} {H:ai} {v:aa} {H':ai} (h:Ot args H= .ok v H'):∃i x y,args=[.slice i 0 2 .full, .raw (.int .i64 0), .raw (.int .i64 1)]/\H.get i=some (.cells 3 [.raw (.int .i64 x), .raw (.int .i64 y)] false false false)/\
  v= .slice i 0 1 .full/\H'=H.set i (.cells 3 [.raw (.int .i64 y)] false false false):=by
 unfold Ot at h;split at h
 .rename_i i;unfold W2 at h;split at h
  .rename_i e x y hg;cases hb:Nat.beq e 3 with
   |false=>rw [hb]at h;cases h
   |true=>
    rw [hb]at h;obtain rfl:=ac hb;cases h;exact⟨i,x,y,rfl,hg,rfl,rfl⟩
  .cases h
 .cases h
def apU:bD prog HD where
 mono f args H v H' h:=by
  unfold HD at h;cases hb:Nat.beq f 101 with
  |false=>rw [hb]at h;exact Nc.mono _ _ _ _ _ h
  |true=>
   rw [hb]at h;obtain⟨i,x,y,_,_,_,rfl⟩:=W3 h;exact aG _
 cy f args H v H' h B ρ xs w m hH cu hd hf:=by
  unfold HD at h;cases hb:Nat.beq f 101 with
  |false=>rw [hb]at h;exact Nc.cy _ _ _ _ _ h B ρ xs w m hH cu hd hf
  |true=>
   rw [hb]at h;obtain rfl:=ac hb;obtain⟨i,x,y,rfl,hg,rfl,rfl⟩:=W3 h
   match xs,hd with
   |[x0,x1,x2], .cons d0 (.cons d1 (.cons d2 .nil))=>
    obtain⟨g,c,k,gH,hk,hlk,rfl⟩:=d0.ic;have hk:k=c:=hk;subst hk;rw [d1.b8,d2.b8];obtain⟨ys,fz,g1,g2,g3,_,g5,g6⟩:=mq hH hg gH;have g2:=g2 rfl;subst g2;have g5:=g5 rfl;have n0:ys[0]? =some (.int .i64 x):=by
     obtain⟨z,cQ,z2⟩:=g3.get (i:=0) rfl;rw [z2.b8]at cQ;simpa using cQ
    have n1:ys[1]? =some (.int .i64 y):=by
     obtain⟨z,cQ,z2⟩:=g3.get (i:=1) rfl;rw [z2.b8]at cQ;simpa using cQ
    refine rp (n:=0) (callsIn_wide.2 ((apT g k x y ys w g1 n0 n1 hlk).mono ?_));rintro e w' ⟨rfl,rfl⟩;have jw:eE (w.drew.setCells g 0 [.int .i64 y]) g 3 (ys.setIfInBounds 0 (.int .i64 y)):=(eE.drew g1).set 0 _;have kO:eE ((w.drew.setCells g 0 [.int .i64 y]).setCells g 1 [.int .i64 0]) g 3 ((ys.setIfInBounds 0 (.int .i64 y)).setIfInBounds 1 (.int .i64 0)):=jw.set 1 _;have gw:∀j,j≠g->((w.drew.setCells g 0 [.int .i64 y]).setCells g 1 [.int .i64 0]).heap[j]? =w.heap[j]? :=fun j hj=>(Below.heap_setCell _ _ _ j hj).trans (Below.heap_setCell _ _ _ j hj)
    have lC:aF ρ [aa.raw (Value.int .i64 y)] (((ys.setIfInBounds 0 (Value.int .i64 y)).setIfInBounds 1 (.int .i64 0)).toList.take [aa.raw (Value.int .i64 y)].length):=by
     have e1:(((ys.setIfInBounds 0 (Value.int .i64 y)).setIfInBounds 1 (.int .i64 0)).toList.take [aa.raw (Value.int .i64 y)].length)=[.int .i64 y]:=by
      have hs:0<ys.size:=(cV.1 n0).1;refine List.ext_getElem? fun j=> ?_
      rw [List.getElem?_take];cases j with
      |zero=>simp [hs]
      |succ j=>simp
     rw [e1];exact .cons (.raw _) .nil
    obtain⟨p1,p2⟩:=vn hH hg gH rfl (k:= .cells 3 [.raw (.int .i64 y)] false false false) ((w.drew.setCells g 0 [.int .i64 y]).setCells g 1 [.int .i64 0]) _ rfl rfl rfl (by show(World.setCell (World.setCell w.drew ⟨g,0,none⟩ _) ⟨g,1,none⟩ _).heap.size=_;simp [World.setCell]) kO gw
     ⟨_,_,rfl,fun _=>rfl,lC,(fun hh=>by cases hh),fun _=>⟨g,k,gH,by simpa using g5⟩⟩
    exact⟨_,ρ,rfl, .slice gH rfl (by omega),p1,p2⟩
end
end Go.Proofs.YtibikmmdbdlafaaGreatDoor
