import Derived.Test.YtibikmmdbdlafaaGreatDoorZnGAw1
set_option linter.defProp false
set_option linter.unusedSimpArgs false
set_option linter.unusedVariables false
set_option maxRecDepth 100000
namespace Go.Proofs.YtibikmmdbdlafaaGreatDoor
open Go.RowKit Sv Go.Proofs.Tryz
noncomputable section
abbrev r2:Sv.Ren:=[(64,64,none),(65,65,none)]
abbrev Ht (q:bO):fS:= .blk (.cells 85 [iv q.1.1, .bu true (.int .u64) q.1.2,iv q.2.1, .bu true (.int .u64) q.2.2] true false false)
def NX {n:Nat} {x:Int} (h: -9223372036854775808<=x/\x<=9223372036854775807):aZ n (aT x)=true:=by
 rw [oA (a:=aT x) rfl];unfold ii;rw [ae];exact⟨az h.1,az h.2⟩
def tl (x:Int):aj (aT x)=x:=if_pos rfl
def NY:=k_a Tryz.f61
def okTx (q:bO):Bool:=((List.isEmpty q.1.2&&ii q.1.1)&&(List.isEmpty q.2.2&&ii q.2.1))&&(decide ((cm q.1.1).size<=100)&&decide ((cm q.2.1).size<=100))
def txS (q:bO):AT:=if ir q=true then cm q.1.1 else cm q.1.1++ByteArray.mk #[47]++cm q.2.1
end
end Go.Proofs.YtibikmmdbdlafaaGreatDoor
namespace Go.Proofs.YtibikmmdbdlafaaGreatDoor.Dec
open Go.Lib
def Bm (d:Nat) (h:d<10):(UInt8.ofNat (48+d)).toNat=48+d:=by
 rw [UInt8.toNat_ofNat'];omega
def NZ (u:Nat):∀b∈decDigits u,48<=b.toNat/\b.toNat<=57:=by
 induction u using Nat.strongRecOn with
 |_ u ih=>
  intro b hb;rw [decDigits]at hb;split at hb
  .simp only [List.mem_singleton]at hb;subst hb;rw [Bm _ (by omega)];omega
  .rcases List.mem_append.1 hb with h|h
   .exact ih (u/10) (by omega) b h
   .simp only [List.mem_singleton]at h;subst h;rw [Bm _ (by omega)];omega
def V2 (u:Nat):0<(decDigits u).length:=by
 rw [decDigits];split<;>simp
def N0 (k:Nat):∀u,u<10^(k+1)->(decDigits u).length<=k+1:=by
 induction k with
 |zero=>intro u hu;rw [decDigits,dif_pos (by simpa using hu)];simp
 |succ k ih=>
  intro u hu;rw [decDigits];split
  .simp
  .have:=ih (u/10) (by rw [Nat.div_lt_iff_lt_mul (by omega)];rw [Nat.pow_succ]at hu;exact hu);simp;omega
def amI (u:Nat) (h:u<1000000000000000000):(decDigits u).length<=18:=N0 17 u (by simpa using h)
def amJ (u:Nat) (h:0<u):∀b r,decDigits u=b::r->b.toNat≠48:=by
 induction u using Nat.strongRecOn with
 |_ u ih=>
  intro b r hb;rw [decDigits]at hb;split at hb
  .injection hb with h1 _
   subst h1;rw [Bm _ (by omega)];omega
  .have hp:=V2 (u/10);cases hd:decDigits (u/10)with
   |nil=>rw [hd]at hp;simp at hp
   |cons c t=>
    rw [hd]at hb;injection hb with h1 _
    subst h1;exact ih (u/10) (by omega) (by omega) c t hd
def N1 (l:List UInt8):∀(acc m:Nat) (d:Nat),d<10->decFrom acc l=some m->decFrom acc (l++[UInt8.ofNat (48+d)])=some (m*10+d):=by
 induction l with
 |nil=>
  intro acc m d hd h;simp only [decFrom,tj]at h;subst h;simp only [List.nil_append,decFrom,digitVal,Bm d hd];rw [if_pos (by omega)];show some (acc*10+(48+d-48))=_;congr 1;omega
 |cons b r ih=>
  intro acc m d hd h;rw [List.cons_append];unfold decFrom at h ⊢;cases hv:digitVal b with
  |none=>rw [hv]at h;cases h
  |some v=>rw [hv]at h;exact ih _ _ _ hd h
def V3 (u:Nat):decFrom 0 (decDigits u)=some u:=by
 induction u using Nat.strongRecOn with
 |_ u ih=>
  rw [decDigits];split
  .have:=N1 [] 0 0 u (by omega) rfl;simpa using this
  .have:=N1 (decDigits (u/10)) 0 (u/10) (u%10) (by omega) (ih (u/10) (by omega));rw [this];congr 1;omega
def V4 (l:List UInt8) (h:∀b∈l,48<=b.toNat/\b.toNat<=57):hasPrefix l [45]=false:=by
 cases l with
 |nil=>rfl
 |cons b r=>
  have:=h b (by simp);have hb:(45==b)=false:=by
   rw [eB];intro e;subst e;simp at this
  simp [hasPrefix,List.isPrefixOf,hb]
def q8 (u:Nat):itoa (u:Int)=decDigits u:=by unfold itoa;rw [if_neg (by omega)];simp
end Go.Proofs.YtibikmmdbdlafaaGreatDoor.Dec
namespace Go.Proofs.YtibikmmdbdlafaaGreatDoor
open Go.RowKit Sv Go.Proofs.Tryz
def amK {n d:Int} (hd:1<=d):Rat.divInt (G2 n d) (A8 n d)=Rat.divInt n d:=by
 have hg:0<Int.gcd n d:=Int.gcd_pos_of_ne_zero_right _ (by omega);have e1:=Int.ediv_mul_cancel (show(Int.gcd n d:Int)∣n from Int.gcd_dvd_left ..);have e2:=Int.ediv_mul_cancel (show(Int.gcd n d:Int)∣d from Int.gcd_dvd_right ..);unfold G2 A8;have e:Rat.divInt n d=Rat.divInt (n/(Int.gcd n d:Int)*(Int.gcd n d:Int)) (d/(Int.gcd n d:Int)*(Int.gcd n d:Int)):=by rw [e1,e2]
 rw [e];exact(Rat.divInt_mul_right (show(Int.gcd n d:Int)≠0 by omega)).symm
def amL {n d:Int} (hd:1<=d):Int.gcd (G2 n d) (A8 n d)=1:=Int.gcd_ediv_gcd_ediv_gcd (by have:=Int.gcd_pos_of_ne_zero_right n (show d≠0 by omega);omega)
def N2 {p q:Int} (hq:1<=q) (h:Int.gcd p q=1):(Rat.divInt p q).num=p/\((Rat.divInt p q).den:Int)=q:=by
 have hd:0<(Rat.divInt p q).den:=(Rat.divInt p q).den_pos;have e:(Rat.divInt p q).num*q=p*((Rat.divInt p q).den:Int):=(Rat.divInt_eq_divInt_iff (by omega) (by omega)).1 (Rat.num_divInt_den _);have g:Int.gcd (Rat.divInt p q).num ((Rat.divInt p q).den:Int)=1:=(Rat.divInt p q).reduced;exact Vk (by omega) (by omega) g h e
def q9 {u:Nat} (h:u<10):Lib.decDigits u=[UInt8.ofNat (48+u)]:=by rw [Lib.decDigits,dif_pos h]
def wH {u:Nat} (h:¬u<10):Lib.decDigits u=Lib.decDigits (u/10)++[UInt8.ofNat (48+u%10)]:=by rw [Lib.decDigits,dif_neg h]
def V5:∀(f:Nat) (n:Int) (s:List UInt8),0<=n->n<10^f->1<=s.length->cy f n 1 s=(if n=0 then []else Lib.decDigits n.toNat)++s
 |0,n,s,h0,h1,hs=>by
  have:n=0:=by simp at h1;omega
  subst this;rfl
 |f+1,n,s,h0,h1,hs=>by
  have q1:=eL n (show(0:Int)<10 by decide);have aP:=ec n (show(10:Int)≠0 by decide);have b8:=Int.mul_ediv_add_emod n 10;rw [Int.pow_succ]at h1;unfold cy;split
  .rename_i hc;have hn:0<n:=by omega
   rw [V5 f (n/10) (oJ n::s) (by omega) (by omega) (by simp),if_neg (show¬n=0 by omega)];unfold oJ;by_cases h10:n<10
   .rw [if_pos (by omega),q9 (u:=n.toNat) (by omega),show n%10=n by omega];simp
   .rw [if_neg (by omega),wH (u:=n.toNat) (by omega),show(n/10).toNat=n.toNat/10 by omega,show(n%10).toNat=n.toNat%10 by omega];simp
  .rename_i hc;have:n=0:=by omega
   subst this;rfl
def DM {n:Int} (h0:0<=n) (h1:n<100000000000000000000):cy 20 n 1 []=Lib.itoa n:=by
 have q1:=eL n (show(0:Int)<10 by decide);have aP:=ec n (show(10:Int)≠0 by decide);have b8:=Int.mul_ediv_add_emod n 10;show cy (19+1) n 1 []=_;unfold cy;rw [if_pos (.inr (by simp)),V5 19 (n/10) [oJ n] (by omega) (by omega) (by simp)];unfold Lib.itoa oJ;rw [if_neg (show¬n<0 by omega)];by_cases h10:n<10
 .rw [if_pos (by omega),q9 (u:=n.toNat) (by omega),show n%10=n by omega];simp
 .rw [if_neg (by omega),wH (u:=n.toNat) (by omega),show(n/10).toNat=n.toNat/10 by omega,show(n%10).toNat=n.toNat%10 by omega]
noncomputable section
def jQ (n:Int):(cm n).data.toList=Lib.itoa n:=by unfold cm;simp
def itoa_neg {n:Int} (h:n<0):Lib.itoa n=45::Lib.decDigits n.natAbs:=by
 unfold Lib.itoa;rw [if_pos h]
def il {n:Int} (h:¬n<0):Lib.itoa n=Lib.decDigits n.natAbs:=by
 unfold Lib.itoa;rw [if_neg h,show n.toNat=n.natAbs by omega]
def V6 (n:Int):p0 (cm n) fq=decide (n<0):=by
 unfold p0;rw [jQ,show(fq:AT).data.toList=[45]from rfl];by_cases h:n<0
 .rw [itoa_neg h,az h];simp [Lib.hasPrefix]
 .rw [il h,ab h];exact Dec.V4 _ (Dec.NZ _)
def V7 (n:Int):(gf (cm n) fq).data.toList=Lib.decDigits n.natAbs:=by
 have hp:=V6 n;unfold p0 at hp;unfold gf Lib.trimPrefix;rw [hp,jQ,show(fq:AT).data.toList=[45]from rfl];by_cases h:n<0
 .rw [itoa_neg h,az h];simp
 .rw [il h,ab h];simp
def V8 (n:Int):uL (cm n)=n.natAbs:=by
 unfold uL;rw [V7,Dec.V3]
def amM (n:Int):Bk (cm n)=n:=by
 unfold Bk;rw [V6,V8];by_cases h:n<0
 .rw [az h,if_pos rfl];omega
 .rw [ab h,if_neg (by decide)];omega
def N3 (n:Int):fV (cm n)=bf n:=by unfold fV;rw [amM]
def V9 {n:Int} (h:ay (bf (n.natAbs:Int))=true):jP (cm n)=true:=by
 unfold jP;rw [V7,Dec.V3,V8,h];rfl
def uN:=k_a f70
def yV:=a7 [G0]
abbrev kK (n m:Int):AT:=⟨(cy 20 n m []).toArray⟩
abbrev N4 (n:Bool) (w:List Int):fS:= .blk (.cells 97 [bv n,lv w] true false false)
def nO (n:Bool) (w:List Int) (s:AT) (z:Int):bI:={n:=39,sl:=[(1, .ptr 64 0),(3,sv s),(4,iv z)],bH:=[(64,N4 n w)],next:=65}
abbrev N5:List Nat:=[1,1,1,0,1,0,0]
section
variable (n:Bool) (w:List Int)
def amN (h1:(w.length:Int)=0):
  aV yV (fl uN []) 3 39 [rv (n,w)] 3 f70 true (sv ⟨#[48]⟩):=
 wy [cM h1] 1
def amO (h1:¬(w.length:Int)=0) (h2:i6 ((w.length:Int)-1)) (h3:0<=(w.length:Int)-1) (h4:((w.length:Int)-1).toNat<w.length) (h5:(decide ((0:av.den (.int .i64))<=w.getD ((w.length:Int)-1).toNat 0)&&(decide (w.getD ((w.length:Int)-1).toNat 0<=(9223372036854775807:av.den (.int .i64)))&&decide (1<=(20:av.den (.int .i64)))))=true) (h6:i6 ((w.length:Int)-2)):
  c7 yV (fl uN []) 5 39 [rv (n,w)] 2 .normal [(64,64,none)] (nO n w (kK (w.getD ((w.length:Int)-1).toNat 0) 1) ((w.length:Int)-2)):=
 wy [yn h1,yi h2,ah h3,ah h4,aa h5,yi h6] 6527398017
def amP (s:AT) (z:Int) (h1:z>=0) (h2:0<=z) (h3:z.toNat<w.length) (h4:(decide ((0:av.den (.int .i64))<=w.getD z.toNat 0)&&(decide (w.getD z.toNat 0<=(9223372036854775807:av.den (.int .i64)))&&decide (9<=(20:av.den (.int .i64)))))=true) (h5:s.size+(ByteArray.mk (List.toArray (cy 20 (w.getD z.toNat 0) 9 []))).size<=9223372036854775807) (h6:i6 (z-1)):
  bz yV (fl uN N5) (nO n w s z) 3 .normal [(64,64,none)] (nO n w (s++kK (w.getD z.toNat 0) 9) (z-1)):=
 wy [ah h1,ah h2,ah h3,aa h4,ah h5,yi h6] 6527398017
def PH (s:AT) (z:Int) (h1:¬z>=0):
  bz yV (fl uN N5) (nO n w s z) 2 (.exit 0) [(64,64,none)] (nO n w s z):=
 wy [aF h1] 1
end
def amQ (w:List Int) (s:AT) (z:Int) (h1:(ByteArray.mk (#[(45:UInt8)])).size+s.size<=9223372036854775807):
  bS yV ((fl uN []).drop 6) (nO true w s z) 3 f70 true (sv (⟨#[45]⟩++s)):=
 wy [ah h1] 64
def amR (w:List Int) (s:AT) (z:Int):
  bS yV ((fl uN []).drop 6) (nO false w s z) 2 f70 true (sv s):=
 wy [] 0
def Hu:=IN 70 [j8] [.str] true (fun d=>okZ d.1) fun d=>(cm (vZ d.1),())
def kL:Nat->Int->List UInt8
 |0,_=>[]
 |k+1,x=>kL k (x/10)++[oJ x]
def N6:∀(k:Nat) (x:Int),(kL k x).length=k
 |0,_=>rfl
 |k+1,x=>by rw [kL,dy,N6 k];rfl
def Wa:∀(k f:Nat) (x:Int) (s:List UInt8),k<=f->0<=x->x<10^k->cy f x ((s.length:Int)+k) s=kL k x++s
 |0,f,x,s,_,h0,h1=>by
  have:x=0:=by simp at h1;omega
  subst this;cases f with
  |zero=>rfl
  |succ f=>
   unfold cy;rw [if_neg (by omega)];rfl
 |k+1,f,x,s,hf,h0,h1=>by
  obtain⟨g,rfl⟩:∃g,f=g+1:=⟨f-1,by omega⟩;rw [Int.pow_succ]at h1;unfold cy;rw [if_pos (by omega)];have:=Wa k g (x/10) (oJ x::s) (by omega) (by omega) (by omega);rw [List.length_cons,show(((s.length+1:Nat):Int)+(k:Int))=(s.length:Int)+((k+1:Nat):Int) by omega]at this;rw [this,kL,rA];rfl
def N7:∀(k:Nat) (u:Nat) (x:Int),0<u->0<=x->x<10^k->Lib.decDigits (u*10^k+x.toNat)=Lib.decDigits u++kL k x
 |0,u,x,hu,h0,h1=>by
  have:x=0:=by simp at h1;omega
  subst this;simp [kL]
 |k+1,u,x,hu,h0,h1=>by
  rw [Int.pow_succ]at h1;have hp:0<10^k:=Nat.pow_pos (by decide);have h2:1*1<=u*10^k:=Nat.mul_le_mul hu hp;have e:u*10^(k+1)+x.toNat=(u*10^k+(x/10).toNat)*10+(x%10).toNat:=by
   rw [Nat.pow_succ,<-Nat.mul_assoc];omega
  have hm:(x%10).toNat<10:=by omega
  rw [e,wH (by omega),show((u*10^k+(x/10).toNat)*10+(x%10).toNat)/10=u*10^k+(x/10).toNat by omega,show((u*10^k+(x/10).toNat)*10+(x%10).toNat)%10=(x%10).toNat by omega,N7 k u (x/10) hu (by omega) (by omega),kL,rA];rfl
def amS:bD prog (bF yV):=cN (aQ M0 dW)
def Wb {x:Int} (h:0<=x/\x<1000000000):(kK x 9).data.toList=kL 9 x:=by
 have:=Wa 9 20 x [] (by decide) h.1 (by have:(10:Int)^9=1000000000:=rfl;omega);show cy 20 x 9 []=_;rw [List.append_nil]at this;exact this
def amT {x:Int} (h:0<=x/\x<1000000000):(kK x 1).data.toList=Lib.decDigits x.toNat:=by
 show cy 20 x 1 []=_;rw [DM h.1 (by omega)];unfold Lib.itoa;rw [if_neg (by omega)]
def Wc {s:AT} {u:Nat} (h:s.data.toList=Lib.decDigits u):s=cm (u:Int):=gy (by rw [h,jQ];exact(Dec.q8 u).symm)
def N8 {w:List Int} (hw:aS 1000000000 w):(Lib.decDigits (ag w).toNat).length<=9*w.length+1:=by
 refine dc (Dec.N0 (9*w.length) _ ?_) (by omega);have h1:=dC (b:=1000000000) (by decide) hw;have h0:=gN hw;have e:(1000000000:Int)^w.length=((10^(9*w.length):Nat):Int):=by
  rw [Nat.pow_mul,Int.natCast_pow];rfl
 have h2:ag w<((10^(9*w.length):Nat):Int):=by rw [<-e];exact h1
 have h3:10^(9*w.length)<=10^(9*w.length+1):=Nat.pow_le_pow_right (by decide) (by omega);omega
def amU (n:Bool) (w:List Int) (h:okZ (n,w)=true):Holds prog true 70 [rv (n,w)] (sv (cm (bp n (ag w)))):=by
 obtain⟨h1,h2⟩:=nK.1 h;have h1:okA w=true:=h1;have h2:n=true->0<ag w:=h2;obtain⟨hd,ht,hl⟩:=fD.1 h1;have hS:=amS;refine bL (c:=uN) func70 rfl rfl fun w0 F=> ?_
 by_cases hz:w.length=0
 .have hw:w=[]:=List.eq_nil_of_length_eq_zero hz;subst hw;have hn:n=false:=by
   cases n with
   |false=>rfl
   |true=>exact absurd (h2 rfl) (by decide)
  subst hn;have e:cm (bp false (ag []))=⟨#[48]⟩:=by
   refine gy ?_;rw [jQ];show Lib.itoa ((0:Nat):Int)=[48];rw [Dec.q8,q9 (by decide)];rfl
  rw [e];exact aY hS 3 (amN false [] (by simp))
 .obtain⟨m,hm⟩:∃m,w.length=m+1:=⟨w.length-1,by omega⟩;have Wd:=hd.get (by decide) m;have au4:=ht m hm;have i1:((w.length:Int)-1).toNat=m:=by omega
  have i2:((w.length:Int)-2)=(m:Int)-1:=by omega
  have key:=amO n w (by omega) (by omega) (by omega);rw [i1,i2]at key;refine cR hS 5 (key (by omega) (by rw [az Wd.1,az (show w.getD m 0<=9223372036854775807 by omega)];rfl) (by omega)) ?_;have hst:kK (w.getD m 0) 1=cm ((ag (w.drop m)).toNat:Int):=Wc (by
   rw [amT Wd];congr 2;unfold ag;rw [uu (by omega),List.drop_eq_nil_of_le (by omega)];simp [vl])
  rw [hst];refine aW.loop (ι:={k:Nat//k<=m}) (id:=0) (b:=cat uN N5) (rest:=(fl uN []).drop 6) (by kernel_rfl) (fun k=>nO n w (cm ((ag (w.drop k.1)).toNat:Int)) ((k.1:Int)-1)) (fun k=>k.1) ⟨m,aK _⟩ (fun _=>rfl) ?_;rintro⟨k,hk⟩;have hlen:(cm ((ag (w.drop k)).toNat:Int)).size<=9*w.length+1:=by
   have h3:=N8 (hd.drop k);rw [nU]at h3;rw [uG,jQ,Dec.q8];omega
  cases k with
  |zero=>
   refine bC (s:=nO n w (cm ((ag (w.drop 0)).toNat:Int)) (((0:Nat):Int)-1)) hS (PH n w _ _ (by omega)) ?_;refine cI (cQ ?_);have h0:=gN hd;rw [List.drop_zero,Int.toNat_of_nonneg h0]at hlen ⊢;cases n with
   |false=>exact bY (s:=nO false w (cm (ag w)) (((0:Nat):Int)-1)) hS (amR w _ _)
   |true=>
    have hp:=h2 rfl;have e:(⟨#[45]⟩:AT)++cm (ag w)=cm (bp true (ag w)):=by
     refine gy ?_;rw [ja,jQ,jQ,itoa_neg (show bp true (ag w)<0 by show-ag w<0;omega),il (by omega)];show _=45::Lib.decDigits (-ag w).natAbs;rw [Int.natAbs_neg];rfl
    rw [<-e];exact bY (s:=nO true w (cm (ag w)) (((0:Nat):Int)-1)) hS (amQ w _ _ (by show 1+_<=_;omega))
  |succ j=>
   have hj:=hd.get (by decide) j;have e1:(((j+1:Nat):Int)-1)=(j:Int):=by omega
   have e2:(j:Int).toNat=j:=by omega
   have au5:(kK (w.getD j 0) 9).size=9:=by rw [uG,Wb hj,N6]
   have key:=amP n w (cm ((ag (w.drop (j+1))).toNat:Int)) (j:Int) (by omega) (by omega);rw [e2]at key;have hpos:0<ag (w.drop (j+1)):=by
    have h3:=r0 1000000000 (w.drop (j+1)) (m-(j+1)) (by rw [nU];omega);have h4:=gN ((hd.drop (j+1)).take (m-(j+1)));rw [List.drop_drop,show j+1+(m-(j+1))=m by omega]at h3;have h5:vl 1000000000 (w.drop m)=w.getD m 0:=by
     rw [uu (by omega),List.drop_eq_nil_of_le (by omega)];simp [vl]
    rw [h5]at h3;have h6:=Int.mul_pos (dK (b:=1000000000) (by decide) (m-(j+1))) (show 0<w.getD m 0 by omega);unfold ag at*;omega
   have amV:cm ((ag (w.drop (j+1))).toNat:Int)++kK (w.getD j 0) 9=cm ((ag (w.drop j)).toNat:Int):=Wc (by
    rw [ja,jQ,Dec.q8,Wb hj,<-N7 9 _ _ (by omega) hj.1 (by have:(10:Int)^9=1000000000:=rfl;omega)];congr 1;have h3:ag (w.drop j)=w.getD j 0+1000000000*ag (w.drop (j+1)):=uu (by omega);have h4:(10:Nat)^9=1000000000:=rfl;rw [h3,h4];omega)
   show cg _ _ _ _ _ _ (nO n w (cm ((ag (w.drop (j+1))).toNat:Int)) (((j+1:Nat):Int)-1)).T (nO n w (cm ((ag (w.drop (j+1))).toNat:Int)) (((j+1:Nat):Int)-1)).H _;rw [e1];refine bC (s:=nO n w (cm ((ag (w.drop (j+1))).toNat:Int)) (j:Int)) hS (key (by omega) (by rw [az hj.1,az (show w.getD j 0<=9223372036854775807 by omega)];rfl) (by show _+(kK (w.getD j 0) 9).size<=_;omega) (by omega)) ?_;rw [amV];exact⟨⟨j,by omega⟩,fL _,rfl,rfl⟩
def N9:Hu.Ok prog:=fun⟨⟨n,w⟩,_⟩ h=>amU n w h
def sU:=k_a f88
def yW:=ov [C3] (a7 [MY])
def nP (s:AT) (neg:Bool) (w:List Int):bI:={n:=40,sl:=[(0,sv s),(2, .ptr 64 0),(3,bv neg),(4,mO 65 w)],bH:=[(64,S5),(65,mP w)],next:=66}
abbrev Oa:List Nat:=[1,1,1,1,0,0,0]
section
variable (s:AT)
def amW (h1:(s.size:Int)>0) (h2:Int.toNat 0<s.size) (h3:(↑(UInt8.toNat (s.data.toList.getD (Int.toNat 0) (0:UInt8))):Int)=45) (h4:Int.toNat 1<=s.size) (h5:(s.extract (Int.toNat 1) s.size)=(s.extract 1 s.size)):
  c7 yW (fl sU []) 5 40 [sv s] 63 .normal [(64,64,none)] (nP (s.extract 1 s.size) true []):=
 wy [aa (aL (az h1)),ah h2,ah h1,cM h3,ah h4,ah (by omega:s.size<=s.size),ax h5,ax (fW.mpr h3)] 37787111807533466517569
def amX (h1:(s.size:Int)>0) (h2:Int.toNat 0<s.size) (h3:¬(↑(UInt8.toNat (s.data.toList.getD (Int.toNat 0) (0:UInt8))):Int)=45):
  c7 yW (fl sU []) 5 40 [sv s] 47 .normal [(64,64,none)] (nP s false []):=
 wy [aa (aL (az h1)),ah h2,ah h1,yn h3,ax (eB.mpr h3)] 90072270663843905
def amY (h1:¬(s.size:Int)>0):
  c7 yW (fl sU []) 5 40 [sv s] 32 .normal [(64,64,none)] (nP s false []):=
 wy [aa (aL (ab h1)),aF h1] 528449
def amZ (neg:Bool) (w:List Int) (h1:(s.size:Int)>9) (h2:i6 ((s.size:Int)-9)) (h3:0<=(s.size:Int)-9) (h4:(decide ((s.extract ((s.size:Int)-9).toNat s.size).size<=17)&&b6 (s.extract ((s.size:Int)-9).toNat s.size).data.toList)=true) (h5:w.length+1<=1000000) (h6:(w.length+1)=(w++[bt (s.extract ((s.size:Int)-9).toNat s.size).data.toList]).length) (h7:(bh.full)=(bM (w++[bt (s.extract ((s.size:Int)-9).toNat s.size).data.toList]).length)):
  bz yW (fl sU Oa) (nP s neg w) 5 .normal [(64,64,none),(65,67,none)] (nP (s.extract 0 ((s.size:Int)-9).toNat) neg (w++[bt (aq (s.extract ((s.size:Int)-9).toNat s.size))])):=
 wy [ah h1,yi h2,ah h3,ah (by omega:((s.size:Int)-(9:Int)).toNat<=s.size),ah (by omega:s.size<=s.size),aa h4,yk 3 (.int .i64) w,lT 8 h5,ax h6,ax h7,ot 3 (.int .i64) (Eq.refl (w++[bt (s.extract ((s.size:Int)-(9:Int)).toNat s.size).data.toList]))] 59889907190626495097649245648290902454401
def am0 (neg:Bool) (w:List Int) (h1:¬(s.size:Int)>9):
  bz yW (fl sU Oa) (nP s neg w) 2 (.exit 0) [(64,64,none),(65,65,none)] (nP s neg w):=
 wy [aF h1] 1
def PP (neg:Bool) (w:List Int) (h1:(decide (s.size<=17)&&b6 s.data.toList)=true) (h2:w.length+1<=1000000) (h3:(Nat.beq (w.length+1) 0||bA 3 (.int .i64) (some (bq.own 3 (.int .i64) (w++[bt s.data.toList]))) (w.length+1-1))=true) (h4:(okB (((w++[bt s.data.toList]).drop 0).take (w.length+1)))=true) (h5:(mkR (bp neg (ag (((w++[bt s.data.toList]).drop 0).take (w.length+1))))).1=(mkR (bp neg (ag (w++[bt s.data.toList])))).1) (h6:(mkR (bp neg (ag (((w++[bt s.data.toList]).drop 0).take (w.length+1))))).2=(mkR (bp neg (ag (w++[bt s.data.toList])))).2):
  bS yW ((fl sU []).drop 6) (nP s neg w) 2 f88 false (rv (mkR (bp neg (ag (w++[bt (aq s)]))))):=
 wy [aa h1,yk 3 (.int .i64) w,lT 8 h2,aa (show(Nat.beq (w.length+(1:Nat)) (0:Nat)||bA 3 (.int .i64) (some (bq.own 3 (.int .i64) (bP (.int .i64) (a8 3 (.int .i64) w)++[bt s.data.toList]))) ((0:Nat)+(w.length+(1:Nat))-(1:Nat)))=true from(by simp only [eD,aw]<;>exact h3)),aa (show(okB (((bP (.int .i64) (a8 3 (.int .i64) w)++[bt s.data.toList]).drop (0:Nat)).take (w.length+(1:Nat))))=true from(by simp only [eD]<;>exact h4)),ax (show((mkR (bp neg (ag (((bP (.int .i64) (a8 3 (.int .i64) w)++[bt s.data.toList]).drop (0:Nat)).take (w.length+(1:Nat)))))).1)=((mkR (bp neg (ag (w++[bt s.data.toList])))).1)from(by simp only [eD]<;>exact h5)),ax (show((mkR (bp neg (ag (((bP (.int .i64) (a8 3 (.int .i64) w)++[bt s.data.toList]).drop (0:Nat)).take (w.length+(1:Nat)))))).2)=((mkR (bp neg (ag (w++[bt s.data.toList])))).2)from(by simp only [eD]<;>exact h6))] 1997061059248129
def b7:Bool:=decide (0<s.size)&&decide ((ck s 0).toNat=45)
def bT:AT:=match b7 s with |true=>s.extract 1 s.size|false=>s
def lq:Int:=bp (b7 s) (bt (aq (bT s)))
end
def We:=IN 88 [.str] [j8] false (fun d=>decide (d.1.size<=800000)&&b6 (aq (bT d.1))) fun d=>(mkR (lq d.1),())
def Wf:bD prog (bF yW):=uj (fun c hc=>by
 simp only [ew,jU,or_false]at hc;obtain rfl:=hc;exact F2) (cN fun c hc=>by
 simp only [ew,jU,or_false]at hc;obtain rfl:=hc;exact UI)
def Ob (a b:List UInt8):bt (a++b)=bt a*10^b.length+bt b:=by
 show(a++b).foldl _ 0=_;rw [akl,m6];rfl
def Hv {a b:List UInt8}:b6 (a++b)=true↔b6 a=true/\b6 b=true:=by
 unfold b6;rw [List.all_append,ae]
def uO {s:AT} (h:b6 (aq s)=true):0<=bt (aq s)/\bt (aq s)<10^s.size:=by
 have:=A4 h (aq s).length (aK _);rw [dR]at this;rw [c6];exact this
def am1 {t:AT} (h:9<t.size) (hd:b6 (aq t)=true):
  (t.extract 0 (t.size-9)).size=t.size-9/\b6 (aq (t.extract 0 (t.size-9)))=true/\(t.extract (t.size-9) t.size).size=9/\b6 (aq (t.extract (t.size-9) t.size))=true/\bt (aq t)=bt (aq (t.extract 0 (t.size-9)))*1000000000+bt (aq (t.extract (t.size-9) t.size)):=by
 have e1:aq (t.extract 0 (t.size-9))=(aq t).take (t.size-9):=by rw [lp,List.drop_zero]
 have e2:aq (t.extract (t.size-9) t.size)=(aq t).drop (t.size-9):=by rw [lp,c6,dR]
 have e3:aq t=(aq t).take (t.size-9)++(aq t).drop (t.size-9):=(List.take_append_drop _ _).symm;have hdd:=hd;rw [e3,Hv]at hdd;have l2:((aq t).drop (t.size-9)).length=9:=by rw [nU,<-c6];omega
 refine⟨lg _ _ _ (by omega),by rw [e1];exact hdd.1,by rw [lg _ _ _ (aK _)];omega,by rw [e2];exact hdd.2, ?_⟩;rw [e1,e2];have:=Ob ((aq t).take (t.size-9)) ((aq t).drop (t.size-9));rw [<-e3,l2]at this;exact this
def Oc (t:AT) (neg:Bool) (hd:b6 (aq t)=true) (hl:t.size<=800000) (w0:World) (F:Sv.Env):
  aW prog w0 F 40 ((fl sU []).drop 5) (nP t neg []).T (nP t neg []).H (hJ prog false f88 (rv (mkR (bp neg (bt (aq t)))))):=by
 have hS:=Wf;refine aW.loop (ι:={x:AT×List Int//b6 (aq x.1)=true/\x.1.size<=800000/\x.2.length<=800000-x.1.size/\aS 1000000000 x.2/\bt (aq t)=ag x.2+1000000000^x.2.length*bt (aq x.1)/\9*x.2.length+x.1.size<=800000}) (id:=0) (b:=cat sU Oa) (rest:=(fl sU []).drop 6) (by kernel_rfl) (fun x=>nP x.1.1 neg x.1.2) (fun x=>x.1.1.size) ⟨(t,[]),hd,hl,Nat.zero_le _, .nil,by simp [ag,vl],by show 9*0+t.size<=_;omega⟩ (fun _=>rfl) ?_;rintro⟨⟨s,w⟩,h1,h2,h3,h4,h5,h6⟩;have h1:b6 (aq s)=true:=h1;have h2:s.size<=800000:=h2;have h4:aS 1000000000 w:=h4;have h5:bt (aq t)=ag w+1000000000^w.length*bt (aq s):=h5;have h6:9*w.length+s.size<=800000:=h6;have Wg:(10:Int)^9=1000000000:=rfl;by_cases hgo:9<s.size
 .have bH:((s.size:Int)-9).toNat=s.size-9:=by omega
  obtain⟨c1,c2,c3,c4,c5⟩:=am1 hgo h1;have hv:=uO c4;rw [c3,Wg]at hv;have key:=amZ s neg w (by omega) (by omega) (by omega);rw [bH]at key;refine bC (s:=nP s neg w) hS (key (by rw [az (by omega),show b6 (s.extract (s.size-9) s.size).data.toList=true from c4];rfl) (by omega) (mf _ _) (uk _ _)) ?_;refine⟨⟨(s.extract 0 (s.size-9),w++[bt (aq (s.extract (s.size-9) s.size))]),c2,by show(s.extract 0 (s.size-9)).size<=_;omega,by show(w++[_]).length<=_-(s.extract 0 (s.size-9)).size;rw [dy,List.length_singleton];omega,h4.app (.cons hv .nil), ?_,by show 9*(w++[_]).length+(s.extract 0 (s.size-9)).size<=_;rw [dy,List.length_singleton];omega⟩,by show(s.extract 0 (s.size-9)).size<s.size;omega,rfl,rfl⟩;show bt (aq t)=vl 1000000000 (w++[bt (aq (s.extract (s.size-9) s.size))])+1000000000^(w++[bt (aq (s.extract (s.size-9) s.size))]).length*bt (aq (s.extract 0 (s.size-9)));rw [x9,dy,List.length_singleton,Int.pow_succ,h5,c5];unfold ag;generalize bt (aq (s.extract (s.size-9) s.size))=x1;generalize bt (aq (s.extract 0 (s.size-9)))=x2;generalize (1000000000:Int)^w.length=x3;grind
 .refine bC (s:=nP s neg w) hS (am0 s neg w (by omega)) ?_;refine cI (cQ ?_);have hv:=uO h1;have hp:(10:Int)^s.size<=10^9:=iW (by decide) (by omega);have e:ag (w++[bt (aq s)])=bt (aq t):=by
   rw [h5];show vl _ _=vl _ _+_;rw [x9]
  have iX:aS 1000000000 (w++[bt (aq s)]):=h4.app (.cons (by omega) .nil);have et:((w++[bt (aq s)]).drop 0).take (w.length+1)=w++[bt (aq s)]:=by
   rw [List.drop_zero,eZ (by simp)]
  have key:=PP s neg w (by rw [az (by omega),show b6 s.data.toList=true from h1];rfl) (by omega) (by
   rw [Bool.or_eq_true];exact .inr (pV (by simp))) (by rw [et];exact ow.2 ⟨iX,by simp;omega⟩) (by rw [et]) (by rw [et])
  rw [e]at key;exact bY (s:=nP s neg w) hS key
def am2 (s:AT) (hl:s.size<=800000) (hd:b6 (aq (bT s))=true):Holds prog false 88 [sv s] (rv (mkR (lq s))):=by
 have hS:=Wf;refine bL (c:=sU) func88 rfl rfl fun w0 F=> ?_
 unfold lq;by_cases h0:0<s.size
 .by_cases lu:(ck s 0).toNat=45
  .have e1:b7 s=true:=by unfold b7;rw [az h0,az lu];rfl
   have e2:bT s=s.extract 1 s.size:=by unfold bT;rw [e1]
   rw [e2]at hd;rw [e1,e2];refine cR hS 5 (amW s (by omega) (by show 0<s.size;exact h0) (by show((ck s 0).toNat:Int)=45;omega) (by show 1<=s.size;omega) rfl) ?_;exact Oc _ true hd (by rw [lg _ _ _ (aK _)];omega) w0 F
  .have e1:b7 s=false:=by unfold b7;rw [az h0,ab lu];rfl
   have e2:bT s=s:=by unfold bT;rw [e1]
   rw [e2]at hd;rw [e1,e2];refine cR hS 5 (amX s (by omega) (by show 0<s.size;exact h0) (by show¬((ck s 0).toNat:Int)=45;omega)) ?_;exact Oc _ false hd hl w0 F
 .have e1:b7 s=false:=by unfold b7;rw [ab h0];rfl
  have e2:bT s=s:=by unfold bT;rw [e1]
  rw [e2]at hd;rw [e1,e2];refine cR hS 5 (amY s (by omega)) ?_;exact Oc _ false hd hl w0 F
def PQ:We.Ok prog:=fun⟨s,_⟩ h=>by
 have h:(decide (s.size<=800000)&&b6 (aq (bT s)))=true:=h;rw [ae,bE]at h;exact am2 s h.1 h.2
def am3 (l:List UInt8) (h:∀b∈l,b≠47):Lib.index l [47]= -1:=by
 induction l with
 |nil=>rfl
 |cons b r ih=>
  have hb:(47==b)=false:=by
   rw [eB];intro e;exact h b (by simp) e.symm
  have:=ih (fun c hc=>h c (by simp [hc]));simp [Lib.index,List.isPrefixOf,hb,this]
def am4 (l r:List UInt8) (h:∀b∈l,b≠47):Lib.index (l++47::r) [47]=(l.length:Int):=by
 induction l with
 |nil=>simp [Lib.index,List.isPrefixOf]
 |cons b t ih=>
  have hb:(47==b)=false:=by
   rw [eB];intro e;exact h b (by simp) e.symm
  have:=ih (fun c hc=>h c (by simp [hc]));rw [List.cons_append];unfold Lib.index;rw [this];simp only [List.isPrefixOf,hb,Bool.false_and,Bool.false_eq_true,if_false,List.length_cons];rw [if_neg (by simp)];omega
def Wh (n:Int):∀b∈Lib.itoa n,b≠47:=by
 have hd:∀b∈Lib.decDigits n.natAbs,b≠47:=fun b hb e=>by
  have:=Dec.NZ _ b hb;subst e;exact absurd this.1 (by decide)
 by_cases h:n<0
 .rw [itoa_neg h];intro b hb;rcases ew.1 hb with rfl |hb
  .decide
  .exact hd b hb
 .rw [il h];exact hd
def Wi {l:List UInt8} (h:∀b∈l,b≠47):Lib.cut l [47]=(l,[],false):=by
 unfold Lib.cut;rw [am3 l h];rfl
def Wj {l r:List UInt8} (h:∀b∈l,b≠47):Lib.cut (l++47::r) [47]=(l,r,true):=by
 unfold Lib.cut;rw [am4 l r h];simp
def aU (r:Rat):AT:=if r.den=1 then cm r.num else⟨(Lib.itoa r.num++47::Lib.itoa r.den).toArray⟩
def Wk {n:Nat} {r:Rat} (hn:1<=n) (hn2:n<=100000) (h1:aZ n (bf (r.num.natAbs:Int))=true) (h2:aZ n (bf (r.den:Int))=true) (hs:(aU r).size<4294967281):
  dI (aU r)=true/\QR n (aX (aU r)) r:=by
 have o1:aZ n (bf r.num)=true:=by
  have:=iY h1 hn;rw [val_mk]at this;exact(jJ (by omega)).1
 have hc:sR (aU r)=true:=by unfold sR;rw [az hs]
 have sV:(ki:AT).data.toList=[47]:=rfl;have ra:jP (cm r.num)=true:=V9 (bc hn2 h1);by_cases hd:r.den=1
 .have ht:aU r=cm r.num:=by unfold aU;rw [if_pos hd]
  have hcut:Lib.cut (cm r.num).data.toList (ki:AT).data.toList=(Lib.itoa r.num,[],false):=by rw [jQ,sV,Wi (Wh _)]
  have DN:jc (cm r.num) ki=cm r.num:=by unfold jc;rw [hcut];rfl
  have DO:oM (cm r.num) ki=false:=by unfold oM;rw [hcut]
  rw [ht]at hc ⊢;refine⟨?_, ?_⟩
  .unfold dI;rw [hc,DN,ra,DO];rfl
  .unfold aX;rw [DO,if_neg (by decide),DN,N3];have:=VC o1;rw [val_mk]at this;have e:(r.num:Rat)=r:=Rat.ext rfl hd.symm;rw [e]at this;exact this
 .have ht:aU r=⟨(Lib.itoa r.num++47::Lib.itoa r.den).toArray⟩:=by unfold aU;rw [if_neg hd]
  have hcut:Lib.cut (aU r).data.toList (ki:AT).data.toList=(Lib.itoa r.num,Lib.itoa r.den,true):=by
   rw [ht,sV,<-Wj (Wh r.num)]
  have DN:jc (aU r) ki=cm r.num:=by unfold jc;rw [hcut];rfl
  have Wl:wl (aU r) ki=cm r.den:=by unfold wl;rw [hcut];rfl
  have DO:oM (aU r) ki=true:=by unfold oM;rw [hcut]
  have rb:jP (cm r.den)=true:=V9 (bc hn2 (by rw [Int.natAbs_natCast];exact h2));refine⟨?_, ?_⟩
  .unfold dI;rw [hc,DN,Wl,ra,rb,DO];rfl
  .unfold aX;rw [DO,if_pos rfl,DN,Wl,N3,N3];exact⟨o1,h2,val_mk _,val_mk _⟩
def Od:=k_a f66
def yX:=k_a f67
def Oe:=a7 [A5,We,LF]
def Bn:=ov [C3] (a7 [UA,MV,MI,Hu])
def am5 (s:AT) (h1:s.size<=1000000000) (h2:(↑(bl s.data.toList):Int)=(s.size:Int)) (h3:(decide (s.size<=800000)&&b6 (bT s).data.toList)=true):
  aV Oe (fl Od []) 5 25 [sv s] 3 f66 false (.tuple [rv (mkR (lq s)),rv (mkR 1)]):=
 wy [ah h1,cM h2,aa h3] 12417
def am6 (s:AT) (h1:s.size<=1000000000) (h2:¬(↑(bl s.data.toList):Int)=(s.size:Int)) (h3:bl s.data.toList<=s.size) (h4:(decide ((s.extract 0 (bl s.data.toList)).size<=800000)&&b6 (bT (s.extract 0 (bl s.data.toList))).data.toList)=true) (h5:i6 ((↑(bl s.data.toList):Int)+1)) (h6:((↑(bl s.data.toList):Int)+1).toNat<=s.size) (h7:(decide ((s.extract ((↑(bl s.data.toList):Int)+1).toNat s.size).size<=800000)&&b6 (bT (s.extract ((↑(bl s.data.toList):Int)+1).toNat s.size)).data.toList)=true) (h8:(mkR (lq (s.extract ((↑(bl s.data.toList):Int)+1).toNat s.size))).1=(mkR (lq (s.extract (bl s.data.toList+1) s.size))).1) (h9:(mkR (lq (s.extract ((↑(bl s.data.toList):Int)+1).toNat s.size))).2=(mkR (lq (s.extract (bl s.data.toList+1) s.size))).2):
  aV Oe (fl Od []) 9 25 [sv s] 2 f66 false (.tuple [rv (mkR (lq (s.extract 0 (bl (aq s))))),rv (mkR (lq (s.extract (bl (aq s)+1) s.size)))]):=
 wy [ah h1,yn h2,ah h3,aa h4,yi h5,ah h6,ah (by omega:s.size<=s.size),aa h7,ax h8,ax h9] 196148223583635607820173441
def wn (n:Bool) (x:List Int) (m:Bool) (y:List Int):bI:={n:=57,sl:=[(2, .ptr 64 0),(3, .ptr 65 0)],bH:=[(64,N4 n x),(65,N4 m y)],next:=66}
def am7 (n:Bool) (x y:List Int):
  c7 Bn (fl yX []) 3 57 [rv (n,x),rv (false,y)] 2 .normal [(64,64,none),(65,65,none)] (wn n x false y):=
 wy [] 0
def am8 (n:Bool) (x y:List Int) (h1:(okZ (n,x))=true) (h2:(okZ (true,y))=true):
  c7 Bn (fl yX []) 3 57 [rv (n,x),rv (true,y)] 3 .normal [(64,64,none),(65,65,none)] (wn (mkR (-vZ (n,x))).1 (mkR (-vZ (n,x))).2 (mkR (-vZ (true,y))).1 (mkR (-vZ (true,y))).2):=
 wy [aa (aD (v:=af.agg [af.raw (Value.bool n),af.bu false (.int .i64) x])),aa h1,aa (aD (v:=af.agg [af.raw (Value.bool true),af.bu false (.int .i64) y])),aa h2] 4346093632
def Of (x y:List Int):List Int:=aH (Int.gcd (ag x) (ag y))
def yY (n:Bool) (x y:List Int):AT:=cm (vZ (mkR (bp n (ag (aH (ag x/ag (Of x y)))))))
def DP (x y:List Int):List Int:=aH (ag y/ag (Of x y))
abbrev iJ:AT:=⟨#[47]⟩
section
variable (n:Bool) (x:List Int) (m:Bool) (y:List Int) (h1:(okA x&&okA y)=true) (h2:(okA x&&(okA (aH (↑(Int.gcd (ag x) (ag y)):Int))&&decide (0<ag (aH (↑(Int.gcd (ag x) (ag y)):Int)))))=true) (h3:(okA y&&(okA (aH (↑(Int.gcd (ag x) (ag y)):Int))&&decide (0<ag (aH (↑(Int.gcd (ag x) (ag y)):Int)))))=true) (h4:(okB (aH (ag x/ag (aH (↑(Int.gcd (ag x) (ag y)):Int)))))=true) (h5:(okZ (mkR (bp n (ag (aH (ag x/ag (aH (↑(Int.gcd (ag x) (ag y)):Int))))))))=true)
def am9 (h6:(↑(aH (ag y/ag (aH (↑(Int.gcd (ag x) (ag y)):Int)))).length:Int)=1) (h7:Int.toNat 0<(aH (ag y/ag (aH (↑(Int.gcd (ag x) (ag y)):Int)))).length) (h8:(aH (ag y/ag (aH (↑(Int.gcd (ag x) (ag y)):Int)))).getD (Int.toNat 0) 0=1) (h9:(cm (vZ (mkR (bp n (ag (aH (ag x/ag (aH (↑(Int.gcd (ag x) (ag y)):Int)))))))))=(yY n x y)):
  bS Bn ((fl yX []).drop 3) (wn n x m y) 127 f67 true (sv (yY n x y)):=
 wy [aa h1,aa h2,aa h3,aa h4,aa h5,aa (aL (fW.mpr h6)),ah h7,cM h6,cM h8,ax h9] 3065413170778920828547201
def ana (h6:(↑(aH (ag y/ag (aH (↑(Int.gcd (ag x) (ag y)):Int)))).length:Int)=1) (h7:Int.toNat 0<(aH (ag y/ag (aH (↑(Int.gcd (ag x) (ag y)):Int)))).length) (h8:¬(aH (ag y/ag (aH (↑(Int.gcd (ag x) (ag y)):Int)))).getD (Int.toNat 0) 0=1) (h9:(cm (vZ (mkR (bp n (ag (aH (ag x/ag (aH (↑(Int.gcd (ag x) (ag y)):Int))))))))).size+(ByteArray.mk (#[(47:UInt8)])).size<=9223372036854775807) (h10:(okB (aH (ag y/ag (aH (↑(Int.gcd (ag x) (ag y)):Int)))))=true) (h11:(okZ (mkR (bp false (ag (aH (ag y/ag (aH (↑(Int.gcd (ag x) (ag y)):Int))))))))=true) (h12:(cm (vZ (mkR (bp n (ag (aH (ag x/ag (aH (↑(Int.gcd (ag x) (ag y)):Int))))))))++(ByteArray.mk (#[(47:UInt8)]))).size+(cm (vZ (mkR (bp false (ag (aH (ag y/ag (aH (↑(Int.gcd (ag x) (ag y)):Int))))))))).size<=9223372036854775807) (dZ:(cm (vZ (mkR (bp n (ag (aH (ag x/ag (aH (↑(Int.gcd (ag x) (ag y)):Int))))))))++(ByteArray.mk (#[(47:UInt8)]))++cm (vZ (mkR (bp false (ag (aH (ag y/ag (aH (↑(Int.gcd (ag x) (ag y)):Int)))))))))=(yY n x y++(ByteArray.mk (#[(47:UInt8)]))++cm (vZ (mkR (bp false (ag (DP x y))))))):
  bS Bn ((fl yX []).drop 3) (wn n x m y) 95 f67 true (sv (yY n x y++iJ++cm (vZ (mkR (bp false (ag (DP x y))))))):=
 wy [aa h1,aa h2,aa h3,aa h4,aa h5,aa (aL (fW.mpr h6)),ah h7,cM h6,yn h8,ah h9,aa h10,aa h11,ah h12,ax dZ] 72033470842295130389485817180289
def anb (h6:¬(↑(aH (ag y/ag (aH (↑(Int.gcd (ag x) (ag y)):Int)))).length:Int)=1) (h7:(cm (vZ (mkR (bp n (ag (aH (ag x/ag (aH (↑(Int.gcd (ag x) (ag y)):Int))))))))).size+(ByteArray.mk (#[(47:UInt8)])).size<=9223372036854775807) (h8:(okB (aH (ag y/ag (aH (↑(Int.gcd (ag x) (ag y)):Int)))))=true) (h9:(okZ (mkR (bp false (ag (aH (ag y/ag (aH (↑(Int.gcd (ag x) (ag y)):Int))))))))=true) (h10:(cm (vZ (mkR (bp n (ag (aH (ag x/ag (aH (↑(Int.gcd (ag x) (ag y)):Int))))))))++(ByteArray.mk (#[(47:UInt8)]))).size+(cm (vZ (mkR (bp false (ag (aH (ag y/ag (aH (↑(Int.gcd (ag x) (ag y)):Int))))))))).size<=9223372036854775807) (h11:(cm (vZ (mkR (bp n (ag (aH (ag x/ag (aH (↑(Int.gcd (ag x) (ag y)):Int))))))))++(ByteArray.mk (#[(47:UInt8)]))++cm (vZ (mkR (bp false (ag (aH (ag y/ag (aH (↑(Int.gcd (ag x) (ag y)):Int)))))))))=(yY n x y++(ByteArray.mk (#[(47:UInt8)]))++cm (vZ (mkR (bp false (ag (DP x y))))))):
  bS Bn ((fl yX []).drop 3) (wn n x m y) 64 f67 true (sv (yY n x y++iJ++cm (vZ (mkR (bp false (ag (DP x y))))))):=
 wy [aa h1,aa h2,aa h3,aa h4,aa h5,aa (aL (eB.mpr h6)),yn h6,ah h7,aa h8,aa h9,ah h10,ax h11] 15071116821947747238537080961
end
def ptN (s:AT):Int:=lq (s.extract 0 (bl (aq s)))
def ptD (s:AT):Int:=if bl (aq s)<s.size then lq (s.extract (bl (aq s)+1) s.size)else 1
def jn (s:AT):Bool:=decide (s.size<=800000)&&(b6 (aq (bT (s.extract 0 (bl (aq s)))))&&b6 (aq (bT (s.extract (bl (aq s)+1) s.size))))
def Hw:=IN 66 [.str] [j8,j8] false (fun d=>jn d.1) fun d=>(mkR (ptN d.1),mkR (ptD d.1),())
def Wm:=IN 67 [j8,j8] [.str] true (fun d=>okZ d.1&&(okZ d.2.1&& !(Nat.beq (List.length (α:=Int) d.2.1.2) 0))) fun d=>(aU (Rat.divInt (vZ d.1) (vZ d.2.1)),())
def Wn:bD prog (bF Oe):=cN (aQ Dw (aQ PQ (aQ Ta dW)))
def Wo:bD prog (bF Bn):=uj (fun c hc=>by rw [List.mem_singleton.1 hc];exact F2) (cN fun c hc=>by
 simp only [ew,jU,or_false]at hc;rcases hc with rfl |rfl |rfl |rfl
 .exact ajR
 .exact FSz
 .exact Uh
 .exact N9)
def Wp (s:AT):s.extract 0 s.size=s:=gy (by rw [Hr,uG,dR])
def anc (s:AT) (h:jn s=true):Holds prog false 66 [sv s] (.tuple [rv (mkR (ptN s)),rv (mkR (ptD s))]):=by
 unfold jn at h;rw [ae,ae,bE]at h;obtain⟨hl,h1,h2⟩:=h;have hle:bl (aq s)<=s.size:=by rw [c6];exact A6 _
 have ha:bl s.data.toList=bl (aq s):=rfl;refine bL (c:=Od) func66 rfl rfl fun w F=> ?_
 unfold ptN ptD;by_cases hlt:bl (aq s)<s.size
 .rw [if_pos hlt];have uP:((bl (aq s):Int)+1).toNat=bl (aq s)+1:=by omega
  have key:=am6 s (by omega) (by omega) (by omega) (by rw [ha,az (by rw [lg _ _ _ hle];omega)];exact h1) (by omega) (by omega);rw [ha,uP]at key;exact aY Wn 9 (key (by rw [az (by rw [lg _ _ _ (aK _)];omega)];exact h2) rfl rfl)
 .rw [if_neg hlt,show bl (aq s)=s.size by omega,Wp];rw [show bl (aq s)=s.size by omega,Wp]at h1;exact aY Wn 5 (am5 s (by omega) (by omega) (by rw [az hl];exact h1))
def Og:Hw.Ok prog:=fun⟨s,_⟩ h=>anc s h
def ane {n:Bool} {x:Int} {g:Int} (h:g∣x):bp n x/g=bp n (x/g):=by
 cases n with
 |false=>rfl
 |true=>exact Int.neg_ediv_of_dvd h
def Hx {n:Bool} {x y:Int}:Int.gcd (bp n x) y=Int.gcd x y:=by
 cases n with
 |false=>rfl
 |true=>exact Int.neg_gcd
def Hy {n:Bool} {x y:Int} (hy:0<y):(Rat.divInt (bp n x) y).num=bp n (x/Int.gcd x y)/\((Rat.divInt (bp n x) y).den:Int)=y/Int.gcd x y:=by
 have h1:=amK (n:=bp n x) (d:=y) (by omega);have h2:=amL (n:=bp n x) (d:=y) (by omega);have hg:0<Int.gcd x y:=Int.gcd_pos_of_ne_zero_right _ (by omega);have hq:1<=A8 (bp n x) y:=by
  unfold A8;rw [Hx];exact Int.le_ediv_of_mul_le (by omega) (by rw [Int.one_mul];exact Int.le_of_dvd hy (Int.gcd_dvd_right ..))
 obtain⟨h3,h4⟩:=N2 hq h2;rw [h1]at h3 h4;refine⟨?_, ?_⟩
 .rw [h3];unfold G2;rw [Hx,ane (Int.gcd_dvd_left ..)]
 .rw [h4];unfold A8;rw [Hx]
def Wq {z:Int} {k:Nat} (h:(z.natAbs:Int)<1000000000^k):(cm z).size<=9*k+2:=by
 have h1:=N8 (gI (z:=(z.natAbs:Int)) (Int.natCast_nonneg _)).1;rw [(gI (z:=(z.natAbs:Int)) (Int.natCast_nonneg _)).2.2,Int.toNat_natCast]at h1;have h2:=zt (Int.natCast_nonneg _) h;rw [uG,jQ];by_cases hz:z<0
 .rw [itoa_neg hz,List.length_cons];omega
 .rw [il hz];omega
def Bo {n:Bool} {x:Int} (h:0<=x):((bp n x).natAbs:Int)=x:=by
 cases n with
 |false=>show(x.natAbs:Int)=x;omega
 |true=>show((-x).natAbs:Int)=x;omega
def Wr (n m:Bool) (x y:List Int) (h1:okA x=true) (h2:okA y=true) (hy:0<ag y) (w:World) (F:Sv.Env):
  aW prog w F 57 ((fl yX []).drop 3) (wn n x m y).T (wn n x m y).H (hJ prog true f67 (sv (aU (Rat.divInt (bp n (ag x)) (ag y))))):=by
 have hS:=Wo;obtain⟨yK,tx,lx⟩:=fD.1 h1;obtain⟨uF,ty,ly⟩:=fD.1 h2;have hx0:=gN yK;have hx1:=pl h1;have hy1:=pl h2;have hg:0<Int.gcd (ag x) (ag y):=Int.gcd_pos_of_ne_zero_right _ (by omega);have anf:(Int.gcd (ag x) (ag y):Int)<=ag y:=Int.le_of_dvd hy (Int.gcd_dvd_right ..);obtain⟨r1,r2⟩:=Hy (n:=n) (x:=ag x) (y:=ag y) hy;have ang:ag (aH (Int.gcd (ag x) (ag y)))=Int.gcd (ag x) (ag y):=(gI (Int.natCast_nonneg _)).2.2;have Ws:okA (aH (Int.gcd (ag x) (ag y)))=true:=vf (k:=y.length) (Int.natCast_nonneg _) (by omega) ly;have au6:1<=ag y/Int.gcd (ag x) (ag y):=Int.le_ediv_of_mul_le (by omega) (by rw [Int.one_mul];exact anf);have hpx:0<=ag x/Int.gcd (ag x) (ag y):=Int.ediv_nonneg hx0 (by omega);have au7:ag x/Int.gcd (ag x) (ag y)<=ag x:=Int.ediv_le_self _ hx0;have au8:ag y/Int.gcd (ag x) (ag y)<=ag y:=Int.ediv_le_self _ (by omega);have k1:=am9 n x m y;have k2:=ana n x m y;have c8:=anb n x m y;unfold yY DP Of at*;generalize cv:(Int.gcd (ag x) (ag y):Int)=g at*;rw [ang]at k1 k2 c8;generalize hp:ag x/g=p at*;generalize hq:ag y/g=q at*;have anh:ag (aH p)=p:=(gI hpx).2.2;have Wt:ag (aH q)=q:=(gI (by omega)).2.2;rw [anh]at k1 k2 c8;rw [Wt]at k2 c8;have pA:(okA x&&okA y)=true:=by rw [h1,h2];rfl
 have Oh:(okA x&&(okA (aH g)&&decide (0<g)))=true:=by rw [h1,Ws,az (by omega)];rfl
 have Oi:(okA y&&(okA (aH g)&&decide (0<g)))=true:=by rw [h2,Ws,az (by omega)];rfl
 have pB:okB (aH p)=true:=mr (k:=x.length) hpx (by omega) (by omega);have qB:okB (aH q)=true:=mr (k:=y.length) (by omega) (by omega) (by omega);have Oj:okZ (mkR (bp n p))=true:=iq (k:=x.length) (by rw [Bo hpx];omega) lx;have Wu:okZ (mkR (bp false q))=true:=iq (k:=y.length) (by rw [Bo (by omega)];omega) ly;have sp:(cm (vZ (mkR (bp n p)))).size<=9*x.length+2:=by rw [dw];exact Wq (by rw [Bo hpx];omega)
 have sq:(cm (vZ (mkR (bp false q)))).size<=9*y.length+2:=by rw [dw];exact Wq (by rw [Bo (by omega)];omega)
 have ed:((Rat.divInt (bp n (ag x)) (ag y)).den:Int)=q:=r2;have bH:(Rat.divInt (bp n (ag x)) (ag y)).num=bp n p:=r1;by_cases hq1:q=1
 .have e:aU (Rat.divInt (bp n (ag x)) (ag y))=cm (vZ (mkR (bp n p))):=by
   unfold aU;rw [if_pos (by omega),bH,dw]
  have e1:aH q=[1]:=by
   have h11:fk [(1:Int)]:=fun k hk=>by
    obtain rfl:k=0:=by simpa using hk.symm
    show(1:Int)≠0;decide
   have:=F1 (l:=[(1:Int)]) (.cons (show(0:Int)<=1/\(1:Int)<1000000000 by decide) .nil) h11;rw [show ag [(1:Int)]=1 from rZ _ _]at this;rw [hq1];exact this
  rw [e];rw [e1]at k1;exact bY (s:=wn n x m y) hS (k1 pA Oh Oi pB Oj rfl (by decide) rfl rfl)
 .have e:aU (Rat.divInt (bp n (ag x)) (ag y))=cm (vZ (mkR (bp n p)))++iJ++cm (vZ (mkR (bp false q))):=by
   unfold aU;rw [if_neg (by omega),bH,ed,dw,dw];refine gy ?_;rw [ja,ja,jQ,jQ];show _++47::_=_++[47]++_;rw [rA];rfl
  rw [e];have cT:(cm (vZ (mkR (bp n p)))).size+(ByteArray.mk #[47]).size<=9223372036854775807:=by
   show _+1<=_;omega
  have z2:(cm (vZ (mkR (bp n p)))++ByteArray.mk #[47]).size+(cm (vZ (mkR (bp false q)))).size<=9223372036854775807:=by
   rw [ByteArray.size_append];show _+1+_<=_;omega
  by_cases vv:((aH q).length:Int)=1
  .have hne:¬(aH q).getD 0 0=1:=fun h=>by
    obtain⟨c,hc⟩:∃c,aH q=[c]:=List.length_eq_one_iff.1 (by omega);rw [hc]at h;have h:c=1:=h;rw [hc,h]at Wt;have:ag [(1:Int)]=1:=rZ _ _;omega
   exact bY (s:=wn n x m y) hS (k2 pA Oh Oi pB Oj vv (by show 0<_;omega) hne cT qB Wu z2 rfl)
  .exact bY (s:=wn n x m y) hS (c8 pA Oh Oi pB Oj vv cT qB Wu z2 rfl)
def ani {y:List Int} (h:okA y=true) (hn:Nat.beq y.length 0=false):0<ag y:=by
 obtain⟨uF,ty,_⟩:=fD.1 h;have h0:=gN uF;rcases Int.lt_or_le 0 (ag y)with h1|h1
 .exact h1
 .have:y=[]:=(FU k4 uF ty).1 (by unfold ag at*;omega);rw [this]at hn;cases hn
def anj (n m:Bool) (x y:List Int) (h:okZ (n,x)=true) (g:okZ (m,y)=true) (hy:0<ag y):Holds prog true 67 [rv (n,x),rv (m,y)] (sv (aU (Rat.divInt (bp n (ag x)) (bp m (ag y))))):=by
 have hS:=Wo;obtain⟨h1,h2⟩:=nK.1 h;obtain⟨g1,g2⟩:=nK.1 g;refine bL (c:=yX) func67 rfl rfl fun w F=> ?_
 cases m with
 |false=>
  refine cR hS 3 (am7 n x y) ?_;exact Wr n false x y h1 g1 hy w F
 |true=>
  refine cR hS 3 (am8 n x y h g) ?_;have a1:okZ (mkR (-vZ (n,x)))=true:=iq (k:=x.length) (by
   rw [Int.natAbs_neg];show((bp n (ag x)).natAbs:Int)<_;rw [Bo (gN (fD.1 h1).1)];exact pl h1) (fD.1 h1).2.2
  have a2:okZ (mkR (-vZ (true,y)))=true:=iq (k:=y.length) (by
   rw [Int.natAbs_neg];show((bp true (ag y)).natAbs:Int)<_;rw [Bo (ct hy)];exact pl g1) (fD.1 g1).2.2
  have e1:bp (mkR (-vZ (n,x))).1 (ag (mkR (-vZ (n,x))).2)= -vZ (n,x):=dw _;have e2:ag (mkR (-vZ (true,y))).2=ag y:=by
   show ag (aH ((-vZ (true,y)).natAbs:Int))=_;rw [(gI (Int.natCast_nonneg _)).2.2];show((-(-ag y)).natAbs:Int)=_;omega
  have key:=Wr (mkR (-vZ (n,x))).1 (mkR (-vZ (true,y))).1 (mkR (-vZ (n,x))).2 (mkR (-vZ (true,y))).2 (nK.1 a1).1 (nK.1 a2).1 (by rw [e2];exact hy) w F;rw [e1,e2]at key;have e3:Rat.divInt (bp n (ag x)) (bp true (ag y))=Rat.divInt (-vZ (n,x)) (ag y):=by
   show Rat.divInt (bp n (ag x)) (-ag y)=Rat.divInt (-(bp n (ag x))) (ag y);have:=Rat.neg_divInt_neg (bp n (ag x)) (-ag y);rw [Int.neg_neg]at this;exact this.symm
  rw [e3];exact key
def ank:Wm.Ok prog:=fun⟨⟨n,x⟩,⟨m,y⟩,_⟩ h=>by
 have h:(okZ (n,x)&&(okZ (m,y)&& !(Nat.beq y.length 0)))=true:=h;rw [ae,ae,Bool.not_eq_true']at h;exact anj n m x y h.1 h.2.1 (ani (nK.1 h.2.1).1 h.2.2)
def p4:=k_a f65
def Ol:=k_a f44
def sW:=a7 [A5,MY]
def Om:=a7 [MX,G0]
def kM (u:AT) (n:Bool) (k:Int):bI:={n:=54,sl:=[(5,sv u),(6,bv n),(7,iv k)],bH:=[],next:=64}
def anl (s:AT) (h1:(s.size:Int)>20):
  aV sW (fl p4 []) 4 54 [sv s] 3 f65 true (.tuple [iv 0,iv 0,bv false]):=
 wy [ah h1] 1
section
variable (s:AT) (h1:¬(s.size:Int)>20) (h2:(s.size:Int)>0) (h3:Int.toNat 0<s.size)
def anm (h4:¬(↑(UInt8.toNat (s.data.toList.getD (Int.toNat 0) (0:UInt8))):Int)=45) (h5:s.size<=1000000000):
  c7 sW (fl p4 []) 8 54 [sv s] 94 .normal [] (kM s false (bl (aq s))):=
 wy [aF h1,aa (aL (az h2)),ah h3,ah h2,yn h4,ah h5,ax (eB.mpr h4)] 8072161649416478849
def ann (h4:(↑(UInt8.toNat (s.data.toList.getD (Int.toNat 0) (0:UInt8))):Int)=45) (h5:Int.toNat 1<=s.size) (h6:(s.extract (Int.toNat 1) s.size).size<=1000000000) (h7:(s.extract (Int.toNat 1) s.size)=(s.extract 1 s.size)) (h8:(↑(bl (s.extract (Int.toNat 1) s.size).data.toList):Int)=(↑(bl (s.extract 1 s.size).data.toList):Int)):
  c7 sW (fl p4 []) 8 54 [sv s] 126 .normal [] (kM (s.extract 1 s.size) true (bl (aq (s.extract 1 s.size)))):=
 wy [aF h1,aa (aL (az h2)),ah h3,ah h2,cM h4,ah h5,ah (by omega:s.size<=s.size),ah h6,ax h7,ax (fW.mpr h4),ax h8] 215836358573926683810734209
end
def ano (u:AT) (n:Bool) (k:Int) (h1:k>9):
  bS sW ((fl p4 []).drop 8) (kM u n k) 224 f65 true (.tuple [iv 0,iv 0,bv false]):=
 wy [aa (bg (az h1)),ah h1] 2164527169
def anp (u:AT) (n:Bool) (k:Int) (h1:¬k>9) (h2:i6 ((u.size:Int)-k)) (h3:(u.size:Int)-k>10):
  bS sW ((fl p4 []).drop 8) (kM u n k) 223 f65 true (.tuple [iv 0,iv 0,bv false]):=
 wy [aa (bg (ab h1)),yi h2,aF h1,ah h3] 17799452037185
section
variable (u:AT) (k:Int) (h1:¬k>9) (h2:i6 ((u.size:Int)-k)) (h3:¬(u.size:Int)-k>10) (h4:0<=k) (h5:k.toNat<=u.size) (h6:(decide ((u.extract 0 k.toNat).size<=17)&&b6 (u.extract 0 k.toNat).data.toList)=true)
def anq (h7:¬k<(u.size:Int)):
  bS sW ((fl p4 []).drop 8) (kM u false k) 543 f65 true (.tuple [iv (bt (aq (u.extract 0 k.toNat))),iv 1,bv true]):=
 wy [aa (bg (ab h1)),yi h2,aF h1,aF h3,ah h4,ah h5,aa h6,aF h7] 38302359651223005827137
def anr (h7:k<(u.size:Int)) (h8:i6 (k+1)) (h9:0<=k+1) (h10:(k+1).toNat<=u.size) (h11:(decide ((u.extract (k+1).toNat u.size).size<=17)&&b6 (u.extract (k+1).toNat u.size).data.toList)=true):
  bS sW ((fl p4 []).drop 8) (kM u false k) 671 f65 true (.tuple [iv (bt (aq (u.extract 0 k.toNat))),iv (bt (aq (u.extract (k+1).toNat u.size))),bv true]):=
 wy [aa (bg (ab h1)),yi h2,aF h1,aF h3,ah h4,ah h5,aa h6,ah h7,yi h8,ah h9,ah h10,ah (by omega:u.size<=u.size),aa h11] 66882382688987832236781586354241
def ans (h7:¬k<(u.size:Int)) (h8:i6 (0-bt (u.extract 0 k.toNat).data.toList)):
  bS sW ((fl p4 []).drop 8) (kM u true k) 799 f65 true (.tuple [iv (0-bt (aq (u.extract 0 k.toNat))),iv 1,bv true]):=
 wy [aa (bg (ab h1)),yi h2,aF h1,aF h3,ah h4,ah h5,aa h6,aF h7,yi h8] 174123620384157824163516481
def ant (h7:k<(u.size:Int)) (h8:i6 (k+1)) (h9:0<=k+1) (h10:(k+1).toNat<=u.size) (h11:(decide ((u.extract (k+1).toNat u.size).size<=17)&&b6 (u.extract (k+1).toNat u.size).data.toList)=true) (h12:i6 (0-bt (u.extract 0 k.toNat).data.toList)):
  bS sW ((fl p4 []).drop 8) (kM u true k) 927 f65 true (.tuple [iv (0-bt (aq (u.extract 0 k.toNat))),iv (bt (aq (u.extract (k+1).toNat u.size))),bv true]):=
 wy [aa (bg (ab h1)),yi h2,aF h1,aF h3,ah h4,ah h5,aa h6,ah h7,yi h8,ah h9,ah h10,ah (by omega:u.size<=u.size),aa h11,yi h12] 290835506460639335029944576022679617
end
abbrev Bp (z:Int):Int:=if 0-z>z then 0-z else z
abbrev wI:AT:=⟨#[45]⟩
section
variable (n d:Int) (h1:¬n< -4000000000000000000) (h2:¬n>4000000000000000000) (h3:¬d< -4000000000000000000) (h4:¬d>4000000000000000000) (h5:¬d<0) (h6:i6 (0-n)) (h7:(decide ((0:av.den (.int .i64))<=if 0-n>n then 0-n else n)&&decide ((0:av.den (.int .i64))<=d))=true) (h8:(bB n d)≠0) (h9:i6 (Int.tdiv n (bB n d))) (h10:i6 (Int.tdiv d (bB n d))) (h11:Int.tdiv n (bB n d)<0) (h12:i6 (0-Int.tdiv n (bB n d))) (dZ:(decide ((0:av.den (.int .i64))<=if 0-Int.tdiv n (bB n d)>Int.tdiv n (bB n d)then 0-Int.tdiv n (bB n d)else Int.tdiv n (bB n d))&&(decide ((if 0-Int.tdiv n (bB n d)>Int.tdiv n (bB n d)then 0-Int.tdiv n (bB n d)else Int.tdiv n (bB n d))<=(9223372036854775807:av.den (.int .i64)))&&decide (1<=(20:av.den (.int .i64)))))=true) (iH:(ByteArray.mk (#[(45:UInt8)])).size+(ByteArray.mk (List.toArray (cy 20 (if 0-Int.tdiv n (bB n d)>Int.tdiv n (bB n d)then 0-Int.tdiv n (bB n d)else Int.tdiv n (bB n d)) 1 []))).size<=9223372036854775807)
def anu (ke:¬Int.tdiv d (bB n d)>1) (mV:((ByteArray.mk (#[(45:UInt8)]))++(ByteArray.mk (List.toArray (cy 20 (if 0-Int.tdiv n (bB n d)>Int.tdiv n (bB n d)then 0-Int.tdiv n (bB n d)else Int.tdiv n (bB n d)) 1 []))))=((ByteArray.mk (#[(45:UInt8)]))++(ByteArray.mk (List.toArray (cy 20 (if 0-Int.tdiv n (bB n d)>Int.tdiv n (bB n d)then 0-Int.tdiv n (bB n d)else Int.tdiv n (bB n d)) 1 []))))):
  aV Om (fl Ol []) 30 61 [iv n,iv d] 10459 f44 true (sv (wI++kK (Bp (Int.tdiv n (Int.gcd (Bp n) d))) 1)):=
 wy [aa (bg (ab h1)),aF h1,aa (bg (ab h2)),aF h2,aa (bg (ab h3)),aF h3,aF h4,aF h5,yi h6,aa h7,ah h8,yi h9,yi h10,ah h11,yi h12,aa dZ,ah iH,aF ke,ax mV] 105000044317847363205758449615782206513217
def anv (ke:Int.tdiv d (bB n d)>1) (mV:((ByteArray.mk (#[(45:UInt8)]))++(ByteArray.mk (List.toArray (cy 20 (if 0-Int.tdiv n (bB n d)>Int.tdiv n (bB n d)then 0-Int.tdiv n (bB n d)else Int.tdiv n (bB n d)) 1 [])))).size+(ByteArray.mk (#[(47:UInt8)])).size<=9223372036854775807) (yA:(decide ((0:av.den (.int .i64))<=Int.tdiv d (bB n d))&&(decide (Int.tdiv d (bB n d)<=(9223372036854775807:av.den (.int .i64)))&&decide (1<=(20:av.den (.int .i64)))))=true) (yB:((ByteArray.mk (#[(45:UInt8)]))++(ByteArray.mk (List.toArray (cy 20 (if 0-Int.tdiv n (bB n d)>Int.tdiv n (bB n d)then 0-Int.tdiv n (bB n d)else Int.tdiv n (bB n d)) 1 [])))++(ByteArray.mk (#[(47:UInt8)]))).size+(ByteArray.mk (List.toArray (cy 20 (Int.tdiv d (bB n d)) 1 []))).size<=9223372036854775807) (h19:((ByteArray.mk (#[(45:UInt8)]))++(ByteArray.mk (List.toArray (cy 20 (if 0-Int.tdiv n (bB n d)>Int.tdiv n (bB n d)then 0-Int.tdiv n (bB n d)else Int.tdiv n (bB n d)) 1 [])))++(ByteArray.mk (#[(47:UInt8)]))++(ByteArray.mk (List.toArray (cy 20 (Int.tdiv d (bB n d)) 1 []))))=((ByteArray.mk (#[(45:UInt8)]))++(ByteArray.mk (List.toArray (cy 20 (if 0-Int.tdiv n (bB n d)>Int.tdiv n (bB n d)then 0-Int.tdiv n (bB n d)else Int.tdiv n (bB n d)) 1 [])))++(ByteArray.mk (#[(47:UInt8)]))++(ByteArray.mk (List.toArray (cy 20 (Int.tdiv d (bB n d)) 1 []))))):
  aV Om (fl Ol []) 30 61 [iv n,iv d] 14555 f44 true (sv (wI++kK (Bp (Int.tdiv n (Int.gcd (Bp n) d))) 1++iJ++kK (Int.tdiv d (Int.gcd (Bp n) d)) 1)):=
 wy [aa (bg (ab h1)),aF h1,aa (bg (ab h2)),aF h2,aa (bg (ab h3)),aF h3,aF h4,aF h5,yi h6,aa h7,ah h8,yi h9,yi h10,ah h11,yi h12,aa dZ,ah iH,ah ke,ah mV,aa yA,ah yB,ax h19] 31874838871619119136349477082024326987223146561
end
section
variable (s:AT)
def sX:Nat:=bl (aq (bT s))
def DQ:Int:=bt (aq ((bT s).extract 0 (sX s)))
def DR:Int:=if sX s<(bT s).size then bt (aq ((bT s).extract (sX s+1) (bT s).size))else 1
def qB:Bool:=decide (s.size<=20)&&(decide (sX s<=9)&&decide ((bT s).size-sX s<=10))
def kp:Bool:=(decide (0<s.size)&&decide (s.size<=800000))&&(b6 (aq ((bT s).extract 0 (sX s)))&&b6 (aq ((bT s).extract (sX s+1) (bT s).size)))
def ju:Int:=if qB s then bp (b7 s) (DQ s)else 0
def gj:Int:=if qB s then DR s else 0
end
def Wv:=IN 65 [.str] [.int .i64, .int .i64, .bool] true (fun d=>kp d.1) fun d=>(ju d.1,gj d.1,qB d.1,())
def Ww:=IN 44 [.int .i64, .int .i64] [.str] true (fun d=>(decide (-4000000000000000000<=d.1)&&decide (d.1<=4000000000000000000))&&(decide (0<d.2.1)&&decide (d.2.1<=4000000000000000000))) fun d=>(aU (Rat.divInt d.1 d.2.1),())
def Wx:bD prog (bF sW):=cN (aQ Dw (aQ UI dW))
def Wy:bD prog (bF Om):=cN (aQ UF (aQ M0 dW))
abbrev On (a b:Int) (c:Bool):Exit->au af->ai->Prop:=hJ prog true f65 (.tuple [iv a,iv b,bv c])
def anw (u:AT) (n:Bool) (hl:u.size<=20) (h1:b6 (aq (u.extract 0 (bl (aq u))))=true) (h2:b6 (aq (u.extract (bl (aq u)+1) u.size))=true) (w:World) (F:Sv.Env):
  aW prog w F 54 ((fl p4 []).drop 8) (kM u n (bl (aq u))).T (kM u n (bl (aq u))).H (if bl (aq u)<=9/\u.size-bl (aq u)<=10 then On (bp n (bt (aq (u.extract 0 (bl (aq u)))))) (if bl (aq u)<u.size then bt (aq (u.extract (bl (aq u)+1) u.size))else 1) true else On 0 0 false):=by
 have hS:=Wx;have hle:bl (aq u)<=u.size:=by rw [c6];exact A6 _
 generalize bl (aq u)=k at*;have uP:(k:Int).toNat=k:=by omega
 have Hz:((k:Int)+1).toNat=k+1:=by omega
 have hz:=lg u 0 k hle;have nE:=lg u (k+1) u.size (aK _);by_cases hk:k<=9
 .by_cases hd:u.size-k<=10
  .rw [if_pos ⟨hk,hd⟩];have g1:(decide ((u.extract 0 k).size<=17)&&b6 (aq (u.extract 0 k)))=true:=by rw [h1,az (by omega)];rfl
   have g2:(decide ((u.extract (k+1) u.size).size<=17)&&b6 (aq (u.extract (k+1) u.size)))=true:=by rw [h2,az (by omega)];rfl
   have hv:=uO h1;have hp:(10:Int)^(u.extract 0 k).size<=10^9:=iW (by decide) (by omega);have Wg:(10:Int)^9=1000000000:=rfl;by_cases hlt:k<u.size
   .rw [if_pos hlt];cases n with
    |false=>
     have key:=anr u (k:Int) (by omega) (by omega) (by omega) (by omega);rw [uP,Hz]at key;exact bY (s:=kM u false k) hS (key hle g1 (by omega) (by omega) (by omega) (by omega) g2)
    |true=>
     have key:=ant u (k:Int) (by omega) (by omega) (by omega) (by omega);rw [uP,Hz]at key;have key:=key hle g1 (by omega) (by omega) (by omega) (by omega) g2 (by show-9223372036854775808<=0-bt (aq (u.extract 0 k))/\0-bt (aq (u.extract 0 k))<=9223372036854775807;omega);rw [Int.zero_sub]at key;exact bY (s:=kM u true k) hS key
   .rw [if_neg hlt];cases n with
    |false=>
     have key:=anq u (k:Int) (by omega) (by omega) (by omega) (by omega);rw [uP]at key;exact bY (s:=kM u false k) hS (key hle g1 (by omega))
    |true=>
     have key:=ans u (k:Int) (by omega) (by omega) (by omega) (by omega);rw [uP]at key;have key:=key hle g1 (by omega) (by show-9223372036854775808<=0-bt (aq (u.extract 0 k))/\0-bt (aq (u.extract 0 k))<=9223372036854775807;omega);rw [Int.zero_sub]at key;exact bY (s:=kM u true k) hS key
  .rw [if_neg fun h=>hd h.2];exact bY (s:=kM u n k) hS (anp u n (k:Int) (by omega) (by omega) (by omega))
 .rw [if_neg fun h=>hk h.1];exact bY (s:=kM u n k) hS (ano u n (k:Int) (by omega))
def anx (s:AT) (h:kp s=true):Holds prog true 65 [sv s] (.tuple [iv (if qB s then bp (b7 s) (DQ s)else 0),iv (if qB s then DR s else 0),bv (qB s)]):=by
 have hS:=Wx;unfold kp at h;rw [ae,ae,ae,bE,bE]at h;obtain⟨⟨h0,hl⟩,h1,h2⟩:=h;refine bL (c:=p4) func65 rfl rfl fun w F=> ?_
 by_cases Oo:s.size<=20
 .have fin:∀u n,bT s=u->b7 s=n->u.size<=20->aW prog w F 54 ((fl p4 []).drop 8) (kM u n (bl (aq u))).T (kM u n (bl (aq u))).H (On (if qB s then bp (b7 s) (DQ s)else 0) (if qB s then DR s else 0) (qB s)):=fun u n e1 e2 hu=>by
   unfold DQ DR qB sX at*;rw [e1]at h1 h2 ⊢;rw [e2,az Oo,Bool.true_and];have key:=anw u n hu h1 h2 w F;by_cases hc:bl (aq u)<=9/\u.size-bl (aq u)<=10
   .rw [if_pos hc]at key;rw [az hc.1,az hc.2];exact key
   .rw [if_neg hc]at key;have e:(decide (bl (aq u)<=9)&&decide (u.size-bl (aq u)<=10))=false:=by
     rw [Bool.eq_false_iff];intro h;rw [ae,bE,bE]at h;exact hc h
    rw [e];exact key
  by_cases lu:(ck s 0).toNat=45
  .have e1:b7 s=true:=by unfold b7;rw [az h0,az lu];rfl
   have e2:bT s=s.extract 1 s.size:=by unfold bT;rw [e1]
   have hz:=lg s 1 s.size (aK _);refine cR hS 8 (ann s (by omega) (by omega) (by show 0<s.size;exact h0) (by show((ck s 0).toNat:Int)=45;omega) (by show 1<=s.size;omega) (by show(s.extract 1 s.size).size<=_;omega) rfl rfl) ?_;exact fin _ _ e2 e1 (by omega)
  .have e1:b7 s=false:=by unfold b7;rw [az h0,ab lu];rfl
   have e2:bT s=s:=by unfold bT;rw [e1]
   refine cR hS 8 (anm s (by omega) (by omega) (by show 0<s.size;exact h0) (by show¬((ck s 0).toNat:Int)=45;omega) (by omega)) ?_;exact fin _ _ e2 e1 Oo
 .have e:qB s=false:=by unfold qB;rw [ab Oo];rfl
  rw [e];exact aY hS 4 (anl s (by omega))
def P1:Wv.Ok prog:=fun⟨s,_⟩ h=>anx s h
def Wz {n:Bool} {x d g:Int} (hd:0<d) (hx:0<=x) (hg:(Int.gcd x d:Int)=g):(aU (Rat.divInt (bp n x) d)).data.toList=Lib.itoa (bp n (x/g))++(if d/g>1 then 47::Lib.itoa (d/g)else []):=by
 obtain⟨r1,r2⟩:=Hy (n:=n) (x:=x) hd;rw [hg]at r1 r2;have hp:0<(Rat.divInt (bp n x) d).den:=(Rat.divInt (bp n x) d).den_pos;unfold aU;by_cases h1:d/g>1
 .rw [if_neg (by omega),if_pos h1,r1,r2]
 .rw [if_pos (by omega),if_neg h1,jQ,r1,List.append_nil]
def anz (n d:Int) (nw: -4000000000000000000<=n) (hn2:n<=4000000000000000000) (hd:0<d) (gH:d<=4000000000000000000):Holds prog true 44 [iv n,iv d] (sv (aU (Rat.divInt n d))):=by
 have hg:0<Int.gcd n d:=Int.gcd_pos_of_ne_zero_right _ (by omega);have hgd:(Int.gcd n d:Int)<=d:=Int.le_of_dvd hd (Int.gcd_dvd_right ..);by_cases hn:0<=n
 .have key:=akk n d hn hn2 hd gH;have e:wE (n/Int.gcd n d) (d/Int.gcd n d)=aU (Rat.divInt n d):=gy (by
   have b1:0<=n/(Int.gcd n d:Int):=Int.ediv_nonneg hn (by omega);have b2:n/(Int.gcd n d:Int)<=n:=Int.ediv_le_self _ hn;have b3:0<=d/(Int.gcd n d:Int):=Int.ediv_nonneg (by omega) (by omega);have b4:d/(Int.gcd n d:Int)<=d:=Int.ediv_le_self _ (by omega);have:=Wz (n:=false) (x:=n) hd hn rfl;show cy 20 _ 1 []++_=_;have e0:bp false n=n:=rfl;rw [e0]at this;rw [this,DM b1 (by omega),DM b3 (by omega)];rfl)
  rw [<-e];exact key
 .obtain⟨x,rfl⟩:∃x,n= -x:=⟨-n,by omega⟩;have hm:(if(0:Int)- -x> -x then(0:Int)- -x else-x)=x:=by rw [if_pos (by omega)];omega
  have k1:=anu (-x) d;have k2:=anv (-x) d;have eg:Int.gcd (-x) d=Int.gcd x d:=Int.neg_gcd;unfold Bp at k1 k2;simp only [bB,hm]at k1 k2;rw [eg]at hg hgd;have Ct:(Int.gcd x d:Int)<=x:=Int.le_of_dvd (by omega) (Int.gcd_dvd_left ..);have t1:Int.tdiv (-x) (Int.gcd x d:Int)= -(x/(Int.gcd x d:Int)):=by rw [Int.neg_tdiv,Int.tdiv_eq_ediv_of_nonneg (by omega)]
  have t2:Int.tdiv d (Int.gcd x d:Int)=d/(Int.gcd x d:Int):=Int.tdiv_eq_ediv_of_nonneg (by omega);simp only [t1,t2]at k1 k2;have b1:1<=x/(Int.gcd x d:Int):=Int.le_ediv_of_mul_le (by omega) (by omega);have b2:x/(Int.gcd x d:Int)<=x:=Int.ediv_le_self _ (by omega);have b3:0<=d/(Int.gcd x d:Int):=Int.ediv_nonneg (by omega) (by omega);have b4:d/(Int.gcd x d:Int)<=d:=Int.ediv_le_self _ (by omega);have ht:=Wz (n:=true) (x:=x) hd (by omega) rfl;have es:bp true x= -x:=rfl;have anA:bp true (x/(Int.gcd x d:Int))= -(x/(Int.gcd x d:Int)):=rfl;rw [es,anA]at ht;have qt:(1:Int)<=(Int.gcd x d:Int):=by omega
  generalize (Int.gcd x d:Int)=g at*;generalize x/g=y at*;generalize d/g=z at*;have hm2:(if(0:Int)- -y> -y then(0:Int)- -y else-y)=y:=by rw [if_pos (by omega)];omega
  simp only [hm2]at k1 k2;have WA:=DM (n:=y) (by omega) (by omega);have fz:=DM (n:=z) b3 (by omega);have zM:Lib.itoa (-y)=45::Lib.itoa y:=by rw [itoa_neg (by omega),il (by omega),Int.natAbs_neg]
  rw [zM]at ht;have l1:=mw 20 y 1 [];have l2:=mw 20 z 1 [];have cT:=te (cy 20 y 1 []);have z2:=te (cy 20 z 1 []);simp only [List.length_nil,aw]at l1 l2;have WB:(decide ((0:Int)<=x)&&decide ((0:Int)<=d))=true:=by rw [az (by omega),az (by omega)];rfl
  have py:(decide ((0:Int)<=y)&&(decide (y<=(9223372036854775807:Int))&&decide ((1:Int)<=20)))=true:=by rw [az (by omega),az (by omega)];rfl
  have anB:(decide ((0:Int)<=z)&&(decide (z<=(9223372036854775807:Int))&&decide ((1:Int)<=20)))=true:=by rw [az (by omega),az (by omega)];rfl
  refine bL (c:=Ol) func44 rfl rfl fun w F=> ?_
  by_cases h1:z>1
  .rw [if_pos h1]at ht;have e:aU (Rat.divInt (-x) d)=wI++kK y 1++iJ++kK z 1:=gy (by
    rw [ht,ja,ja,ja];show _=[45]++cy 20 y 1 []++[47]++cy 20 z 1 [];rw [WA,fz];simp)
   rw [e];have y1:(wI++kK y 1).size=1+(cy 20 y 1 []).length:=by rw [ByteArray.size_append];rfl
   have y2:(wI++kK y 1++iJ).size=1+(cy 20 y 1 []).length+1:=by rw [ByteArray.size_append,y1];rfl
   exact aY Wy 30 (k2 (by omega) (by omega) (by omega) (by omega) (by omega) (by omega) WB (by omega) (by omega) (by omega) (by omega) (by omega) py (by show 1+(cy 20 y 1 []).length<=_;omega) h1 (by show(wI++kK y 1).size+1<=_;omega) anB (by show(wI++kK y 1++iJ).size+(cy 20 z 1 []).length<=_;omega) trivial)
  .rw [if_neg h1,List.append_nil]at ht;have e:aU (Rat.divInt (-x) d)=wI++kK y 1:=gy (by
    rw [ht,ja];show _=[45]++cy 20 y 1 [];rw [WA];rfl)
   rw [e];exact aY Wy 30 (k1 (by omega) (by omega) (by omega) (by omega) (by omega) (by omega) WB (by omega) (by omega) (by omega) (by omega) (by omega) py (by show 1+(cy 20 y 1 []).length<=_;omega) h1 trivial)
def P2:Ww.Ok prog:=fun⟨n,d,_⟩ h=>by
 have h:((decide (-4000000000000000000<=n)&&decide (n<=4000000000000000000))&&(decide (0<d)&&decide (d<=4000000000000000000)))=true:=h;rw [ae,ae,ae,bE,bE,bE,bE]at h;exact anz n d h.1.1 h.1.2 h.2.1 h.2.2
def HA:=k_a Tryz.f15
def HB:=k_a Tryz.f14
def WC:=k_a Tryz.f72
def WD:=k_a Tryz.f16
def uQ:=ov [UB,UC] (a7 [Wv,Ww,Hw,Wm,LF,Hu])
abbrev lz (s:AT):Bool×List Int:=mkR (ptN s)
abbrev iK (s:AT):Bool×List Int:=mkR (ptD s)
section
variable (a b:AT) (h1:(kp a)=true) (h2:(kp b)=true)
def anC (h3:(qB a)=true) (h4:(qB b)=true) (h5:i6 (ju a*ju b)) (h6:i6 (gj a*gj b)) (h7:(decide ((-4000000000000000000:av.den (.int .i64))<=ju a*ju b)&&decide (ju a*ju b<=(4000000000000000000:av.den (.int .i64)))&&(decide ((0:av.den (.int .i64))<gj a*gj b)&&decide (gj a*gj b<=(4000000000000000000:av.den (.int .i64)))))=true):
  aV uQ (fl HA []) 30 (Tryz.f15.ntmps) [sv a,sv b] 15 Tryz.f15 true (sv (aU (Rat.divInt (ju a*ju b) (gj a*gj b)))):=
 wy [aa h1,aa h2,aa (aL (h3)),aa h3,aa h4,yi h5,yi h6,aa h7] 35671935824001
def anD (h3:(qB a)=false) (h4:(jn a)=true) (h5:(jn b)=true) (h6:(okZ (mkR (ptN a))&&okZ (mkR (ptN b)))=true) (h7:(okZ (mkR (ptD a))&&okZ (mkR (ptD b)))=true) (h8:(okZ (mkR (vZ (mkR (ptN a))*vZ (mkR (ptN b))))&&(okZ (mkR (vZ (mkR (ptD a))*vZ (mkR (ptD b))))&& !Nat.beq (mkR (vZ (mkR (ptD a))*vZ (mkR (ptD b)))).2.length 0))=true):
  aV uQ (fl HA []) 30 (Tryz.f15.ntmps) [sv a,sv b] 8 Tryz.f15 true (sv (aU (Rat.divInt (vZ (mkR (vZ (lz a)*vZ (lz b)))) (vZ (mkR (vZ (iK a)*vZ (iK b))))))):=
 wy [aa h1,aa h2,aa (aL (h3)),aa h3,aa h4,aa h5,aa (aD (v:=af.agg [af.raw (Value.bool (mkR (ptN a)).1),af.bu false (.int .i64) (mkR (ptN a)).2])),aa (aD (v:=af.agg [af.raw (Value.bool (mkR (ptN b)).1),af.bu false (.int .i64) (mkR (ptN b)).2])),aa h6,aa (aD (v:=af.agg [af.raw (Value.bool (mkR (ptD a)).1),af.bu false (.int .i64) (mkR (ptD a)).2])),aa (aD (v:=af.agg [af.raw (Value.bool (mkR (ptD b)).1),af.bu false (.int .i64) (mkR (ptD b)).2])),aa h7,aa h8] 16328711509674594756421759105
def anE (h3:(qB a)=true) (h4:(qB b)=false) (h5:(jn a)=true) (h6:(jn b)=true) (h7:(okZ (mkR (ptN a))&&okZ (mkR (ptN b)))=true) (h8:(okZ (mkR (ptD a))&&okZ (mkR (ptD b)))=true) (h9:(okZ (mkR (vZ (mkR (ptN a))*vZ (mkR (ptN b))))&&(okZ (mkR (vZ (mkR (ptD a))*vZ (mkR (ptD b))))&& !Nat.beq (mkR (vZ (mkR (ptD a))*vZ (mkR (ptD b)))).2.length 0))=true):
  aV uQ (fl HA []) 30 (Tryz.f15.ntmps) [sv a,sv b] 11 Tryz.f15 true (sv (aU (Rat.divInt (vZ (mkR (vZ (lz a)*vZ (lz b)))) (vZ (mkR (vZ (iK a)*vZ (iK b))))))):=
 wy [aa h1,aa h2,aa (aL (h3)),aa h3,aa h4,aa h5,aa h6,aa (aD (v:=af.agg [af.raw (Value.bool (mkR (ptN a)).1),af.bu false (.int .i64) (mkR (ptN a)).2])),aa (aD (v:=af.agg [af.raw (Value.bool (mkR (ptN b)).1),af.bu false (.int .i64) (mkR (ptN b)).2])),aa h7,aa (aD (v:=af.agg [af.raw (Value.bool (mkR (ptD a)).1),af.bu false (.int .i64) (mkR (ptD a)).2])),aa (aD (v:=af.agg [af.raw (Value.bool (mkR (ptD b)).1),af.bu false (.int .i64) (mkR (ptD b)).2])),aa h8,aa h9] 17586301390853393765909934209
def anF (h3:(qB a)=true) (h4:(qB b)=true) (h5:i6 (ju a*gj b)) (h6:i6 (ju b*gj a)) (h7:i6 (ju a*gj b+ju b*gj a)) (h8:i6 (gj a*gj b)) (h9:(decide ((-4000000000000000000:av.den (.int .i64))<=ju a*gj b+ju b*gj a)&&decide (ju a*gj b+ju b*gj a<=(4000000000000000000:av.den (.int .i64)))&&(decide ((0:av.den (.int .i64))<gj a*gj b)&&decide (gj a*gj b<=(4000000000000000000:av.den (.int .i64)))))=true):
  aV uQ (fl HB []) 30 (Tryz.f14.ntmps) [sv a,sv b] 15 Tryz.f14 true (sv (aU (Rat.divInt (ju a*gj b+ju b*gj a) (gj a*gj b)))):=
 wy [aa h1,aa h2,aa (aL (h3)),aa h3,aa h4,yi h5,yi h6,yi h7,yi h8,aa h9] 182712931821039745
def anG (h3:(qB a)=false) (h4:(jn a)=true) (h5:(jn b)=true) (h6:(okZ (mkR (ptN a))&&okZ (mkR (ptD b)))=true) (h7:(okZ (mkR (ptN b))&&okZ (mkR (ptD a)))=true) (h8:(okZ (mkR (vZ (mkR (ptN a))*vZ (mkR (ptD b))))&&okZ (mkR (vZ (mkR (ptN b))*vZ (mkR (ptD a)))))=true) (h9:(okZ (mkR (ptD a))&&okZ (mkR (ptD b)))=true) (h10:(okZ (mkR (vZ (mkR (vZ (mkR (ptN a))*vZ (mkR (ptD b))))+vZ (mkR (vZ (mkR (ptN b))*vZ (mkR (ptD a))))))&&(okZ (mkR (vZ (mkR (ptD a))*vZ (mkR (ptD b))))&& !Nat.beq (mkR (vZ (mkR (ptD a))*vZ (mkR (ptD b)))).2.length 0))=true):
  aV uQ (fl HB []) 30 (Tryz.f14.ntmps) [sv a,sv b] 8 Tryz.f14 true (sv (aU (Rat.divInt (vZ (mkR (vZ (mkR (vZ (lz a)*vZ (iK b)))+vZ (mkR (vZ (lz b)*vZ (iK a)))))) (vZ (mkR (vZ (iK a)*vZ (iK b))))))):=
 wy [aa h1,aa h2,aa (aL (h3)),aa h3,aa h4,aa h5,aa (aD (v:=af.agg [af.raw (Value.bool (mkR (ptN a)).1),af.bu false (.int .i64) (mkR (ptN a)).2])),aa (aD (v:=af.agg [af.raw (Value.bool (mkR (ptD b)).1),af.bu false (.int .i64) (mkR (ptD b)).2])),aa h6,aa (aD (v:=af.agg [af.raw (Value.bool (mkR (ptN b)).1),af.bu false (.int .i64) (mkR (ptN b)).2])),aa (aD (v:=af.agg [af.raw (Value.bool (mkR (ptD a)).1),af.bu false (.int .i64) (mkR (ptD a)).2])),aa h7,aa h8,aa h9,aa h10] 21723757664092254386358743102598938459181691009
def anH (h3:(qB a)=true) (h4:(qB b)=false) (h5:(jn a)=true) (h6:(jn b)=true) (h7:(okZ (mkR (ptN a))&&okZ (mkR (ptD b)))=true) (h8:(okZ (mkR (ptN b))&&okZ (mkR (ptD a)))=true) (h9:(okZ (mkR (vZ (mkR (ptN a))*vZ (mkR (ptD b))))&&okZ (mkR (vZ (mkR (ptN b))*vZ (mkR (ptD a)))))=true) (h10:(okZ (mkR (ptD a))&&okZ (mkR (ptD b)))=true) (h11:(okZ (mkR (vZ (mkR (vZ (mkR (ptN a))*vZ (mkR (ptD b))))+vZ (mkR (vZ (mkR (ptN b))*vZ (mkR (ptD a))))))&&(okZ (mkR (vZ (mkR (ptD a))*vZ (mkR (ptD b))))&& !Nat.beq (mkR (vZ (mkR (ptD a))*vZ (mkR (ptD b)))).2.length 0))=true):
  aV uQ (fl HB []) 30 (Tryz.f14.ntmps) [sv a,sv b] 11 Tryz.f14 true (sv (aU (Rat.divInt (vZ (mkR (vZ (mkR (vZ (lz a)*vZ (iK b)))+vZ (mkR (vZ (lz b)*vZ (iK a)))))) (vZ (mkR (vZ (iK a)*vZ (iK b))))))):=
 wy [aa h1,aa h2,aa (aL (h3)),aa h3,aa h4,aa h5,aa h6,aa (aD (v:=af.agg [af.raw (Value.bool (mkR (ptN a)).1),af.bu false (.int .i64) (mkR (ptN a)).2])),aa (aD (v:=af.agg [af.raw (Value.bool (mkR (ptD b)).1),af.bu false (.int .i64) (mkR (ptD b)).2])),aa h7,aa (aD (v:=af.agg [af.raw (Value.bool (mkR (ptN b)).1),af.bu false (.int .i64) (mkR (ptN b)).2])),aa (aD (v:=af.agg [af.raw (Value.bool (mkR (ptD a)).1),af.bu false (.int .i64) (mkR (ptD a)).2])),aa h8,aa h9,aa h10,aa h11] 23173660082079261249656049484261917645415133313
end
def anI (a:AT) (h1:(jn a)=true) (h2:(okZ (mkR (ptD a))&&(okZ (mkR (ptN a))&& !Nat.beq (mkR (ptN a)).2.length 0))=true):
  aV uQ (fl WC []) 30 (Tryz.f72.ntmps) [sv a] 1 Tryz.f72 true (sv (aU (Rat.divInt (vZ (iK a)) (vZ (lz a))))):=
 wy [aa h1,aa h2] 129
def anJ (n:Int) (h1:(decide ((-9223372036854775808:av.den (.int .i64))<=n)&&decide (n<=(9223372036854775807:av.den (.int .i64))))=true) (h2:(okZ (mkR n))=true):
  aV uQ (fl WD []) 30 (Tryz.f16.ntmps) [iv n] 1 Tryz.f16 true (sv (cm (vZ (mkR n)))):=
 wy [aa h1,aa h2] 129
--{
def oN (u:Nat):b6 (Lib.decDigits u)=true:=by
 unfold b6;rw [List.all_eq_true];intro b hb;obtain⟨h1,h2⟩:=Dec.NZ u b hb;rw [az h1,az h2];rfl
def HC (u:Nat):bt (Lib.decDigits u)=(u:Int):=by
 induction u using Nat.strongRecOn with
 |_ u ih=>
  by_cases h:u<10
  .rw [q9 h,M5,Dec.Bm u h];show(((48+u:Nat):Int)-48)*10^0+0=_;rw [Int.pow_zero];omega
  .rw [wH h,Ob,ih _ (by omega),M5,Dec.Bm _ (by omega)];show((u/10:Nat):Int)*10^1+((((48+u%10:Nat):Int)-48)*10^0+0)=_;rw [Int.pow_zero,Int.pow_succ,Int.pow_zero];omega
def Oq (u:Nat):Lib.decDigits u≠[]:=fun e=>by
 have:=Dec.V2 u;rw [e]at this;cases this
def Bq {u k:Nat} (h:(u:Int)<1000000000^k):(Lib.decDigits u).length<=9*k+1:=by
 have:=N8 (gI (Int.natCast_nonneg u)).1;rw [(gI (Int.natCast_nonneg u)).2.2,Int.toNat_natCast]at this;have h2:=zt (Int.natCast_nonneg u) h;omega
def WE {u:Nat} (h:(Lib.decDigits u).length<=9):(u:Int)<1000000000:=by
 have h1:=A4 (s:=⟨(Lib.decDigits u).toArray⟩) (by rw [show aq ⟨(Lib.decDigits u).toArray⟩=Lib.decDigits u from rfl];exact oN u) (Lib.decDigits u).length (aK _);rw [show aq ⟨(Lib.decDigits u).toArray⟩=Lib.decDigits u from rfl,dR,HC]at h1;have h2:(10:Int)^(Lib.decDigits u).length<=10^9:=iW (by decide) h;have:(10:Int)^9=1000000000:=rfl;omega
def Ot {L R:List UInt8} (hL:L≠[]) (hd:b6 L=true):L++R≠[]/\((L++R).getD 0 0).toNat≠45:=by
 cases L with
 |nil=>exact absurd rfl hL
 |cons b l=>
  rw [A7,ae,ae,bE,bE]at hd;refine⟨by simp, ?_⟩;show b.toNat≠45;omega
def WG {s:AT} {neg:Bool} {M:List UInt8} (eY:M≠[]/\(M.getD 0 0).toNat≠45) (hs:aq s=if neg then 45::M else M):b7 s=neg/\aq (bT s)=M/\0<s.size:=by
 have hl:0<M.length:=List.length_pos_iff.2 eY.1;cases neg with
 |true=>
  have hs:aq s=45::M:=hs;have hz:s.size=M.length+1:=by rw [c6,hs];rfl
  have lu:(ck s 0).toNat=45:=by show((aq s).getD 0 0).toNat=45;rw [hs];rfl
  have e1:b7 s=true:=by unfold b7;rw [az (by omega),az lu];rfl
  refine⟨e1, ?_,by omega⟩;unfold bT;rw [e1];show aq (s.extract 1 s.size)=M;rw [lp,hs,hz,eZ (by simp)];rfl
 |false=>
  have hs:aq s=M:=hs;have hz:s.size=M.length:=by rw [c6,hs]
  have lu:¬(ck s 0).toNat=45:=by show¬((aq s).getD 0 0).toNat=45;rw [hs];exact eY.2
  have e1:b7 s=false:=by unfold b7;rw [ab lu,Bool.and_false]
  refine⟨e1, ?_,by omega⟩;unfold bT;rw [e1];exact hs
def Ou {neg:Bool} {M:List UInt8}:bl (if neg then 45::M else M)=bl M+(if neg then 1 else 0):=by
 cases neg with
 |true=>
  show(if(45:UInt8).toNat=47 then 0 else bl M+1)=bl M+1;rw [if_neg (by decide)]
 |false=>rfl
def wJ (n:Int):Lib.itoa n=if decide (n<0)then 45::Lib.decDigits n.natAbs else Lib.decDigits n.natAbs:=by
 by_cases h:n<0
 .rw [itoa_neg h,az h];rfl
 .rw [il h,ab h];rfl
def WH {s:AT} {n:Int} (h:aq s=Lib.itoa n):lq s=n/\b6 (aq (bT s))=true:=by
 have h0:=Ot (R:=[]) (Oq n.natAbs) (oN n.natAbs);rw [List.append_nil]at h0;obtain⟨h1,h2,h3⟩:=WG (neg:=decide (n<0)) h0 (by rw [h];exact wJ n);unfold lq;rw [h1,h2,HC];refine⟨?_,oN _⟩;by_cases hn:n<0
 .rw [az hn];show-(n.natAbs:Int)=n;omega
 .rw [ab hn];show(n.natAbs:Int)=n;omega
def fR (k:Nat) (r:Rat):Prop:=(r.num.natAbs:Int)<1000000000^k/\(r.den:Int)<1000000000^k
structure WI (s:AT) (r:Rat):Prop where
 jg:kp s=true
 pt:jn s=true
 n:ptN s=r.num
 d:ptD s=r.den
 q:qB s=true->ju s=r.num/\gj s=r.den/\(r.num.natAbs:Int)<1000000000/\(r.den:Int)<1000000000
def uR {r:Rat} {k:Nat} (hk:k<=10000) (h:fR k r):WI (aU r) r:=by
 obtain⟨hN,hD⟩:=h;have hdp:0<r.den:=r.den_pos;obtain⟨T,hT⟩:∃T:List UInt8,T=if r.den=1 then []else 47::Lib.decDigits r.den:=⟨_,rfl⟩
 have eY:=Ot (R:=T) (Oq r.num.natAbs) (oN r.num.natAbs);have hb:aq (aU r)=if decide (r.num<0)then 45::(Lib.decDigits r.num.natAbs++T)else Lib.decDigits r.num.natAbs++T:=by
  have e:aq (aU r)=Lib.itoa r.num++T:=by
   rw [hT];unfold aU;by_cases h1:r.den=1
   .rw [if_pos h1,if_pos h1,List.append_nil];exact jQ _
   .rw [if_neg h1,if_neg h1,<-Dec.q8]
  rw [e,wJ];by_cases hn:r.num<0
  .rw [az hn];rfl
  .rw [ab hn];rfl
 obtain⟨p1,p2,p3⟩:=WG eY hb;have au9:=Bq hN;have MD:=Bq hD;have ava:T.length<=9*k+2:=by rw [hT];split<;>simp;omega
 have sV:bl (Lib.decDigits r.num.natAbs++T)=(Lib.decDigits r.num.natAbs).length:=by
  rw [hT];split
  .rw [List.append_nil];exact G1 _ (oN _)
  .exact po _ _ (oN _)
 have hsz:(aU r).size=(if decide (r.num<0)then 1 else 0)+((Lib.decDigits r.num.natAbs).length+T.length):=by
  rw [c6,hb];by_cases hn:r.num<0
  .rw [az hn];simp;omega
  .rw [ab hn];simp
 have WJ:(aU r).size<=800000:=by rw [hsz];split<;>omega
 -- the text without its sign
 have hu:(bT (aU r)).size=(Lib.decDigits r.num.natAbs).length+T.length:=by rw [c6,p2,dy]
 have Ov:sX (aU r)=(Lib.decDigits r.num.natAbs).length:=by unfold sX;rw [p2,sV]
 have x1:aq ((bT (aU r)).extract 0 (Lib.decDigits r.num.natAbs).length)=Lib.decDigits r.num.natAbs:=by rw [lp,p2,List.drop_zero,List.take_left'];rfl
 have x2:aq ((bT (aU r)).extract ((Lib.decDigits r.num.natAbs).length+1) (bT (aU r)).size)=T.drop 1:=by
  rw [lp,p2,hu,<-dy,dR,<-List.drop_drop,List.drop_left'];rfl
 have Ck:b6 (T.drop 1)=true:=by
  rw [hT];split
  .rfl
  .exact oN _
 have Br:kp (aU r)=true:=by
  unfold kp;rw [Ov,x1,x2,Ck,oN,az p3,az WJ];rfl
 -- the text with its sign
 have HD:bl (aq (aU r))=(if decide (r.num<0)then 1 else 0)+(Lib.decDigits r.num.natAbs).length:=by
  rw [hb,Ou,sV];omega
 have y1:aq ((aU r).extract 0 (bl (aq (aU r))))=Lib.itoa r.num:=by
  rw [lp,List.drop_zero,HD,hb,wJ];by_cases hn:r.num<0
  .rw [az hn];show List.take (1+_) (45::_)=45::_;rw [Nat.add_comm,List.take_succ_cons,List.take_left'];rfl
  .rw [ab hn];show List.take (0+_) (Lib.decDigits r.num.natAbs++T)=Lib.decDigits r.num.natAbs;rw [aw,List.take_left'];rfl
 have y2:aq ((aU r).extract (bl (aq (aU r))+1) (aU r).size)=T.drop 1:=by
  have HE:(aU r).size=(aq (aU r)).length:=c6 _;rw [lp,HD,HE,dR,hb];by_cases hn:r.num<0
  .rw [az hn];show List.drop (1+_+1) (45::_)=_;rw [Nat.add_right_comm,Nat.add_comm 1,Nat.add_assoc,Nat.add_comm,List.drop_succ_cons,Nat.add_comm,<-List.drop_drop,List.drop_left'];rfl
  .rw [ab hn];show List.drop (0+_+1) (Lib.decDigits r.num.natAbs++T)=_;rw [aw,<-List.drop_drop,List.drop_left'];rfl
 obtain⟨v1,v2⟩:=WH y1;have lI:r.den≠1->lq ((aU r).extract (bl (aq (aU r))+1) (aU r).size)=r.den/\b6 (aq (bT ((aU r).extract (bl (aq (aU r))+1) (aU r).size)))=true:=fun h1=>WH (n:=(r.den:Int)) (by rw [y2,hT,if_neg h1,Dec.q8];rfl)
 have gH:b6 (aq (bT ((aU r).extract (bl (aq (aU r))+1) (aU r).size)))=true:=by
  by_cases h1:r.den=1
  .have e0:aq ((aU r).extract (bl (aq (aU r))+1) (aU r).size)=[]:=by rw [y2,hT,if_pos h1];rfl
   have e1:b7 ((aU r).extract (bl (aq (aU r))+1) (aU r).size)=false:=by
    unfold b7;rw [ab (by rw [c6,e0];decide)];rfl
   unfold bT;rw [e1];show b6 (aq _)=true;rw [e0];rfl
  .exact(lI h1).2
 refine⟨Br, ?_,v1, ?_,fun hq=> ?_⟩
 .unfold jn;rw [az WJ,v2,gH];rfl
 .unfold ptD;by_cases h1:r.den=1
  .rw [if_neg (by rw [HD,hsz,hT,if_pos h1];simp),h1];rfl
  .rw [if_pos (by rw [HD,hsz,hT,if_neg h1];simp)];exact(lI h1).1
 .have j7:=hq;unfold qB at hq;rw [Ov,hu,ae,ae,bE,bE,bE]at hq;unfold ju gj DQ DR;rw [j7,Ov,p1,x1,x2,hu,HC];refine⟨?_, ?_,WE hq.2.1, ?_⟩
  .show bp _ _=_;by_cases hn:r.num<0
   .rw [az hn];show-(r.num.natAbs:Int)=_;omega
   .rw [ab hn];show(r.num.natAbs:Int)=_;omega
  .rw [if_pos rfl];by_cases h1:r.den=1
   .rw [if_neg (by rw [hT,if_pos h1];simp),h1];rfl
   .rw [if_pos (by rw [hT,if_neg h1];simp),hT,if_neg h1];exact HC _
  .by_cases h1:r.den=1
   .omega
   .refine WE ?_;have h3:=hq.2.2;rw [hT,if_neg h1]at h3;simp at h3;omega
--}
end
end Go.Proofs.YtibikmmdbdlafaaGreatDoor
