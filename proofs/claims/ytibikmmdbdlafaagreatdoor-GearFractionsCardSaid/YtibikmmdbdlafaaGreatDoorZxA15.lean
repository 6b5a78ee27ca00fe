/- Package gear: ratio. -/
import Derived.Test.YtibikmmdbdlafaaGreatDoorZxGAw1
import Derived.Test.YtibikmmdbdlafaaGreatDoorZxVMk
import Derived.Test.YtibikmmdbdlafaaGreatDoorZxGRun
import Derived.Lib.ItoaNum
import Derived.Lib.Atoi
import Derived.Lib.IndexMore
import Derived.Lib.Strings
import Derived.Test.YtibikmmdbdlafaaGreatDoorZxRq
set_option linter.unusedVariables false
set_option linter.unusedSimpArgs false
set_option maxRecDepth 100000
namespace Go.Proofs.YtibikmmdbdlafaaGreatDoor
open Go.RowKit Sv Go.Proofs.Tryz
noncomputable section
abbrev r2:Sv.Ren:=[(64,64,none),(65,65,none)]
abbrev Uo (q:bS):fy:= .blk (.cells 85 [iv q.1.1, .bk true (.int .u64) q.1.2,iv q.2.1, .bk true (.int .u64) q.2.2] true false false)
theorem Gk {n:Nat} {x:Int} (h: -9223372036854775808<=x/\x<=9223372036854775807):bH n (dF x)=true:=by
 rw [nk (a:=dF x) rfl];unfold gd;rw [ae];exact⟨az h.1,az h.2⟩
theorem Gl (x:Int):aq (dF x)=x:=if_pos rfl
end
end Go.Proofs.YtibikmmdbdlafaaGreatDoor
/- Package num: notations of small numbers. -/
namespace Go.Proofs.YtibikmmdbdlafaaGreatDoor
open Go.RowKit Sv Go.Proofs.Tryz
noncomputable section
noncomputable def Mu:Code:=(Tryz.f61.body).getD .skip
def okTx (q:bS):Bool:=((List.isEmpty q.1.2&&gd q.1.1)&&(List.isEmpty q.2.2&&gd q.2.1))&&(decide ((b8 q.1.1).size<=100)&&decide ((b8 q.2.1).size<=100))
def txS (q:bS):ByteArray:=if gT q=true then b8 q.1.1 else b8 q.1.1++ByteArray.mk #[47]++b8 q.2.1
end
end Go.Proofs.YtibikmmdbdlafaaGreatDoor
/- Plain facts on decimal numerals (no program). -/
namespace Go.Proofs.YtibikmmdbdlafaaGreatDoor.Dec
open Go.Lib
theorem AP (d:Nat) (h:d<10):(UInt8.ofNat (48+d)).toNat=48+d:=by
 rw [UInt8.toNat_ofNat'];omega
theorem Mv (u:Nat):∀b∈decDigits u,48<=b.toNat/\b.toNat<=57:=by
 induction u using Nat.strongRecOn with
 |_ u ih=>
  intro b hb;rw [decDigits]at hb;split at hb
  .simp only [List.mem_singleton]at hb;subst hb;rw [AP _ (by omega)];omega
  .rcases List.mem_append.1 hb with h|h
   .exact ih (u/10) (by omega) b h
   .simp only [List.mem_singleton]at h;subst h;rw [AP _ (by omega)];omega
theorem Up (u:Nat):0<(decDigits u).length:=by
 rw [decDigits];split<;>simp
theorem Mw (k:Nat):∀u,u<10^(k+1)->(decDigits u).length<=k+1:=by
 induction k with
 |zero=>intro u hu;rw [decDigits,dif_pos (by simpa using hu)];simp
 |succ k ih=>
  intro u hu;rw [decDigits];split
  .simp
  .have:=ih (u/10) (by rw [Nat.div_lt_iff_lt_mul (by omega)];rw [Nat.pow_succ]at hu;exact hu);simp;omega
theorem akD (u:Nat) (h:u<1000000000000000000):(decDigits u).length<=18:=Mw 17 u (by simpa using h)
theorem akE (u:Nat) (h:0<u):∀b r,decDigits u=b::r->b.toNat≠48:=by
 induction u using Nat.strongRecOn with
 |_ u ih=>
  intro b r hb;rw [decDigits]at hb;split at hb
  .injection hb with h1 _
   subst h1;rw [AP _ (by omega)];omega
  .have hp:=Up (u/10);cases hd:decDigits (u/10)with
   |nil=>rw [hd]at hp;simp at hp
   |cons c t=>
    rw [hd]at hb;injection hb with h1 _
    subst h1;exact ih (u/10) (by omega) (by omega) c t hd
theorem Mx (l:List UInt8):∀(acc m:Nat) (d:Nat),d<10->decFrom acc l=some m->decFrom acc (l++[UInt8.ofNat (48+d)])=some (m*10+d):=by
 induction l with
 |nil=>
  intro acc m d hd h;simp only [decFrom,sB]at h;subst h;simp only [List.nil_append,decFrom,digitVal,AP d hd];rw [if_pos (by omega)];show some (acc*10+(48+d-48))=_;congr 1;omega
 |cons b r ih=>
  intro acc m d hd h;rw [List.cons_append];unfold decFrom at h ⊢;cases hv:digitVal b with
  |none=>rw [hv]at h;cases h
  |some v=>rw [hv]at h;exact ih _ _ _ hd h
theorem Uq (u:Nat):decFrom 0 (decDigits u)=some u:=by
 induction u using Nat.strongRecOn with
 |_ u ih=>
  rw [decDigits];split
  .have:=Mx [] 0 0 u (by omega) rfl;simpa using this
  .have:=Mx (decDigits (u/10)) 0 (u/10) (u%10) (by omega) (ih (u/10) (by omega));rw [this];congr 1;omega
theorem Ur (l:List UInt8) (h:∀b∈l,48<=b.toNat/\b.toNat<=57):hasPrefix l [45]=false:=by
 cases l with
 |nil=>rfl
 |cons b r=>
  have:=h b (by simp);have hb:(45==b)=false:=by
   rw [fP];intro e;subst e;simp at this
  simp [hasPrefix,List.isPrefixOf,hb]
theorem uf (u:Nat):itoa (u:Int)=decDigits u:=by unfold itoa;rw [if_neg (by omega)];simp
end Go.Proofs.YtibikmmdbdlafaaGreatDoor.Dec
/- The ratio's lowest terms are the reference's; its text. -/
namespace Go.Proofs.YtibikmmdbdlafaaGreatDoor
open Go.RowKit Sv Go.Proofs.Tryz
theorem akF {n d:Int} (hd:1<=d):Rat.divInt (FY n d) (Aw n d)=Rat.divInt n d:=by
 have hg:0<Int.gcd n d:=Int.gcd_pos_of_ne_zero_right _ (by omega);have e1:=Int.ediv_mul_cancel (show(Int.gcd n d:Int)∣n from Int.gcd_dvd_left ..);have e2:=Int.ediv_mul_cancel (show(Int.gcd n d:Int)∣d from Int.gcd_dvd_right ..);unfold FY Aw;have e:Rat.divInt n d=Rat.divInt (n/(Int.gcd n d:Int)*(Int.gcd n d:Int)) (d/(Int.gcd n d:Int)*(Int.gcd n d:Int)):=by rw [e1,e2]
 rw [e];exact(Rat.divInt_mul_right (show(Int.gcd n d:Int)≠0 by omega)).symm
theorem Nm {n d:Int} (hd:1<=d):Int.gcd (FY n d) (Aw n d)=1:=Int.gcd_ediv_gcd_ediv_gcd (by have:=Int.gcd_pos_of_ne_zero_right n (show d≠0 by omega);omega)
theorem AQ {p q:Int} (hq:1<=q) (h:Int.gcd p q=1):(Rat.divInt p q).num=p/\((Rat.divInt p q).den:Int)=q:=by
 have hd:0<(Rat.divInt p q).den:=(Rat.divInt p q).den_pos;have e:(Rat.divInt p q).num*q=p*((Rat.divInt p q).den:Int):=(Rat.divInt_eq_divInt_iff (by omega) (by omega)).1 (Rat.num_divInt_den _);have g:Int.gcd (Rat.divInt p q).num ((Rat.divInt p q).den:Int)=1:=(Rat.divInt p q).reduced;exact TG (by omega) (by omega) g h e
theorem r4 {u:Nat} (h:u<10):Lib.decDigits u=[UInt8.ofNat (48+u)]:=by rw [Lib.decDigits,dif_pos h]
theorem lh {u:Nat} (h:¬u<10):Lib.decDigits u=Lib.decDigits (u/10)++[UInt8.ofNat (48+u%10)]:=by rw [Lib.decDigits,dif_neg h]
theorem Us:∀(f:Nat) (n:Int) (s:List UInt8),0<=n->n<10^f->1<=s.length->cr f n 1 s=(if n=0 then []else Lib.decDigits n.toNat)++s
 |0,n,s,h0,h1,hs=>by
  have:n=0:=by simp at h1;omega
  subst this;rfl
 |f+1,n,s,h0,h1,hs=>by
  have q1:=cS n (show(0:Int)<10 by decide);have aO:=c6 n (show(10:Int)≠0 by decide);have bZ:=Int.mul_ediv_add_emod n 10;rw [Int.pow_succ]at h1;unfold cr;split
  .rename_i hc;have hn:0<n:=by omega
   rw [Us f (n/10) (og n::s) (by omega) (by omega) (by simp),if_neg (show¬n=0 by omega)];unfold og;by_cases h10:n<10
   .rw [if_pos (by omega),r4 (u:=n.toNat) (by omega),show n%10=n by omega];simp
   .rw [if_neg (by omega),lh (u:=n.toNat) (by omega),show(n/10).toNat=n.toNat/10 by omega,show(n%10).toNat=n.toNat%10 by omega];simp
  .rename_i hc;have:n=0:=by omega
   subst this;rfl
theorem C5 {n:Int} (h0:0<=n) (h1:n<100000000000000000000):cr 20 n 1 []=Lib.itoa n:=by
 have q1:=cS n (show(0:Int)<10 by decide);have aO:=c6 n (show(10:Int)≠0 by decide);have bZ:=Int.mul_ediv_add_emod n 10;show cr (19+1) n 1 []=_;unfold cr;rw [if_pos (.inr (by simp)),Us 19 (n/10) [og n] (by omega) (by omega) (by simp)];unfold Lib.itoa og;rw [if_neg (show¬n<0 by omega)];by_cases h10:n<10
 .rw [if_pos (by omega),r4 (u:=n.toNat) (by omega),show n%10=n by omega];simp
 .rw [if_neg (by omega),lh (u:=n.toNat) (by omega),show(n/10).toNat=n.toNat/10 by omega,show(n%10).toNat=n.toNat%10 by omega]
noncomputable section
theorem jy (n:Int):(b8 n).data.toList=Lib.itoa n:=by unfold b8;simp
theorem itoa_neg {n:Int} (h:n<0):Lib.itoa n=45::Lib.decDigits n.natAbs:=by
 unfold Lib.itoa;rw [if_pos h]
theorem gg {n:Int} (h:¬n<0):Lib.itoa n=Lib.decDigits n.natAbs:=by
 unfold Lib.itoa;rw [if_neg h,show n.toNat=n.natAbs by omega]
theorem Ut (n:Int):pE (b8 n) e4=decide (n<0):=by
 unfold pE;rw [jy,show(e4:ByteArray).data.toList=[45]from rfl];by_cases h:n<0
 .rw [itoa_neg h,az h];simp [Lib.hasPrefix]
 .rw [gg h,ab h];exact Dec.Ur _ (Dec.Mv _)
theorem Uu (n:Int):(qH (b8 n) e4).data.toList=Lib.decDigits n.natAbs:=by
 have hp:=Ut n;unfold pE at hp;unfold qH Lib.trimPrefix;rw [hp,jy,show(e4:ByteArray).data.toList=[45]from rfl];by_cases h:n<0
 .rw [itoa_neg h,az h];simp
 .rw [gg h,ab h];simp
theorem Uv (n:Int):ud (b8 n)=n.natAbs:=by
 unfold ud;rw [Uu,Dec.Uq]
theorem akG (n:Int):AO (b8 n)=n:=by
 unfold AO;rw [Ut,Uv];by_cases h:n<0
 .rw [az h,if_pos rfl];omega
 .rw [ab h,if_neg (by decide)];omega
theorem m7 (n:Int):fE (b8 n)=aV n:=by unfold fE;rw [akG]
theorem Uw {n:Int} (h:aD (aV (n.natAbs:Int))=true):dt (b8 n)=true:=by
 unfold dt;rw [Uu,Dec.Uq,Uv,h];rfl
end
noncomputable section
noncomputable def ug:Code:=(f70.body).getD .skip
noncomputable def yx:bF:=a7 [FV]
abbrev kn (n m:Int):ByteArray:=⟨(cr 20 n m []).toArray⟩
abbrev My (n:Bool) (w:List Int):fy:= .blk (.cells 97 [bv n,lv w] true false false)
def nA (n:Bool) (w:List Int) (s:ByteArray) (z:Int):bC:={n:=39,sl:=[(1, .ptr 64 0),(3,sv s),(4,iv z)],bG:=[(64,My n w)],next:=65}
abbrev Mz:List Nat:=[1,1,1,0,1,0,0]
theorem akH (n:Bool) (w:List Int) (h1:(w.length:Int)=0):
  bq yx (fl ug []) 3 39 [rv (n,w)] 3 f70 true (sv ⟨#[48]⟩):=
 wy [c8 h1] 1
theorem akI (n:Bool) (w:List Int) (h1:¬(w.length:Int)=0) (h2:i6 ((w.length:Int)-1)) (h3:0<=(w.length:Int)-1) (h4:((w.length:Int)-1).toNat<w.length) (h5:(decide ((0:au.den (.int .i64))<=w.getD ((w.length:Int)-1).toNat 0)&&(decide (w.getD ((w.length:Int)-1).toNat 0<=(9223372036854775807:au.den (.int .i64)))&&decide (1<=(20:au.den (.int .i64)))))=true) (h6:i6 ((w.length:Int)-2)):
  cT yx (fl ug []) 5 39 [rv (n,w)] 2 .normal [(64,64,none)] (nA n w (kn (w.getD ((w.length:Int)-1).toNat 0) 1) ((w.length:Int)-2)):=
 wy [yn h1,yi h2,ah h3,ah h4,af h5,yi h6] 6527398017
theorem akJ (n:Bool) (w:List Int) (s:ByteArray) (z:Int) (h1:z>=0) (h2:0<=z) (h3:z.toNat<w.length) (h4:(decide ((0:au.den (.int .i64))<=w.getD z.toNat 0)&&(decide (w.getD z.toNat 0<=(9223372036854775807:au.den (.int .i64)))&&decide (9<=(20:au.den (.int .i64)))))=true) (h5:s.size+(ByteArray.mk (List.toArray (cr 20 (w.getD z.toNat 0) 9 []))).size<=9223372036854775807) (h6:i6 (z-1)):
  bh yx (fl ug Mz) (nA n w s z) 3 .normal [(64,64,none)] (nA n w (s++kn (w.getD z.toNat 0) 9) (z-1)):=
 wy [ah h1,ah h2,ah h3,af h4,ah h5,yi h6] 6527398017
theorem akK (n:Bool) (w:List Int) (s:ByteArray) (z:Int) (h1:¬z>=0):
  bh yx (fl ug Mz) (nA n w s z) 2 (.exit 0) [(64,64,none)] (nA n w s z):=
 wy [aJ h1] 1
theorem No (w:List Int) (s:ByteArray) (z:Int) (h1:(ByteArray.mk (#[(45:UInt8)])).size+s.size<=9223372036854775807):
  bQ yx ((fl ug []).drop 6) (nA true w s z) 3 f70 true (sv (⟨#[45]⟩++s)):=
 wy [ah h1] 64
theorem akL (w:List Int) (s:ByteArray) (z:Int):
  bQ yx ((fl ug []).drop 6) (nA false w s z) 2 f70 true (sv s):=
 wy [] 0
noncomputable def Gm:bn:={f:=70,ps:=[jP],rs:=[.str],fresh:=true,pre:=fun d=>okZ d.1,fn:=fun d=>(b8 (vZ d.1),())}
def ko:Nat->Int->List UInt8
 |0,_=>[]
 |k+1,x=>ko k (x/10)++[og x]
theorem MA:∀(k:Nat) (x:Int),(ko k x).length=k
 |0,_=>rfl
 |k+1,x=>by rw [ko,cG,MA k];rfl
theorem Ux:∀(k f:Nat) (x:Int) (s:List UInt8),k<=f->0<=x->x<10^k->cr f x ((s.length:Int)+k) s=ko k x++s
 |0,f,x,s,_,h0,h1=>by
  have:x=0:=by simp at h1;omega
  subst this;cases f with
  |zero=>rfl
  |succ f=>
   unfold cr;rw [if_neg (by omega)];rfl
 |k+1,f,x,s,hf,h0,h1=>by
  obtain⟨g,rfl⟩:∃g,f=g+1:=⟨f-1,by omega⟩;rw [Int.pow_succ]at h1;unfold cr;rw [if_pos (by omega)];have:=Ux k g (x/10) (og x::s) (by omega) (by omega) (by omega);rw [List.length_cons,show(((s.length+1:Nat):Int)+(k:Int))=(s.length:Int)+((k+1:Nat):Int) by omega]at this;rw [this,ko,ou];rfl
theorem MB:∀(k:Nat) (u:Nat) (x:Int),0<u->0<=x->x<10^k->Lib.decDigits (u*10^k+x.toNat)=Lib.decDigits u++ko k x
 |0,u,x,hu,h0,h1=>by
  have:x=0:=by simp at h1;omega
  subst this;simp [ko]
 |k+1,u,x,hu,h0,h1=>by
  rw [Int.pow_succ]at h1;have hp:0<10^k:=Nat.pow_pos (by decide);have h2:1*1<=u*10^k:=Nat.mul_le_mul hu hp;have e:u*10^(k+1)+x.toNat=(u*10^k+(x/10).toNat)*10+(x%10).toNat:=by
   rw [Nat.pow_succ,<-Nat.mul_assoc];omega
  have hm:(x%10).toNat<10:=by omega
  rw [e,lh (by omega),show((u*10^k+(x/10).toNat)*10+(x%10).toNat)/10=u*10^k+(x/10).toNat by omega,show((u*10^k+(x/10).toNat)*10+(x%10).toNat)%10=(x%10).toNat by omega,MB k u (x/10) hu (by omega) (by omega),ko,ou];rfl
theorem akM:bB prog (bD yx):=cR (aT LA dY)
theorem Uy {x:Int} (h:0<=x/\x<1000000000):(kn x 9).data.toList=ko 9 x:=by
 have:=Ux 9 20 x [] (by decide) h.1 (by have:(10:Int)^9=1000000000:=rfl;omega);show cr 20 x 9 []=_;rw [List.append_nil]at this;exact this
theorem akN {x:Int} (h:0<=x/\x<1000000000):(kn x 1).data.toList=Lib.decDigits x.toNat:=by
 show cr 20 x 1 []=_;rw [C5 h.1 (by omega)];unfold Lib.itoa;rw [if_neg (by omega)]
theorem Uz {s:ByteArray} {u:Nat} (h:s.data.toList=Lib.decDigits u):s=b8 (u:Int):=gR (by rw [h,jy];exact(Dec.uf u).symm)
theorem MC {w:List Int} (hw:aP 1000000000 w):(Lib.decDigits (ag w).toNat).length<=9*w.length+1:=by
 refine cX (Dec.Mw (9*w.length) _ ?_) (by omega);have h1:=fC (b:=1000000000) (by decide) hw;have h0:=dC hw;have e:(1000000000:Int)^w.length=((10^(9*w.length):Nat):Int):=by
  rw [Nat.pow_mul,Int.natCast_pow];rfl
 have h2:ag w<((10^(9*w.length):Nat):Int):=by rw [<-e];exact h1
 have h3:10^(9*w.length)<=10^(9*w.length+1):=Nat.pow_le_pow_right (by decide) (by omega);omega
theorem akO (n:Bool) (w:List Int) (h:okZ (n,w)=true):Holds prog true 70 [rv (n,w)] (sv (b8 (aZ n (ag w)))):=by
 obtain⟨h1,h2⟩:=nw.1 h;have h1:okA w=true:=h1;have h2:n=true->0<ag w:=h2;obtain⟨hd,ht,hl⟩:=fc.1 h1;have hS:=akM;refine bJ (c:=ug) func70 rfl rfl fun w0 F=> ?_
 by_cases hz:w.length=0
 .have hw:w=[]:=List.eq_nil_of_length_eq_zero hz;subst hw;have hn:n=false:=by
   cases n with
   |false=>rfl
   |true=>exact absurd (h2 rfl) (by decide)
  subst hn;have e:b8 (aZ false (ag []))=⟨#[48]⟩:=by
   refine gR ?_;rw [jy];show Lib.itoa ((0:Nat):Int)=[48];rw [Dec.uf,r4 (by decide)];rfl
  rw [e];exact bu hS 3 (akH false [] (by simp))
 .obtain⟨m,hm⟩:∃m,w.length=m+1:=⟨w.length-1,by omega⟩;have UA:=hd.get (by decide) m;have arq:=ht m hm;have i1:((w.length:Int)-1).toNat=m:=by omega
  have i2:((w.length:Int)-2)=(m:Int)-1:=by omega
  have key:=akI n w (by omega) (by omega) (by omega);rw [i1,i2]at key;refine cE hS 5 (key (by omega) (by rw [az UA.1,az (show w.getD m 0<=9223372036854775807 by omega)];rfl) (by omega)) ?_;have hst:kn (w.getD m 0) 1=b8 ((ag (w.drop m)).toNat:Int):=Uz (by
   rw [akN UA];congr 2;unfold ag;rw [tI (by omega),List.drop_eq_nil_of_le (by omega)];simp [vl])
  rw [hst];refine aR.loop (ι:={k:Nat//k<=m}) (id:=0) (b:=cat ug Mz) (rest:=(fl ug []).drop 6) (by kernel_rfl) (fun k=>nA n w (b8 ((ag (w.drop k.1)).toNat:Int)) ((k.1:Int)-1)) (fun k=>k.1) ⟨m,aE _⟩ (fun _=>rfl) ?_;rintro⟨k,hk⟩;have hlen:(b8 ((ag (w.drop k)).toNat:Int)).size<=9*w.length+1:=by
   have h3:=MC (hd.drop k);rw [mQ]at h3;rw [tX,jy,Dec.uf];omega
  cases k with
  |zero=>
   refine bp (s:=nA n w (b8 ((ag (w.drop 0)).toNat:Int)) (((0:Nat):Int)-1)) hS (akK n w _ _ (by omega)) ?_;refine cv (cD ?_);have h0:=dC hd;rw [List.drop_zero,Int.toNat_of_nonneg h0]at hlen ⊢;cases n with
   |false=>exact bT (s:=nA false w (b8 (ag w)) (((0:Nat):Int)-1)) hS (akL w _ _)
   |true=>
    have hp:=h2 rfl;have e:(⟨#[45]⟩:ByteArray)++b8 (ag w)=b8 (aZ true (ag w)):=by
     refine gR ?_;rw [iJ,jy,jy,itoa_neg (show aZ true (ag w)<0 by show-ag w<0;omega),gg (by omega)];show _=45::Lib.decDigits (-ag w).natAbs;rw [Int.natAbs_neg];rfl
    rw [<-e];exact bT (s:=nA true w (b8 (ag w)) (((0:Nat):Int)-1)) hS (No w _ _ (by show 1+_<=_;omega))
  |succ j=>
   have hj:=hd.get (by decide) j;have e1:(((j+1:Nat):Int)-1)=(j:Int):=by omega
   have e2:(j:Int).toNat=j:=by omega
   have ars:(kn (w.getD j 0) 9).size=9:=by rw [tX,Uy hj,MA]
   have key:=akJ n w (b8 ((ag (w.drop (j+1))).toNat:Int)) (j:Int) (by omega) (by omega);rw [e2]at key;have hpos:0<ag (w.drop (j+1)):=by
    have h3:=rq 1000000000 (w.drop (j+1)) (m-(j+1)) (by rw [mQ];omega);have h4:=dC ((hd.drop (j+1)).take (m-(j+1)));rw [List.drop_drop,show j+1+(m-(j+1))=m by omega]at h3;have h5:vl 1000000000 (w.drop m)=w.getD m 0:=by
     rw [tI (by omega),List.drop_eq_nil_of_le (by omega)];simp [vl]
    rw [h5]at h3;have h6:=Int.mul_pos (bc (b:=1000000000) (by decide) (m-(j+1))) (show 0<w.getD m 0 by omega);unfold ag at*;omega
   have akP:b8 ((ag (w.drop (j+1))).toNat:Int)++kn (w.getD j 0) 9=b8 ((ag (w.drop j)).toNat:Int):=Uz (by
    rw [iJ,jy,Dec.uf,Uy hj,<-MB 9 _ _ (by omega) hj.1 (by have:(10:Int)^9=1000000000:=rfl;omega)];congr 1;have h3:ag (w.drop j)=w.getD j 0+1000000000*ag (w.drop (j+1)):=tI (by omega);have h4:(10:Nat)^9=1000000000:=rfl;rw [h3,h4];omega)
   show a8 _ _ _ _ _ _ (nA n w (b8 ((ag (w.drop (j+1))).toNat:Int)) (((j+1:Nat):Int)-1)).T (nA n w (b8 ((ag (w.drop (j+1))).toNat:Int)) (((j+1:Nat):Int)-1)).H _;rw [e1];refine bp (s:=nA n w (b8 ((ag (w.drop (j+1))).toNat:Int)) (j:Int)) hS (key (by omega) (by rw [az hj.1,az (show w.getD j 0<=9223372036854775807 by omega)];rfl) (by show _+(kn (w.getD j 0) 9).size<=_;omega) (by omega)) ?_;rw [akP];exact⟨⟨j,by omega⟩,e7 _,rfl,rfl⟩
theorem MD:Gm.Ok prog:=fun⟨⟨n,w⟩,_⟩ h=>akO n w h
end
noncomputable section
noncomputable def r5:Code:=(f88.body).getD .skip
noncomputable def yy:bF:=nZ [Ct] (a7 [Lx])
def nB (s:ByteArray) (neg:Bool) (w:List Int):bC:={n:=40,sl:=[(0,sv s),(2, .ptr 64 0),(3,bv neg),(4,mC 65 w)],bG:=[(64,Rb),(65,mD w)],next:=66}
abbrev ME:List Nat:=[1,1,1,1,0,0,0]
theorem akQ (s:ByteArray) (h1:(s.size:Int)>0) (h2:Int.toNat 0<s.size) (h3:(↑(UInt8.toNat (s.data.toList.getD (Int.toNat 0) (0:UInt8))):Int)=45) (h4:Int.toNat 1<=s.size) (h5:(s.extract (Int.toNat 1) s.size)=(s.extract 1 s.size)):
  cT yy (fl r5 []) 5 40 [sv s] 63 .normal [(64,64,none)] (nB (s.extract 1 s.size) true []):=
 wy [af (aQ (az h1)),ah h2,ah h1,c8 h3,ah h4,ah (by omega:s.size<=s.size),ax h5,ax (fU.mpr h3)] 37787111807533466517569
theorem akR (s:ByteArray) (h1:(s.size:Int)>0) (h2:Int.toNat 0<s.size) (h3:¬(↑(UInt8.toNat (s.data.toList.getD (Int.toNat 0) (0:UInt8))):Int)=45):
  cT yy (fl r5 []) 5 40 [sv s] 47 .normal [(64,64,none)] (nB s false []):=
 wy [af (aQ (az h1)),ah h2,ah h1,yn h3,ax (fP.mpr h3)] 90072270663843905
theorem akS (s:ByteArray) (h1:¬(s.size:Int)>0):
  cT yy (fl r5 []) 5 40 [sv s] 32 .normal [(64,64,none)] (nB s false []):=
 wy [af (aQ (ab h1)),aJ h1] 528449
theorem akT (s:ByteArray) (neg:Bool) (w:List Int) (h1:(s.size:Int)>9) (h2:i6 ((s.size:Int)-9)) (h3:0<=(s.size:Int)-9) (h4:(decide ((s.extract ((s.size:Int)-9).toNat s.size).size<=17)&&bW (s.extract ((s.size:Int)-9).toNat s.size).data.toList)=true) (h5:w.length+1<=1000000) (h6:(w.length+1)=(w++[bg (s.extract ((s.size:Int)-9).toNat s.size).data.toList]).length) (h7:(aS.full)=(bA (w++[bg (s.extract ((s.size:Int)-9).toNat s.size).data.toList]).length)):
  bh yy (fl r5 ME) (nB s neg w) 5 .normal [(64,64,none),(65,67,none)] (nB (s.extract 0 ((s.size:Int)-9).toNat) neg (w++[bg (ak (s.extract ((s.size:Int)-9).toNat s.size))])):=
 wy [ah h1,yi h2,ah h3,ah (by omega:((s.size:Int)-(9:Int)).toNat<=s.size),ah (by omega:s.size<=s.size),af h4,yk 3 (.int .i64) w,ia 8 h5,ax h6,ax h7,jN 3 (.int .i64) (Eq.refl (w++[bg (s.extract ((s.size:Int)-(9:Int)).toNat s.size).data.toList]))] 59889907190626495097649245648290902454401
theorem akU (s:ByteArray) (neg:Bool) (w:List Int) (h1:¬(s.size:Int)>9):
  bh yy (fl r5 ME) (nB s neg w) 2 (.exit 0) [(64,64,none),(65,65,none)] (nB s neg w):=
 wy [aJ h1] 1
theorem akV (s:ByteArray) (neg:Bool) (w:List Int) (h1:(decide (s.size<=17)&&bW s.data.toList)=true) (h2:w.length+1<=1000000) (h3:(Nat.beq (w.length+1) 0||bt 3 (.int .i64) (some (bf.own 3 (.int .i64) (w++[bg s.data.toList]))) (w.length+1-1))=true) (h4:(okB (((w++[bg s.data.toList]).drop 0).take (w.length+1)))=true) (h5:(mkR (aZ neg (ag (((w++[bg s.data.toList]).drop 0).take (w.length+1))))).1=(mkR (aZ neg (ag (w++[bg s.data.toList])))).1) (h6:(mkR (aZ neg (ag (((w++[bg s.data.toList]).drop 0).take (w.length+1))))).2=(mkR (aZ neg (ag (w++[bg s.data.toList])))).2):
  bQ yy ((fl r5 []).drop 6) (nB s neg w) 2 f88 false (rv (mkR (aZ neg (ag (w++[bg (ak s)]))))):=
 wy [af h1,yk 3 (.int .i64) w,ia 8 h2,af (show(Nat.beq (w.length+(1:Nat)) (0:Nat)||bt 3 (.int .i64) (some (bf.own 3 (.int .i64) (bI (.int .i64) (bM 3 (.int .i64) w)++[bg s.data.toList]))) ((0:Nat)+(w.length+(1:Nat))-(1:Nat)))=true from(by simp only [dI,aw]<;>exact h3)),af (show(okB (((bI (.int .i64) (bM 3 (.int .i64) w)++[bg s.data.toList]).drop (0:Nat)).take (w.length+(1:Nat))))=true from(by simp only [dI]<;>exact h4)),ax (show((mkR (aZ neg (ag (((bI (.int .i64) (bM 3 (.int .i64) w)++[bg s.data.toList]).drop (0:Nat)).take (w.length+(1:Nat)))))).1)=((mkR (aZ neg (ag (w++[bg s.data.toList])))).1)from(by simp only [dI]<;>exact h5)),ax (show((mkR (aZ neg (ag (((bI (.int .i64) (bM 3 (.int .i64) w)++[bg s.data.toList]).drop (0:Nat)).take (w.length+(1:Nat)))))).2)=((mkR (aZ neg (ag (w++[bg s.data.toList])))).2)from(by simp only [dI]<;>exact h6))] 1997061059248129
def bX (s:ByteArray):Bool:=decide (0<s.size)&&decide ((b5 s 0).toNat=45)
def bO (s:ByteArray):ByteArray:=match bX s with |true=>s.extract 1 s.size|false=>s
def li (s:ByteArray):Int:=aZ (bX s) (bg (ak (bO s)))
noncomputable def UB:bn:={f:=88,ps:=[.str],rs:=[jP],fresh:=false,pre:=fun d=>decide (d.1.size<=800000)&&bW (ak (bO d.1)),fn:=fun d=>(mkR (li d.1),())}
theorem UC:bB prog (bD yy):=tD (fun c hc=>by
 simp only [dV,jY,or_false]at hc;obtain rfl:=hc;exact EV) (cR fun c hc=>by
 simp only [dV,jY,or_false]at hc;obtain rfl:=hc;exact SZ)
theorem MF (a b:List UInt8):bg (a++b)=bg a*10^b.length+bg b:=by
 show(a++b).foldl _ 0=_;rw [aif,FX];rfl
theorem Gn {a b:List UInt8}:bW (a++b)=true↔bW a=true/\bW b=true:=by
 unfold bW;rw [List.all_append,ae]
theorem gE {s:ByteArray} (h:bW (ak s)=true):0<=bg (ak s)/\bg (ak s)<10^s.size:=by
 have:=lP h (ak s).length (aE _);rw [dA]at this;rw [bd];exact this
theorem akW {t:ByteArray} (h:9<t.size) (hd:bW (ak t)=true):
  (t.extract 0 (t.size-9)).size=t.size-9/\bW (ak (t.extract 0 (t.size-9)))=true/\(t.extract (t.size-9) t.size).size=9/\bW (ak (t.extract (t.size-9) t.size))=true/\bg (ak t)=bg (ak (t.extract 0 (t.size-9)))*1000000000+bg (ak (t.extract (t.size-9) t.size)):=by
 have e1:ak (t.extract 0 (t.size-9))=(ak t).take (t.size-9):=by rw [lK,List.drop_zero]
 have e2:ak (t.extract (t.size-9) t.size)=(ak t).drop (t.size-9):=by rw [lK,bd,dA]
 have e3:ak t=(ak t).take (t.size-9)++(ak t).drop (t.size-9):=(List.take_append_drop _ _).symm;have hdd:=hd;rw [e3,Gn]at hdd;have l2:((ak t).drop (t.size-9)).length=9:=by rw [mQ,<-bd];omega
 refine⟨kZ _ _ _ (by omega),by rw [e1];exact hdd.1,by rw [kZ _ _ _ (aE _)];omega,by rw [e2];exact hdd.2, ?_⟩;rw [e1,e2];have:=MF ((ak t).take (t.size-9)) ((ak t).drop (t.size-9));rw [<-e3,l2]at this;exact this
theorem MG (t:ByteArray) (neg:Bool) (hd:bW (ak t)=true) (hl:t.size<=800000) (w0:World) (F:Sv.Env):
  aR prog w0 F 40 ((fl r5 []).drop 5) (nB t neg []).T (nB t neg []).H (gk prog false f88 (rv (mkR (aZ neg (bg (ak t)))))):=by
 have hS:=UC;refine aR.loop (ι:={x:ByteArray×List Int//bW (ak x.1)=true/\x.1.size<=800000/\x.2.length<=800000-x.1.size/\aP 1000000000 x.2/\bg (ak t)=ag x.2+1000000000^x.2.length*bg (ak x.1)/\9*x.2.length+x.1.size<=800000}) (id:=0) (b:=cat r5 ME) (rest:=(fl r5 []).drop 6) (by kernel_rfl) (fun x=>nB x.1.1 neg x.1.2) (fun x=>x.1.1.size) ⟨(t,[]),hd,hl,Nat.zero_le _, .nil,by simp [ag,vl],by show 9*0+t.size<=_;omega⟩ (fun _=>rfl) ?_;rintro⟨⟨s,w⟩,h1,h2,h3,h4,h5,h6⟩;have h1:bW (ak s)=true:=h1;have h2:s.size<=800000:=h2;have h4:aP 1000000000 w:=h4;have h5:bg (ak t)=ag w+1000000000^w.length*bg (ak s):=h5;have h6:9*w.length+s.size<=800000:=h6;have UD:(10:Int)^9=1000000000:=rfl;by_cases hgo:9<s.size
 .have bG:((s.size:Int)-9).toNat=s.size-9:=by omega
  obtain⟨c1,c2,c3,c4,c5⟩:=akW hgo h1;have hv:=gE c4;rw [c3,UD]at hv;have key:=akT s neg w (by omega) (by omega) (by omega);rw [bG]at key;refine bp (s:=nB s neg w) hS (key (by rw [az (by omega),show bW (s.extract (s.size-9) s.size).data.toList=true from c4];rfl) (by omega) (qm _ _) (tE _ _)) ?_;refine⟨⟨(s.extract 0 (s.size-9),w++[bg (ak (s.extract (s.size-9) s.size))]),c2,by show(s.extract 0 (s.size-9)).size<=_;omega,by show(w++[_]).length<=_-(s.extract 0 (s.size-9)).size;rw [cG,List.length_singleton];omega,h4.app (.cons hv .nil), ?_,by show 9*(w++[_]).length+(s.extract 0 (s.size-9)).size<=_;rw [cG,List.length_singleton];omega⟩,by show(s.extract 0 (s.size-9)).size<s.size;omega,rfl,rfl⟩;show bg (ak t)=vl 1000000000 (w++[bg (ak (s.extract (s.size-9) s.size))])+1000000000^(w++[bg (ak (s.extract (s.size-9) s.size))]).length*bg (ak (s.extract 0 (s.size-9)));rw [xK,cG,List.length_singleton,Int.pow_succ,h5,c5];unfold ag;generalize bg (ak (s.extract (s.size-9) s.size))=x1;generalize bg (ak (s.extract 0 (s.size-9)))=x2;generalize (1000000000:Int)^w.length=x3;grind
 .refine bp (s:=nB s neg w) hS (akU s neg w (by omega)) ?_;refine cv (cD ?_);have hv:=gE h1;have hp:(10:Int)^s.size<=10^9:=iG (by decide) (by omega);have e:ag (w++[bg (ak s)])=bg (ak t):=by
   rw [h5];show vl _ _=vl _ _+_;rw [xK]
  have iH:aP 1000000000 (w++[bg (ak s)]):=h4.app (.cons (by omega) .nil);have et:((w++[bg (ak s)]).drop 0).take (w.length+1)=w++[bg (ak s)]:=by
   rw [List.drop_zero,ef (by simp)]
  have key:=akV s neg w (by rw [az (by omega),show bW s.data.toList=true from h1];rfl) (by omega) (by
   rw [Bool.or_eq_true];exact .inr (fa (by simp))) (by rw [et];exact n4.2 ⟨iH,by simp;omega⟩) (by rw [et]) (by rw [et])
  rw [e]at key;exact bT (s:=nB s neg w) hS key
theorem akX (s:ByteArray) (hl:s.size<=800000) (hd:bW (ak (bO s))=true):Holds prog false 88 [sv s] (rv (mkR (li s))):=by
 have hS:=UC;refine bJ (c:=r5) func88 rfl rfl fun w0 F=> ?_
 unfold li;by_cases h0:0<s.size
 .by_cases k3:(b5 s 0).toNat=45
  .have e1:bX s=true:=by unfold bX;rw [az h0,az k3];rfl
   have e2:bO s=s.extract 1 s.size:=by unfold bO;rw [e1]
   rw [e2]at hd;rw [e1,e2];refine cE hS 5 (akQ s (by omega) (by show 0<s.size;exact h0) (by show((b5 s 0).toNat:Int)=45;omega) (by show 1<=s.size;omega) rfl) ?_;exact MG _ true hd (by rw [kZ _ _ _ (aE _)];omega) w0 F
  .have e1:bX s=false:=by unfold bX;rw [az h0,ab k3];rfl
   have e2:bO s=s:=by unfold bO;rw [e1]
   rw [e2]at hd;rw [e1,e2];refine cE hS 5 (akR s (by omega) (by show 0<s.size;exact h0) (by show¬((b5 s 0).toNat:Int)=45;omega)) ?_;exact MG _ false hd hl w0 F
 .have e1:bX s=false:=by unfold bX;rw [ab h0];rfl
  have e2:bO s=s:=by unfold bO;rw [e1]
  rw [e2]at hd;rw [e1,e2];refine cE hS 5 (akS s (by omega)) ?_;exact MG _ false hd hl w0 F
theorem akY:UB.Ok prog:=fun⟨s,_⟩ h=>by
 have h:(decide (s.size<=800000)&&bW (ak (bO s)))=true:=h;rw [ae,bz]at h;exact akX s h.1 h.2
end
noncomputable section
theorem akZ (l:List UInt8) (h:∀b∈l,b≠47):Lib.index l [47]= -1:=by
 induction l with
 |nil=>rfl
 |cons b r ih=>
  have hb:(47==b)=false:=by
   rw [fP];intro e;exact h b (by simp) e.symm
  have:=ih (fun c hc=>h c (by simp [hc]));simp [Lib.index,List.isPrefixOf,hb,this]
theorem Kx (l r:List UInt8) (h:∀b∈l,b≠47):Lib.index (l++47::r) [47]=(l.length:Int):=by
 induction l with
 |nil=>simp [Lib.index,List.isPrefixOf]
 |cons b t ih=>
  have hb:(47==b)=false:=by
   rw [fP];intro e;exact h b (by simp) e.symm
  have:=ih (fun c hc=>h c (by simp [hc]));rw [List.cons_append];unfold Lib.index;rw [this];simp only [List.isPrefixOf,hb,Bool.false_and,Bool.false_eq_true,if_false,List.length_cons];rw [if_neg (by simp)];omega
theorem UE (n:Int):∀b∈Lib.itoa n,b≠47:=by
 have hd:∀b∈Lib.decDigits n.natAbs,b≠47:=fun b hb e=>by
  have:=Dec.Mv _ b hb;subst e;exact absurd this.1 (by decide)
 by_cases h:n<0
 .rw [itoa_neg h];intro b hb;rcases dV.1 hb with rfl |hb
  .decide
  .exact hd b hb
 .rw [gg h];exact hd
theorem UF {l:List UInt8} (h:∀b∈l,b≠47):Lib.cut l [47]=(l,[],false):=by
 unfold Lib.cut;rw [akZ l h];rfl
theorem UG {l r:List UInt8} (h:∀b∈l,b≠47):Lib.cut (l++47::r) [47]=(l,r,true):=by
 unfold Lib.cut;rw [Kx l r h];simp
def aU (r:Rat):ByteArray:=if r.den=1 then b8 r.num else⟨(Lib.itoa r.num++47::Lib.itoa r.den).toArray⟩
theorem ak0 {n:Nat} {r:Rat} (hn:1<=n) (hn2:n<=100000) (h1:bH n (aV (r.num.natAbs:Int))=true) (h2:bH n (aV (r.den:Int))=true) (hs:(aU r).size<4294967281):
  iV (aU r)=true/\QR n (fL (aU r)) r:=by
 have o1:bH n (aV r.num)=true:=by
  have:=dp h1 hn;rw [val_mk]at this;exact(kV (by omega)).1
 have hc:rZ (aU r)=true:=by unfold rZ;rw [az hs]
 have v8:(jW:ByteArray).data.toList=[47]:=rfl;have ra:dt (b8 r.num)=true:=Uw (gC hn2 h1);by_cases hd:r.den=1
 .have ht:aU r=b8 r.num:=by unfold aU;rw [if_pos hd]
  have hcut:Lib.cut (b8 r.num).data.toList (jW:ByteArray).data.toList=(Lib.itoa r.num,[],false):=by rw [jy,v8,UF (UE _)]
  have C6:iL (b8 r.num) jW=b8 r.num:=by unfold iL;rw [hcut];rfl
  have C7:oq (b8 r.num) jW=false:=by unfold oq;rw [hcut]
  rw [ht]at hc ⊢;refine⟨?_, ?_⟩
  .unfold iV;rw [hc,C6,ra,C7];rfl
  .unfold fL;rw [C7,if_neg (by decide),C6,m7];have:=C1 o1;rw [val_mk]at this;have e:(r.num:Rat)=r:=Rat.ext rfl hd.symm;rw [e]at this;exact this
 .have ht:aU r=⟨(Lib.itoa r.num++47::Lib.itoa r.den).toArray⟩:=by unfold aU;rw [if_neg hd]
  have hcut:Lib.cut (aU r).data.toList (jW:ByteArray).data.toList=(Lib.itoa r.num,Lib.itoa r.den,true):=by
   rw [ht,v8,<-UG (UE r.num)]
  have C6:iL (aU r) jW=b8 r.num:=by unfold iL;rw [hcut];rfl
  have UH:rY (aU r) jW=b8 r.den:=by unfold rY;rw [hcut];rfl
  have C7:oq (aU r) jW=true:=by unfold oq;rw [hcut]
  have rb:dt (b8 r.den)=true:=Uw (gC hn2 (by rw [Int.natAbs_natCast];exact h2));refine⟨?_, ?_⟩
  .unfold iV;rw [hc,C6,UH,ra,rb,C7];rfl
  .unfold fL;rw [C7,if_pos rfl,C6,UH,m7,m7];exact⟨o1,h2,val_mk _,val_mk _⟩
end
noncomputable section
noncomputable def MH:Code:=(f66.body).getD .skip
noncomputable def yz:Code:=(f67.body).getD .skip
noncomputable def MI:bF:=a7 [Ar,UB,Ka]
noncomputable def AR:bF:=nZ [Ct] (a7 [SN,Lu,Lf,Gm])
theorem ak1 (s:ByteArray) (h1:s.size<=1000000000) (h2:(↑(aY s.data.toList):Int)=(s.size:Int)) (h3:(decide (s.size<=800000)&&bW (bO s).data.toList)=true):
  bq MI (fl MH []) 5 25 [sv s] 3 f66 false (.tuple [rv (mkR (li s)),rv (mkR 1)]):=
 wy [ah h1,c8 h2,af h3] 12417
theorem ak2 (s:ByteArray) (h1:s.size<=1000000000) (h2:¬(↑(aY s.data.toList):Int)=(s.size:Int)) (h3:aY s.data.toList<=s.size) (h4:(decide ((s.extract 0 (aY s.data.toList)).size<=800000)&&bW (bO (s.extract 0 (aY s.data.toList))).data.toList)=true) (h5:i6 ((↑(aY s.data.toList):Int)+1)) (h6:((↑(aY s.data.toList):Int)+1).toNat<=s.size) (h7:(decide ((s.extract ((↑(aY s.data.toList):Int)+1).toNat s.size).size<=800000)&&bW (bO (s.extract ((↑(aY s.data.toList):Int)+1).toNat s.size)).data.toList)=true) (h8:(mkR (li (s.extract ((↑(aY s.data.toList):Int)+1).toNat s.size))).1=(mkR (li (s.extract (aY s.data.toList+1) s.size))).1) (h9:(mkR (li (s.extract ((↑(aY s.data.toList):Int)+1).toNat s.size))).2=(mkR (li (s.extract (aY s.data.toList+1) s.size))).2):
  bq MI (fl MH []) 9 25 [sv s] 2 f66 false (.tuple [rv (mkR (li (s.extract 0 (aY (ak s))))),rv (mkR (li (s.extract (aY (ak s)+1) s.size)))]):=
 wy [ah h1,yn h2,ah h3,af h4,yi h5,ah h6,ah (by omega:s.size<=s.size),af h7,ax h8,ax h9] 196148223583635607820173441
def r6 (n:Bool) (x:List Int) (m:Bool) (y:List Int):bC:={n:=57,sl:=[(2, .ptr 64 0),(3, .ptr 65 0)],bG:=[(64,My n x),(65,My m y)],next:=66}
theorem ak3 (n:Bool) (x y:List Int):
  cT AR (fl yz []) 3 57 [rv (n,x),rv (false,y)] 2 .normal [(64,64,none),(65,65,none)] (r6 n x false y):=
 wy [] 0
theorem ak4 (n:Bool) (x y:List Int) (h1:(okZ (n,x))=true) (h2:(okZ (true,y))=true):
  cT AR (fl yz []) 3 57 [rv (n,x),rv (true,y)] 3 .normal [(64,64,none),(65,65,none)] (r6 (mkR (-vZ (n,x))).1 (mkR (-vZ (n,x))).2 (mkR (-vZ (true,y))).1 (mkR (-vZ (true,y))).2):=
 wy [af (aW (v:=aa.agg [aa.raw (Value.bool n),aa.bk false (.int .i64) x]) (by kernel_rfl)),af h1,af (aW (v:=aa.agg [aa.raw (Value.bool true),aa.bk false (.int .i64) y]) (by kernel_rfl)),af h2] 4346093632
def MJ (x y:List Int):List Int:=aC (Int.gcd (ag x) (ag y))
def yA (n:Bool) (x y:List Int):ByteArray:=b8 (vZ (mkR (aZ n (ag (aC (ag x/ag (MJ x y)))))))
def C8 (x y:List Int):List Int:=aC (ag y/ag (MJ x y))
abbrev ir:ByteArray:=⟨#[47]⟩
theorem ak5 (n:Bool) (x:List Int) (m:Bool) (y:List Int) (h1:(okA x&&okA y)=true) (h2:(okA x&&(okA (aC (↑(Int.gcd (ag x) (ag y)):Int))&&decide (0<ag (aC (↑(Int.gcd (ag x) (ag y)):Int)))))=true) (h3:(okA y&&(okA (aC (↑(Int.gcd (ag x) (ag y)):Int))&&decide (0<ag (aC (↑(Int.gcd (ag x) (ag y)):Int)))))=true) (h4:(okB (aC (ag x/ag (aC (↑(Int.gcd (ag x) (ag y)):Int)))))=true) (h5:(okZ (mkR (aZ n (ag (aC (ag x/ag (aC (↑(Int.gcd (ag x) (ag y)):Int))))))))=true) (h6:(↑(aC (ag y/ag (aC (↑(Int.gcd (ag x) (ag y)):Int)))).length:Int)=1) (h7:Int.toNat 0<(aC (ag y/ag (aC (↑(Int.gcd (ag x) (ag y)):Int)))).length) (h8:(aC (ag y/ag (aC (↑(Int.gcd (ag x) (ag y)):Int)))).getD (Int.toNat 0) 0=1) (h9:(b8 (vZ (mkR (aZ n (ag (aC (ag x/ag (aC (↑(Int.gcd (ag x) (ag y)):Int)))))))))=(yA n x y)):
  bQ AR ((fl yz []).drop 3) (r6 n x m y) 127 f67 true (sv (yA n x y)):=
 wy [af h1,af h2,af h3,af h4,af h5,af (aQ (fU.mpr h6)),ah h7,c8 h6,c8 h8,ax h9] 3065413170778920828547201
theorem ak6 (n:Bool) (x:List Int) (m:Bool) (y:List Int) (h1:(okA x&&okA y)=true) (h2:(okA x&&(okA (aC (↑(Int.gcd (ag x) (ag y)):Int))&&decide (0<ag (aC (↑(Int.gcd (ag x) (ag y)):Int)))))=true) (h3:(okA y&&(okA (aC (↑(Int.gcd (ag x) (ag y)):Int))&&decide (0<ag (aC (↑(Int.gcd (ag x) (ag y)):Int)))))=true) (h4:(okB (aC (ag x/ag (aC (↑(Int.gcd (ag x) (ag y)):Int)))))=true) (h5:(okZ (mkR (aZ n (ag (aC (ag x/ag (aC (↑(Int.gcd (ag x) (ag y)):Int))))))))=true) (h6:(↑(aC (ag y/ag (aC (↑(Int.gcd (ag x) (ag y)):Int)))).length:Int)=1) (h7:Int.toNat 0<(aC (ag y/ag (aC (↑(Int.gcd (ag x) (ag y)):Int)))).length) (h8:¬(aC (ag y/ag (aC (↑(Int.gcd (ag x) (ag y)):Int)))).getD (Int.toNat 0) 0=1) (h9:(b8 (vZ (mkR (aZ n (ag (aC (ag x/ag (aC (↑(Int.gcd (ag x) (ag y)):Int))))))))).size+(ByteArray.mk (#[(47:UInt8)])).size<=9223372036854775807) (h10:(okB (aC (ag y/ag (aC (↑(Int.gcd (ag x) (ag y)):Int)))))=true) (h11:(okZ (mkR (aZ false (ag (aC (ag y/ag (aC (↑(Int.gcd (ag x) (ag y)):Int))))))))=true) (h12:(b8 (vZ (mkR (aZ n (ag (aC (ag x/ag (aC (↑(Int.gcd (ag x) (ag y)):Int))))))))++(ByteArray.mk (#[(47:UInt8)]))).size+(b8 (vZ (mkR (aZ false (ag (aC (ag y/ag (aC (↑(Int.gcd (ag x) (ag y)):Int))))))))).size<=9223372036854775807) (dP:(b8 (vZ (mkR (aZ n (ag (aC (ag x/ag (aC (↑(Int.gcd (ag x) (ag y)):Int))))))))++(ByteArray.mk (#[(47:UInt8)]))++b8 (vZ (mkR (aZ false (ag (aC (ag y/ag (aC (↑(Int.gcd (ag x) (ag y)):Int)))))))))=(yA n x y++(ByteArray.mk (#[(47:UInt8)]))++b8 (vZ (mkR (aZ false (ag (C8 x y))))))):
  bQ AR ((fl yz []).drop 3) (r6 n x m y) 95 f67 true (sv (yA n x y++ir++b8 (vZ (mkR (aZ false (ag (C8 x y))))))):=
 wy [af h1,af h2,af h3,af h4,af h5,af (aQ (fU.mpr h6)),ah h7,c8 h6,yn h8,ah h9,af h10,af h11,ah h12,ax dP] 72033470842295130389485817180289
theorem ak7 (n:Bool) (x:List Int) (m:Bool) (y:List Int) (h1:(okA x&&okA y)=true) (h2:(okA x&&(okA (aC (↑(Int.gcd (ag x) (ag y)):Int))&&decide (0<ag (aC (↑(Int.gcd (ag x) (ag y)):Int)))))=true) (h3:(okA y&&(okA (aC (↑(Int.gcd (ag x) (ag y)):Int))&&decide (0<ag (aC (↑(Int.gcd (ag x) (ag y)):Int)))))=true) (h4:(okB (aC (ag x/ag (aC (↑(Int.gcd (ag x) (ag y)):Int)))))=true) (h5:(okZ (mkR (aZ n (ag (aC (ag x/ag (aC (↑(Int.gcd (ag x) (ag y)):Int))))))))=true) (h6:¬(↑(aC (ag y/ag (aC (↑(Int.gcd (ag x) (ag y)):Int)))).length:Int)=1) (h7:(b8 (vZ (mkR (aZ n (ag (aC (ag x/ag (aC (↑(Int.gcd (ag x) (ag y)):Int))))))))).size+(ByteArray.mk (#[(47:UInt8)])).size<=9223372036854775807) (h8:(okB (aC (ag y/ag (aC (↑(Int.gcd (ag x) (ag y)):Int)))))=true) (h9:(okZ (mkR (aZ false (ag (aC (ag y/ag (aC (↑(Int.gcd (ag x) (ag y)):Int))))))))=true) (h10:(b8 (vZ (mkR (aZ n (ag (aC (ag x/ag (aC (↑(Int.gcd (ag x) (ag y)):Int))))))))++(ByteArray.mk (#[(47:UInt8)]))).size+(b8 (vZ (mkR (aZ false (ag (aC (ag y/ag (aC (↑(Int.gcd (ag x) (ag y)):Int))))))))).size<=9223372036854775807) (h11:(b8 (vZ (mkR (aZ n (ag (aC (ag x/ag (aC (↑(Int.gcd (ag x) (ag y)):Int))))))))++(ByteArray.mk (#[(47:UInt8)]))++b8 (vZ (mkR (aZ false (ag (aC (ag y/ag (aC (↑(Int.gcd (ag x) (ag y)):Int)))))))))=(yA n x y++(ByteArray.mk (#[(47:UInt8)]))++b8 (vZ (mkR (aZ false (ag (C8 x y))))))):
  bQ AR ((fl yz []).drop 3) (r6 n x m y) 64 f67 true (sv (yA n x y++ir++b8 (vZ (mkR (aZ false (ag (C8 x y))))))):=
 wy [af h1,af h2,af h3,af h4,af h5,af (aQ (fP.mpr h6)),yn h6,ah h7,af h8,af h9,ah h10,ax h11] 15071116821947747238537080961
def ptN (s:ByteArray):Int:=li (s.extract 0 (aY (ak s)))
def ptD (s:ByteArray):Int:=if aY (ak s)<s.size then li (s.extract (aY (ak s)+1) s.size)else 1
def iu (s:ByteArray):Bool:=decide (s.size<=800000)&&(bW (ak (bO (s.extract 0 (aY (ak s)))))&&bW (ak (bO (s.extract (aY (ak s)+1) s.size))))
noncomputable def Gp:bn:={f:=66,ps:=[.str],rs:=[jP,jP],fresh:=false,pre:=fun d=>iu d.1,fn:=fun d=>(mkR (ptN d.1),mkR (ptD d.1),())}
noncomputable def UI:bn:={f:=67,ps:=[jP,jP],rs:=[.str],fresh:=true,pre:=fun d=>okZ d.1&&(okZ d.2.1&& !(Nat.beq (List.length (α:=Int) d.2.1.2) 0)),fn:=fun d=>(aU (Rat.divInt (vZ d.1) (vZ d.2.1)),())}
theorem UJ:bB prog (bD MI):=cR (aT tl (aT akY (aT Rh dY)))
theorem UK:bB prog (bD AR):=tD (fun c hc=>by rw [List.mem_singleton.1 hc];exact EV) (cR fun c hc=>by
 simp only [dV,jY,or_false]at hc;rcases hc with rfl |rfl |rfl |rfl
 .exact ahJ
 .exact SV
 .exact Sn
 .exact MD)
theorem UL (s:ByteArray):s.extract 0 s.size=s:=gR (by rw [Gi,tX,dA])
theorem ak8 (s:ByteArray) (h:iu s=true):Holds prog false 66 [sv s] (.tuple [rv (mkR (ptN s)),rv (mkR (ptD s))]):=by
 unfold iu at h;rw [ae,ae,bz]at h;obtain⟨hl,h1,h2⟩:=h;have hle:aY (ak s)<=s.size:=by rw [bd];exact Au _
 have ha:aY s.data.toList=aY (ak s):=rfl;refine bJ (c:=MH) func66 rfl rfl fun w F=> ?_
 unfold ptN ptD;by_cases hlt:aY (ak s)<s.size
 .rw [if_pos hlt];have uh:((aY (ak s):Int)+1).toNat=aY (ak s)+1:=by omega
  have key:=ak2 s (by omega) (by omega) (by omega) (by rw [ha,az (by rw [kZ _ _ _ hle];omega)];exact h1) (by omega) (by omega);rw [ha,uh]at key;exact bu UJ 9 (key (by rw [az (by rw [kZ _ _ _ (aE _)];omega)];exact h2) rfl rfl)
 .rw [if_neg hlt,show aY (ak s)=s.size by omega,UL];rw [show aY (ak s)=s.size by omega,UL]at h1;exact bu UJ 5 (ak1 s (by omega) (by omega) (by rw [az hl];exact h1))
theorem MK:Gp.Ok prog:=fun⟨s,_⟩ h=>ak8 s h
theorem ak9 {n:Bool} {x:Int} {g:Int} (h:g∣x):aZ n x/g=aZ n (x/g):=by
 cases n with
 |false=>rfl
 |true=>exact Int.neg_ediv_of_dvd h
theorem Gq {n:Bool} {x y:Int}:Int.gcd (aZ n x) y=Int.gcd x y:=by
 cases n with
 |false=>rfl
 |true=>exact Int.neg_gcd
theorem UM {n:Bool} {x y:Int} (hy:0<y):(Rat.divInt (aZ n x) y).num=aZ n (x/Int.gcd x y)/\((Rat.divInt (aZ n x) y).den:Int)=y/Int.gcd x y:=by
 have h1:=akF (n:=aZ n x) (d:=y) (by omega);have h2:=Nm (n:=aZ n x) (d:=y) (by omega);have hg:0<Int.gcd x y:=Int.gcd_pos_of_ne_zero_right _ (by omega);have hq:1<=Aw (aZ n x) y:=by
  unfold Aw;rw [Gq];exact Int.le_ediv_of_mul_le (by omega) (by rw [Int.one_mul];exact Int.le_of_dvd hy (Int.gcd_dvd_right ..))
 obtain⟨h3,h4⟩:=AQ hq h2;rw [h1]at h3 h4;refine⟨?_, ?_⟩
 .rw [h3];unfold FY;rw [Gq,ak9 (Int.gcd_dvd_left ..)]
 .rw [h4];unfold Aw;rw [Gq]
theorem UN {z:Int} {k:Nat} (h:(z.natAbs:Int)<1000000000^k):(b8 z).size<=9*k+2:=by
 have h1:=MC (fY (z:=(z.natAbs:Int)) (Int.natCast_nonneg _)).1;rw [(fY (z:=(z.natAbs:Int)) (Int.natCast_nonneg _)).2.2,Int.toNat_natCast]at h1;have h2:=FR (Int.natCast_nonneg _) h;rw [tX,jy];by_cases hz:z<0
 .rw [itoa_neg hz,List.length_cons];omega
 .rw [gg hz];omega
theorem AU {n:Bool} {x:Int} (h:0<=x):((aZ n x).natAbs:Int)=x:=by
 cases n with
 |false=>show(x.natAbs:Int)=x;omega
 |true=>show((-x).natAbs:Int)=x;omega
theorem UO (n m:Bool) (x y:List Int) (h1:okA x=true) (h2:okA y=true) (hy:0<ag y) (w:World) (F:Sv.Env):
  aR prog w F 57 ((fl yz []).drop 3) (r6 n x m y).T (r6 n x m y).H (gk prog true f67 (sv (aU (Rat.divInt (aZ n (ag x)) (ag y))))):=by
 have hS:=UK;obtain⟨FT,tx,lx⟩:=fc.1 h1;obtain⟨Aq,ty,ly⟩:=fc.1 h2;have hx0:=dC FT;have hx1:=tW h1;have hy1:=tW h2;have hg:0<Int.gcd (ag x) (ag y):=Int.gcd_pos_of_ne_zero_right _ (by omega);have ala:(Int.gcd (ag x) (ag y):Int)<=ag y:=Int.le_of_dvd hy (Int.gcd_dvd_right ..);obtain⟨r1,r2⟩:=UM (n:=n) (x:=ag x) (y:=ag y) hy;have alb:ag (aC (Int.gcd (ag x) (ag y)))=Int.gcd (ag x) (ag y):=(fY (Int.natCast_nonneg _)).2.2;have UQ:okA (aC (Int.gcd (ag x) (ag y)))=true:=tk (k:=y.length) (Int.natCast_nonneg _) (by omega) ly;have art:1<=ag y/Int.gcd (ag x) (ag y):=Int.le_ediv_of_mul_le (by omega) (by rw [Int.one_mul];exact ala);have hpx:0<=ag x/Int.gcd (ag x) (ag y):=Int.ediv_nonneg hx0 (by omega);have aru:ag x/Int.gcd (ag x) (ag y)<=ag x:=Int.ediv_le_self _ hx0;have arv:ag y/Int.gcd (ag x) (ag y)<=ag y:=Int.ediv_le_self _ (by omega);have k1:=ak5 n x m y;have k2:=ak6 n x m y;have dB:=ak7 n x m y;unfold yA C8 MJ at*;generalize cn:(Int.gcd (ag x) (ag y):Int)=g at*;rw [alb]at k1 k2 dB;generalize hp:ag x/g=p at*;generalize hq:ag y/g=q at*;have alc:ag (aC p)=p:=(fY hpx).2.2;have UR:ag (aC q)=q:=(fY (by omega)).2.2;rw [alc]at k1 k2 dB;rw [UR]at k2 dB;have pA:(okA x&&okA y)=true:=by rw [h1,h2];rfl
 have ML:(okA x&&(okA (aC g)&&decide (0<g)))=true:=by rw [h1,UQ,az (by omega)];rfl
 have MM:(okA y&&(okA (aC g)&&decide (0<g)))=true:=by rw [h2,UQ,az (by omega)];rfl
 have pB:okB (aC p)=true:=vS (k:=x.length) hpx (by omega) (by omega);have qB:okB (aC q)=true:=vS (k:=y.length) (by omega) (by omega) (by omega);have MN:okZ (mkR (aZ n p))=true:=iq (k:=x.length) (by rw [AU hpx];omega) lx;have US:okZ (mkR (aZ false q))=true:=iq (k:=y.length) (by rw [AU (by omega)];omega) ly;have sp:(b8 (vZ (mkR (aZ n p)))).size<=9*x.length+2:=by rw [dr];exact UN (by rw [AU hpx];omega)
 have sq:(b8 (vZ (mkR (aZ false q)))).size<=9*y.length+2:=by rw [dr];exact UN (by rw [AU (by omega)];omega)
 have ed:((Rat.divInt (aZ n (ag x)) (ag y)).den:Int)=q:=r2;have bG:(Rat.divInt (aZ n (ag x)) (ag y)).num=aZ n p:=r1;by_cases hq1:q=1
 .have e:aU (Rat.divInt (aZ n (ag x)) (ag y))=b8 (vZ (mkR (aZ n p))):=by
   unfold aU;rw [if_pos (by omega),bG,dr]
  have e1:aC q=[1]:=by
   have h11:eX [(1:Int)]:=fun k hk=>by
    obtain rfl:k=0:=by simpa using hk.symm
    show(1:Int)≠0;decide
   have:=EU (l:=[(1:Int)]) (.cons (show(0:Int)<=1/\(1:Int)<1000000000 by decide) .nil) h11;rw [show ag [(1:Int)]=1 from rj _ _]at this;rw [hq1];exact this
  rw [e];rw [e1]at k1;exact bT (s:=r6 n x m y) hS (k1 pA ML MM pB MN rfl (by decide) rfl rfl)
 .have e:aU (Rat.divInt (aZ n (ag x)) (ag y))=b8 (vZ (mkR (aZ n p)))++ir++b8 (vZ (mkR (aZ false q))):=by
   unfold aU;rw [if_neg (by omega),bG,ed,dr,dr];refine gR ?_;rw [iJ,iJ,jy,jy];show _++47::_=_++[47]++_;rw [ou];rfl
  rw [e];have dD:(b8 (vZ (mkR (aZ n p)))).size+(ByteArray.mk #[(47:UInt8)]).size<=9223372036854775807:=by
   show _+1<=_;omega
  have z2:(b8 (vZ (mkR (aZ n p)))++ByteArray.mk #[(47:UInt8)]).size+(b8 (vZ (mkR (aZ false q)))).size<=9223372036854775807:=by
   rw [ByteArray.size_append];show _+1+_<=_;omega
  by_cases uP:((aC q).length:Int)=1
  .have hne:¬(aC q).getD 0 0=1:=fun h=>by
    obtain⟨c,hc⟩:∃c,aC q=[c]:=List.length_eq_one_iff.1 (by omega);rw [hc]at h;have h:c=1:=h;rw [hc,h]at UR;have:ag [(1:Int)]=1:=rj _ _;omega
   exact bT (s:=r6 n x m y) hS (k2 pA ML MM pB MN uP (by show 0<_;omega) hne dD qB US z2 rfl)
  .exact bT (s:=r6 n x m y) hS (dB pA ML MM pB MN uP dD qB US z2 rfl)
theorem ald {y:List Int} (h:okA y=true) (hn:Nat.beq y.length 0=false):0<ag y:=by
 obtain⟨Aq,ty,_⟩:=fc.1 h;have h0:=dC Aq;rcases Int.lt_or_le 0 (ag y)with h1|h1
 .exact h1
 .have:y=[]:=(rp kM Aq ty).1 (by unfold ag at*;omega);rw [this]at hn;cases hn
theorem ale (n m:Bool) (x y:List Int) (h:okZ (n,x)=true) (g:okZ (m,y)=true) (hy:0<ag y):Holds prog true 67 [rv (n,x),rv (m,y)] (sv (aU (Rat.divInt (aZ n (ag x)) (aZ m (ag y))))):=by
 have hS:=UK;obtain⟨h1,h2⟩:=nw.1 h;obtain⟨g1,g2⟩:=nw.1 g;refine bJ (c:=yz) func67 rfl rfl fun w F=> ?_
 cases m with
 |false=>
  refine cE hS 3 (ak3 n x y) ?_;exact UO n false x y h1 g1 hy w F
 |true=>
  refine cE hS 3 (ak4 n x y h g) ?_;have a1:okZ (mkR (-vZ (n,x)))=true:=iq (k:=x.length) (by
   rw [Int.natAbs_neg];show((aZ n (ag x)).natAbs:Int)<_;rw [AU (dC (fc.1 h1).1)];exact tW h1) (fc.1 h1).2.2
  have a2:okZ (mkR (-vZ (true,y)))=true:=iq (k:=y.length) (by
   rw [Int.natAbs_neg];show((aZ true (ag y)).natAbs:Int)<_;rw [AU (ck hy)];exact tW g1) (fc.1 g1).2.2
  have e1:aZ (mkR (-vZ (n,x))).1 (ag (mkR (-vZ (n,x))).2)= -vZ (n,x):=dr _;have e2:ag (mkR (-vZ (true,y))).2=ag y:=by
   show ag (aC ((-vZ (true,y)).natAbs:Int))=_;rw [(fY (Int.natCast_nonneg _)).2.2];show((-(-ag y)).natAbs:Int)=_;omega
  have key:=UO (mkR (-vZ (n,x))).1 (mkR (-vZ (true,y))).1 (mkR (-vZ (n,x))).2 (mkR (-vZ (true,y))).2 (nw.1 a1).1 (nw.1 a2).1 (by rw [e2];exact hy) w F;rw [e1,e2]at key;have e3:Rat.divInt (aZ n (ag x)) (aZ true (ag y))=Rat.divInt (-vZ (n,x)) (ag y):=by
   show Rat.divInt (aZ n (ag x)) (-ag y)=Rat.divInt (-(aZ n (ag x))) (ag y);have:=Rat.neg_divInt_neg (aZ n (ag x)) (-ag y);rw [Int.neg_neg]at this;exact this.symm
  rw [e3];exact key
theorem alf:UI.Ok prog:=fun⟨⟨n,x⟩,⟨m,y⟩,_⟩ h=>by
 have h:(okZ (n,x)&&(okZ (m,y)&& !(Nat.beq y.length 0)))=true:=h;rw [ae,ae,Bool.not_eq_true']at h;exact ale n m x y h.1 h.2.1 (ald (nw.1 h.2.1).1 h.2.2)
end
noncomputable section
noncomputable def pF:Code:=(f65.body).getD .skip
noncomputable def MO:Code:=(f44.body).getD .skip
noncomputable def ml:bF:=a7 [Ar,Lx]
noncomputable def MP:bF:=a7 [Lw,FV]
def kq (u:ByteArray) (n:Bool) (k:Int):bC:={n:=54,sl:=[(5,sv u),(6,bv n),(7,iv k)],bG:=[],next:=64}
theorem alg (s:ByteArray) (h1:(s.size:Int)>20):
  bq ml (fl pF []) 4 54 [sv s] 3 f65 true (.tuple [iv 0,iv 0,bv false]):=
 wy [ah h1] 1
theorem NE (s:ByteArray) (h1:¬(s.size:Int)>20) (h2:(s.size:Int)>0) (h3:Int.toNat 0<s.size) (h4:¬(↑(UInt8.toNat (s.data.toList.getD (Int.toNat 0) (0:UInt8))):Int)=45) (h5:s.size<=1000000000):
  cT ml (fl pF []) 8 54 [sv s] 94 .normal [] (kq s false (aY (ak s))):=
 wy [aJ h1,af (aQ (az h2)),ah h3,ah h2,yn h4,ah h5,ax (fP.mpr h4)] 8072161649416478849
theorem alh (s:ByteArray) (h1:¬(s.size:Int)>20) (h2:(s.size:Int)>0) (h3:Int.toNat 0<s.size) (h4:(↑(UInt8.toNat (s.data.toList.getD (Int.toNat 0) (0:UInt8))):Int)=45) (h5:Int.toNat 1<=s.size) (h6:(s.extract (Int.toNat 1) s.size).size<=1000000000) (h7:(s.extract (Int.toNat 1) s.size)=(s.extract 1 s.size)) (h8:(↑(aY (s.extract (Int.toNat 1) s.size).data.toList):Int)=(↑(aY (s.extract 1 s.size).data.toList):Int)):
  cT ml (fl pF []) 8 54 [sv s] 126 .normal [] (kq (s.extract 1 s.size) true (aY (ak (s.extract 1 s.size)))):=
 wy [aJ h1,af (aQ (az h2)),ah h3,ah h2,c8 h4,ah h5,ah (by omega:s.size<=s.size),ah h6,ax h7,ax (fU.mpr h4),ax h8] 215836358573926683810734209
theorem ali (u:ByteArray) (n:Bool) (k:Int) (h1:k>9):
  bQ ml ((fl pF []).drop 8) (kq u n k) 224 f65 true (.tuple [iv 0,iv 0,bv false]):=
 wy [af (bx (az h1)),ah h1] 2164527169
theorem alj (u:ByteArray) (n:Bool) (k:Int) (h1:¬k>9) (h2:i6 ((u.size:Int)-k)) (h3:(u.size:Int)-k>10):
  bQ ml ((fl pF []).drop 8) (kq u n k) 223 f65 true (.tuple [iv 0,iv 0,bv false]):=
 wy [af (bx (ab h1)),yi h2,aJ h1,ah h3] 17799452037185
theorem alk (u:ByteArray) (k:Int) (h1:¬k>9) (h2:i6 ((u.size:Int)-k)) (h3:¬(u.size:Int)-k>10) (h4:0<=k) (h5:k.toNat<=u.size) (h6:(decide ((u.extract 0 k.toNat).size<=17)&&bW (u.extract 0 k.toNat).data.toList)=true) (h7:¬k<(u.size:Int)):
  bQ ml ((fl pF []).drop 8) (kq u false k) 543 f65 true (.tuple [iv (bg (ak (u.extract 0 k.toNat))),iv 1,bv true]):=
 wy [af (bx (ab h1)),yi h2,aJ h1,aJ h3,ah h4,ah h5,af h6,aJ h7] 38302359651223005827137
theorem alm (u:ByteArray) (k:Int) (h1:¬k>9) (h2:i6 ((u.size:Int)-k)) (h3:¬(u.size:Int)-k>10) (h4:0<=k) (h5:k.toNat<=u.size) (h6:(decide ((u.extract 0 k.toNat).size<=17)&&bW (u.extract 0 k.toNat).data.toList)=true) (h7:k<(u.size:Int)) (h8:i6 (k+1)) (h9:0<=k+1) (h10:(k+1).toNat<=u.size) (h11:(decide ((u.extract (k+1).toNat u.size).size<=17)&&bW (u.extract (k+1).toNat u.size).data.toList)=true):
  bQ ml ((fl pF []).drop 8) (kq u false k) 671 f65 true (.tuple [iv (bg (ak (u.extract 0 k.toNat))),iv (bg (ak (u.extract (k+1).toNat u.size))),bv true]):=
 wy [af (bx (ab h1)),yi h2,aJ h1,aJ h3,ah h4,ah h5,af h6,ah h7,yi h8,ah h9,ah h10,ah (by omega:u.size<=u.size),af h11] 66882382688987832236781586354241
theorem aln (u:ByteArray) (k:Int) (h1:¬k>9) (h2:i6 ((u.size:Int)-k)) (h3:¬(u.size:Int)-k>10) (h4:0<=k) (h5:k.toNat<=u.size) (h6:(decide ((u.extract 0 k.toNat).size<=17)&&bW (u.extract 0 k.toNat).data.toList)=true) (h7:¬k<(u.size:Int)) (h8:i6 (0-bg (u.extract 0 k.toNat).data.toList)):
  bQ ml ((fl pF []).drop 8) (kq u true k) 799 f65 true (.tuple [iv (0-bg (ak (u.extract 0 k.toNat))),iv 1,bv true]):=
 wy [af (bx (ab h1)),yi h2,aJ h1,aJ h3,ah h4,ah h5,af h6,aJ h7,yi h8] 174123620384157824163516481
theorem alo (u:ByteArray) (k:Int) (h1:¬k>9) (h2:i6 ((u.size:Int)-k)) (h3:¬(u.size:Int)-k>10) (h4:0<=k) (h5:k.toNat<=u.size) (h6:(decide ((u.extract 0 k.toNat).size<=17)&&bW (u.extract 0 k.toNat).data.toList)=true) (h7:k<(u.size:Int)) (h8:i6 (k+1)) (h9:0<=k+1) (h10:(k+1).toNat<=u.size) (h11:(decide ((u.extract (k+1).toNat u.size).size<=17)&&bW (u.extract (k+1).toNat u.size).data.toList)=true) (h12:i6 (0-bg (u.extract 0 k.toNat).data.toList)):
  bQ ml ((fl pF []).drop 8) (kq u true k) 927 f65 true (.tuple [iv (0-bg (ak (u.extract 0 k.toNat))),iv (bg (ak (u.extract (k+1).toNat u.size))),bv true]):=
 wy [af (bx (ab h1)),yi h2,aJ h1,aJ h3,ah h4,ah h5,af h6,ah h7,yi h8,ah h9,ah h10,ah (by omega:u.size<=u.size),af h11,yi h12] 290835506460639335029944576022679617
abbrev AV (z:Int):Int:=if 0-z>z then 0-z else z
abbrev we:ByteArray:=⟨#[45]⟩
theorem alp (n d:Int) (h1:¬n< -4000000000000000000) (h2:¬n>4000000000000000000) (h3:¬d< -4000000000000000000) (h4:¬d>4000000000000000000) (h5:¬d<0) (h6:i6 (0-n)) (h7:(decide ((0:au.den (.int .i64))<=if 0-n>n then 0-n else n)&&decide ((0:au.den (.int .i64))<=d))=true) (h8:(bw n d)≠0) (h9:i6 (Int.tdiv n (bw n d))) (h10:i6 (Int.tdiv d (bw n d))) (h11:Int.tdiv n (bw n d)<0) (h12:i6 (0-Int.tdiv n (bw n d))) (dP:(decide ((0:au.den (.int .i64))<=if 0-Int.tdiv n (bw n d)>Int.tdiv n (bw n d)then 0-Int.tdiv n (bw n d)else Int.tdiv n (bw n d))&&(decide ((if 0-Int.tdiv n (bw n d)>Int.tdiv n (bw n d)then 0-Int.tdiv n (bw n d)else Int.tdiv n (bw n d))<=(9223372036854775807:au.den (.int .i64)))&&decide (1<=(20:au.den (.int .i64)))))=true) (gD:(ByteArray.mk (#[(45:UInt8)])).size+(ByteArray.mk (List.toArray (cr 20 (if 0-Int.tdiv n (bw n d)>Int.tdiv n (bw n d)then 0-Int.tdiv n (bw n d)else Int.tdiv n (bw n d)) 1 []))).size<=9223372036854775807) (iZ:¬Int.tdiv d (bw n d)>1) (kW:((ByteArray.mk (#[(45:UInt8)]))++(ByteArray.mk (List.toArray (cr 20 (if 0-Int.tdiv n (bw n d)>Int.tdiv n (bw n d)then 0-Int.tdiv n (bw n d)else Int.tdiv n (bw n d)) 1 []))))=((ByteArray.mk (#[(45:UInt8)]))++(ByteArray.mk (List.toArray (cr 20 (if 0-Int.tdiv n (bw n d)>Int.tdiv n (bw n d)then 0-Int.tdiv n (bw n d)else Int.tdiv n (bw n d)) 1 []))))):
  bq MP (fl MO []) 30 61 [iv n,iv d] 10459 f44 true (sv (we++kn (AV (Int.tdiv n (Int.gcd (AV n) d))) 1)):=
 wy [af (bx (ab h1)),aJ h1,af (bx (ab h2)),aJ h2,af (bx (ab h3)),aJ h3,aJ h4,aJ h5,yi h6,af h7,ah h8,yi h9,yi h10,ah h11,yi h12,af dP,ah gD,aJ iZ,ax kW] 105000044317847363205758449615782206513217
theorem alq (n d:Int) (h1:¬n< -4000000000000000000) (h2:¬n>4000000000000000000) (h3:¬d< -4000000000000000000) (h4:¬d>4000000000000000000) (h5:¬d<0) (h6:i6 (0-n)) (h7:(decide ((0:au.den (.int .i64))<=if 0-n>n then 0-n else n)&&decide ((0:au.den (.int .i64))<=d))=true) (h8:(bw n d)≠0) (h9:i6 (Int.tdiv n (bw n d))) (h10:i6 (Int.tdiv d (bw n d))) (h11:Int.tdiv n (bw n d)<0) (h12:i6 (0-Int.tdiv n (bw n d))) (dP:(decide ((0:au.den (.int .i64))<=if 0-Int.tdiv n (bw n d)>Int.tdiv n (bw n d)then 0-Int.tdiv n (bw n d)else Int.tdiv n (bw n d))&&(decide ((if 0-Int.tdiv n (bw n d)>Int.tdiv n (bw n d)then 0-Int.tdiv n (bw n d)else Int.tdiv n (bw n d))<=(9223372036854775807:au.den (.int .i64)))&&decide (1<=(20:au.den (.int .i64)))))=true) (gD:(ByteArray.mk (#[(45:UInt8)])).size+(ByteArray.mk (List.toArray (cr 20 (if 0-Int.tdiv n (bw n d)>Int.tdiv n (bw n d)then 0-Int.tdiv n (bw n d)else Int.tdiv n (bw n d)) 1 []))).size<=9223372036854775807) (iZ:Int.tdiv d (bw n d)>1) (kW:((ByteArray.mk (#[(45:UInt8)]))++(ByteArray.mk (List.toArray (cr 20 (if 0-Int.tdiv n (bw n d)>Int.tdiv n (bw n d)then 0-Int.tdiv n (bw n d)else Int.tdiv n (bw n d)) 1 [])))).size+(ByteArray.mk (#[(47:UInt8)])).size<=9223372036854775807) (tP:(decide ((0:au.den (.int .i64))<=Int.tdiv d (bw n d))&&(decide (Int.tdiv d (bw n d)<=(9223372036854775807:au.den (.int .i64)))&&decide (1<=(20:au.den (.int .i64)))))=true) (x9:((ByteArray.mk (#[(45:UInt8)]))++(ByteArray.mk (List.toArray (cr 20 (if 0-Int.tdiv n (bw n d)>Int.tdiv n (bw n d)then 0-Int.tdiv n (bw n d)else Int.tdiv n (bw n d)) 1 [])))++(ByteArray.mk (#[(47:UInt8)]))).size+(ByteArray.mk (List.toArray (cr 20 (Int.tdiv d (bw n d)) 1 []))).size<=9223372036854775807) (h19:((ByteArray.mk (#[(45:UInt8)]))++(ByteArray.mk (List.toArray (cr 20 (if 0-Int.tdiv n (bw n d)>Int.tdiv n (bw n d)then 0-Int.tdiv n (bw n d)else Int.tdiv n (bw n d)) 1 [])))++(ByteArray.mk (#[(47:UInt8)]))++(ByteArray.mk (List.toArray (cr 20 (Int.tdiv d (bw n d)) 1 []))))=((ByteArray.mk (#[(45:UInt8)]))++(ByteArray.mk (List.toArray (cr 20 (if 0-Int.tdiv n (bw n d)>Int.tdiv n (bw n d)then 0-Int.tdiv n (bw n d)else Int.tdiv n (bw n d)) 1 [])))++(ByteArray.mk (#[(47:UInt8)]))++(ByteArray.mk (List.toArray (cr 20 (Int.tdiv d (bw n d)) 1 []))))):
  bq MP (fl MO []) 30 61 [iv n,iv d] 14555 f44 true (sv (we++kn (AV (Int.tdiv n (Int.gcd (AV n) d))) 1++ir++kn (Int.tdiv d (Int.gcd (AV n) d)) 1)):=
 wy [af (bx (ab h1)),aJ h1,af (bx (ab h2)),aJ h2,af (bx (ab h3)),aJ h3,aJ h4,aJ h5,yi h6,af h7,ah h8,yi h9,yi h10,ah h11,yi h12,af dP,ah gD,ah iZ,ah kW,af tP,ah x9,ax h19] 31874838871619119136349477082024326987223146561
def r7 (s:ByteArray):Nat:=aY (ak (bO s))
def C9 (s:ByteArray):Int:=bg (ak ((bO s).extract 0 (r7 s)))
def Da (s:ByteArray):Int:=if r7 s<(bO s).size then bg (ak ((bO s).extract (r7 s+1) (bO s).size))else 1
def qB (s:ByteArray):Bool:=decide (s.size<=20)&&(decide (r7 s<=9)&&decide ((bO s).size-r7 s<=10))
def jr (s:ByteArray):Bool:=(decide (0<s.size)&&decide (s.size<=800000))&&(bW (ak ((bO s).extract 0 (r7 s)))&&bW (ak ((bO s).extract (r7 s+1) (bO s).size)))
def je (s:ByteArray):Int:=if qB s then aZ (bX s) (C9 s)else 0
def fO (s:ByteArray):Int:=if qB s then Da s else 0
noncomputable def UT:bn:={f:=65,ps:=[.str],rs:=[.int .i64, .int .i64, .bool],fresh:=true,pre:=fun d=>jr d.1,fn:=fun d=>(je d.1,fO d.1,qB d.1,())}
noncomputable def UU:bn:={f:=44,ps:=[.int .i64, .int .i64],rs:=[.str],fresh:=true,pre:=fun d=>(decide (-4000000000000000000<=d.1)&&decide (d.1<=4000000000000000000))&&(decide (0<d.2.1)&&decide (d.2.1<=4000000000000000000)),fn:=fun d=>(aU (Rat.divInt d.1 d.2.1),())}
theorem UW:bB prog (bD ml):=cR (aT tl (aT SZ dY))
theorem AS:bB prog (bD MP):=cR (aT SW (aT LA dY))
abbrev MQ (a b:Int) (c:Bool):Exit->av aa->ai->Prop:=gk prog true f65 (.tuple [iv a,iv b,bv c])
theorem alr (u:ByteArray) (n:Bool) (hl:u.size<=20) (h1:bW (ak (u.extract 0 (aY (ak u))))=true) (h2:bW (ak (u.extract (aY (ak u)+1) u.size))=true) (w:World) (F:Sv.Env):
  aR prog w F 54 ((fl pF []).drop 8) (kq u n (aY (ak u))).T (kq u n (aY (ak u))).H (if aY (ak u)<=9/\u.size-aY (ak u)<=10 then MQ (aZ n (bg (ak (u.extract 0 (aY (ak u)))))) (if aY (ak u)<u.size then bg (ak (u.extract (aY (ak u)+1) u.size))else 1) true else MQ 0 0 false):=by
 have hS:=UW;have hle:aY (ak u)<=u.size:=by rw [bd];exact Au _
 generalize aY (ak u)=k at*;have uh:(k:Int).toNat=k:=by omega
 have Gr:((k:Int)+1).toNat=k+1:=by omega
 have hz:=kZ u 0 k hle;have kS:=kZ u (k+1) u.size (aE _);by_cases hk:k<=9
 .by_cases hd:u.size-k<=10
  .rw [if_pos ⟨hk,hd⟩];have g1:(decide ((u.extract 0 k).size<=17)&&bW (ak (u.extract 0 k)))=true:=by rw [h1,az (by omega)];rfl
   have g2:(decide ((u.extract (k+1) u.size).size<=17)&&bW (ak (u.extract (k+1) u.size)))=true:=by rw [h2,az (by omega)];rfl
   have hv:=gE h1;have hp:(10:Int)^(u.extract 0 k).size<=10^9:=iG (by decide) (by omega);have UD:(10:Int)^9=1000000000:=rfl;by_cases hlt:k<u.size
   .rw [if_pos hlt];cases n with
    |false=>
     have key:=alm u (k:Int) (by omega) (by omega) (by omega) (by omega);rw [uh,Gr]at key;exact bT (s:=kq u false k) hS (key hle g1 (by omega) (by omega) (by omega) (by omega) g2)
    |true=>
     have key:=alo u (k:Int) (by omega) (by omega) (by omega) (by omega);rw [uh,Gr]at key;have key:=key hle g1 (by omega) (by omega) (by omega) (by omega) g2 (by show-9223372036854775808<=0-bg (ak (u.extract 0 k))/\0-bg (ak (u.extract 0 k))<=9223372036854775807;omega);rw [Int.zero_sub]at key;exact bT (s:=kq u true k) hS key
   .rw [if_neg hlt];cases n with
    |false=>
     have key:=alk u (k:Int) (by omega) (by omega) (by omega) (by omega);rw [uh]at key;exact bT (s:=kq u false k) hS (key hle g1 (by omega))
    |true=>
     have key:=aln u (k:Int) (by omega) (by omega) (by omega) (by omega);rw [uh]at key;have key:=key hle g1 (by omega) (by show-9223372036854775808<=0-bg (ak (u.extract 0 k))/\0-bg (ak (u.extract 0 k))<=9223372036854775807;omega);rw [Int.zero_sub]at key;exact bT (s:=kq u true k) hS key
  .rw [if_neg fun h=>hd h.2];exact bT (s:=kq u n k) hS (alj u n (k:Int) (by omega) (by omega) (by omega))
 .rw [if_neg fun h=>hk h.1];exact bT (s:=kq u n k) hS (ali u n (k:Int) (by omega))
theorem als (s:ByteArray) (h:jr s=true):Holds prog true 65 [sv s] (.tuple [iv (if qB s then aZ (bX s) (C9 s)else 0),iv (if qB s then Da s else 0),bv (qB s)]):=by
 have hS:=UW;unfold jr at h;rw [ae,ae,ae,bz,bz]at h;obtain⟨⟨h0,hl⟩,h1,h2⟩:=h;refine bJ (c:=pF) func65 rfl rfl fun w F=> ?_
 by_cases MR:s.size<=20
 .have fin:∀u n,bO s=u->bX s=n->u.size<=20->aR prog w F 54 ((fl pF []).drop 8) (kq u n (aY (ak u))).T (kq u n (aY (ak u))).H (MQ (if qB s then aZ (bX s) (C9 s)else 0) (if qB s then Da s else 0) (qB s)):=fun u n e1 e2 hu=>by
   unfold C9 Da qB r7 at*;rw [e1]at h1 h2 ⊢;rw [e2,az MR,Bool.true_and];have key:=alr u n hu h1 h2 w F;by_cases hc:aY (ak u)<=9/\u.size-aY (ak u)<=10
   .rw [if_pos hc]at key;rw [az hc.1,az hc.2];exact key
   .rw [if_neg hc]at key;have e:(decide (aY (ak u)<=9)&&decide (u.size-aY (ak u)<=10))=false:=by
     rw [Bool.eq_false_iff];intro h;rw [ae,bz,bz]at h;exact hc h
    rw [e];exact key
  by_cases k3:(b5 s 0).toNat=45
  .have e1:bX s=true:=by unfold bX;rw [az h0,az k3];rfl
   have e2:bO s=s.extract 1 s.size:=by unfold bO;rw [e1]
   have hz:=kZ s 1 s.size (aE _);refine cE hS 8 (alh s (by omega) (by omega) (by show 0<s.size;exact h0) (by show((b5 s 0).toNat:Int)=45;omega) (by show 1<=s.size;omega) (by show(s.extract 1 s.size).size<=_;omega) rfl rfl) ?_;exact fin _ _ e2 e1 (by omega)
  .have e1:bX s=false:=by unfold bX;rw [az h0,ab k3];rfl
   have e2:bO s=s:=by unfold bO;rw [e1]
   refine cE hS 8 (NE s (by omega) (by omega) (by show 0<s.size;exact h0) (by show¬((b5 s 0).toNat:Int)=45;omega) (by omega)) ?_;exact fin _ _ e2 e1 MR
 .have e:qB s=false:=by unfold qB;rw [ab MR];rfl
  rw [e];exact bu hS 4 (alg s (by omega))
theorem alu:UT.Ok prog:=fun⟨s,_⟩ h=>als s h
theorem UX {n:Bool} {x d g:Int} (hd:0<d) (hx:0<=x) (hg:(Int.gcd x d:Int)=g):(aU (Rat.divInt (aZ n x) d)).data.toList=Lib.itoa (aZ n (x/g))++(if d/g>1 then 47::Lib.itoa (d/g)else []):=by
 obtain⟨r1,r2⟩:=UM (n:=n) (x:=x) hd;rw [hg]at r1 r2;have hp:0<(Rat.divInt (aZ n x) d).den:=(Rat.divInt (aZ n x) d).den_pos;unfold aU;by_cases h1:d/g>1
 .rw [if_neg (by omega),if_pos h1,r1,r2]
 .rw [if_pos (by omega),if_neg h1,jy,r1,List.append_nil]
theorem alv (n d:Int) (mX: -4000000000000000000<=n) (hn2:n<=4000000000000000000) (hd:0<d) (gy:d<=4000000000000000000):Holds prog true 44 [iv n,iv d] (sv (aU (Rat.divInt n d))):=by
 have hg:0<Int.gcd n d:=Int.gcd_pos_of_ne_zero_right _ (by omega);have hgd:(Int.gcd n d:Int)<=d:=Int.le_of_dvd hd (Int.gcd_dvd_right ..);by_cases hn:0<=n
 .have key:=aie n d hn hn2 hd gy;have e:vV (n/Int.gcd n d) (d/Int.gcd n d)=aU (Rat.divInt n d):=gR (by
   have b1:0<=n/(Int.gcd n d:Int):=Int.ediv_nonneg hn (by omega);have b2:n/(Int.gcd n d:Int)<=n:=Int.ediv_le_self _ hn;have b3:0<=d/(Int.gcd n d:Int):=Int.ediv_nonneg (by omega) (by omega);have b4:d/(Int.gcd n d:Int)<=d:=Int.ediv_le_self _ (by omega);have:=UX (n:=false) (x:=n) hd hn rfl;show cr 20 _ 1 []++_=_;have e0:aZ false n=n:=rfl;rw [e0]at this;rw [this,C5 b1 (by omega),C5 b3 (by omega)];rfl)
  rw [<-e];exact key
 .obtain⟨x,rfl⟩:∃x,n= -x:=⟨-n,by omega⟩;have hm:(if(0:Int)- -x> -x then(0:Int)- -x else-x)=x:=by rw [if_pos (by omega)];omega
  have k1:=alp (-x) d;have k2:=alq (-x) d;have eg:Int.gcd (-x) d=Int.gcd x d:=Int.neg_gcd;unfold AV at k1 k2;simp only [bw,hm]at k1 k2;rw [eg]at hg hgd;have BU:(Int.gcd x d:Int)<=x:=Int.le_of_dvd (by omega) (Int.gcd_dvd_left ..);have t1:Int.tdiv (-x) (Int.gcd x d:Int)= -(x/(Int.gcd x d:Int)):=by rw [Int.neg_tdiv,Int.tdiv_eq_ediv_of_nonneg (by omega)]
  have t2:Int.tdiv d (Int.gcd x d:Int)=d/(Int.gcd x d:Int):=Int.tdiv_eq_ediv_of_nonneg (by omega);simp only [t1,t2]at k1 k2;have b1:1<=x/(Int.gcd x d:Int):=Int.le_ediv_of_mul_le (by omega) (by omega);have b2:x/(Int.gcd x d:Int)<=x:=Int.ediv_le_self _ (by omega);have b3:0<=d/(Int.gcd x d:Int):=Int.ediv_nonneg (by omega) (by omega);have b4:d/(Int.gcd x d:Int)<=d:=Int.ediv_le_self _ (by omega);have ht:=UX (n:=true) (x:=x) hd (by omega) rfl;have es:aZ true x= -x:=rfl;have alw:aZ true (x/(Int.gcd x d:Int))= -(x/(Int.gcd x d:Int)):=rfl;rw [es,alw]at ht;have pZ:(1:Int)<=(Int.gcd x d:Int):=by omega
  generalize (Int.gcd x d:Int)=g at*;generalize x/g=y at*;generalize d/g=z at*;have hm2:(if(0:Int)- -y> -y then(0:Int)- -y else-y)=y:=by rw [if_pos (by omega)];omega
  simp only [hm2]at k1 k2;have UY:=C5 (n:=y) (by omega) (by omega);have fz:=C5 (n:=z) b3 (by omega);have ze:Lib.itoa (-y)=45::Lib.itoa y:=by rw [itoa_neg (by omega),gg (by omega),Int.natAbs_neg]
  rw [ze]at ht;have l1:=lc 20 y 1 [];have l2:=lc 20 z 1 [];have dD:=FW (cr 20 y 1 []);have z2:=FW (cr 20 z 1 []);simp only [List.length_nil,aw]at l1 l2;have UZ:(decide ((0:Int)<=x)&&decide ((0:Int)<=d))=true:=by rw [az (by omega),az (by omega)];rfl
  have py:(decide ((0:Int)<=y)&&(decide (y<=(9223372036854775807:Int))&&decide ((1:Int)<=20)))=true:=by rw [az (by omega),az (by omega)];rfl
  have alx:(decide ((0:Int)<=z)&&(decide (z<=(9223372036854775807:Int))&&decide ((1:Int)<=20)))=true:=by rw [az (by omega),az (by omega)];rfl
  refine bJ (c:=MO) func44 rfl rfl fun w F=> ?_
  by_cases h1:z>1
  .rw [if_pos h1]at ht;have e:aU (Rat.divInt (-x) d)=we++kn y 1++ir++kn z 1:=gR (by
    rw [ht,iJ,iJ,iJ];show _=[45]++cr 20 y 1 []++[47]++cr 20 z 1 [];rw [UY,fz];simp)
   rw [e];have y1:(we++kn y 1).size=1+(cr 20 y 1 []).length:=by rw [ByteArray.size_append];rfl
   have y2:(we++kn y 1++ir).size=1+(cr 20 y 1 []).length+1:=by rw [ByteArray.size_append,y1];rfl
   exact bu AS 30 (k2 (by omega) (by omega) (by omega) (by omega) (by omega) (by omega) UZ (by omega) (by omega) (by omega) (by omega) (by omega) py (by show 1+(cr 20 y 1 []).length<=_;omega) h1 (by show(we++kn y 1).size+1<=_;omega) alx (by show(we++kn y 1++ir).size+(cr 20 z 1 []).length<=_;omega) trivial)
  .rw [if_neg h1,List.append_nil]at ht;have e:aU (Rat.divInt (-x) d)=we++kn y 1:=gR (by
    rw [ht,iJ];show _=[45]++cr 20 y 1 [];rw [UY];rfl)
   rw [e];exact bu AS 30 (k1 (by omega) (by omega) (by omega) (by omega) (by omega) (by omega) UZ (by omega) (by omega) (by omega) (by omega) (by omega) py (by show 1+(cr 20 y 1 []).length<=_;omega) h1 trivial)
theorem aly:UU.Ok prog:=fun⟨n,d,_⟩ h=>by
 have h:((decide (-4000000000000000000<=n)&&decide (n<=4000000000000000000))&&(decide (0<d)&&decide (d<=4000000000000000000)))=true:=h;rw [ae,ae,ae,bz,bz,bz,bz]at h;exact alv n d h.1.1 h.1.2 h.2.1 h.2.2
end
noncomputable section
noncomputable def Gs:Code:=(Tryz.f15.body).getD .skip
noncomputable def Gt:Code:=(Tryz.f14.body).getD .skip
noncomputable def U0:Code:=(Tryz.f72.body).getD .skip
noncomputable def wg:bF:=nZ [SP,SQ] (a7 [UT,UU,Gp,UI,Ka,Gm])
abbrev k4 (s:ByteArray):Bool×List Int:=mkR (ptN s)
abbrev iw (s:ByteArray):Bool×List Int:=mkR (ptD s)
theorem alz (a b:ByteArray) (h1:(jr a)=true) (h2:(jr b)=true) (h3:(qB a)=true) (h4:(qB b)=true) (h5:i6 (je a*je b)) (h6:i6 (fO a*fO b)) (h7:(decide ((-4000000000000000000:au.den (.int .i64))<=je a*je b)&&decide (je a*je b<=(4000000000000000000:au.den (.int .i64)))&&(decide ((0:au.den (.int .i64))<fO a*fO b)&&decide (fO a*fO b<=(4000000000000000000:au.den (.int .i64)))))=true):
  bq wg (fl Gs []) 30 (Tryz.f15.ntmps) [sv a,sv b] 15 Tryz.f15 true (sv (aU (Rat.divInt (je a*je b) (fO a*fO b)))):=
 wy [af h1,af h2,af (aQ (h3)),af h3,af h4,yi h5,yi h6,af h7] 35671935824001
theorem alA (a b:ByteArray) (h1:(jr a)=true) (h2:(jr b)=true) (h3:(qB a)=false) (h4:(iu a)=true) (h5:(iu b)=true) (h6:(okZ (mkR (ptN a))&&okZ (mkR (ptN b)))=true) (h7:(okZ (mkR (ptD a))&&okZ (mkR (ptD b)))=true) (h8:(okZ (mkR (vZ (mkR (ptN a))*vZ (mkR (ptN b))))&&(okZ (mkR (vZ (mkR (ptD a))*vZ (mkR (ptD b))))&& !Nat.beq (mkR (vZ (mkR (ptD a))*vZ (mkR (ptD b)))).2.length 0))=true):
  bq wg (fl Gs []) 30 (Tryz.f15.ntmps) [sv a,sv b] 8 Tryz.f15 true (sv (aU (Rat.divInt (vZ (mkR (vZ (k4 a)*vZ (k4 b)))) (vZ (mkR (vZ (iw a)*vZ (iw b))))))):=
 wy [af h1,af h2,af (aQ (h3)),af h3,af h4,af h5,af (aW (v:=aa.agg [aa.raw (Value.bool (mkR (ptN a)).1),aa.bk false (.int .i64) (mkR (ptN a)).2]) (by kernel_rfl)),af (aW (v:=aa.agg [aa.raw (Value.bool (mkR (ptN b)).1),aa.bk false (.int .i64) (mkR (ptN b)).2]) (by kernel_rfl)),af h6,af (aW (v:=aa.agg [aa.raw (Value.bool (mkR (ptD a)).1),aa.bk false (.int .i64) (mkR (ptD a)).2]) (by kernel_rfl)),af (aW (v:=aa.agg [aa.raw (Value.bool (mkR (ptD b)).1),aa.bk false (.int .i64) (mkR (ptD b)).2]) (by kernel_rfl)),af h7,af h8] 16328711509674594756421759105
theorem alB (a b:ByteArray) (h1:(jr a)=true) (h2:(jr b)=true) (h3:(qB a)=true) (h4:(qB b)=false) (h5:(iu a)=true) (h6:(iu b)=true) (h7:(okZ (mkR (ptN a))&&okZ (mkR (ptN b)))=true) (h8:(okZ (mkR (ptD a))&&okZ (mkR (ptD b)))=true) (h9:(okZ (mkR (vZ (mkR (ptN a))*vZ (mkR (ptN b))))&&(okZ (mkR (vZ (mkR (ptD a))*vZ (mkR (ptD b))))&& !Nat.beq (mkR (vZ (mkR (ptD a))*vZ (mkR (ptD b)))).2.length 0))=true):
  bq wg (fl Gs []) 30 (Tryz.f15.ntmps) [sv a,sv b] 11 Tryz.f15 true (sv (aU (Rat.divInt (vZ (mkR (vZ (k4 a)*vZ (k4 b)))) (vZ (mkR (vZ (iw a)*vZ (iw b))))))):=
 wy [af h1,af h2,af (aQ (h3)),af h3,af h4,af h5,af h6,af (aW (v:=aa.agg [aa.raw (Value.bool (mkR (ptN a)).1),aa.bk false (.int .i64) (mkR (ptN a)).2]) (by kernel_rfl)),af (aW (v:=aa.agg [aa.raw (Value.bool (mkR (ptN b)).1),aa.bk false (.int .i64) (mkR (ptN b)).2]) (by kernel_rfl)),af h7,af (aW (v:=aa.agg [aa.raw (Value.bool (mkR (ptD a)).1),aa.bk false (.int .i64) (mkR (ptD a)).2]) (by kernel_rfl)),af (aW (v:=aa.agg [aa.raw (Value.bool (mkR (ptD b)).1),aa.bk false (.int .i64) (mkR (ptD b)).2]) (by kernel_rfl)),af h8,af h9] 17586301390853393765909934209
theorem alC (a b:ByteArray) (h1:(jr a)=true) (h2:(jr b)=true) (h3:(qB a)=true) (h4:(qB b)=true) (h5:i6 (je a*fO b)) (h6:i6 (je b*fO a)) (h7:i6 (je a*fO b+je b*fO a)) (h8:i6 (fO a*fO b)) (h9:(decide ((-4000000000000000000:au.den (.int .i64))<=je a*fO b+je b*fO a)&&decide (je a*fO b+je b*fO a<=(4000000000000000000:au.den (.int .i64)))&&(decide ((0:au.den (.int .i64))<fO a*fO b)&&decide (fO a*fO b<=(4000000000000000000:au.den (.int .i64)))))=true):
  bq wg (fl Gt []) 30 (Tryz.f14.ntmps) [sv a,sv b] 15 Tryz.f14 true (sv (aU (Rat.divInt (je a*fO b+je b*fO a) (fO a*fO b)))):=
 wy [af h1,af h2,af (aQ (h3)),af h3,af h4,yi h5,yi h6,yi h7,yi h8,af h9] 182712931821039745
theorem alD (a b:ByteArray) (h1:(jr a)=true) (h2:(jr b)=true) (h3:(qB a)=false) (h4:(iu a)=true) (h5:(iu b)=true) (h6:(okZ (mkR (ptN a))&&okZ (mkR (ptD b)))=true) (h7:(okZ (mkR (ptN b))&&okZ (mkR (ptD a)))=true) (h8:(okZ (mkR (vZ (mkR (ptN a))*vZ (mkR (ptD b))))&&okZ (mkR (vZ (mkR (ptN b))*vZ (mkR (ptD a)))))=true) (h9:(okZ (mkR (ptD a))&&okZ (mkR (ptD b)))=true) (h10:(okZ (mkR (vZ (mkR (vZ (mkR (ptN a))*vZ (mkR (ptD b))))+vZ (mkR (vZ (mkR (ptN b))*vZ (mkR (ptD a))))))&&(okZ (mkR (vZ (mkR (ptD a))*vZ (mkR (ptD b))))&& !Nat.beq (mkR (vZ (mkR (ptD a))*vZ (mkR (ptD b)))).2.length 0))=true):
  bq wg (fl Gt []) 30 (Tryz.f14.ntmps) [sv a,sv b] 8 Tryz.f14 true (sv (aU (Rat.divInt (vZ (mkR (vZ (mkR (vZ (k4 a)*vZ (iw b)))+vZ (mkR (vZ (k4 b)*vZ (iw a)))))) (vZ (mkR (vZ (iw a)*vZ (iw b))))))):=
 wy [af h1,af h2,af (aQ (h3)),af h3,af h4,af h5,af (aW (v:=aa.agg [aa.raw (Value.bool (mkR (ptN a)).1),aa.bk false (.int .i64) (mkR (ptN a)).2]) (by kernel_rfl)),af (aW (v:=aa.agg [aa.raw (Value.bool (mkR (ptD b)).1),aa.bk false (.int .i64) (mkR (ptD b)).2]) (by kernel_rfl)),af h6,af (aW (v:=aa.agg [aa.raw (Value.bool (mkR (ptN b)).1),aa.bk false (.int .i64) (mkR (ptN b)).2]) (by kernel_rfl)),af (aW (v:=aa.agg [aa.raw (Value.bool (mkR (ptD a)).1),aa.bk false (.int .i64) (mkR (ptD a)).2]) (by kernel_rfl)),af h7,af h8,af h9,af h10] 21723757664092254386358743102598938459181691009
theorem alE (a b:ByteArray) (h1:(jr a)=true) (h2:(jr b)=true) (h3:(qB a)=true) (h4:(qB b)=false) (h5:(iu a)=true) (h6:(iu b)=true) (h7:(okZ (mkR (ptN a))&&okZ (mkR (ptD b)))=true) (h8:(okZ (mkR (ptN b))&&okZ (mkR (ptD a)))=true) (h9:(okZ (mkR (vZ (mkR (ptN a))*vZ (mkR (ptD b))))&&okZ (mkR (vZ (mkR (ptN b))*vZ (mkR (ptD a)))))=true) (h10:(okZ (mkR (ptD a))&&okZ (mkR (ptD b)))=true) (h11:(okZ (mkR (vZ (mkR (vZ (mkR (ptN a))*vZ (mkR (ptD b))))+vZ (mkR (vZ (mkR (ptN b))*vZ (mkR (ptD a))))))&&(okZ (mkR (vZ (mkR (ptD a))*vZ (mkR (ptD b))))&& !Nat.beq (mkR (vZ (mkR (ptD a))*vZ (mkR (ptD b)))).2.length 0))=true):
  bq wg (fl Gt []) 30 (Tryz.f14.ntmps) [sv a,sv b] 11 Tryz.f14 true (sv (aU (Rat.divInt (vZ (mkR (vZ (mkR (vZ (k4 a)*vZ (iw b)))+vZ (mkR (vZ (k4 b)*vZ (iw a)))))) (vZ (mkR (vZ (iw a)*vZ (iw b))))))):=
 wy [af h1,af h2,af (aQ (h3)),af h3,af h4,af h5,af h6,af (aW (v:=aa.agg [aa.raw (Value.bool (mkR (ptN a)).1),aa.bk false (.int .i64) (mkR (ptN a)).2]) (by kernel_rfl)),af (aW (v:=aa.agg [aa.raw (Value.bool (mkR (ptD b)).1),aa.bk false (.int .i64) (mkR (ptD b)).2]) (by kernel_rfl)),af h7,af (aW (v:=aa.agg [aa.raw (Value.bool (mkR (ptN b)).1),aa.bk false (.int .i64) (mkR (ptN b)).2]) (by kernel_rfl)),af (aW (v:=aa.agg [aa.raw (Value.bool (mkR (ptD a)).1),aa.bk false (.int .i64) (mkR (ptD a)).2]) (by kernel_rfl)),af h8,af h9,af h10,af h11] 23173660082079261249656049484261917645415133313
theorem alF (a:ByteArray) (h1:(iu a)=true) (h2:(okZ (mkR (ptD a))&&(okZ (mkR (ptN a))&& !Nat.beq (mkR (ptN a)).2.length 0))=true):
  bq wg (fl U0 []) 30 (Tryz.f72.ntmps) [sv a] 1 Tryz.f72 true (sv (aU (Rat.divInt (vZ (iw a)) (vZ (k4 a))))):=
 wy [af h1,af h2] 129
end
noncomputable section
--{
theorem ik (u:Nat):bW (Lib.decDigits u)=true:=by
 unfold bW;rw [List.all_eq_true];intro b hb;obtain⟨h1,h2⟩:=Dec.Mv u b hb;rw [az h1,az h2];rfl
theorem Gu (u:Nat):bg (Lib.decDigits u)=(u:Int):=by
 induction u using Nat.strongRecOn with
 |_ u ih=>
  by_cases h:u<10
  .rw [r4 h,pC,Dec.AP u h];show(((48+u:Nat):Int)-48)*10^0+0=_;rw [Int.pow_zero];omega
  .rw [lh h,MF,ih _ (by omega),pC,Dec.AP _ (by omega)];show((u/10:Nat):Int)*10^1+((((48+u%10:Nat):Int)-48)*10^0+0)=_;rw [Int.pow_zero,Int.pow_succ,Int.pow_zero];omega
theorem MS (u:Nat):Lib.decDigits u≠[]:=fun e=>by
 have:=Dec.Up u;rw [e]at this;cases this
theorem AW {u k:Nat} (h:(u:Int)<1000000000^k):(Lib.decDigits u).length<=9*k+1:=by
 have:=MC (fY (Int.natCast_nonneg u)).1;rw [(fY (Int.natCast_nonneg u)).2.2,Int.toNat_natCast]at this;have h2:=FR (Int.natCast_nonneg u) h;omega
theorem U1 {u:Nat} (h:(Lib.decDigits u).length<=9):(u:Int)<1000000000:=by
 have h1:=lP (s:=⟨(Lib.decDigits u).toArray⟩) (by rw [show ak ⟨(Lib.decDigits u).toArray⟩=Lib.decDigits u from rfl];exact ik u) (Lib.decDigits u).length (aE _);rw [show ak ⟨(Lib.decDigits u).toArray⟩=Lib.decDigits u from rfl,dA,Gu]at h1;have h2:(10:Int)^(Lib.decDigits u).length<=10^9:=iG (by decide) h;have:(10:Int)^9=1000000000:=rfl;omega
theorem MT {L R:List UInt8} (hL:L≠[]) (hd:bW L=true):L++R≠[]/\((L++R).getD 0 0).toNat≠45:=by
 cases L with
 |nil=>exact absurd rfl hL
 |cons b l=>
  rw [Av,ae,ae,bz,bz]at hd;refine⟨by simp, ?_⟩;show b.toNat≠45;omega
theorem U2 {s:ByteArray} {neg:Bool} {M:List UInt8} (yB:M≠[]/\(M.getD 0 0).toNat≠45) (hs:ak s=if neg then 45::M else M):bX s=neg/\ak (bO s)=M/\0<s.size:=by
 have hl:0<M.length:=List.length_pos_iff.2 yB.1;cases neg with
 |true=>
  have hs:ak s=45::M:=hs;have hz:s.size=M.length+1:=by rw [bd,hs];rfl
  have k3:(b5 s 0).toNat=45:=by show((ak s).getD 0 0).toNat=45;rw [hs];rfl
  have e1:bX s=true:=by unfold bX;rw [az (by omega),az k3];rfl
  refine⟨e1, ?_,by omega⟩;unfold bO;rw [e1];show ak (s.extract 1 s.size)=M;rw [lK,hs,hz,ef (by simp)];rfl
 |false=>
  have hs:ak s=M:=hs;have hz:s.size=M.length:=by rw [bd,hs]
  have k3:¬(b5 s 0).toNat=45:=by show¬((ak s).getD 0 0).toNat=45;rw [hs];exact yB.2
  have e1:bX s=false:=by unfold bX;rw [ab k3,Bool.and_false]
  refine⟨e1, ?_,by omega⟩;unfold bO;rw [e1];exact hs
theorem U3 {neg:Bool} {M:List UInt8}:aY (if neg then 45::M else M)=aY M+(if neg then 1 else 0):=by
 cases neg with
 |true=>
  show(if(45:UInt8).toNat=47 then 0 else aY M+1)=aY M+1;rw [if_neg (by decide)]
 |false=>rfl
theorem AX (n:Int):Lib.itoa n=if decide (n<0)then 45::Lib.decDigits n.natAbs else Lib.decDigits n.natAbs:=by
 by_cases h:n<0
 .rw [itoa_neg h,az h];rfl
 .rw [gg h,ab h];rfl
theorem U4 {s:ByteArray} {n:Int} (h:ak s=Lib.itoa n):li s=n/\bW (ak (bO s))=true:=by
 have h0:=MT (R:=[]) (MS n.natAbs) (ik n.natAbs);rw [List.append_nil]at h0;obtain⟨h1,h2,h3⟩:=U2 (neg:=decide (n<0)) h0 (by rw [h];exact AX n);unfold li;rw [h1,h2,Gu];refine⟨?_,ik _⟩;by_cases hn:n<0
 .rw [az hn];show-(n.natAbs:Int)=n;omega
 .rw [ab hn];show(n.natAbs:Int)=n;omega
def mK (k:Nat) (r:Rat):Prop:=(r.num.natAbs:Int)<1000000000^k/\(r.den:Int)<1000000000^k
structure U5 (s:ByteArray) (r:Rat):Prop where
 iQ:jr s=true
 pt:iu s=true
 n:ptN s=r.num
 d:ptD s=r.den
 q:qB s=true->je s=r.num/\fO s=r.den/\(r.num.natAbs:Int)<1000000000/\(r.den:Int)<1000000000
theorem uj {r:Rat} {k:Nat} (hk:k<=10000) (h:mK k r):U5 (aU r) r:=by
 obtain⟨hN,hD⟩:=h;have hdp:0<r.den:=r.den_pos;obtain⟨T,hT⟩:∃T:List UInt8,T=if r.den=1 then []else 47::Lib.decDigits r.den:=⟨_,rfl⟩
 have yB:=MT (R:=T) (MS r.num.natAbs) (ik r.num.natAbs);have hb:ak (aU r)=if decide (r.num<0)then 45::(Lib.decDigits r.num.natAbs++T)else Lib.decDigits r.num.natAbs++T:=by
  have e:ak (aU r)=Lib.itoa r.num++T:=by
   rw [hT];unfold aU;by_cases h1:r.den=1
   .rw [if_pos h1,if_pos h1,List.append_nil];exact jy _
   .rw [if_neg h1,if_neg h1,<-Dec.uf]
  rw [e,AX];by_cases hn:r.num<0
  .rw [az hn];rfl
  .rw [ab hn];rfl
 obtain⟨p1,p2,p3⟩:=U2 yB hb;have arw:=AW hN;have La:=AW hD;have arx:T.length<=9*k+2:=by rw [hT];split<;>simp;omega
 have v8:aY (Lib.decDigits r.num.natAbs++T)=(Lib.decDigits r.num.natAbs).length:=by
  rw [hT];split
  .rw [List.append_nil];exact tm _ (ik _)
  .exact tn _ _ (ik _)
 have hsz:(aU r).size=(if decide (r.num<0)then 1 else 0)+((Lib.decDigits r.num.natAbs).length+T.length):=by
  rw [bd,hb];by_cases hn:r.num<0
  .rw [az hn];simp;omega
  .rw [ab hn];simp
 have U6:(aU r).size<=800000:=by rw [hsz];split<;>omega
 -- the text without its sign
 have hu:(bO (aU r)).size=(Lib.decDigits r.num.natAbs).length+T.length:=by rw [bd,p2,cG]
 have MU:r7 (aU r)=(Lib.decDigits r.num.natAbs).length:=by unfold r7;rw [p2,v8]
 have x1:ak ((bO (aU r)).extract 0 (Lib.decDigits r.num.natAbs).length)=Lib.decDigits r.num.natAbs:=by rw [lK,p2,List.drop_zero,List.take_left'];rfl
 have x2:ak ((bO (aU r)).extract ((Lib.decDigits r.num.natAbs).length+1) (bO (aU r)).size)=T.drop 1:=by
  rw [lK,p2,hu,<-cG,dA,<-List.drop_drop,List.drop_left'];rfl
 have BL:bW (T.drop 1)=true:=by
  rw [hT];split
  .rfl
  .exact ik _
 have alG:jr (aU r)=true:=by
  unfold jr;rw [MU,x1,x2,BL,ik,az p3,az U6];rfl
 -- the text with its sign
 have Gv:aY (ak (aU r))=(if decide (r.num<0)then 1 else 0)+(Lib.decDigits r.num.natAbs).length:=by
  rw [hb,U3,v8];omega
 have y1:ak ((aU r).extract 0 (aY (ak (aU r))))=Lib.itoa r.num:=by
  rw [lK,List.drop_zero,Gv,hb,AX];by_cases hn:r.num<0
  .rw [az hn];show List.take (1+_) (45::_)=45::_;rw [Nat.add_comm,List.take_succ_cons,List.take_left'];rfl
  .rw [ab hn];show List.take (0+_) (Lib.decDigits r.num.natAbs++T)=Lib.decDigits r.num.natAbs;rw [aw,List.take_left'];rfl
 have y2:ak ((aU r).extract (aY (ak (aU r))+1) (aU r).size)=T.drop 1:=by
  have AY:(aU r).size=(ak (aU r)).length:=bd _;rw [lK,Gv,AY,dA,hb];by_cases hn:r.num<0
  .rw [az hn];show List.drop (1+_+1) (45::_)=_;rw [Nat.add_right_comm,Nat.add_comm 1,Nat.add_assoc,Nat.add_comm,List.drop_succ_cons,Nat.add_comm,<-List.drop_drop,List.drop_left'];rfl
  .rw [ab hn];show List.drop (0+_+1) (Lib.decDigits r.num.natAbs++T)=_;rw [aw,<-List.drop_drop,List.drop_left'];rfl
 obtain⟨v1,v2⟩:=U4 y1;have ld:r.den≠1->li ((aU r).extract (aY (ak (aU r))+1) (aU r).size)=r.den/\bW (ak (bO ((aU r).extract (aY (ak (aU r))+1) (aU r).size)))=true:=fun h1=>U4 (n:=(r.den:Int)) (by rw [y2,hT,if_neg h1,Dec.uf];rfl)
 have gy:bW (ak (bO ((aU r).extract (aY (ak (aU r))+1) (aU r).size)))=true:=by
  by_cases h1:r.den=1
  .have e0:ak ((aU r).extract (aY (ak (aU r))+1) (aU r).size)=[]:=by rw [y2,hT,if_pos h1];rfl
   have e1:bX ((aU r).extract (aY (ak (aU r))+1) (aU r).size)=false:=by
    unfold bX;rw [ab (by rw [bd,e0];decide)];rfl
   unfold bO;rw [e1];show bW (ak _)=true;rw [e0];rfl
  .exact(ld h1).2
 refine⟨alG, ?_,v1, ?_,fun hq=> ?_⟩
 .unfold iu;rw [az U6,v2,gy];rfl
 .unfold ptD;by_cases h1:r.den=1
  .rw [if_neg (by rw [Gv,hsz,hT,if_pos h1];simp),h1];rfl
  .rw [if_pos (by rw [Gv,hsz,hT,if_neg h1];simp)];exact(ld h1).1
 .have jO:=hq;unfold qB at hq;rw [MU,hu,ae,ae,bz,bz,bz]at hq;unfold je fO C9 Da;rw [jO,MU,p1,x1,x2,hu,Gu];refine⟨?_, ?_,U1 hq.2.1, ?_⟩
  .show aZ _ _=_;by_cases hn:r.num<0
   .rw [az hn];show-(r.num.natAbs:Int)=_;omega
   .rw [ab hn];show(r.num.natAbs:Int)=_;omega
  .rw [if_pos rfl];by_cases h1:r.den=1
   .rw [if_neg (by rw [hT,if_pos h1];simp),h1];rfl
   .rw [if_pos (by rw [hT,if_neg h1];simp),hT,if_neg h1];exact Gu _
  .by_cases h1:r.den=1
   .omega
   .refine U1 ?_;have h3:=hq.2.2;rw [hT,if_neg h1]at h3;simp at h3;omega
--}
end
end Go.Proofs.YtibikmmdbdlafaaGreatDoor
