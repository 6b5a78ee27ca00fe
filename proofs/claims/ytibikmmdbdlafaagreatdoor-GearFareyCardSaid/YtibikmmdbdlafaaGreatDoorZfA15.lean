import Derived.Test.YtibikmmdbdlafaaGreatDoorZfGAw1
set_option linter.defProp false
set_option linter.unusedSimpArgs false
set_option linter.unusedVariables false
set_option maxRecDepth 100000
namespace Go.Proofs.YtibikmmdbdlafaaGreatDoor
open Go.RowKit Sv Go.Proofs.Tryz
noncomputable section
abbrev r2:Sv.Ren:=[(64,64,none),(65,65,none)]
abbrev Hz (q:bO):fE:= .blk (.cells 85 [iv q.1.1, .bt true (.int .u64) q.1.2,iv q.2.1, .bt true (.int .u64) q.2.2] true false false)
def N7 {n:Nat} {x:Int} (h: -9223372036854775808<=x/\x<=9223372036854775807):aV n (aT x)=true:=by
 rw [ot (a:=aT x) rfl];unfold gF;rw [ae];exact⟨ay h.1,ay h.2⟩
def tg (x:Int):aj (aT x)=x:=if_pos rfl
def N8:=k_a Tryz.f61
def okTx (q:bO):Bool:=((List.isEmpty q.1.2&&gF q.1.1)&&(List.isEmpty q.2.2&&gF q.2.1))&&(decide ((bm q.1.1).size<=100)&&decide ((bm q.2.1).size<=100))
def txS (q:bO):AT:=if hU q=true then bm q.1.1 else bm q.1.1++ByteArray.mk #[47]++bm q.2.1
end
end Go.Proofs.YtibikmmdbdlafaaGreatDoor
namespace Go.Proofs.YtibikmmdbdlafaaGreatDoor.Dec
open Go.Lib
def yX (d:Nat) (h:d<10):(UInt8.ofNat (48+d)).toNat=48+d:=by
 rw [UInt8.toNat_ofNat'];omega
def N9 (u:Nat):∀b∈decDigits u,48<=b.toNat/\b.toNat<=57:=by
 induction u using Nat.strongRecOn with
 |_ u ih=>
  intro b hb;rw [decDigits]at hb;split at hb
  .simp only [List.mem_singleton]at hb;subst hb;rw [yX _ ω];omega
  .rcases List.mem_append.1 hb with h|h
   .exact ih (u/10) ω b h
   .simp only [List.mem_singleton]at h;subst h;rw [yX _ ω];omega
def HA (u:Nat):0<(decDigits u).length:=by
 rw [decDigits];split<;>simp
def Oa (k:Nat):∀u,u<10^(k+1)->(decDigits u).length<=k+1:=by
 induction k with
 |zero=>intro u hu;rw [decDigits,dif_pos (by simpa using hu)];simp
 |succ k ih=>
  intro u hu;rw [decDigits];split
  .simp
  .have:=ih (u/10) (by rw [Nat.div_lt_iff_lt_mul ω];rw [Nat.pow_succ]at hu;exact hu);simp;omega
def amR (u:Nat) (h:u<1000000000000000000):(decDigits u).length<=18:=Oa 17 u (by simpa using h)
def amS (u:Nat) (h:0<u):∀b r,decDigits u=b::r->b.toNat≠48:=by
 induction u using Nat.strongRecOn with
 |_ u ih=>
  intro b r hb;rw [decDigits]at hb;split at hb
  .injection hb with h1 _
   subst h1;rw [yX _ ω];omega
  .have hp:=HA (u/10);cases hd:decDigits (u/10)with
   |nil=>rw [hd]at hp;simp at hp
   |cons c t=>
    rw [hd]at hb;injection hb with h1 _
    subst h1;exact ih (u/10) ω ω c t hd
def Ob (l:List UInt8):∀(acc m:Nat) (d:Nat),d<10->decFrom acc l=some m->decFrom acc (l++[UInt8.ofNat (48+d)])=some (m*10+d):=by
 induction l with
 |nil=>
  intro acc m d hd h;simp only [decFrom,s8]at h;subst h;simp only [List.nil_append,decFrom,digitVal,yX d hd];rw [if_pos ω];show some (acc*10+(48+d-48))=_;congr 1;omega
 |cons b r ih=>
  intro acc m d hd h;rw [List.cons_append];unfold decFrom at h ⊢;cases hv:digitVal b with
  |none=>rw [hv]at h;cases h
  |some v=>rw [hv]at h;exact ih _ _ _ hd h
def Wa (u:Nat):decFrom 0 (decDigits u)=some u:=by
 induction u using Nat.strongRecOn with
 |_ u ih=>
  rw [decDigits];split
  .have:=Ob [] 0 0 u ω rfl;simpa using this
  .have:=Ob (decDigits (u/10)) 0 (u/10) (u%10) ω (ih (u/10) ω);rw [this];congr 1;omega
def Wb (l:List UInt8) (h:∀b∈l,48<=b.toNat/\b.toNat<=57):hasPrefix l [45]=false:=by
 cases l with
 |nil=>rfl
 |cons b r=>
  have:=h b τ;have hb:(45==b)=false:=by
   rw [eN];intro e;subst e;simp at this
  simp [hasPrefix,List.isPrefixOf,hb]
def oH (u:Nat):itoa (u:Int)=decDigits u:=by unfold itoa;rw [if_neg ω];simp
end Go.Proofs.YtibikmmdbdlafaaGreatDoor.Dec
namespace Go.Proofs.YtibikmmdbdlafaaGreatDoor
open Go.RowKit Sv Go.Proofs.Tryz
def amT {n d:Int} (hd:1<=d):Rat.divInt (G9 n d) (Bb n d)=Rat.divInt n d:=by
 have hg:0<Int.gcd n d:=Int.gcd_pos_of_ne_zero_right _ ω;have e1:=Int.ediv_mul_cancel (show(Int.gcd n d:Int)∣n from Int.gcd_dvd_left ..);have e2:=Int.ediv_mul_cancel (show(Int.gcd n d:Int)∣d from Int.gcd_dvd_right ..);unfold G9 Bb;have e:Rat.divInt n d=Rat.divInt (n/(Int.gcd n d:Int)*(Int.gcd n d:Int)) (d/(Int.gcd n d:Int)*(Int.gcd n d:Int)):=by rw [e1,e2]
 rw [e];exact(Rat.divInt_mul_right (show(Int.gcd n d:Int)≠0 by omega)).symm
def amU {n d:Int} (hd:1<=d):Int.gcd (G9 n d) (Bb n d)=1:=Int.gcd_ediv_gcd_ediv_gcd (by have:=Int.gcd_pos_of_ne_zero_right n (show d≠0 by omega);omega)
def ti {p q:Int} (hq:1<=q) (h:Int.gcd p q=1):(Rat.divInt p q).num=p/\((Rat.divInt p q).den:Int)=q:=by
 have hd:0<(Rat.divInt p q).den:=(Rat.divInt p q).den_pos;have e:(Rat.divInt p q).num*q=p*((Rat.divInt p q).den:Int):=(Rat.divInt_eq_divInt_iff ω ω).1 (Rat.num_divInt_den _);have g:Int.gcd (Rat.divInt p q).num ((Rat.divInt p q).den:Int)=1:=(Rat.divInt p q).reduced;exact va ω ω g h e
def mN {u:Nat} (h:u<10):Lib.decDigits u=[UInt8.ofNat (48+u)]:=by rw [Lib.decDigits,dif_pos h]
def sU {u:Nat} (h:¬u<10):Lib.decDigits u=Lib.decDigits (u/10)++[UInt8.ofNat (48+u%10)]:=by rw [Lib.decDigits,dif_neg h]
def Wc:∀(f:Nat) (n:Int) (s:List UInt8),0<=n->n<10^f->1<=s.length->co f n 1 s=(if n=0 then []else Lib.decDigits n.toNat)++s
 |0,n,s,h0,h1,hs=>by
  have:n=0:=by simp at h1;omega
  subst this;rfl
 |f+1,n,s,h0,h1,hs=>by
  have q1:=er n (show(0:Int)<10 by decide);have aQ:=dM n (show(10:Int)≠0 by decide);have b8:=Int.mul_ediv_add_emod n 10;rw [Int.pow_succ]at h1;unfold co;split
  .rename_i hc;have hn:0<n:=by omega
   rw [Wc f (n/10) (oC n::s) ω ω τ,if_neg (show¬n=0 by omega)];unfold oC;by_cases h10:n<10
   .rw [if_pos ω,mN (u:=n.toNat) ω,show n%10=n by omega];simp
   .rw [if_neg ω,sU (u:=n.toNat) ω,show(n/10).toNat=n.toNat/10 by omega,show(n%10).toNat=n.toNat%10 by omega];simp
  .rename_i hc;have:n=0:=by omega
   subst this;rfl
def DQ {n:Int} (h0:0<=n) (h1:n<100000000000000000000):co 20 n 1 []=Lib.itoa n:=by
 have q1:=er n (show(0:Int)<10 by decide);have aQ:=dM n (show(10:Int)≠0 by decide);have b8:=Int.mul_ediv_add_emod n 10;show co (19+1) n 1 []=_;unfold co;rw [if_pos (.inr τ),Wc 19 (n/10) [oC n] ω ω τ];unfold Lib.itoa oC;rw [if_neg (show¬n<0 by omega)];by_cases h10:n<10
 .rw [if_pos ω,mN (u:=n.toNat) ω,show n%10=n by omega];simp
 .rw [if_neg ω,sU (u:=n.toNat) ω,show(n/10).toNat=n.toNat/10 by omega,show(n%10).toNat=n.toNat%10 by omega]
noncomputable section
def jk (n:Int):(bm n).data.toList=Lib.itoa n:=by unfold bm;simp
def itoa_neg {n:Int} (h:n<0):Lib.itoa n=45::Lib.decDigits n.natAbs:=by
 unfold Lib.itoa;rw [if_pos h]
def wP {n:Int} (h:¬n<0):Lib.itoa n=Lib.decDigits n.natAbs:=by
 unfold Lib.itoa;rw [if_neg h,show n.toNat=n.natAbs by omega]
def Wd (n:Int):pV (bm n) fe=decide (n<0):=by
 unfold pV;rw [jk,show(fe:AT).data.toList=[45]from rfl];by_cases h:n<0
 .rw [itoa_neg h,ay h];simp [Lib.hasPrefix]
 .rw [wP h,ab h];exact Dec.Wb _ (Dec.N9 _)
def We (n:Int):(rj (bm n) fe).data.toList=Lib.decDigits n.natAbs:=by
 have hp:=Wd n;unfold pV at hp;unfold rj Lib.trimPrefix;rw [hp,jk,show(fe:AT).data.toList=[45]from rfl];by_cases h:n<0
 .rw [itoa_neg h,ay h];simp
 .rw [wP h,ab h];simp
def vj (n:Int):uI (bm n)=n.natAbs:=by
 unfold uI;rw [We,Dec.Wa]
def amV (n:Int):xc (bm n)=n:=by
 unfold xc;rw [Wd,vj];by_cases h:n<0
 .rw [ay h,if_pos rfl];omega
 .rw [ab h,if_neg δ];omega
def Oc (n:Int):dj (bm n)=aY n:=by unfold dj;rw [amV]
def Wf {n:Int} (h:az (aY (n.natAbs:Int))=true):jK (bm n)=true:=by
 unfold jK;rw [We,Dec.Wa,vj,h];rfl
def uK:=k_a f70
def yY:=a8 [G6]
abbrev gf (n m:Int):AT:=⟨(co 20 n m []).toArray⟩
abbrev Od (n:Bool) (w:List Int):fE:= .blk (.cells 97 [bv n,lv w] true false false)
def nG (n:Bool) (w:List Int) (s:AT) (z:Int):bH:={n:=39,sl:=[(1, .ptr 64 0),(3,sv s),(4,iv z)],bJ:=[(64,Od n w)],next:=65}
abbrev Oe:List Nat:=[1,1,1,0,1,0,0]
section
variable (n:Bool) (w:List Int)
def amW (h1:(w.length:Int)=0):
  bf yY (fl uK []) 3 39 [rv (n,w)] 3 f70 true (sv ⟨#[48]⟩):=
 wy [cT h1] 1
def amX (h1:¬(w.length:Int)=0) (h2:i6 ((w.length:Int)-1)) (h3:0<=(w.length:Int)-1) (h4:((w.length:Int)-1).toNat<w.length) (h5:(decide ((0:av.den (.int .i64))<=w.getD ((w.length:Int)-1).toNat 0)&&(decide (w.getD ((w.length:Int)-1).toNat 0<=(9223372036854775807:av.den (.int .i64)))&&decide (1<=(20:av.den (.int .i64)))))=true) (h6:i6 ((w.length:Int)-2)):
  dy yY (fl uK []) 5 39 [rv (n,w)] 2 .normal [(64,64,none)] (nG n w (gf (w.getD ((w.length:Int)-1).toNat 0) 1) ((w.length:Int)-2)):=
 wy [yn h1,yi h2,ah h3,ah h4,aa h5,yi h6] 6527398017
def amY (s:AT) (z:Int) (h1:z>=0) (h2:0<=z) (h3:z.toNat<w.length) (h4:(decide ((0:av.den (.int .i64))<=w.getD z.toNat 0)&&(decide (w.getD z.toNat 0<=(9223372036854775807:av.den (.int .i64)))&&decide (9<=(20:av.den (.int .i64)))))=true) (h5:s.size+(ByteArray.mk (List.toArray (co 20 (w.getD z.toNat 0) 9 []))).size<=9223372036854775807) (h6:i6 (z-1)):
  bB yY (fl uK Oe) (nG n w s z) 3 .normal [(64,64,none)] (nG n w (s++gf (w.getD z.toNat 0) 9) (z-1)):=
 wy [ah h1,ah h2,ah h3,aa h4,ah h5,yi h6] 6527398017
def amZ (s:AT) (z:Int) (h1:¬z>=0):
  bB yY (fl uK Oe) (nG n w s z) 2 (.exit 0) [(64,64,none)] (nG n w s z):=
 wy [aK h1] 1
end
def am0 (w:List Int) (s:AT) (z:Int) (h1:(ByteArray.mk (#[(45:UInt8)])).size+s.size<=9223372036854775807):
  bW yY ((fl uK []).drop 6) (nG true w s z) 3 f70 true (sv (⟨#[45]⟩++s)):=
 wy [ah h1] 64
def am1 (w:List Int) (s:AT) (z:Int):
  bW yY ((fl uK []).drop 6) (nG false w s z) 2 f70 true (sv s):=
 wy [] 0
def HB:=IN 70 [j5] [.str] true (fun d=>okZ d.1) fun d=>(bm (vZ d.1),())
def ll:Nat->Int->List UInt8
 |0,_=>[]
 |k+1,x=>ll k (x/10)++[oC x]
def Of:∀(k:Nat) (x:Int),(ll k x).length=k
 |0,_=>rfl
 |k+1,x=>by rw [ll,cW,Of k];rfl
def Wg:∀(k f:Nat) (x:Int) (s:List UInt8),k<=f->0<=x->x<10^k->co f x ((s.length:Int)+k) s=ll k x++s
 |0,f,x,s,_,h0,h1=>by
  have:x=0:=by simp at h1;omega
  subst this;cases f with
  |zero=>rfl
  |succ f=>
   unfold co;rw [if_neg ω];rfl
 |k+1,f,x,s,hf,h0,h1=>by
  obtain⟨g,rfl⟩:∃g,f=g+1:=⟨f-1,by omega⟩;rw [Int.pow_succ]at h1;unfold co;rw [if_pos ω];have:=Wg k g (x/10) (oC x::s) ω ω ω;rw [List.length_cons,show(((s.length+1:Nat):Int)+(k:Int))=(s.length:Int)+((k+1:Nat):Int) by omega]at this;rw [this,ll,rB];rfl
def Og:∀(k:Nat) (u:Nat) (x:Int),0<u->0<=x->x<10^k->Lib.decDigits (u*10^k+x.toNat)=Lib.decDigits u++ll k x
 |0,u,x,hu,h0,h1=>by
  have:x=0:=by simp at h1;omega
  subst this;simp [ll]
 |k+1,u,x,hu,h0,h1=>by
  rw [Int.pow_succ]at h1;have hp:0<10^k:=Nat.pow_pos δ;have h2:1*1<=u*10^k:=Nat.mul_le_mul hu hp;have e:u*10^(k+1)+x.toNat=(u*10^k+(x/10).toNat)*10+(x%10).toNat:=by
   rw [Nat.pow_succ,<-Nat.mul_assoc];omega
  have hm:(x%10).toNat<10:=by omega
  rw [e,sU ω,show((u*10^k+(x/10).toNat)*10+(x%10).toNat)/10=u*10^k+(x/10).toNat by omega,show((u*10^k+(x/10).toNat)*10+(x%10).toNat)%10=(x%10).toNat by omega,Og k u (x/10) hu ω ω,ll,rB];rfl
def am2:bD prog (bF yY):=cM (aP Nf dV)
def Wh {x:Int} (h:0<=x/\x<1000000000):(gf x 9).data.toList=ll 9 x:=by
 have:=Wg 9 20 x [] δ h.1 (by have:(10:Int)^9=1000000000:=rfl;omega);show co 20 x 9 []=_;rw [List.append_nil]at this;exact this
def am3 {x:Int} (h:0<=x/\x<1000000000):(gf x 1).data.toList=Lib.decDigits x.toNat:=by
 show co 20 x 1 []=_;rw [DQ h.1 ω];unfold Lib.itoa;rw [if_neg ω]
def xf {s:AT} {u:Nat} (h:s.data.toList=Lib.decDigits u):s=bm (u:Int):=fN (by rw [h,jk];exact(Dec.oH u).symm)
def Oh {w:List Int} (hw:aS 1000000000 w):(Lib.decDigits (ag w).toNat).length<=9*w.length+1:=by
 refine c6 (Dec.Oa (9*w.length) _ ?_) ω;have h1:=fK (b:=1000000000) δ hw;have h0:=gD hw;have e:(1000000000:Int)^w.length=((10^(9*w.length):Nat):Int):=by
  rw [Nat.pow_mul,Int.natCast_pow];rfl
 have h2:ag w<((10^(9*w.length):Nat):Int):=by rw [<-e];exact h1
 have h3:10^(9*w.length)<=10^(9*w.length+1):=Nat.pow_le_pow_right δ ω;omega
def am4 (n:Bool) (w:List Int) (h:okZ (n,w)=true):Holds prog true 70 [rv (n,w)] (sv (bm (bn n (ag w)))):=by
 obtain⟨h1,h2⟩:=eI.1 h;have h1:okA w=true:=h1;have h2:n=true->0<ag w:=h2;obtain⟨hd,ht,hl⟩:=fk.1 h1;have hS:=am2;refine bL (c:=uK) func70 rfl rfl fun w0 F=> ?_
 by_cases hz:w.length=0
 .have hw:w=[]:=List.eq_nil_of_length_eq_zero hz;subst hw;have hn:n=false:=by
   cases n with
   |false=>rfl
   |true=>exact absurd (h2 rfl) δ
  subst hn;have e:bm (bn false (ag []))=⟨#[48]⟩:=by
   refine fN ?_;rw [jk];show Lib.itoa ((0:Nat):Int)=[48];rw [Dec.oH,mN δ];rfl
  rw [e];exact bg hS 3 (amW false [] τ)
 .obtain⟨m,hm⟩:∃m,w.length=m+1:=⟨w.length-1,by omega⟩;have Wi:=hd.get δ m;have auR:=ht m hm;have i1:((w.length:Int)-1).toNat=m:=by omega
  have i2:((w.length:Int)-2)=(m:Int)-1:=by omega
  have key:=amX n w ω ω ω;rw [i1,i2]at key;refine cP hS 5 (key ω (by rw [ay Wi.1,ay (show w.getD m 0<=9223372036854775807 by omega)];rfl) ω) ?_;have hst:gf (w.getD m 0) 1=bm ((ag (w.drop m)).toNat:Int):=xf (by
   rw [am3 Wi];congr 2;unfold ag;rw [uq ω,List.drop_eq_nil_of_le ω];simp [vl])
  rw [hst];refine aW.loop (ι:={k:Nat//k<=m}) (id:=0) (b:=cat uK Oe) (rest:=(fl uK []).drop 6) (by kernel_rfl) (fun k=>nG n w (bm ((ag (w.drop k.1)).toNat:Int)) ((k.1:Int)-1)) (fun k=>k.1) ⟨m,aJ _⟩ (fun _=>rfl) ?_;rintro⟨k,hk⟩;have hlen:(bm ((ag (w.drop k)).toNat:Int)).size<=9*w.length+1:=by
   have h3:=Oh (hd.drop k);rw [nQ]at h3;rw [uE,jk,Dec.oH];omega
  cases k with
  |zero=>
   refine bE (s:=nG n w (bm ((ag (w.drop 0)).toNat:Int)) (((0:Nat):Int)-1)) hS (amZ n w _ _ ω) ?_;refine cG (cO ?_);have h0:=gD hd;rw [List.drop_zero,Int.toNat_of_nonneg h0]at hlen ⊢;cases n with
   |false=>exact b5 (s:=nG false w (bm (ag w)) (((0:Nat):Int)-1)) hS (am1 w _ _)
   |true=>
    have hp:=h2 rfl;have e:(⟨#[45]⟩:AT)++bm (ag w)=bm (bn true (ag w)):=by
     refine fN ?_;rw [dq,jk,jk,itoa_neg (show bn true (ag w)<0 by show-ag w<0;omega),wP ω];show _=45::Lib.decDigits (-ag w).natAbs;rw [Int.natAbs_neg];rfl
    rw [<-e];exact b5 (s:=nG true w (bm (ag w)) (((0:Nat):Int)-1)) hS (am0 w _ _ (by show 1+_<=_;omega))
  |succ j=>
   have hj:=hd.get δ j;have e1:(((j+1:Nat):Int)-1)=(j:Int):=by omega
   have e2:(j:Int).toNat=j:=by omega
   have auS:(gf (w.getD j 0) 9).size=9:=by rw [uE,Wh hj,Of]
   have key:=amY n w (bm ((ag (w.drop (j+1))).toNat:Int)) (j:Int) ω ω;rw [e2]at key;have hpos:0<ag (w.drop (j+1)):=by
    have h3:=r4 1000000000 (w.drop (j+1)) (m-(j+1)) (by rw [nQ];omega);have h4:=gD ((hd.drop (j+1)).take (m-(j+1)));rw [List.drop_drop,show j+1+(m-(j+1))=m by omega]at h3;have h5:vl 1000000000 (w.drop m)=w.getD m 0:=by
     rw [uq ω,List.drop_eq_nil_of_le ω];simp [vl]
    rw [h5]at h3;have h6:=Int.mul_pos (dD (b:=1000000000) δ (m-(j+1))) (show 0<w.getD m 0 by omega);unfold ag at*;omega
   have am5:bm ((ag (w.drop (j+1))).toNat:Int)++gf (w.getD j 0) 9=bm ((ag (w.drop j)).toNat:Int):=xf (by
    rw [dq,jk,Dec.oH,Wh hj,<-Og 9 _ _ ω hj.1 (by have:(10:Int)^9=1000000000:=rfl;omega)];congr 1;have h3:ag (w.drop j)=w.getD j 0+1000000000*ag (w.drop (j+1)):=uq ω;have h4:(10:Nat)^9=1000000000:=rfl;rw [h3,h4];omega)
   show cg _ _ _ _ _ _ (nG n w (bm ((ag (w.drop (j+1))).toNat:Int)) (((j+1:Nat):Int)-1)).T (nG n w (bm ((ag (w.drop (j+1))).toNat:Int)) (((j+1:Nat):Int)-1)).H _;rw [e1];refine bE (s:=nG n w (bm ((ag (w.drop (j+1))).toNat:Int)) (j:Int)) hS (key ω (by rw [ay hj.1,ay (show w.getD j 0<=9223372036854775807 by omega)];rfl) (by show _+(gf (w.getD j 0) 9).size<=_;omega) ω) ?_;rw [am5];exact⟨⟨j,by omega⟩,fB _,rfl,rfl⟩
def Oi:HB.Ok prog:=fun⟨⟨n,w⟩,_⟩ h=>am4 n w h
def sV:=k_a f88
def yZ:=og [C5] (a8 [Nc])
def nH (s:AT) (neg:Bool) (w:List Int):bH:={n:=40,sl:=[(0,sv s),(2, .ptr 64 0),(3,bv neg),(4,mF 65 w)],bJ:=[(64,Ti),(65,mG w)],next:=66}
abbrev Oj:List Nat:=[1,1,1,1,0,0,0]
section
variable (s:AT)
def PH (h1:(s.size:Int)>0) (h2:Int.toNat 0<s.size) (h3:(↑(UInt8.toNat (s.data.toList.getD (Int.toNat 0) (0:UInt8))):Int)=45) (h4:Int.toNat 1<=s.size) (h5:(s.extract (Int.toNat 1) s.size)=(s.extract 1 s.size)):
  dy yZ (fl sV []) 5 40 [sv s] 63 .normal [(64,64,none)] (nH (s.extract 1 s.size) true []):=
 wy [aa (aL (ay h1)),ah h2,ah h1,cT h3,ah h4,ah (by omega:s.size<=s.size),ax h5,ax (fP.mpr h3)] 37787111807533466517569
def am6 (h1:(s.size:Int)>0) (h2:Int.toNat 0<s.size) (h3:¬(↑(UInt8.toNat (s.data.toList.getD (Int.toNat 0) (0:UInt8))):Int)=45):
  dy yZ (fl sV []) 5 40 [sv s] 47 .normal [(64,64,none)] (nH s false []):=
 wy [aa (aL (ay h1)),ah h2,ah h1,yn h3,ax (eN.mpr h3)] 90072270663843905
def am7 (h1:¬(s.size:Int)>0):
  dy yZ (fl sV []) 5 40 [sv s] 32 .normal [(64,64,none)] (nH s false []):=
 wy [aa (aL (ab h1)),aK h1] 528449
def am8 (neg:Bool) (w:List Int) (h1:(s.size:Int)>9) (h2:i6 ((s.size:Int)-9)) (h3:0<=(s.size:Int)-9) (h4:(decide ((s.extract ((s.size:Int)-9).toNat s.size).size<=17)&&b6 (s.extract ((s.size:Int)-9).toNat s.size).data.toList)=true) (h5:w.length+1<=1000000) (h6:(w.length+1)=(w++[bl (s.extract ((s.size:Int)-9).toNat s.size).data.toList]).length) (h7:(aZ.full)=(bK (w++[bl (s.extract ((s.size:Int)-9).toNat s.size).data.toList]).length)):
  bB yZ (fl sV Oj) (nH s neg w) 5 .normal [(64,64,none),(65,67,none)] (nH (s.extract 0 ((s.size:Int)-9).toNat) neg (w++[bl (aq (s.extract ((s.size:Int)-9).toNat s.size))])):=
 wy [ah h1,yi h2,ah h3,ah (by omega:((s.size:Int)-(9:Int)).toNat<=s.size),ah (by omega:s.size<=s.size),aa h4,yk 3 (.int .i64) w,lJ 8 h5,ax h6,ax h7,od 3 (.int .i64) (Eq.refl (w++[bl (s.extract ((s.size:Int)-(9:Int)).toNat s.size).data.toList]))] 59889907190626495097649245648290902454401
def am9 (neg:Bool) (w:List Int) (h1:¬(s.size:Int)>9):
  bB yZ (fl sV Oj) (nH s neg w) 2 (.exit 0) [(64,64,none),(65,65,none)] (nH s neg w):=
 wy [aK h1] 1
def ana (neg:Bool) (w:List Int) (h1:(decide (s.size<=17)&&b6 s.data.toList)=true) (h2:w.length+1<=1000000) (h3:(Nat.beq (w.length+1) 0||bz 3 (.int .i64) (some (bq.own 3 (.int .i64) (w++[bl s.data.toList]))) (w.length+1-1))=true) (h4:(okB (((w++[bl s.data.toList]).drop 0).take (w.length+1)))=true) (h5:(mkR (bn neg (ag (((w++[bl s.data.toList]).drop 0).take (w.length+1))))).1=(mkR (bn neg (ag (w++[bl s.data.toList])))).1) (h6:(mkR (bn neg (ag (((w++[bl s.data.toList]).drop 0).take (w.length+1))))).2=(mkR (bn neg (ag (w++[bl s.data.toList])))).2):
  bW yZ ((fl sV []).drop 6) (nH s neg w) 2 f88 false (rv (mkR (bn neg (ag (w++[bl (aq s)]))))):=
 wy [aa h1,yk 3 (.int .i64) w,lJ 8 h2,aa (show(Nat.beq (w.length+(1:Nat)) (0:Nat)||bz 3 (.int .i64) (some (bq.own 3 (.int .i64) (bQ (.int .i64) (a7 3 (.int .i64) w)++[bl s.data.toList]))) ((0:Nat)+(w.length+(1:Nat))-(1:Nat)))=true from(by simp only [ey,aw]<;>exact h3)),aa (show(okB (((bQ (.int .i64) (a7 3 (.int .i64) w)++[bl s.data.toList]).drop (0:Nat)).take (w.length+(1:Nat))))=true from(by simp only [ey]<;>exact h4)),ax (show((mkR (bn neg (ag (((bQ (.int .i64) (a7 3 (.int .i64) w)++[bl s.data.toList]).drop (0:Nat)).take (w.length+(1:Nat)))))).1)=((mkR (bn neg (ag (w++[bl s.data.toList])))).1)from(by simp only [ey]<;>exact h5)),ax (show((mkR (bn neg (ag (((bQ (.int .i64) (a7 3 (.int .i64) w)++[bl s.data.toList]).drop (0:Nat)).take (w.length+(1:Nat)))))).2)=((mkR (bn neg (ag (w++[bl s.data.toList])))).2)from(by simp only [ey]<;>exact h6))] 1997061059248129
def b7:Bool:=decide (0<s.size)&&decide ((cj s 0).toNat=45)
def bP:AT:=match b7 s with |true=>s.extract 1 s.size|false=>s
def k7:Int:=bn (b7 s) (bl (aq (bP s)))
end
def Wj:=IN 88 [.str] [j5] false (fun d=>decide (d.1.size<=800000)&&b6 (aq (bP d.1))) fun d=>(mkR (k7 d.1),())
def Wk:bD prog (bF yZ):=uf (fun c hc=>by
 simp only [ek,jO,or_false]at hc;obtain rfl:=hc;exact F2) (cM fun c hc=>by
 simp only [ek,jO,or_false]at hc;obtain rfl:=hc;exact LE)
def vx (a b:List UInt8):bl (a++b)=bl a*10^b.length+bl b:=by
 show(a++b).foldl _ 0=_;rw [akv,G8];rfl
def HC {a b:List UInt8}:b6 (a++b)=true↔b6 a=true/\b6 b=true:=by
 unfold b6;rw [List.all_append,ae]
def uL {s:AT} (h:b6 (aq s)=true):0<=bl (aq s)/\bl (aq s)<10^s.size:=by
 have:=A7 h (aq s).length (aJ _);rw [dI]at this;rw [cK];exact this
def anb {t:AT} (h:9<t.size) (hd:b6 (aq t)=true):
  (t.extract 0 (t.size-9)).size=t.size-9/\b6 (aq (t.extract 0 (t.size-9)))=true/\(t.extract (t.size-9) t.size).size=9/\b6 (aq (t.extract (t.size-9) t.size))=true/\bl (aq t)=bl (aq (t.extract 0 (t.size-9)))*1000000000+bl (aq (t.extract (t.size-9) t.size)):=by
 have e1:aq (t.extract 0 (t.size-9))=(aq t).take (t.size-9):=by rw [jF,List.drop_zero]
 have e2:aq (t.extract (t.size-9) t.size)=(aq t).drop (t.size-9):=by rw [jF,cK,dI]
 have e3:aq t=(aq t).take (t.size-9)++(aq t).drop (t.size-9):=(List.take_append_drop _ _).symm;have hdd:=hd;rw [e3,HC]at hdd;have l2:((aq t).drop (t.size-9)).length=9:=by rw [nQ,<-cK];omega
 refine⟨k6 _ _ _ ω,by rw [e1];exact hdd.1,by rw [k6 _ _ _ (aJ _)];omega,by rw [e2];exact hdd.2, ?_⟩;rw [e1,e2];have:=vx ((aq t).take (t.size-9)) ((aq t).drop (t.size-9));rw [<-e3,l2]at this;exact this
def Ol (t:AT) (neg:Bool) (hd:b6 (aq t)=true) (hl:t.size<=800000) (w0:World) (F:Sv.Env):
  aW prog w0 F 40 ((fl sV []).drop 5) (nH t neg []).T (nH t neg []).H (gZ prog false f88 (rv (mkR (bn neg (bl (aq t)))))):=by
 have hS:=Wk;refine aW.loop (ι:={x:AT×List Int//b6 (aq x.1)=true/\x.1.size<=800000/\x.2.length<=800000-x.1.size/\aS 1000000000 x.2/\bl (aq t)=ag x.2+1000000000^x.2.length*bl (aq x.1)/\9*x.2.length+x.1.size<=800000}) (id:=0) (b:=cat sV Oj) (rest:=(fl sV []).drop 6) (by kernel_rfl) (fun x=>nH x.1.1 neg x.1.2) (fun x=>x.1.1.size) ⟨(t,[]),hd,hl,Nat.zero_le _, .nil,by simp [ag,vl],by show 9*0+t.size<=_;omega⟩ (fun _=>rfl) ?_;rintro⟨⟨s,w⟩,h1,h2,h3,h4,h5,h6⟩;have h1:b6 (aq s)=true:=h1;have h2:s.size<=800000:=h2;have h4:aS 1000000000 w:=h4;have h5:bl (aq t)=ag w+1000000000^w.length*bl (aq s):=h5;have h6:9*w.length+s.size<=800000:=h6;have Wl:(10:Int)^9=1000000000:=rfl;by_cases hgo:9<s.size
 .have bJ:((s.size:Int)-9).toNat=s.size-9:=by omega
  obtain⟨c1,c2,c3,c4,c5⟩:=anb hgo h1;have hv:=uL c4;rw [c3,Wl]at hv;have key:=am8 s neg w ω ω ω;rw [bJ]at key;refine bE (s:=nH s neg w) hS (key (by rw [ay ω,show b6 (s.extract (s.size-9) s.size).data.toList=true from c4];rfl) ω (qP _ _) (ug _ _)) ?_;refine⟨⟨(s.extract 0 (s.size-9),w++[bl (aq (s.extract (s.size-9) s.size))]),c2,by show(s.extract 0 (s.size-9)).size<=_;omega,by show(w++[_]).length<=_-(s.extract 0 (s.size-9)).size;rw [cW,List.length_singleton];omega,h4.app (.cons hv .nil), ?_,by show 9*(w++[_]).length+(s.extract 0 (s.size-9)).size<=_;rw [cW,List.length_singleton];omega⟩,by show(s.extract 0 (s.size-9)).size<s.size;omega,rfl,rfl⟩;show bl (aq t)=vl 1000000000 (w++[bl (aq (s.extract (s.size-9) s.size))])+1000000000^(w++[bl (aq (s.extract (s.size-9) s.size))]).length*bl (aq (s.extract 0 (s.size-9)));rw [yc,cW,List.length_singleton,Int.pow_succ,h5,c5];unfold ag;generalize bl (aq (s.extract (s.size-9) s.size))=x1;generalize bl (aq (s.extract 0 (s.size-9)))=x2;generalize (1000000000:Int)^w.length=x3;grind
 .refine bE (s:=nH s neg w) hS (am9 s neg w ω) ?_;refine cG (cO ?_);have hv:=uL h1;have hp:(10:Int)^s.size<=10^9:=iN δ ω;have e:ag (w++[bl (aq s)])=bl (aq t):=by
   rw [h5];show vl _ _=vl _ _+_;rw [yc]
  have iO:aS 1000000000 (w++[bl (aq s)]):=h4.app (.cons ω .nil);have et:((w++[bl (aq s)]).drop 0).take (w.length+1)=w++[bl (aq s)]:=by
   rw [List.drop_zero,eT τ]
  have key:=ana s neg w (by rw [ay ω,show b6 s.data.toList=true from h1];rfl) ω (by
   rw [Bool.or_eq_true];exact .inr (pR τ)) (by rw [et];exact oh.2 ⟨iO,by simp;omega⟩) (by rw [et]) (by rw [et])
  rw [e]at key;exact b5 (s:=nH s neg w) hS key
def anc (s:AT) (hl:s.size<=800000) (hd:b6 (aq (bP s))=true):Holds prog false 88 [sv s] (rv (mkR (k7 s))):=by
 have hS:=Wk;refine bL (c:=sV) func88 rfl rfl fun w0 F=> ?_
 unfold k7;by_cases h0:0<s.size
 .by_cases k8:(cj s 0).toNat=45
  .have e1:b7 s=true:=by unfold b7;rw [ay h0,ay k8];rfl
   have e2:bP s=s.extract 1 s.size:=by unfold bP;rw [e1]
   rw [e2]at hd;rw [e1,e2];refine cP hS 5 (PH s ω (by show 0<s.size;exact h0) (by show((cj s 0).toNat:Int)=45;omega) (by show 1<=s.size;omega) rfl) ?_;exact Ol _ true hd (by rw [k6 _ _ _ (aJ _)];omega) w0 F
  .have e1:b7 s=false:=by unfold b7;rw [ay h0,ab k8];rfl
   have e2:bP s=s:=by unfold bP;rw [e1]
   rw [e2]at hd;rw [e1,e2];refine cP hS 5 (am6 s ω (by show 0<s.size;exact h0) (by show¬((cj s 0).toNat:Int)=45;omega)) ?_;exact Ol _ false hd hl w0 F
 .have e1:b7 s=false:=by unfold b7;rw [ab h0];rfl
  have e2:bP s=s:=by unfold bP;rw [e1]
  rw [e2]at hd;rw [e1,e2];refine cP hS 5 (am7 s ω) ?_;exact Ol _ false hd hl w0 F
def ane:Wj.Ok prog:=fun⟨s,_⟩ h=>by
 have h:(decide (s.size<=800000)&&b6 (aq (bP s)))=true:=h;rw [ae,bA]at h;exact anc s h.1 h.2
def anf (l:List UInt8) (h:∀b∈l,b≠47):Lib.index l [47]= -1:=by
 induction l with
 |nil=>rfl
 |cons b r ih=>
  have hb:(47==b)=false:=by
   rw [eN];intro e;exact h b τ e.symm
  have:=ih (fun c hc=>h c (by simp [hc]));simp [Lib.index,List.isPrefixOf,hb,this]
def ang (l r:List UInt8) (h:∀b∈l,b≠47):Lib.index (l++47::r) [47]=(l.length:Int):=by
 induction l with
 |nil=>simp [Lib.index,List.isPrefixOf]
 |cons b t ih=>
  have hb:(47==b)=false:=by
   rw [eN];intro e;exact h b τ e.symm
  have:=ih (fun c hc=>h c (by simp [hc]));rw [List.cons_append];unfold Lib.index;rw [this];simp only [List.isPrefixOf,hb,Bool.false_and,Bool.false_eq_true,if_false,List.length_cons];rw [if_neg τ];omega
def Wm (n:Int):∀b∈Lib.itoa n,b≠47:=by
 have hd:∀b∈Lib.decDigits n.natAbs,b≠47:=fun b hb e=>by
  have:=Dec.N9 _ b hb;subst e;exact absurd this.1 δ
 by_cases h:n<0
 .rw [itoa_neg h];intro b hb;rcases ek.1 hb with rfl |hb
  .decide
  .exact hd b hb
 .rw [wP h];exact hd
def Wn {l:List UInt8} (h:∀b∈l,b≠47):Lib.cut l [47]=(l,[],false):=by
 unfold Lib.cut;rw [anf l h];rfl
def Wo {l r:List UInt8} (h:∀b∈l,b≠47):Lib.cut (l++47::r) [47]=(l,r,true):=by
 unfold Lib.cut;rw [ang l r h];simp
def aU (r:Rat):AT:=if r.den=1 then bm r.num else⟨(Lib.itoa r.num++47::Lib.itoa r.den).toArray⟩
def Wp {n:Nat} {r:Rat} (hn:1<=n) (hn2:n<=100000) (h1:aV n (aY (r.num.natAbs:Int))=true) (h2:aV n (aY (r.den:Int))=true) (hs:(aU r).size<4294967281):
  dr (aU r)=true/\QR n (aX (aU r)) r:=by
 have o1:aV n (aY r.num)=true:=by
  have:=jB h1 hn;rw [val_mk]at this;exact(jC ω).1
 have hc:sR (aU r)=true:=by unfold sR;rw [ay hs]
 have pW:(ke:AT).data.toList=[47]:=rfl;have ra:jK (bm r.num)=true:=Wf (bc hn2 h1);by_cases hd:r.den=1
 .have ht:aU r=bm r.num:=by unfold aU;rw [if_pos hd]
  have hcut:Lib.cut (bm r.num).data.toList (ke:AT).data.toList=(Lib.itoa r.num,[],false):=by rw [jk,pW,Wn (Wm _)]
  have DR:iR (bm r.num) ke=bm r.num:=by unfold iR;rw [hcut];rfl
  have DS:oG (bm r.num) ke=false:=by unfold oG;rw [hcut]
  rw [ht]at hc ⊢;refine⟨?_, ?_⟩
  .unfold dr;rw [hc,DR,ra,DS];rfl
  .unfold aX;rw [DS,if_neg δ,DR,Oc];have:=VL o1;rw [val_mk]at this;have e:(r.num:Rat)=r:=Rat.ext rfl hd.symm;rw [e]at this;exact this
 .have ht:aU r=⟨(Lib.itoa r.num++47::Lib.itoa r.den).toArray⟩:=by unfold aU;rw [if_neg hd]
  have hcut:Lib.cut (aU r).data.toList (ke:AT).data.toList=(Lib.itoa r.num,Lib.itoa r.den,true):=by
   rw [ht,pW,<-Wo (Wm r.num)]
  have DR:iR (aU r) ke=bm r.num:=by unfold iR;rw [hcut];rfl
  have Wq:wd (aU r) ke=bm r.den:=by unfold wd;rw [hcut];rfl
  have DS:oG (aU r) ke=true:=by unfold oG;rw [hcut]
  have rb:jK (bm r.den)=true:=Wf (bc hn2 (by rw [Int.natAbs_natCast];exact h2));refine⟨?_, ?_⟩
  .unfold dr;rw [hc,DR,Wq,ra,rb,DS];rfl
  .unfold aX;rw [DS,if_pos rfl,DR,Wq,Oc,Oc];exact⟨o1,h2,val_mk _,val_mk _⟩
def Om:=k_a f66
def y4:=k_a f67
def On:=a8 [A8,Wj,LL]
def xi:=og [C5] (a8 [UL,M9,MS,HB])
def anh (s:AT) (h1:s.size<=1000000000) (h2:(↑(bk s.data.toList):Int)=(s.size:Int)) (h3:(decide (s.size<=800000)&&b6 (bP s).data.toList)=true):
  bf On (fl Om []) 5 25 [sv s] 3 f66 false (.tuple [rv (mkR (k7 s)),rv (mkR 1)]):=
 wy [ah h1,cT h2,aa h3] 12417
def ani (s:AT) (h1:s.size<=1000000000) (h2:¬(↑(bk s.data.toList):Int)=(s.size:Int)) (h3:bk s.data.toList<=s.size) (h4:(decide ((s.extract 0 (bk s.data.toList)).size<=800000)&&b6 (bP (s.extract 0 (bk s.data.toList))).data.toList)=true) (h5:i6 ((↑(bk s.data.toList):Int)+1)) (h6:((↑(bk s.data.toList):Int)+1).toNat<=s.size) (h7:(decide ((s.extract ((↑(bk s.data.toList):Int)+1).toNat s.size).size<=800000)&&b6 (bP (s.extract ((↑(bk s.data.toList):Int)+1).toNat s.size)).data.toList)=true) (h8:(mkR (k7 (s.extract ((↑(bk s.data.toList):Int)+1).toNat s.size))).1=(mkR (k7 (s.extract (bk s.data.toList+1) s.size))).1) (h9:(mkR (k7 (s.extract ((↑(bk s.data.toList):Int)+1).toNat s.size))).2=(mkR (k7 (s.extract (bk s.data.toList+1) s.size))).2):
  bf On (fl Om []) 9 25 [sv s] 2 f66 false (.tuple [rv (mkR (k7 (s.extract 0 (bk (aq s))))),rv (mkR (k7 (s.extract (bk (aq s)+1) s.size)))]):=
 wy [ah h1,yn h2,ah h3,aa h4,yi h5,ah h6,ah (by omega:s.size<=s.size),aa h7,ax h8,ax h9] 196148223583635607820173441
def sW (n:Bool) (x:List Int) (m:Bool) (y:List Int):bH:={n:=57,sl:=[(2, .ptr 64 0),(3, .ptr 65 0)],bJ:=[(64,Od n x),(65,Od m y)],next:=66}
def PP (n:Bool) (x y:List Int):
  dy xi (fl y4 []) 3 57 [rv (n,x),rv (false,y)] 2 .normal [(64,64,none),(65,65,none)] (sW n x false y):=
 wy [] 0
def PQ (n:Bool) (x y:List Int) (h1:(okZ (n,x))=true) (h2:(okZ (true,y))=true):
  dy xi (fl y4 []) 3 57 [rv (n,x),rv (true,y)] 3 .normal [(64,64,none),(65,65,none)] (sW (mkR (-vZ (n,x))).1 (mkR (-vZ (n,x))).2 (mkR (-vZ (true,y))).1 (mkR (-vZ (true,y))).2):=
 wy [aa (aF (v:=af.agg [af.raw (Value.bool n),af.bt false (.int .i64) x])),aa h1,aa (aF (v:=af.agg [af.raw (Value.bool true),af.bt false (.int .i64) y])),aa h2] 4346093632
def Oo (x y:List Int):List Int:=aG (Int.gcd (ag x) (ag y))
def y5 (n:Bool) (x y:List Int):AT:=bm (vZ (mkR (bn n (ag (aG (ag x/ag (Oo x y)))))))
def DT (x y:List Int):List Int:=aG (ag y/ag (Oo x y))
abbrev iC:AT:=⟨#[47]⟩
section
variable (n:Bool) (x:List Int) (m:Bool) (y:List Int) (h1:(okA x&&okA y)=true) (h2:(okA x&&(okA (aG (↑(Int.gcd (ag x) (ag y)):Int))&&decide (0<ag (aG (↑(Int.gcd (ag x) (ag y)):Int)))))=true) (h3:(okA y&&(okA (aG (↑(Int.gcd (ag x) (ag y)):Int))&&decide (0<ag (aG (↑(Int.gcd (ag x) (ag y)):Int)))))=true) (h4:(okB (aG (ag x/ag (aG (↑(Int.gcd (ag x) (ag y)):Int)))))=true) (h5:(okZ (mkR (bn n (ag (aG (ag x/ag (aG (↑(Int.gcd (ag x) (ag y)):Int))))))))=true)
def anj (h6:(↑(aG (ag y/ag (aG (↑(Int.gcd (ag x) (ag y)):Int)))).length:Int)=1) (h7:Int.toNat 0<(aG (ag y/ag (aG (↑(Int.gcd (ag x) (ag y)):Int)))).length) (h8:(aG (ag y/ag (aG (↑(Int.gcd (ag x) (ag y)):Int)))).getD (Int.toNat 0) 0=1) (h9:(bm (vZ (mkR (bn n (ag (aG (ag x/ag (aG (↑(Int.gcd (ag x) (ag y)):Int)))))))))=(y5 n x y)):
  bW xi ((fl y4 []).drop 3) (sW n x m y) 127 f67 true (sv (y5 n x y)):=
 wy [aa h1,aa h2,aa h3,aa h4,aa h5,aa (aL (fP.mpr h6)),ah h7,cT h6,cT h8,ax h9] 3065413170778920828547201
def ank (h6:(↑(aG (ag y/ag (aG (↑(Int.gcd (ag x) (ag y)):Int)))).length:Int)=1) (h7:Int.toNat 0<(aG (ag y/ag (aG (↑(Int.gcd (ag x) (ag y)):Int)))).length) (h8:¬(aG (ag y/ag (aG (↑(Int.gcd (ag x) (ag y)):Int)))).getD (Int.toNat 0) 0=1) (h9:(bm (vZ (mkR (bn n (ag (aG (ag x/ag (aG (↑(Int.gcd (ag x) (ag y)):Int))))))))).size+(ByteArray.mk (#[(47:UInt8)])).size<=9223372036854775807) (h10:(okB (aG (ag y/ag (aG (↑(Int.gcd (ag x) (ag y)):Int)))))=true) (h11:(okZ (mkR (bn false (ag (aG (ag y/ag (aG (↑(Int.gcd (ag x) (ag y)):Int))))))))=true) (h12:(bm (vZ (mkR (bn n (ag (aG (ag x/ag (aG (↑(Int.gcd (ag x) (ag y)):Int))))))))++(ByteArray.mk (#[(47:UInt8)]))).size+(bm (vZ (mkR (bn false (ag (aG (ag y/ag (aG (↑(Int.gcd (ag x) (ag y)):Int))))))))).size<=9223372036854775807) (dL:(bm (vZ (mkR (bn n (ag (aG (ag x/ag (aG (↑(Int.gcd (ag x) (ag y)):Int))))))))++(ByteArray.mk (#[(47:UInt8)]))++bm (vZ (mkR (bn false (ag (aG (ag y/ag (aG (↑(Int.gcd (ag x) (ag y)):Int)))))))))=(y5 n x y++(ByteArray.mk (#[(47:UInt8)]))++bm (vZ (mkR (bn false (ag (DT x y))))))):
  bW xi ((fl y4 []).drop 3) (sW n x m y) 95 f67 true (sv (y5 n x y++iC++bm (vZ (mkR (bn false (ag (DT x y))))))):=
 wy [aa h1,aa h2,aa h3,aa h4,aa h5,aa (aL (fP.mpr h6)),ah h7,cT h6,yn h8,ah h9,aa h10,aa h11,ah h12,ax dL] 72033470842295130389485817180289
def anl (h6:¬(↑(aG (ag y/ag (aG (↑(Int.gcd (ag x) (ag y)):Int)))).length:Int)=1) (h7:(bm (vZ (mkR (bn n (ag (aG (ag x/ag (aG (↑(Int.gcd (ag x) (ag y)):Int))))))))).size+(ByteArray.mk (#[(47:UInt8)])).size<=9223372036854775807) (h8:(okB (aG (ag y/ag (aG (↑(Int.gcd (ag x) (ag y)):Int)))))=true) (h9:(okZ (mkR (bn false (ag (aG (ag y/ag (aG (↑(Int.gcd (ag x) (ag y)):Int))))))))=true) (h10:(bm (vZ (mkR (bn n (ag (aG (ag x/ag (aG (↑(Int.gcd (ag x) (ag y)):Int))))))))++(ByteArray.mk (#[(47:UInt8)]))).size+(bm (vZ (mkR (bn false (ag (aG (ag y/ag (aG (↑(Int.gcd (ag x) (ag y)):Int))))))))).size<=9223372036854775807) (h11:(bm (vZ (mkR (bn n (ag (aG (ag x/ag (aG (↑(Int.gcd (ag x) (ag y)):Int))))))))++(ByteArray.mk (#[(47:UInt8)]))++bm (vZ (mkR (bn false (ag (aG (ag y/ag (aG (↑(Int.gcd (ag x) (ag y)):Int)))))))))=(y5 n x y++(ByteArray.mk (#[(47:UInt8)]))++bm (vZ (mkR (bn false (ag (DT x y))))))):
  bW xi ((fl y4 []).drop 3) (sW n x m y) 64 f67 true (sv (y5 n x y++iC++bm (vZ (mkR (bn false (ag (DT x y))))))):=
 wy [aa h1,aa h2,aa h3,aa h4,aa h5,aa (aL (eN.mpr h6)),yn h6,ah h7,aa h8,aa h9,ah h10,ax h11] 15071116821947747238537080961
end
def ptN (s:AT):Int:=k7 (s.extract 0 (bk (aq s)))
def ptD (s:AT):Int:=if bk (aq s)<s.size then k7 (s.extract (bk (aq s)+1) s.size)else 1
def jg (s:AT):Bool:=decide (s.size<=800000)&&(b6 (aq (bP (s.extract 0 (bk (aq s)))))&&b6 (aq (bP (s.extract (bk (aq s)+1) s.size))))
def HD:=IN 66 [.str] [j5,j5] false (fun d=>jg d.1) fun d=>(mkR (ptN d.1),mkR (ptD d.1),())
def Wr:=IN 67 [j5,j5] [.str] true (fun d=>okZ d.1&&(okZ d.2.1&& !(Nat.beq (List.length (α:=Int) d.2.1.2) 0))) fun d=>(aU (Rat.divInt (vZ d.1) (vZ d.2.1)),())
def Ws:bD prog (bF On):=cM (aP Dy (aP ane (aP Tn dV)))
def Wt:bD prog (bF xi):=uf (fun c hc=>by rw [List.mem_singleton.1 hc];exact F2) (cM fun c hc=>by
 simp only [ek,jO,or_false]at hc;rcases hc with rfl |rfl |rfl |rfl
 .exact aj3
 .exact US
 .exact Ur
 .exact Oi)
def Wu (s:AT):s.extract 0 s.size=s:=fN (by rw [Hx,uE,dI])
def anm (s:AT) (h:jg s=true):Holds prog false 66 [sv s] (.tuple [rv (mkR (ptN s)),rv (mkR (ptD s))]):=by
 unfold jg at h;rw [ae,ae,bA]at h;obtain⟨hl,h1,h2⟩:=h;have hle:bk (aq s)<=s.size:=by rw [cK];exact A9 _
 have ha:bk s.data.toList=bk (aq s):=rfl;refine bL (c:=Om) func66 rfl rfl fun w F=> ?_
 unfold ptN ptD;by_cases hlt:bk (aq s)<s.size
 .rw [if_pos hlt];have uM:((bk (aq s):Int)+1).toNat=bk (aq s)+1:=by omega
  have key:=ani s ω ω ω (by rw [ha,ay (by rw [k6 _ _ _ hle];omega)];exact h1) ω ω;rw [ha,uM]at key;exact bg Ws 9 (key (by rw [ay (by rw [k6 _ _ _ (aJ _)];omega)];exact h2) rfl rfl)
 .rw [if_neg hlt,show bk (aq s)=s.size by omega,Wu];rw [show bk (aq s)=s.size by omega,Wu]at h1;exact bg Ws 5 (anh s ω ω (by rw [ay hl];exact h1))
def Oq:HD.Ok prog:=fun⟨s,_⟩ h=>anm s h
def ann {n:Bool} {x:Int} {g:Int} (h:g∣x):bn n x/g=bn n (x/g):=by
 cases n with
 |false=>rfl
 |true=>exact Int.neg_ediv_of_dvd h
def HE {n:Bool} {x y:Int}:Int.gcd (bn n x) y=Int.gcd x y:=by
 cases n with
 |false=>rfl
 |true=>exact Int.neg_gcd
def HF {n:Bool} {x y:Int} (hy:0<y):(Rat.divInt (bn n x) y).num=bn n (x/Int.gcd x y)/\((Rat.divInt (bn n x) y).den:Int)=y/Int.gcd x y:=by
 have h1:=amT (n:=bn n x) (d:=y) ω;have h2:=amU (n:=bn n x) (d:=y) ω;have hg:0<Int.gcd x y:=Int.gcd_pos_of_ne_zero_right _ ω;have hq:1<=Bb (bn n x) y:=by
  unfold Bb;rw [HE];exact Int.le_ediv_of_mul_le ω (by rw [Int.one_mul];exact Int.le_of_dvd hy (Int.gcd_dvd_right ..))
 obtain⟨h3,h4⟩:=ti hq h2;rw [h1]at h3 h4;refine⟨?_, ?_⟩
 .rw [h3];unfold G9;rw [HE,ann (Int.gcd_dvd_left ..)]
 .rw [h4];unfold Bb;rw [HE]
def Wv {z:Int} {k:Nat} (h:(z.natAbs:Int)<1000000000^k):(bm z).size<=9*k+2:=by
 have h1:=Oh (gx (z:=(z.natAbs:Int)) (Int.natCast_nonneg _)).1;rw [(gx (z:=(z.natAbs:Int)) (Int.natCast_nonneg _)).2.2,Int.toNat_natCast]at h1;have h2:=G3 (Int.natCast_nonneg _) h;rw [uE,jk];by_cases hz:z<0
 .rw [itoa_neg hz,List.length_cons];omega
 .rw [wP hz];omega
def Bn {n:Bool} {x:Int} (h:0<=x):((bn n x).natAbs:Int)=x:=by
 cases n with
 |false=>show(x.natAbs:Int)=x;omega
 |true=>show((-x).natAbs:Int)=x;omega
def Ww (n m:Bool) (x y:List Int) (h1:okA x=true) (h2:okA y=true) (hy:0<ag y) (w:World) (F:Sv.Env):
  aW prog w F 57 ((fl y4 []).drop 3) (sW n x m y).T (sW n x m y).H (gZ prog true f67 (sv (aU (Rat.divInt (bn n (ag x)) (ag y))))):=by
 have hS:=Wt;obtain⟨G4,tx,lx⟩:=fk.1 h1;obtain⟨A6,ty,ly⟩:=fk.1 h2;have hx0:=gD G4;have hx1:=pe h1;have hy1:=pe h2;have hg:0<Int.gcd (ag x) (ag y):=Int.gcd_pos_of_ne_zero_right _ ω;have ano:(Int.gcd (ag x) (ag y):Int)<=ag y:=Int.le_of_dvd hy (Int.gcd_dvd_right ..);obtain⟨r1,r2⟩:=HF (n:=n) (x:=ag x) (y:=ag y) hy;have anp:ag (aG (Int.gcd (ag x) (ag y)))=Int.gcd (ag x) (ag y):=(gx (Int.natCast_nonneg _)).2.2;have Wx:okA (aG (Int.gcd (ag x) (ag y)))=true:=Dx (k:=y.length) (Int.natCast_nonneg _) ω ly;have auT:1<=ag y/Int.gcd (ag x) (ag y):=Int.le_ediv_of_mul_le ω (by rw [Int.one_mul];exact ano);have hpx:0<=ag x/Int.gcd (ag x) (ag y):=Int.ediv_nonneg hx0 ω;have auU:ag x/Int.gcd (ag x) (ag y)<=ag x:=Int.ediv_le_self _ hx0;have auV:ag y/Int.gcd (ag x) (ag y)<=ag y:=Int.ediv_le_self _ ω;have k1:=anj n x m y;have k2:=ank n x m y;have dG:=anl n x m y;unfold y5 DT Oo at*;generalize ct:(Int.gcd (ag x) (ag y):Int)=g at*;rw [anp]at k1 k2 dG;generalize hp:ag x/g=p at*;generalize hq:ag y/g=q at*;have anq:ag (aG p)=p:=(gx hpx).2.2;have Wy:ag (aG q)=q:=(gx ω).2.2;rw [anq]at k1 k2 dG;rw [Wy]at k2 dG;have pA:(okA x&&okA y)=true:=by rw [h1,h2];rfl
 have Ot:(okA x&&(okA (aG g)&&decide (0<g)))=true:=by rw [h1,Wx,ay ω];rfl
 have Ou:(okA y&&(okA (aG g)&&decide (0<g)))=true:=by rw [h2,Wx,ay ω];rfl
 have pB:okB (aG p)=true:=md (k:=x.length) hpx ω ω;have qB:okB (aG q)=true:=md (k:=y.length) ω ω ω;have Ov:okZ (mkR (bn n p))=true:=hM (k:=x.length) (by rw [Bn hpx];omega) lx;have Wz:okZ (mkR (bn false q))=true:=hM (k:=y.length) (by rw [Bn ω];omega) ly;have sp:(bm (vZ (mkR (bn n p)))).size<=9*x.length+2:=by rw [di];exact Wv (by rw [Bn hpx];omega)
 have sq:(bm (vZ (mkR (bn false q)))).size<=9*y.length+2:=by rw [di];exact Wv (by rw [Bn ω];omega)
 have ed:((Rat.divInt (bn n (ag x)) (ag y)).den:Int)=q:=r2;have bJ:(Rat.divInt (bn n (ag x)) (ag y)).num=bn n p:=r1;by_cases hq1:q=1
 .have e:aU (Rat.divInt (bn n (ag x)) (ag y))=bm (vZ (mkR (bn n p))):=by
   unfold aU;rw [if_pos ω,bJ,di]
  have e1:aG q=[1]:=by
   have h11:e9 [(1:Int)]:=fun k hk=>by
    obtain rfl:k=0:=by simpa using hk.symm
    show(1:Int)≠0;decide
   have:=F1 (l:=[(1:Int)]) (.cons (show(0:Int)<=1/\(1:Int)<1000000000 by decide) .nil) h11;rw [show ag [(1:Int)]=1 from r0 _ _]at this;rw [hq1];exact this
  rw [e];rw [e1]at k1;exact b5 (s:=sW n x m y) hS (k1 pA Ot Ou pB Ov rfl δ rfl rfl)
 .have e:aU (Rat.divInt (bn n (ag x)) (ag y))=bm (vZ (mkR (bn n p)))++iC++bm (vZ (mkR (bn false q))):=by
   unfold aU;rw [if_neg ω,bJ,ed,di,di];refine fN ?_;rw [dq,dq,jk,jk];show _++47::_=_++[47]++_;rw [rB];rfl
  rw [e];have dx:(bm (vZ (mkR (bn n p)))).size+(ByteArray.mk #[47]).size<=9223372036854775807:=by
   show _+1<=_;omega
  have z2:(bm (vZ (mkR (bn n p)))++ByteArray.mk #[47]).size+(bm (vZ (mkR (bn false q)))).size<=9223372036854775807:=by
   rw [ByteArray.size_append];show _+1+_<=_;omega
  by_cases vu:((aG q).length:Int)=1
  .have hne:¬(aG q).getD 0 0=1:=fun h=>by
    obtain⟨c,hc⟩:∃c,aG q=[c]:=List.length_eq_one_iff.1 ω;rw [hc]at h;have h:c=1:=h;rw [hc,h]at Wy;have:ag [(1:Int)]=1:=r0 _ _;omega
   exact b5 (s:=sW n x m y) hS (k2 pA Ot Ou pB Ov vu (by show 0<_;omega) hne dx qB Wz z2 rfl)
  .exact b5 (s:=sW n x m y) hS (dG pA Ot Ou pB Ov vu dx qB Wz z2 rfl)
def anr {y:List Int} (h:okA y=true) (hn:Nat.beq y.length 0=false):0<ag y:=by
 obtain⟨A6,ty,_⟩:=fk.1 h;have h0:=gD A6;rcases Int.lt_or_le 0 (ag y)with h1|h1
 .exact h1
 .have:y=[]:=(FU kT A6 ty).1 (by unfold ag at*;omega);rw [this]at hn;cases hn
def Ix (n m:Bool) (x y:List Int) (h:okZ (n,x)=true) (g:okZ (m,y)=true) (hy:0<ag y):Holds prog true 67 [rv (n,x),rv (m,y)] (sv (aU (Rat.divInt (bn n (ag x)) (bn m (ag y))))):=by
 have hS:=Wt;obtain⟨h1,h2⟩:=eI.1 h;obtain⟨g1,g2⟩:=eI.1 g;refine bL (c:=y4) func67 rfl rfl fun w F=> ?_
 cases m with
 |false=>
  refine cP hS 3 (PP n x y) ?_;exact Ww n false x y h1 g1 hy w F
 |true=>
  refine cP hS 3 (PQ n x y h g) ?_;have a1:okZ (mkR (-vZ (n,x)))=true:=hM (k:=x.length) (by
   rw [Int.natAbs_neg];show((bn n (ag x)).natAbs:Int)<_;rw [Bn (gD (fk.1 h1).1)];exact pe h1) (fk.1 h1).2.2
  have a2:okZ (mkR (-vZ (true,y)))=true:=hM (k:=y.length) (by
   rw [Int.natAbs_neg];show((bn true (ag y)).natAbs:Int)<_;rw [Bn (cq hy)];exact pe g1) (fk.1 g1).2.2
  have e1:bn (mkR (-vZ (n,x))).1 (ag (mkR (-vZ (n,x))).2)= -vZ (n,x):=di _;have e2:ag (mkR (-vZ (true,y))).2=ag y:=by
   show ag (aG ((-vZ (true,y)).natAbs:Int))=_;rw [(gx (Int.natCast_nonneg _)).2.2];show((-(-ag y)).natAbs:Int)=_;omega
  have key:=Ww (mkR (-vZ (n,x))).1 (mkR (-vZ (true,y))).1 (mkR (-vZ (n,x))).2 (mkR (-vZ (true,y))).2 (eI.1 a1).1 (eI.1 a2).1 (by rw [e2];exact hy) w F;rw [e1,e2]at key;have e3:Rat.divInt (bn n (ag x)) (bn true (ag y))=Rat.divInt (-vZ (n,x)) (ag y):=by
   show Rat.divInt (bn n (ag x)) (-ag y)=Rat.divInt (-(bn n (ag x))) (ag y);have:=Rat.neg_divInt_neg (bn n (ag x)) (-ag y);rw [Int.neg_neg]at this;exact this.symm
  rw [e3];exact key
def ans:Wr.Ok prog:=fun⟨⟨n,x⟩,⟨m,y⟩,_⟩ h=>by
 have h:(okZ (n,x)&&(okZ (m,y)&& !(Nat.beq y.length 0)))=true:=h;rw [ae,ae,Bool.not_eq_true']at h;exact Ix n m x y h.1 h.2.1 (anr (eI.1 h.2.1).1 h.2.2)
def pX:=k_a f65
def Ow:=k_a f44
def nm:=a8 [A8,Nc]
def Ox:=a8 [Nb,G6]
def kD (u:AT) (n:Bool) (k:Int):bH:={n:=54,sl:=[(5,sv u),(6,bv n),(7,iv k)],bJ:=[],next:=64}
def ant (s:AT) (h1:(s.size:Int)>20):
  bf nm (fl pX []) 4 54 [sv s] 3 f65 true (.tuple [iv 0,iv 0,bv false]):=
 wy [ah h1] 1
section
variable (s:AT) (h1:¬(s.size:Int)>20) (h2:(s.size:Int)>0) (h3:Int.toNat 0<s.size)
def anu (h4:¬(↑(UInt8.toNat (s.data.toList.getD (Int.toNat 0) (0:UInt8))):Int)=45) (h5:s.size<=1000000000):
  dy nm (fl pX []) 8 54 [sv s] 94 .normal [] (kD s false (bk (aq s))):=
 wy [aK h1,aa (aL (ay h2)),ah h3,ah h2,yn h4,ah h5,ax (eN.mpr h4)] 8072161649416478849
def anv (h4:(↑(UInt8.toNat (s.data.toList.getD (Int.toNat 0) (0:UInt8))):Int)=45) (h5:Int.toNat 1<=s.size) (h6:(s.extract (Int.toNat 1) s.size).size<=1000000000) (h7:(s.extract (Int.toNat 1) s.size)=(s.extract 1 s.size)) (h8:(↑(bk (s.extract (Int.toNat 1) s.size).data.toList):Int)=(↑(bk (s.extract 1 s.size).data.toList):Int)):
  dy nm (fl pX []) 8 54 [sv s] 126 .normal [] (kD (s.extract 1 s.size) true (bk (aq (s.extract 1 s.size)))):=
 wy [aK h1,aa (aL (ay h2)),ah h3,ah h2,cT h4,ah h5,ah (by omega:s.size<=s.size),ah h6,ax h7,ax (fP.mpr h4),ax h8] 215836358573926683810734209
end
def anw (u:AT) (n:Bool) (k:Int) (h1:k>9):
  bW nm ((fl pX []).drop 8) (kD u n k) 224 f65 true (.tuple [iv 0,iv 0,bv false]):=
 wy [aa (bw (ay h1)),ah h1] 2164527169
def anx (u:AT) (n:Bool) (k:Int) (h1:¬k>9) (h2:i6 ((u.size:Int)-k)) (h3:(u.size:Int)-k>10):
  bW nm ((fl pX []).drop 8) (kD u n k) 223 f65 true (.tuple [iv 0,iv 0,bv false]):=
 wy [aa (bw (ab h1)),yi h2,aK h1,ah h3] 17799452037185
section
variable (u:AT) (k:Int) (h1:¬k>9) (h2:i6 ((u.size:Int)-k)) (h3:¬(u.size:Int)-k>10) (h4:0<=k) (h5:k.toNat<=u.size) (h6:(decide ((u.extract 0 k.toNat).size<=17)&&b6 (u.extract 0 k.toNat).data.toList)=true)
def anz (h7:¬k<(u.size:Int)):
  bW nm ((fl pX []).drop 8) (kD u false k) 543 f65 true (.tuple [iv (bl (aq (u.extract 0 k.toNat))),iv 1,bv true]):=
 wy [aa (bw (ab h1)),yi h2,aK h1,aK h3,ah h4,ah h5,aa h6,aK h7] 38302359651223005827137
def anA (h7:k<(u.size:Int)) (h8:i6 (k+1)) (h9:0<=k+1) (h10:(k+1).toNat<=u.size) (h11:(decide ((u.extract (k+1).toNat u.size).size<=17)&&b6 (u.extract (k+1).toNat u.size).data.toList)=true):
  bW nm ((fl pX []).drop 8) (kD u false k) 671 f65 true (.tuple [iv (bl (aq (u.extract 0 k.toNat))),iv (bl (aq (u.extract (k+1).toNat u.size))),bv true]):=
 wy [aa (bw (ab h1)),yi h2,aK h1,aK h3,ah h4,ah h5,aa h6,ah h7,yi h8,ah h9,ah h10,ah (by omega:u.size<=u.size),aa h11] 66882382688987832236781586354241
def anB (h7:¬k<(u.size:Int)) (h8:i6 (0-bl (u.extract 0 k.toNat).data.toList)):
  bW nm ((fl pX []).drop 8) (kD u true k) 799 f65 true (.tuple [iv (0-bl (aq (u.extract 0 k.toNat))),iv 1,bv true]):=
 wy [aa (bw (ab h1)),yi h2,aK h1,aK h3,ah h4,ah h5,aa h6,aK h7,yi h8] 174123620384157824163516481
def anC (h7:k<(u.size:Int)) (h8:i6 (k+1)) (h9:0<=k+1) (h10:(k+1).toNat<=u.size) (h11:(decide ((u.extract (k+1).toNat u.size).size<=17)&&b6 (u.extract (k+1).toNat u.size).data.toList)=true) (h12:i6 (0-bl (u.extract 0 k.toNat).data.toList)):
  bW nm ((fl pX []).drop 8) (kD u true k) 927 f65 true (.tuple [iv (0-bl (aq (u.extract 0 k.toNat))),iv (bl (aq (u.extract (k+1).toNat u.size))),bv true]):=
 wy [aa (bw (ab h1)),yi h2,aK h1,aK h3,ah h4,ah h5,aa h6,ah h7,yi h8,ah h9,ah h10,ah (by omega:u.size<=u.size),aa h11,yi h12] 290835506460639335029944576022679617
end
abbrev Bo (z:Int):Int:=if 0-z>z then 0-z else z
abbrev wQ:AT:=⟨#[45]⟩
section
variable (n d:Int) (h1:¬n< -4000000000000000000) (h2:¬n>4000000000000000000) (h3:¬d< -4000000000000000000) (h4:¬d>4000000000000000000) (h5:¬d<0) (h6:i6 (0-n)) (h7:(decide ((0:av.den (.int .i64))<=if 0-n>n then 0-n else n)&&decide ((0:av.den (.int .i64))<=d))=true) (h8:(bC n d)≠0) (h9:i6 (Int.tdiv n (bC n d))) (h10:i6 (Int.tdiv d (bC n d))) (h11:Int.tdiv n (bC n d)<0) (h12:i6 (0-Int.tdiv n (bC n d))) (dL:(decide ((0:av.den (.int .i64))<=if 0-Int.tdiv n (bC n d)>Int.tdiv n (bC n d)then 0-Int.tdiv n (bC n d)else Int.tdiv n (bC n d))&&(decide ((if 0-Int.tdiv n (bC n d)>Int.tdiv n (bC n d)then 0-Int.tdiv n (bC n d)else Int.tdiv n (bC n d))<=(9223372036854775807:av.den (.int .i64)))&&decide (1<=(20:av.den (.int .i64)))))=true) (gQ:(ByteArray.mk (#[(45:UInt8)])).size+(ByteArray.mk (List.toArray (co 20 (if 0-Int.tdiv n (bC n d)>Int.tdiv n (bC n d)then 0-Int.tdiv n (bC n d)else Int.tdiv n (bC n d)) 1 []))).size<=9223372036854775807)
def anD (je:¬Int.tdiv d (bC n d)>1) (mL:((ByteArray.mk (#[(45:UInt8)]))++(ByteArray.mk (List.toArray (co 20 (if 0-Int.tdiv n (bC n d)>Int.tdiv n (bC n d)then 0-Int.tdiv n (bC n d)else Int.tdiv n (bC n d)) 1 []))))=((ByteArray.mk (#[(45:UInt8)]))++(ByteArray.mk (List.toArray (co 20 (if 0-Int.tdiv n (bC n d)>Int.tdiv n (bC n d)then 0-Int.tdiv n (bC n d)else Int.tdiv n (bC n d)) 1 []))))):
  bf Ox (fl Ow []) 30 61 [iv n,iv d] 10459 f44 true (sv (wQ++gf (Bo (Int.tdiv n (Int.gcd (Bo n) d))) 1)):=
 wy [aa (bw (ab h1)),aK h1,aa (bw (ab h2)),aK h2,aa (bw (ab h3)),aK h3,aK h4,aK h5,yi h6,aa h7,ah h8,yi h9,yi h10,ah h11,yi h12,aa dL,ah gQ,aK je,ax mL] 105000044317847363205758449615782206513217
def anE (je:Int.tdiv d (bC n d)>1) (mL:((ByteArray.mk (#[(45:UInt8)]))++(ByteArray.mk (List.toArray (co 20 (if 0-Int.tdiv n (bC n d)>Int.tdiv n (bC n d)then 0-Int.tdiv n (bC n d)else Int.tdiv n (bC n d)) 1 [])))).size+(ByteArray.mk (#[(47:UInt8)])).size<=9223372036854775807) (yC:(decide ((0:av.den (.int .i64))<=Int.tdiv d (bC n d))&&(decide (Int.tdiv d (bC n d)<=(9223372036854775807:av.den (.int .i64)))&&decide (1<=(20:av.den (.int .i64)))))=true) (yD:((ByteArray.mk (#[(45:UInt8)]))++(ByteArray.mk (List.toArray (co 20 (if 0-Int.tdiv n (bC n d)>Int.tdiv n (bC n d)then 0-Int.tdiv n (bC n d)else Int.tdiv n (bC n d)) 1 [])))++(ByteArray.mk (#[(47:UInt8)]))).size+(ByteArray.mk (List.toArray (co 20 (Int.tdiv d (bC n d)) 1 []))).size<=9223372036854775807) (h19:((ByteArray.mk (#[(45:UInt8)]))++(ByteArray.mk (List.toArray (co 20 (if 0-Int.tdiv n (bC n d)>Int.tdiv n (bC n d)then 0-Int.tdiv n (bC n d)else Int.tdiv n (bC n d)) 1 [])))++(ByteArray.mk (#[(47:UInt8)]))++(ByteArray.mk (List.toArray (co 20 (Int.tdiv d (bC n d)) 1 []))))=((ByteArray.mk (#[(45:UInt8)]))++(ByteArray.mk (List.toArray (co 20 (if 0-Int.tdiv n (bC n d)>Int.tdiv n (bC n d)then 0-Int.tdiv n (bC n d)else Int.tdiv n (bC n d)) 1 [])))++(ByteArray.mk (#[(47:UInt8)]))++(ByteArray.mk (List.toArray (co 20 (Int.tdiv d (bC n d)) 1 []))))):
  bf Ox (fl Ow []) 30 61 [iv n,iv d] 14555 f44 true (sv (wQ++gf (Bo (Int.tdiv n (Int.gcd (Bo n) d))) 1++iC++gf (Int.tdiv d (Int.gcd (Bo n) d)) 1)):=
 wy [aa (bw (ab h1)),aK h1,aa (bw (ab h2)),aK h2,aa (bw (ab h3)),aK h3,aK h4,aK h5,yi h6,aa h7,ah h8,yi h9,yi h10,ah h11,yi h12,aa dL,ah gQ,ah je,ah mL,aa yC,ah yD,ax h19] 31874838871619119136349477082024326987223146561
end
section
variable (s:AT)
def sX:Nat:=bk (aq (bP s))
def DU:Int:=bl (aq ((bP s).extract 0 (sX s)))
def DV:Int:=if sX s<(bP s).size then bl (aq ((bP s).extract (sX s+1) (bP s).size))else 1
def qB:Bool:=decide (s.size<=20)&&(decide (sX s<=9)&&decide ((bP s).size-sX s<=10))
def kd:Bool:=(decide (0<s.size)&&decide (s.size<=800000))&&(b6 (aq ((bP s).extract 0 (sX s)))&&b6 (aq ((bP s).extract (sX s+1) (bP s).size)))
def jl:Int:=if qB s then bn (b7 s) (DU s)else 0
def fW:Int:=if qB s then DV s else 0
end
def WA:=IN 65 [.str] [.int .i64, .int .i64, .bool] true (fun d=>kd d.1) fun d=>(jl d.1,fW d.1,qB d.1,())
def WB:=IN 44 [.int .i64, .int .i64] [.str] true (fun d=>(decide (-4000000000000000000<=d.1)&&decide (d.1<=4000000000000000000))&&(decide (0<d.2.1)&&decide (d.2.1<=4000000000000000000))) fun d=>(aU (Rat.divInt d.1 d.2.1),())
def WC:bD prog (bF nm):=cM (aP Dy (aP LE dV))
def WD:bD prog (bF Ox):=cM (aP UT (aP Nf dV))
abbrev Oy (a b:Int) (c:Bool):Exit->au af->ai->Prop:=gZ prog true f65 (.tuple [iv a,iv b,bv c])
def anF (u:AT) (n:Bool) (hl:u.size<=20) (h1:b6 (aq (u.extract 0 (bk (aq u))))=true) (h2:b6 (aq (u.extract (bk (aq u)+1) u.size))=true) (w:World) (F:Sv.Env):
  aW prog w F 54 ((fl pX []).drop 8) (kD u n (bk (aq u))).T (kD u n (bk (aq u))).H (if bk (aq u)<=9/\u.size-bk (aq u)<=10 then Oy (bn n (bl (aq (u.extract 0 (bk (aq u)))))) (if bk (aq u)<u.size then bl (aq (u.extract (bk (aq u)+1) u.size))else 1) true else Oy 0 0 false):=by
 have hS:=WC;have hle:bk (aq u)<=u.size:=by rw [cK];exact A9 _
 generalize bk (aq u)=k at*;have uM:(k:Int).toNat=k:=by omega
 have HG:((k:Int)+1).toNat=k+1:=by omega
 have hz:=k6 u 0 k hle;have nt:=k6 u (k+1) u.size (aJ _);by_cases hk:k<=9
 .by_cases hd:u.size-k<=10
  .rw [if_pos ⟨hk,hd⟩];have g1:(decide ((u.extract 0 k).size<=17)&&b6 (aq (u.extract 0 k)))=true:=by rw [h1,ay ω];rfl
   have g2:(decide ((u.extract (k+1) u.size).size<=17)&&b6 (aq (u.extract (k+1) u.size)))=true:=by rw [h2,ay ω];rfl
   have hv:=uL h1;have hp:(10:Int)^(u.extract 0 k).size<=10^9:=iN δ ω;have Wl:(10:Int)^9=1000000000:=rfl;by_cases hlt:k<u.size
   .rw [if_pos hlt];cases n with
    |false=>
     have key:=anA u (k:Int) ω ω ω ω;rw [uM,HG]at key;exact b5 (s:=kD u false k) hS (key hle g1 ω ω ω ω g2)
    |true=>
     have key:=anC u (k:Int) ω ω ω ω;rw [uM,HG]at key;have key:=key hle g1 ω ω ω ω g2 (by show-9223372036854775808<=0-bl (aq (u.extract 0 k))/\0-bl (aq (u.extract 0 k))<=9223372036854775807;omega);rw [Int.zero_sub]at key;exact b5 (s:=kD u true k) hS key
   .rw [if_neg hlt];cases n with
    |false=>
     have key:=anz u (k:Int) ω ω ω ω;rw [uM]at key;exact b5 (s:=kD u false k) hS (key hle g1 ω)
    |true=>
     have key:=anB u (k:Int) ω ω ω ω;rw [uM]at key;have key:=key hle g1 ω (by show-9223372036854775808<=0-bl (aq (u.extract 0 k))/\0-bl (aq (u.extract 0 k))<=9223372036854775807;omega);rw [Int.zero_sub]at key;exact b5 (s:=kD u true k) hS key
  .rw [if_neg fun h=>hd h.2];exact b5 (s:=kD u n k) hS (anx u n (k:Int) ω ω ω)
 .rw [if_neg fun h=>hk h.1];exact b5 (s:=kD u n k) hS (anw u n (k:Int) ω)
def anG (s:AT) (h:kd s=true):Holds prog true 65 [sv s] (.tuple [iv (if qB s then bn (b7 s) (DU s)else 0),iv (if qB s then DV s else 0),bv (qB s)]):=by
 have hS:=WC;unfold kd at h;rw [ae,ae,ae,bA,bA]at h;obtain⟨⟨h0,hl⟩,h1,h2⟩:=h;refine bL (c:=pX) func65 rfl rfl fun w F=> ?_
 by_cases Oz:s.size<=20
 .have fin:∀u n,bP s=u->b7 s=n->u.size<=20->aW prog w F 54 ((fl pX []).drop 8) (kD u n (bk (aq u))).T (kD u n (bk (aq u))).H (Oy (if qB s then bn (b7 s) (DU s)else 0) (if qB s then DV s else 0) (qB s)):=fun u n e1 e2 hu=>by
   unfold DU DV qB sX at*;rw [e1]at h1 h2 ⊢;rw [e2,ay Oz,Bool.true_and];have key:=anF u n hu h1 h2 w F;by_cases hc:bk (aq u)<=9/\u.size-bk (aq u)<=10
   .rw [if_pos hc]at key;rw [ay hc.1,ay hc.2];exact key
   .rw [if_neg hc]at key;have e:(decide (bk (aq u)<=9)&&decide (u.size-bk (aq u)<=10))=false:=by
     rw [Bool.eq_false_iff];intro h;rw [ae,bA,bA]at h;exact hc h
    rw [e];exact key
  by_cases k8:(cj s 0).toNat=45
  .have e1:b7 s=true:=by unfold b7;rw [ay h0,ay k8];rfl
   have e2:bP s=s.extract 1 s.size:=by unfold bP;rw [e1]
   have hz:=k6 s 1 s.size (aJ _);refine cP hS 8 (anv s ω ω (by show 0<s.size;exact h0) (by show((cj s 0).toNat:Int)=45;omega) (by show 1<=s.size;omega) (by show(s.extract 1 s.size).size<=_;omega) rfl rfl) ?_;exact fin _ _ e2 e1 ω
  .have e1:b7 s=false:=by unfold b7;rw [ay h0,ab k8];rfl
   have e2:bP s=s:=by unfold bP;rw [e1]
   refine cP hS 8 (anu s ω ω (by show 0<s.size;exact h0) (by show¬((cj s 0).toNat:Int)=45;omega) ω) ?_;exact fin _ _ e2 e1 Oz
 .have e:qB s=false:=by unfold qB;rw [ab Oz];rfl
  rw [e];exact bg hS 4 (ant s ω)
def anH:WA.Ok prog:=fun⟨s,_⟩ h=>anG s h
def sm {n:Bool} {x d g:Int} (hd:0<d) (hx:0<=x) (hg:(Int.gcd x d:Int)=g):(aU (Rat.divInt (bn n x) d)).data.toList=Lib.itoa (bn n (x/g))++(if d/g>1 then 47::Lib.itoa (d/g)else []):=by
 obtain⟨r1,r2⟩:=HF (n:=n) (x:=x) hd;rw [hg]at r1 r2;have hp:0<(Rat.divInt (bn n x) d).den:=(Rat.divInt (bn n x) d).den_pos;unfold aU;by_cases h1:d/g>1
 .rw [if_neg ω,if_pos h1,r1,r2]
 .rw [if_pos ω,if_neg h1,jk,r1,List.append_nil]
def anI (n d:Int) (nc: -4000000000000000000<=n) (hn2:n<=4000000000000000000) (hd:0<d) (gw:d<=4000000000000000000):Holds prog true 44 [iv n,iv d] (sv (aU (Rat.divInt n d))):=by
 have hg:0<Int.gcd n d:=Int.gcd_pos_of_ne_zero_right _ ω;have hgd:(Int.gcd n d:Int)<=d:=Int.le_of_dvd hd (Int.gcd_dvd_right ..);by_cases hn:0<=n
 .have key:=aku n d hn hn2 hd gw;have e:wO (n/Int.gcd n d) (d/Int.gcd n d)=aU (Rat.divInt n d):=fN (by
   have b1:0<=n/(Int.gcd n d:Int):=Int.ediv_nonneg hn ω;have b2:n/(Int.gcd n d:Int)<=n:=Int.ediv_le_self _ hn;have b3:0<=d/(Int.gcd n d:Int):=Int.ediv_nonneg ω ω;have b4:d/(Int.gcd n d:Int)<=d:=Int.ediv_le_self _ ω;have:=sm (n:=false) (x:=n) hd hn rfl;show co 20 _ 1 []++_=_;have e0:bn false n=n:=rfl;rw [e0]at this;rw [this,DQ b1 ω,DQ b3 ω];rfl)
  rw [<-e];exact key
 .obtain⟨x,rfl⟩:∃x,n= -x:=⟨-n,by omega⟩;have hm:(if(0:Int)- -x> -x then(0:Int)- -x else-x)=x:=by rw [if_pos ω];omega
  have k1:=anD (-x) d;have k2:=anE (-x) d;have eg:Int.gcd (-x) d=Int.gcd x d:=Int.neg_gcd;unfold Bo at k1 k2;simp only [bC,hm]at k1 k2;rw [eg]at hg hgd;have Cu:(Int.gcd x d:Int)<=x:=Int.le_of_dvd ω (Int.gcd_dvd_left ..);have t1:Int.tdiv (-x) (Int.gcd x d:Int)= -(x/(Int.gcd x d:Int)):=by rw [Int.neg_tdiv,Int.tdiv_eq_ediv_of_nonneg ω]
  have t2:Int.tdiv d (Int.gcd x d:Int)=d/(Int.gcd x d:Int):=Int.tdiv_eq_ediv_of_nonneg ω;simp only [t1,t2]at k1 k2;have b1:1<=x/(Int.gcd x d:Int):=Int.le_ediv_of_mul_le ω ω;have b2:x/(Int.gcd x d:Int)<=x:=Int.ediv_le_self _ ω;have b3:0<=d/(Int.gcd x d:Int):=Int.ediv_nonneg ω ω;have b4:d/(Int.gcd x d:Int)<=d:=Int.ediv_le_self _ ω;have ht:=sm (n:=true) (x:=x) hd ω rfl;have es:bn true x= -x:=rfl;have anJ:bn true (x/(Int.gcd x d:Int))= -(x/(Int.gcd x d:Int)):=rfl;rw [es,anJ]at ht;have qt:(1:Int)<=(Int.gcd x d:Int):=by omega
  generalize (Int.gcd x d:Int)=g at*;generalize x/g=y at*;generalize d/g=z at*;have hm2:(if(0:Int)- -y> -y then(0:Int)- -y else-y)=y:=by rw [if_pos ω];omega
  simp only [hm2]at k1 k2;have WE:=DQ (n:=y) ω ω;have fz:=DQ (n:=z) b3 ω;have zM:Lib.itoa (-y)=45::Lib.itoa y:=by rw [itoa_neg ω,wP ω,Int.natAbs_neg]
  rw [zM]at ht;have l1:=mf 20 y 1 [];have l2:=mf 20 z 1 [];have dx:=G7 (co 20 y 1 []);have z2:=G7 (co 20 z 1 []);simp only [List.length_nil,aw]at l1 l2;have WG:(decide ((0:Int)<=x)&&decide ((0:Int)<=d))=true:=by rw [ay ω,ay ω];rfl
  have py:(decide ((0:Int)<=y)&&(decide (y<=(9223372036854775807:Int))&&decide ((1:Int)<=20)))=true:=by rw [ay ω,ay ω];rfl
  have anK:(decide ((0:Int)<=z)&&(decide (z<=(9223372036854775807:Int))&&decide ((1:Int)<=20)))=true:=by rw [ay ω,ay ω];rfl
  refine bL (c:=Ow) func44 rfl rfl fun w F=> ?_
  by_cases h1:z>1
  .rw [if_pos h1]at ht;have e:aU (Rat.divInt (-x) d)=wQ++gf y 1++iC++gf z 1:=fN (by
    rw [ht,dq,dq,dq];show _=[45]++co 20 y 1 []++[47]++co 20 z 1 [];rw [WE,fz];simp)
   rw [e];have y1:(wQ++gf y 1).size=1+(co 20 y 1 []).length:=by rw [ByteArray.size_append];rfl
   have y2:(wQ++gf y 1++iC).size=1+(co 20 y 1 []).length+1:=by rw [ByteArray.size_append,y1];rfl
   exact bg WD 30 (k2 ω ω ω ω ω ω WG ω ω ω ω ω py (by show 1+(co 20 y 1 []).length<=_;omega) h1 (by show(wQ++gf y 1).size+1<=_;omega) anK (by show(wQ++gf y 1++iC).size+(co 20 z 1 []).length<=_;omega) trivial)
  .rw [if_neg h1,List.append_nil]at ht;have e:aU (Rat.divInt (-x) d)=wQ++gf y 1:=fN (by
    rw [ht,dq];show _=[45]++co 20 y 1 [];rw [WE];rfl)
   rw [e];exact bg WD 30 (k1 ω ω ω ω ω ω WG ω ω ω ω ω py (by show 1+(co 20 y 1 []).length<=_;omega) h1 trivial)
def WH:WB.Ok prog:=fun⟨n,d,_⟩ h=>by
 have h:((decide (-4000000000000000000<=n)&&decide (n<=4000000000000000000))&&(decide (0<d)&&decide (d<=4000000000000000000)))=true:=h;rw [ae,ae,ae,bA,bA,bA,bA]at h;exact anI n d h.1.1 h.1.2 h.2.1 h.2.2
def HH:=k_a Tryz.f15
def HJ:=k_a Tryz.f14
def WI:=k_a Tryz.f72
def WJ:=k_a Tryz.f16
def uN:=og [UM,UN] (a8 [WA,WB,HD,Wr,LL,HB])
abbrev k9 (s:AT):Bool×List Int:=mkR (ptN s)
abbrev iD (s:AT):Bool×List Int:=mkR (ptD s)
section
variable (a b:AT) (h1:(kd a)=true) (h2:(kd b)=true)
def anL (h3:(qB a)=true) (h4:(qB b)=true) (h5:i6 (jl a*jl b)) (h6:i6 (fW a*fW b)) (h7:(decide ((-4000000000000000000:av.den (.int .i64))<=jl a*jl b)&&decide (jl a*jl b<=(4000000000000000000:av.den (.int .i64)))&&(decide ((0:av.den (.int .i64))<fW a*fW b)&&decide (fW a*fW b<=(4000000000000000000:av.den (.int .i64)))))=true):
  bf uN (fl HH []) 30 (Tryz.f15.ntmps) [sv a,sv b] 15 Tryz.f15 true (sv (aU (Rat.divInt (jl a*jl b) (fW a*fW b)))):=
 wy [aa h1,aa h2,aa (aL (h3)),aa h3,aa h4,yi h5,yi h6,aa h7] 35671935824001
def anM (h3:(qB a)=false) (h4:(jg a)=true) (h5:(jg b)=true) (h6:(okZ (mkR (ptN a))&&okZ (mkR (ptN b)))=true) (h7:(okZ (mkR (ptD a))&&okZ (mkR (ptD b)))=true) (h8:(okZ (mkR (vZ (mkR (ptN a))*vZ (mkR (ptN b))))&&(okZ (mkR (vZ (mkR (ptD a))*vZ (mkR (ptD b))))&& !Nat.beq (mkR (vZ (mkR (ptD a))*vZ (mkR (ptD b)))).2.length 0))=true):
  bf uN (fl HH []) 30 (Tryz.f15.ntmps) [sv a,sv b] 8 Tryz.f15 true (sv (aU (Rat.divInt (vZ (mkR (vZ (k9 a)*vZ (k9 b)))) (vZ (mkR (vZ (iD a)*vZ (iD b))))))):=
 wy [aa h1,aa h2,aa (aL (h3)),aa h3,aa h4,aa h5,aa (aF (v:=af.agg [af.raw (Value.bool (mkR (ptN a)).1),af.bt false (.int .i64) (mkR (ptN a)).2])),aa (aF (v:=af.agg [af.raw (Value.bool (mkR (ptN b)).1),af.bt false (.int .i64) (mkR (ptN b)).2])),aa h6,aa (aF (v:=af.agg [af.raw (Value.bool (mkR (ptD a)).1),af.bt false (.int .i64) (mkR (ptD a)).2])),aa (aF (v:=af.agg [af.raw (Value.bool (mkR (ptD b)).1),af.bt false (.int .i64) (mkR (ptD b)).2])),aa h7,aa h8] 16328711509674594756421759105
def anN (h3:(qB a)=true) (h4:(qB b)=false) (h5:(jg a)=true) (h6:(jg b)=true) (h7:(okZ (mkR (ptN a))&&okZ (mkR (ptN b)))=true) (h8:(okZ (mkR (ptD a))&&okZ (mkR (ptD b)))=true) (h9:(okZ (mkR (vZ (mkR (ptN a))*vZ (mkR (ptN b))))&&(okZ (mkR (vZ (mkR (ptD a))*vZ (mkR (ptD b))))&& !Nat.beq (mkR (vZ (mkR (ptD a))*vZ (mkR (ptD b)))).2.length 0))=true):
  bf uN (fl HH []) 30 (Tryz.f15.ntmps) [sv a,sv b] 11 Tryz.f15 true (sv (aU (Rat.divInt (vZ (mkR (vZ (k9 a)*vZ (k9 b)))) (vZ (mkR (vZ (iD a)*vZ (iD b))))))):=
 wy [aa h1,aa h2,aa (aL (h3)),aa h3,aa h4,aa h5,aa h6,aa (aF (v:=af.agg [af.raw (Value.bool (mkR (ptN a)).1),af.bt false (.int .i64) (mkR (ptN a)).2])),aa (aF (v:=af.agg [af.raw (Value.bool (mkR (ptN b)).1),af.bt false (.int .i64) (mkR (ptN b)).2])),aa h7,aa (aF (v:=af.agg [af.raw (Value.bool (mkR (ptD a)).1),af.bt false (.int .i64) (mkR (ptD a)).2])),aa (aF (v:=af.agg [af.raw (Value.bool (mkR (ptD b)).1),af.bt false (.int .i64) (mkR (ptD b)).2])),aa h8,aa h9] 17586301390853393765909934209
def anO (h3:(qB a)=true) (h4:(qB b)=true) (h5:i6 (jl a*fW b)) (h6:i6 (jl b*fW a)) (h7:i6 (jl a*fW b+jl b*fW a)) (h8:i6 (fW a*fW b)) (h9:(decide ((-4000000000000000000:av.den (.int .i64))<=jl a*fW b+jl b*fW a)&&decide (jl a*fW b+jl b*fW a<=(4000000000000000000:av.den (.int .i64)))&&(decide ((0:av.den (.int .i64))<fW a*fW b)&&decide (fW a*fW b<=(4000000000000000000:av.den (.int .i64)))))=true):
  bf uN (fl HJ []) 30 (Tryz.f14.ntmps) [sv a,sv b] 15 Tryz.f14 true (sv (aU (Rat.divInt (jl a*fW b+jl b*fW a) (fW a*fW b)))):=
 wy [aa h1,aa h2,aa (aL (h3)),aa h3,aa h4,yi h5,yi h6,yi h7,yi h8,aa h9] 182712931821039745
def anP (h3:(qB a)=false) (h4:(jg a)=true) (h5:(jg b)=true) (h6:(okZ (mkR (ptN a))&&okZ (mkR (ptD b)))=true) (h7:(okZ (mkR (ptN b))&&okZ (mkR (ptD a)))=true) (h8:(okZ (mkR (vZ (mkR (ptN a))*vZ (mkR (ptD b))))&&okZ (mkR (vZ (mkR (ptN b))*vZ (mkR (ptD a)))))=true) (h9:(okZ (mkR (ptD a))&&okZ (mkR (ptD b)))=true) (h10:(okZ (mkR (vZ (mkR (vZ (mkR (ptN a))*vZ (mkR (ptD b))))+vZ (mkR (vZ (mkR (ptN b))*vZ (mkR (ptD a))))))&&(okZ (mkR (vZ (mkR (ptD a))*vZ (mkR (ptD b))))&& !Nat.beq (mkR (vZ (mkR (ptD a))*vZ (mkR (ptD b)))).2.length 0))=true):
  bf uN (fl HJ []) 30 (Tryz.f14.ntmps) [sv a,sv b] 8 Tryz.f14 true (sv (aU (Rat.divInt (vZ (mkR (vZ (mkR (vZ (k9 a)*vZ (iD b)))+vZ (mkR (vZ (k9 b)*vZ (iD a)))))) (vZ (mkR (vZ (iD a)*vZ (iD b))))))):=
 wy [aa h1,aa h2,aa (aL (h3)),aa h3,aa h4,aa h5,aa (aF (v:=af.agg [af.raw (Value.bool (mkR (ptN a)).1),af.bt false (.int .i64) (mkR (ptN a)).2])),aa (aF (v:=af.agg [af.raw (Value.bool (mkR (ptD b)).1),af.bt false (.int .i64) (mkR (ptD b)).2])),aa h6,aa (aF (v:=af.agg [af.raw (Value.bool (mkR (ptN b)).1),af.bt false (.int .i64) (mkR (ptN b)).2])),aa (aF (v:=af.agg [af.raw (Value.bool (mkR (ptD a)).1),af.bt false (.int .i64) (mkR (ptD a)).2])),aa h7,aa h8,aa h9,aa h10] 21723757664092254386358743102598938459181691009
def anQ (h3:(qB a)=true) (h4:(qB b)=false) (h5:(jg a)=true) (h6:(jg b)=true) (h7:(okZ (mkR (ptN a))&&okZ (mkR (ptD b)))=true) (h8:(okZ (mkR (ptN b))&&okZ (mkR (ptD a)))=true) (h9:(okZ (mkR (vZ (mkR (ptN a))*vZ (mkR (ptD b))))&&okZ (mkR (vZ (mkR (ptN b))*vZ (mkR (ptD a)))))=true) (h10:(okZ (mkR (ptD a))&&okZ (mkR (ptD b)))=true) (h11:(okZ (mkR (vZ (mkR (vZ (mkR (ptN a))*vZ (mkR (ptD b))))+vZ (mkR (vZ (mkR (ptN b))*vZ (mkR (ptD a))))))&&(okZ (mkR (vZ (mkR (ptD a))*vZ (mkR (ptD b))))&& !Nat.beq (mkR (vZ (mkR (ptD a))*vZ (mkR (ptD b)))).2.length 0))=true):
  bf uN (fl HJ []) 30 (Tryz.f14.ntmps) [sv a,sv b] 11 Tryz.f14 true (sv (aU (Rat.divInt (vZ (mkR (vZ (mkR (vZ (k9 a)*vZ (iD b)))+vZ (mkR (vZ (k9 b)*vZ (iD a)))))) (vZ (mkR (vZ (iD a)*vZ (iD b))))))):=
 wy [aa h1,aa h2,aa (aL (h3)),aa h3,aa h4,aa h5,aa h6,aa (aF (v:=af.agg [af.raw (Value.bool (mkR (ptN a)).1),af.bt false (.int .i64) (mkR (ptN a)).2])),aa (aF (v:=af.agg [af.raw (Value.bool (mkR (ptD b)).1),af.bt false (.int .i64) (mkR (ptD b)).2])),aa h7,aa (aF (v:=af.agg [af.raw (Value.bool (mkR (ptN b)).1),af.bt false (.int .i64) (mkR (ptN b)).2])),aa (aF (v:=af.agg [af.raw (Value.bool (mkR (ptD a)).1),af.bt false (.int .i64) (mkR (ptD a)).2])),aa h8,aa h9,aa h10,aa h11] 23173660082079261249656049484261917645415133313
end
def anR (a:AT) (h1:(jg a)=true) (h2:(okZ (mkR (ptD a))&&(okZ (mkR (ptN a))&& !Nat.beq (mkR (ptN a)).2.length 0))=true):
  bf uN (fl WI []) 30 (Tryz.f72.ntmps) [sv a] 1 Tryz.f72 true (sv (aU (Rat.divInt (vZ (iD a)) (vZ (k9 a))))):=
 wy [aa h1,aa h2] 129
def anS (n:Int) (h1:(decide ((-9223372036854775808:av.den (.int .i64))<=n)&&decide (n<=(9223372036854775807:av.den (.int .i64))))=true) (h2:(okZ (mkR n))=true):
  bf uN (fl WJ []) 30 (Tryz.f16.ntmps) [iv n] 1 Tryz.f16 true (sv (bm (vZ (mkR n)))):=
 wy [aa h1,aa h2] 129
--{
def ld (u:Nat):b6 (Lib.decDigits u)=true:=by
 unfold b6;rw [List.all_eq_true];intro b hb;obtain⟨h1,h2⟩:=Dec.N9 u b hb;rw [ay h1,ay h2];rfl
def uO (u:Nat):bl (Lib.decDigits u)=(u:Int):=by
 induction u using Nat.strongRecOn with
 |_ u ih=>
  by_cases h:u<10
  .rw [mN h,rk,Dec.yX u h];show(((48+u:Nat):Int)-48)*10^0+0=_;rw [Int.pow_zero];omega
  .rw [sU h,vx,ih _ ω,rk,Dec.yX _ ω];show((u/10:Nat):Int)*10^1+((((48+u%10:Nat):Int)-48)*10^0+0)=_;rw [Int.pow_zero,Int.pow_succ,Int.pow_zero];omega
def HK (u:Nat):Lib.decDigits u≠[]:=fun e=>by
 have:=Dec.HA u;rw [e]at this;cases this
def vy {u k:Nat} (h:(u:Int)<1000000000^k):(Lib.decDigits u).length<=9*k+1:=by
 have:=Oh (gx (Int.natCast_nonneg u)).1;rw [(gx (Int.natCast_nonneg u)).2.2,Int.toNat_natCast]at this;have h2:=G3 (Int.natCast_nonneg u) h;omega
def WK {u:Nat} (h:(Lib.decDigits u).length<=9):(u:Int)<1000000000:=by
 have h1:=A7 (s:=⟨(Lib.decDigits u).toArray⟩) (by rw [show aq ⟨(Lib.decDigits u).toArray⟩=Lib.decDigits u from rfl];exact ld u) (Lib.decDigits u).length (aJ _);rw [show aq ⟨(Lib.decDigits u).toArray⟩=Lib.decDigits u from rfl,dI,uO]at h1;have h2:(10:Int)^(Lib.decDigits u).length<=10^9:=iN δ h;have:(10:Int)^9=1000000000:=rfl;omega
def HL {L R:List UInt8} (hL:L≠[]) (hd:b6 L=true):L++R≠[]/\((L++R).getD 0 0).toNat≠45:=by
 cases L with
 |nil=>exact absurd rfl hL
 |cons b l=>
  rw [Ba,ae,ae,bA,bA]at hd;refine⟨by simp, ?_⟩;show b.toNat≠45;omega
def OA {s:AT} {neg:Bool} {M:List UInt8} (dY:M≠[]/\(M.getD 0 0).toNat≠45) (hs:aq s=if neg then 45::M else M):b7 s=neg/\aq (bP s)=M/\0<s.size:=by
 have hl:0<M.length:=List.length_pos_iff.2 dY.1;cases neg with
 |true=>
  have hs:aq s=45::M:=hs;have hz:s.size=M.length+1:=by rw [cK,hs];rfl
  have k8:(cj s 0).toNat=45:=by show((aq s).getD 0 0).toNat=45;rw [hs];rfl
  have e1:b7 s=true:=by unfold b7;rw [ay ω,ay k8];rfl
  refine⟨e1, ?_,by omega⟩;unfold bP;rw [e1];show aq (s.extract 1 s.size)=M;rw [jF,hs,hz,eT τ];rfl
 |false=>
  have hs:aq s=M:=hs;have hz:s.size=M.length:=by rw [cK,hs]
  have k8:¬(cj s 0).toNat=45:=by show¬((aq s).getD 0 0).toNat=45;rw [hs];exact dY.2
  have e1:b7 s=false:=by unfold b7;rw [ab k8,Bool.and_false]
  refine⟨e1, ?_,by omega⟩;unfold bP;rw [e1];exact hs
def rx {neg:Bool} {M:List UInt8}:bk (if neg then 45::M else M)=bk M+(if neg then 1 else 0):=by
 cases neg with
 |true=>
  show(if(45:UInt8).toNat=47 then 0 else bk M+1)=bk M+1;rw [if_neg δ]
 |false=>rfl
def pY (n:Int):Lib.itoa n=if decide (n<0)then 45::Lib.decDigits n.natAbs else Lib.decDigits n.natAbs:=by
 by_cases h:n<0
 .rw [itoa_neg h,ay h];rfl
 .rw [wP h,ab h];rfl
def WL {s:AT} {n:Int} (h:aq s=Lib.itoa n):k7 s=n/\b6 (aq (bP s))=true:=by
 have h0:=HL (R:=[]) (HK n.natAbs) (ld n.natAbs);rw [List.append_nil]at h0;obtain⟨h1,h2,h3⟩:=OA (neg:=decide (n<0)) h0 (by rw [h];exact pY n);unfold k7;rw [h1,h2,uO];refine⟨?_,ld _⟩;by_cases hn:n<0
 .rw [ay hn];show-(n.natAbs:Int)=n;omega
 .rw [ab hn];show(n.natAbs:Int)=n;omega
def fX (k:Nat) (r:Rat):Prop:=(r.num.natAbs:Int)<1000000000^k/\(r.den:Int)<1000000000^k
structure WM (s:AT) (r:Rat):Prop where
 iX:kd s=true
 pt:jg s=true
 n:ptN s=r.num
 d:ptD s=r.den
 q:qB s=true->jl s=r.num/\fW s=r.den/\(r.num.natAbs:Int)<1000000000/\(r.den:Int)<1000000000
def uP {r:Rat} {k:Nat} (hk:k<=10000) (h:fX k r):WM (aU r) r:=by
 obtain⟨hN,hD⟩:=h;have hdp:0<r.den:=r.den_pos;obtain⟨T,hT⟩:∃T:List UInt8,T=if r.den=1 then []else 47::Lib.decDigits r.den:=⟨_,rfl⟩
 have dY:=HL (R:=T) (HK r.num.natAbs) (ld r.num.natAbs);have hb:aq (aU r)=if decide (r.num<0)then 45::(Lib.decDigits r.num.natAbs++T)else Lib.decDigits r.num.natAbs++T:=by
  have e:aq (aU r)=Lib.itoa r.num++T:=by
   rw [hT];unfold aU;by_cases h1:r.den=1
   .rw [if_pos h1,if_pos h1,List.append_nil];exact jk _
   .rw [if_neg h1,if_neg h1,<-Dec.oH]
  rw [e,pY];by_cases hn:r.num<0
  .rw [ay hn];rfl
  .rw [ab hn];rfl
 obtain⟨p1,p2,p3⟩:=OA dY hb;have anT:=vy hN;have GP:=vy hD;have auW:T.length<=9*k+2:=by rw [hT];split<;>simp;omega
 have pW:bk (Lib.decDigits r.num.natAbs++T)=(Lib.decDigits r.num.natAbs).length:=by
  rw [hT];split
  .rw [List.append_nil];exact Dz _ (ld _)
  .exact DA _ _ (ld _)
 have hsz:(aU r).size=(if decide (r.num<0)then 1 else 0)+((Lib.decDigits r.num.natAbs).length+T.length):=by
  rw [cK,hb];by_cases hn:r.num<0
  .rw [ay hn];simp;omega
  .rw [ab hn];simp
 have WN:(aU r).size<=800000:=by rw [hsz];split<;>omega
 -- the text without its sign
 have hu:(bP (aU r)).size=(Lib.decDigits r.num.natAbs).length+T.length:=by rw [cK,p2,cW]
 have OB:sX (aU r)=(Lib.decDigits r.num.natAbs).length:=by unfold sX;rw [p2,pW]
 have x1:aq ((bP (aU r)).extract 0 (Lib.decDigits r.num.natAbs).length)=Lib.decDigits r.num.natAbs:=by rw [jF,p2,List.drop_zero,List.take_left'];rfl
 have x2:aq ((bP (aU r)).extract ((Lib.decDigits r.num.natAbs).length+1) (bP (aU r)).size)=T.drop 1:=by
  rw [jF,p2,hu,<-cW,dI,<-List.drop_drop,List.drop_left'];rfl
 have Cn:b6 (T.drop 1)=true:=by
  rw [hT];split
  .rfl
  .exact ld _
 have WO:kd (aU r)=true:=by
  unfold kd;rw [OB,x1,x2,Cn,ld,ay p3,ay WN];rfl
 -- the text with its sign
 have HM:bk (aq (aU r))=(if decide (r.num<0)then 1 else 0)+(Lib.decDigits r.num.natAbs).length:=by
  rw [hb,rx,pW];omega
 have y1:aq ((aU r).extract 0 (bk (aq (aU r))))=Lib.itoa r.num:=by
  rw [jF,List.drop_zero,HM,hb,pY];by_cases hn:r.num<0
  .rw [ay hn];show List.take (1+_) (45::_)=45::_;rw [Nat.add_comm,List.take_succ_cons,List.take_left'];rfl
  .rw [ab hn];show List.take (0+_) (Lib.decDigits r.num.natAbs++T)=Lib.decDigits r.num.natAbs;rw [aw,List.take_left'];rfl
 have y2:aq ((aU r).extract (bk (aq (aU r))+1) (aU r).size)=T.drop 1:=by
  have Bp:(aU r).size=(aq (aU r)).length:=cK _;rw [jF,HM,Bp,dI,hb];by_cases hn:r.num<0
  .rw [ay hn];show List.drop (1+_+1) (45::_)=_;rw [Nat.add_right_comm,Nat.add_comm 1,Nat.add_assoc,Nat.add_comm,List.drop_succ_cons,Nat.add_comm,<-List.drop_drop,List.drop_left'];rfl
  .rw [ab hn];show List.drop (0+_+1) (Lib.decDigits r.num.natAbs++T)=_;rw [aw,<-List.drop_drop,List.drop_left'];rfl
 obtain⟨v1,v2⟩:=WL y1;have lB:r.den≠1->k7 ((aU r).extract (bk (aq (aU r))+1) (aU r).size)=r.den/\b6 (aq (bP ((aU r).extract (bk (aq (aU r))+1) (aU r).size)))=true:=fun h1=>WL (n:=(r.den:Int)) (by rw [y2,hT,if_neg h1,Dec.oH];rfl)
 have gw:b6 (aq (bP ((aU r).extract (bk (aq (aU r))+1) (aU r).size)))=true:=by
  by_cases h1:r.den=1
  .have e0:aq ((aU r).extract (bk (aq (aU r))+1) (aU r).size)=[]:=by rw [y2,hT,if_pos h1];rfl
   have e1:b7 ((aU r).extract (bk (aq (aU r))+1) (aU r).size)=false:=by
    unfold b7;rw [ab (by rw [cK,e0];decide)];rfl
   unfold bP;rw [e1];show b6 (aq _)=true;rw [e0];rfl
  .exact(lB h1).2
 refine⟨WO, ?_,v1, ?_,fun hq=> ?_⟩
 .unfold jg;rw [ay WN,v2,gw];rfl
 .unfold ptD;by_cases h1:r.den=1
  .rw [if_neg (by rw [HM,hsz,hT,if_pos h1];simp),h1];rfl
  .rw [if_pos (by rw [HM,hsz,hT,if_neg h1];simp)];exact(lB h1).1
 .have j4:=hq;unfold qB at hq;rw [OB,hu,ae,ae,bA,bA,bA]at hq;unfold jl fW DU DV;rw [j4,OB,p1,x1,x2,hu,uO];refine⟨?_, ?_,WK hq.2.1, ?_⟩
  .show bn _ _=_;by_cases hn:r.num<0
   .rw [ay hn];show-(r.num.natAbs:Int)=_;omega
   .rw [ab hn];show(r.num.natAbs:Int)=_;omega
  .rw [if_pos rfl];by_cases h1:r.den=1
   .rw [if_neg (by rw [hT,if_pos h1];simp),h1];rfl
   .rw [if_pos (by rw [hT,if_neg h1];simp),hT,if_neg h1];exact uO _
  .by_cases h1:r.den=1
   .omega
   .refine WK ?_;have h3:=hq.2.2;rw [hT,if_neg h1]at h3;simp at h3;omega
--}
end
end Go.Proofs.YtibikmmdbdlafaaGreatDoor
