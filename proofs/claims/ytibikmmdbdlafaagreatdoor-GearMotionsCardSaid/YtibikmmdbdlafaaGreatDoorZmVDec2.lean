import Derived.Test.YtibikmmdbdlafaaGreatDoorZmGAw1
import Derived.WalkLawsBesides
import Derived.WalkSpells
set_option linter.defProp false
set_option linter.unusedVariables false
set_option linter.unusedSimpArgs false
set_option linter.unusedSectionVars false
set_option maxRecDepth 100000
namespace Go.Proofs.YtibikmmdbdlafaaGreatDoor
open Go.RowKit Sv Go.Proofs.Tryz
noncomputable section
noncomputable def yG:Code:=(f64.body).getD .skip
noncomputable def Lk:bI:=aR [CY,wA,CW,AG]
abbrev r2:Sv.Ren:=[(64,64,none),(65,65,none)]
abbrev Vc (q:b5):fG:= .blk (.cells 85 [iv q.1.1, .bh true (.int .u64) q.1.2,iv q.2.1, .bh true (.int .u64) q.2.2] true false false)
def sI (t:List (Int×Int)) (q:b5) (k:Nat):bC:={n:=24,sl:=[(0,pl t),(2, .ptr 64 0),(3, .ptr 65 0),(7,pl t),(8,iv t.length),(9,iv k)],bF:=[(64,SY),(65,Vc q)],next:=66}
def alF (t:List (Int×Int)):
  cO Lk (fl yG []) 3 24 [pl t] 1 .normal r2 (sI t (cT (bX 1)) 0):=
 wy [] 0
def alG (t:List (Int×Int)) (q:b5) (k:Nat) (h1:(k:Int)<(t.length:Int)) (h2:k<t.length) (h3:(jo (bX (t.getD k (0,0)).1) (bX (t.getD k (0,0)).2))=true) (h4:(okQ 20000 q&&okQ 20000 (lT (bX (t.getD k (0,0)).1) (bX (t.getD k (0,0)).2)))=true) (h5:i6 ((k:Int)+1)):
  bg Lk (fl yG [1,1,0,1,0,0]) (sI t q k) 3 .normal r2 (sI t (fB q (lT (bX (g0 t k).1) (bX (g0 t k).2))) (k+1)):=
 wy [ah h1,ah h2,af (aV (v:=cc q)),af (aV (v:=iv ((t.getD k ((0:Int),(0:Int))).1))),af (aV (v:=iv ((t.getD k ((0:Int),(0:Int))).2))),af h3,af h4,yi h5] 156872738376498598545989633
def alH (t:List (Int×Int)) (q:b5) (k:Nat) (h1:¬(k:Int)<(t.length:Int)):
  bg Lk (fl yG [1,1,0,1,0,0]) (sI t q k) 2 (.exit 0) r2 (sI t q k):=
 wy [aA h1] 1
def alI (t:List (Int×Int)) (q:b5) (k:Nat):
  bH Lk ((fl yG []).drop 4) (sI t q k) 1 f64 false (cc q):=
 wy [] 0
def alJ:bD prog (bG Lk):=cY (aX Gf (aX tU (aX F8 (aX C1 eA))))
def uG (t:List (Int×Int)):Nat->b5
 |0=>cT (bX 1)
 |k+1=>fB (uG t k) (lT (bX (g0 t k).1) (bX (g0 t k).2))
def A5 (t:List (Int×Int)):Nat->Rat
 |0=>1
 |k+1=>A5 t k*Rat.divInt (g0 t k).1 (g0 t k).2
def yH {n:Nat} {x:Int} (h: -9223372036854775808<=x/\x<=9223372036854775807):bK n (bX x)=true:=by
 rw [nC (a:=bX x) rfl];unfold gA;rw [ae];exact⟨ax h.1,ax h.2⟩
def ib (x:Int):au (bX x)=x:=if_pos rfl
def Vd {a b:Int} (ha:1<=a/\a<=400) (hb:1<=b/\b<=400):QR 1 (lT (bX a) (bX b)) (Rat.divInt a b):=by
 have:=(CX (n:=1) (a:=bX a) (b:=bX b) (yH (by omega)) (yH (by omega)) (by decide) (by rw [ib];omega)).qr (by rw [ib];omega);rwa [ib,ib]at this
def Nd {t:List (Int×Int)} (h:∀k,k<t.length->(1<=(g0 t k).1/\(g0 t k).1<=400)/\1<=(g0 t k).2/\(g0 t k).2<=400):∀k,k<=t.length->QR (k+1) (uG t k) (A5 t k)
 |0,_=>by
  have:=C2 (n:=1) (a:=bX 1) (yH (by decide));rw [ib]at this;exact this
 |k+1,hk=>by
  have ih:=Nd h k (by omega);have hp:=h k (by omega);exact ol ih (Vd hp.1 hp.2) (by omega) (by decide)
def alK (t:List (Int×Int)) (hl:t.length<=4) (h:∀k,k<t.length->(1<=(g0 t k).1/\(g0 t k).1<=400)/\1<=(g0 t k).2/\(g0 t k).2<=400):
  Holds prog false 64 [pl t] (cc (uG t t.length)):=by
 have hS:=alJ;refine bL (c:=yG) func64 rfl rfl fun w F=> ?_
 refine cC hS 3 (alF t) ?_;refine aP.loop (ι:={k:Nat//k<=t.length}) (id:=0) (b:=cat yG [1,1,0,1,0,0]) (rest:=(fl yG []).drop 4) (by kernel_rfl) (fun k=>sI t (uG t k.1) k.1) (fun k=>t.length-k.1) ⟨0,Nat.zero_le _⟩ (fun _=>rfl) ?_;rintro⟨k,hk⟩;by_cases hlt:k<t.length
 .have hp:=h k hlt;have q1:=(Nd h k hk).mono (show k+1<=20000 by omega);have aO:=(Vd hp.1 hp.2).mono (show 1<=20000 by decide);refine bl (s:=sI t (uG t k) k) hS (alG t (uG t k) k (by omega) hlt (wz.2 ⟨yH (by show-9223372036854775808<=(g0 t k).1/\(g0 t k).1<=9223372036854775807;omega),yH (by show-9223372036854775808<=(g0 t k).2/\(g0 t k).2<=9223372036854775807;omega),by show au (bX (g0 t k).2)≠0;rw [ib];omega⟩) (by rw [ae];exact⟨q1.ok,aO.ok⟩) (by omega)) ?_;exact⟨⟨k+1,hlt⟩,by simp;omega,rfl,rfl⟩
 .refine bl (s:=sI t (uG t k) k) hS (alH t _ k (by omega)) ?_;refine cw (cz ?_);obtain rfl:k=t.length:=by omega
  exact bP (s:=sI t _ t.length) hS (alI t _ _)
noncomputable def Nf:Code:=(Tryz.f61.body).getD .skip
def okTx (q:b5):Bool:=((List.isEmpty q.1.2&&gA q.1.1)&&(List.isEmpty q.2.2&&gA q.2.1))&&(decide ((cg q.1.1).size<=100)&&decide ((cg q.2.1).size<=100))
def txS (q:b5):ByteArray:=if hM q=true then cg q.1.1 else cg q.1.1++ByteArray.mk #[47]++cg q.2.1
end
def alL {n d:Int} (hd:1<=d):Rat.divInt (GR n d) (A1 n d)=Rat.divInt n d:=by
 have hg:0<Int.gcd n d:=Int.gcd_pos_of_ne_zero_right _ (by omega);have e1:=Int.ediv_mul_cancel (show(Int.gcd n d:Int)∣n from Int.gcd_dvd_left ..);have e2:=Int.ediv_mul_cancel (show(Int.gcd n d:Int)∣d from Int.gcd_dvd_right ..);unfold GR A1;have e:Rat.divInt n d=Rat.divInt (n/(Int.gcd n d:Int)*(Int.gcd n d:Int)) (d/(Int.gcd n d:Int)*(Int.gcd n d:Int)):=by rw [e1,e2]
 rw [e];exact(Rat.divInt_mul_right (show(Int.gcd n d:Int)≠0 by omega)).symm
def alM {n d:Int} (hd:1<=d):Int.gcd (GR n d) (A1 n d)=1:=Int.gcd_ediv_gcd_ediv_gcd (by have:=Int.gcd_pos_of_ne_zero_right n (show d≠0 by omega);omega)
def sa {p q:Int} (hq:1<=q) (h:Int.gcd p q=1):(Rat.divInt p q).num=p/\((Rat.divInt p q).den:Int)=q:=by
 have hd:0<(Rat.divInt p q).den:=(Rat.divInt p q).den_pos;have e:(Rat.divInt p q).num*q=p*((Rat.divInt p q).den:Int):=(Rat.divInt_eq_divInt_iff (by omega) (by omega)).1 (Rat.num_divInt_den _);have g:Int.gcd (Rat.divInt p q).num ((Rat.divInt p q).den:Int)=1:=(Rat.divInt p q).reduced;exact S3 (by omega) (by omega) g h e
def q2 {u:Nat} (h:u<10):Lib.decDigits u=[UInt8.ofNat (48+u)]:=by rw [Lib.decDigits,dif_pos h]
def lO {u:Nat} (h:¬u<10):Lib.decDigits u=Lib.decDigits (u/10)++[UInt8.ofNat (48+u%10)]:=by rw [Lib.decDigits,dif_neg h]
def Ve:∀(f:Nat) (n:Int) (s:List UInt8),0<=n->n<10^f->1<=s.length->cx f n 1 s=(if n=0 then []else Lib.decDigits n.toNat)++s
 |0,n,s,h0,h1,hs=>by
  have:n=0:=by simp at h1;omega
  subst this;rfl
 |f+1,n,s,h0,h1,hs=>by
  have q1:=e6 n (show(0:Int)<10 by decide);have aO:=eG n (show(10:Int)≠0 by decide);have bV:=Int.mul_ediv_add_emod n 10;rw [Int.pow_succ]at h1;unfold cx;split
  .rename_i hc;have hn:0<n:=by omega
   rw [Ve f (n/10) (oB n::s) (by omega) (by omega) (by simp),if_neg (show¬n=0 by omega)];unfold oB;by_cases h10:n<10
   .rw [if_pos (by omega),q2 (u:=n.toNat) (by omega),show n%10=n by omega];simp
   .rw [if_neg (by omega),lO (u:=n.toNat) (by omega),show(n/10).toNat=n.toNat/10 by omega,show(n%10).toNat=n.toNat%10 by omega];simp
  .rename_i hc;have:n=0:=by omega
   subst this;rfl
def Ds {n:Int} (h0:0<=n) (h1:n<100000000000000000000):cx 20 n 1 []=Lib.itoa n:=by
 have q1:=e6 n (show(0:Int)<10 by decide);have aO:=eG n (show(10:Int)≠0 by decide);have bV:=Int.mul_ediv_add_emod n 10;show cx (19+1) n 1 []=_;unfold cx;rw [if_pos (.inr (by simp)),Ve 19 (n/10) [oB n] (by omega) (by omega) (by simp)];unfold Lib.itoa oB;rw [if_neg (show¬n<0 by omega)];by_cases h10:n<10
 .rw [if_pos (by omega),q2 (u:=n.toNat) (by omega),show n%10=n by omega];simp
 .rw [if_neg (by omega),lO (u:=n.toNat) (by omega),show(n/10).toNat=n.toNat/10 by omega,show(n%10).toNat=n.toNat%10 by omega]
noncomputable section
noncomputable def uH:Code:=(f70.body).getD .skip
noncomputable def yI:bI:=aR [GM]
abbrev kE (n m:Int):ByteArray:=⟨(cx 20 n m []).toArray⟩
abbrev Ng (n:Bool) (w:List Int):fG:= .blk (.cells 97 [bv n,lv w] true false false)
def nL (n:Bool) (w:List Int) (s:ByteArray) (z:Int):bC:={n:=39,sl:=[(1, .ptr 64 0),(3,sv s),(4,iv z)],bF:=[(64,Ng n w)],next:=65}
abbrev Nh:List Nat:=[1,1,1,0,1,0,0]
def alN (n:Bool) (w:List Int) (h1:(w.length:Int)=0):
  bu yI (fl uH []) 3 39 [rv (n,w)] 3 f70 true (sv ⟨#[48]⟩):=
 wy [cW h1] 1
def alO (n:Bool) (w:List Int) (h1:¬(w.length:Int)=0) (h2:i6 ((w.length:Int)-1)) (h3:0<=(w.length:Int)-1) (h4:((w.length:Int)-1).toNat<w.length) (h5:(decide ((0:av.den (.int .i64))<=w.getD ((w.length:Int)-1).toNat 0)&&(decide (w.getD ((w.length:Int)-1).toNat 0<=(9223372036854775807:av.den (.int .i64)))&&decide (1<=(20:av.den (.int .i64)))))=true) (h6:i6 ((w.length:Int)-2)):
  cO yI (fl uH []) 5 39 [rv (n,w)] 2 .normal [(64,64,none)] (nL n w (kE (w.getD ((w.length:Int)-1).toNat 0) 1) ((w.length:Int)-2)):=
 wy [yn h1,yi h2,ah h3,ah h4,af h5,yi h6] 6527398017
def alP (n:Bool) (w:List Int) (s:ByteArray) (z:Int) (h1:z>=0) (h2:0<=z) (h3:z.toNat<w.length) (h4:(decide ((0:av.den (.int .i64))<=w.getD z.toNat 0)&&(decide (w.getD z.toNat 0<=(9223372036854775807:av.den (.int .i64)))&&decide (9<=(20:av.den (.int .i64)))))=true) (h5:s.size+(ByteArray.mk (List.toArray (cx 20 (w.getD z.toNat 0) 9 []))).size<=9223372036854775807) (h6:i6 (z-1)):
  bg yI (fl uH Nh) (nL n w s z) 3 .normal [(64,64,none)] (nL n w (s++kE (w.getD z.toNat 0) 9) (z-1)):=
 wy [ah h1,ah h2,ah h3,af h4,ah h5,yi h6] 6527398017
def alQ (n:Bool) (w:List Int) (s:ByteArray) (z:Int) (h1:¬z>=0):
  bg yI (fl uH Nh) (nL n w s z) 2 (.exit 0) [(64,64,none)] (nL n w s z):=
 wy [aA h1] 1
def alR (w:List Int) (s:ByteArray) (z:Int) (h1:(ByteArray.mk (#[(45:UInt8)])).size+s.size<=9223372036854775807):
  bH yI ((fl uH []).drop 6) (nL true w s z) 3 f70 true (sv (⟨#[45]⟩++s)):=
 wy [ah h1] 64
def Or (w:List Int) (s:ByteArray) (z:Int):
  bH yI ((fl uH []).drop 6) (nL false w s z) 2 f70 true (sv s):=
 wy [] 0
noncomputable def Ni:bp:={f:=70,ps:=[lW],rs:=[.str],fresh:=true,pre:=fun d=>okZ d.1,fn:=fun d=>(cg (vZ d.1),())}
def kF:Nat->Int->List UInt8
 |0,_=>[]
 |k+1,x=>kF k (x/10)++[oB x]
def ui:∀(k:Nat) (x:Int),(kF k x).length=k
 |0,_=>rfl
 |k+1,x=>by rw [kF,dU,ui k];rfl
def Vf:∀(k f:Nat) (x:Int) (s:List UInt8),k<=f->0<=x->x<10^k->cx f x ((s.length:Int)+k) s=kF k x++s
 |0,f,x,s,_,h0,h1=>by
  have:x=0:=by simp at h1;omega
  subst this;cases f with
  |zero=>rfl
  |succ f=>
   unfold cx;rw [if_neg (by omega)];rfl
 |k+1,f,x,s,hf,h0,h1=>by
  obtain⟨g,rfl⟩:∃g,f=g+1:=⟨f-1,by omega⟩;rw [Int.pow_succ]at h1;unfold cx;rw [if_pos (by omega)];have:=Vf k g (x/10) (oB x::s) (by omega) (by omega) (by omega);rw [List.length_cons,show(((s.length+1:Nat):Int)+(k:Int))=(s.length:Int)+((k+1:Nat):Int) by omega]at this;rw [this,kF,q5];rfl
def Nj:∀(k:Nat) (u:Nat) (x:Int),0<u->0<=x->x<10^k->Lib.decDigits (u*10^k+x.toNat)=Lib.decDigits u++kF k x
 |0,u,x,hu,h0,h1=>by
  have:x=0:=by simp at h1;omega
  subst this;simp [kF]
 |k+1,u,x,hu,h0,h1=>by
  rw [Int.pow_succ]at h1;have hp:0<10^k:=Nat.pow_pos (by decide);have h2:1*1<=u*10^k:=Nat.mul_le_mul hu hp;have e:u*10^(k+1)+x.toNat=(u*10^k+(x/10).toNat)*10+(x%10).toNat:=by
   rw [Nat.pow_succ,<-Nat.mul_assoc];omega
  have hm:(x%10).toNat<10:=by omega
  rw [e,lO (by omega),show((u*10^k+(x/10).toNat)*10+(x%10).toNat)/10=u*10^k+(x/10).toNat by omega,show((u*10^k+(x/10).toNat)*10+(x%10).toNat)%10=(x%10).toNat by omega,Nj k u (x/10) hu (by omega) (by omega),kF,q5];rfl
def alS:bD prog (bG yI):=cY (aX MG eA)
def Vg {x:Int} (h:0<=x/\x<1000000000):(kE x 9).data.toList=kF 9 x:=by
 have:=Vf 9 20 x [] (by decide) h.1 (by have:(10:Int)^9=1000000000:=rfl;omega);show cx 20 x 9 []=_;rw [List.append_nil]at this;exact this
def alT {x:Int} (h:0<=x/\x<1000000000):(kE x 1).data.toList=Lib.decDigits x.toNat:=by
 show cx 20 x 1 []=_;rw [Ds h.1 (by omega)];unfold Lib.itoa;rw [if_neg (by omega)]
def ww {s:ByteArray} {u:Nat} (h:s.data.toList=Lib.decDigits u):s=cg (u:Int):=iW (by rw [h,jH];exact(Dec.uw u).symm)
def Nk {w:List Int} (hw:aT 1000000000 w):(Lib.decDigits (ag w).toNat).length<=9*w.length+1:=by
 refine cX (Dec.L0 (9*w.length) _ ?_) (by omega);have h1:=fP (b:=1000000000) (by decide) hw;have h0:=gO hw;have e:(1000000000:Int)^w.length=((10^(9*w.length):Nat):Int):=by
  rw [Nat.pow_mul,Int.natCast_pow];rfl
 have h2:ag w<((10^(9*w.length):Nat):Int):=by rw [<-e];exact h1
 have h3:10^(9*w.length)<=10^(9*w.length+1):=Nat.pow_le_pow_right (by decide) (by omega);omega
def alU (n:Bool) (w:List Int) (h:okZ (n,w)=true):Holds prog true 70 [rv (n,w)] (sv (cg (bn n (ag w)))):=by
 obtain⟨h1,h2⟩:=fj.1 h;have h1:okA w=true:=h1;have h2:n=true->0<ag w:=h2;obtain⟨hd,ht,hl⟩:=fE.1 h1;have hS:=alS;refine bL (c:=uH) func70 rfl rfl fun w0 F=> ?_
 by_cases hz:w.length=0
 .have hw:w=[]:=List.eq_nil_of_length_eq_zero hz;subst hw;have hn:n=false:=by
   cases n with
   |false=>rfl
   |true=>exact absurd (h2 rfl) (by decide)
  subst hn;have e:cg (bn false (ag []))=⟨#[48]⟩:=by
   refine iW ?_;rw [jH];show Lib.itoa ((0:Nat):Int)=[48];rw [Dec.uw,q2 (by decide)];rfl
  rw [e];exact bx hS 3 (alN false [] (by simp))
 .obtain⟨m,hm⟩:∃m,w.length=m+1:=⟨w.length-1,by omega⟩;have Vh:=hd.get (by decide) m;have as6:=ht m hm;have i1:((w.length:Int)-1).toNat=m:=by omega
  have i2:((w.length:Int)-2)=(m:Int)-1:=by omega
  have key:=alO n w (by omega) (by omega) (by omega);rw [i1,i2]at key;refine cC hS 5 (key (by omega) (by rw [ax Vh.1,ax (show w.getD m 0<=9223372036854775807 by omega)];rfl) (by omega)) ?_;have hst:kE (w.getD m 0) 1=cg ((ag (w.drop m)).toNat:Int):=ww (by
   rw [alT Vh];congr 2;unfold ag;rw [ua (by omega),List.drop_eq_nil_of_le (by omega)];simp [vl])
  rw [hst];refine aP.loop (ι:={k:Nat//k<=m}) (id:=0) (b:=cat uH Nh) (rest:=(fl uH []).drop 6) (by kernel_rfl) (fun k=>nL n w (cg ((ag (w.drop k.1)).toNat:Int)) ((k.1:Int)-1)) (fun k=>k.1) ⟨m,aG _⟩ (fun _=>rfl) ?_;rintro⟨k,hk⟩;have hlen:(cg ((ag (w.drop k)).toNat:Int)).size<=9*w.length+1:=by
   have h3:=Nk (hd.drop k);rw [mW]at h3;rw [uE,jH,Dec.uw];omega
  cases k with
  |zero=>
   refine bl (s:=nL n w (cg ((ag (w.drop 0)).toNat:Int)) (((0:Nat):Int)-1)) hS (alQ n w _ _ (by omega)) ?_;refine cw (cz ?_);have h0:=gO hd;rw [List.drop_zero,Int.toNat_of_nonneg h0]at hlen ⊢;cases n with
   |false=>exact bP (s:=nL false w (cg (ag w)) (((0:Nat):Int)-1)) hS (Or w _ _)
   |true=>
    have hp:=h2 rfl;have e:(⟨#[45]⟩:ByteArray)++cg (ag w)=cg (bn true (ag w)):=by
     refine iW ?_;rw [dp,jH,jH,itoa_neg (show bn true (ag w)<0 by show-ag w<0;omega),wC (by omega)];show _=45::Lib.decDigits (-ag w).natAbs;rw [Int.natAbs_neg];rfl
    rw [<-e];exact bP (s:=nL true w (cg (ag w)) (((0:Nat):Int)-1)) hS (alR w _ _ (by show 1+_<=_;omega))
  |succ j=>
   have hj:=hd.get (by decide) j;have e1:(((j+1:Nat):Int)-1)=(j:Int):=by omega
   have e2:(j:Int).toNat=j:=by omega
   have G3:(kE (w.getD j 0) 9).size=9:=by rw [uE,Vg hj,ui]
   have key:=alP n w (cg ((ag (w.drop (j+1))).toNat:Int)) (j:Int) (by omega) (by omega);rw [e2]at key;have hpos:0<ag (w.drop (j+1)):=by
    have h3:=rP 1000000000 (w.drop (j+1)) (m-(j+1)) (by rw [mW];omega);have h4:=gO ((hd.drop (j+1)).take (m-(j+1)));rw [List.drop_drop,show j+1+(m-(j+1))=m by omega]at h3;have h5:vl 1000000000 (w.drop m)=w.getD m 0:=by
     rw [ua (by omega),List.drop_eq_nil_of_le (by omega)];simp [vl]
    rw [h5]at h3;have h6:=Int.mul_pos (dK (b:=1000000000) (by decide) (m-(j+1))) (show 0<w.getD m 0 by omega);unfold ag at*;omega
   have alV:cg ((ag (w.drop (j+1))).toNat:Int)++kE (w.getD j 0) 9=cg ((ag (w.drop j)).toNat:Int):=ww (by
    rw [dp,jH,Dec.uw,Vg hj,<-Nj 9 _ _ (by omega) hj.1 (by have:(10:Int)^9=1000000000:=rfl;omega)];congr 1;have h3:ag (w.drop j)=w.getD j 0+1000000000*ag (w.drop (j+1)):=ua (by omega);have h4:(10:Nat)^9=1000000000:=rfl;rw [h3,h4];omega)
   show bd _ _ _ _ _ _ (nL n w (cg ((ag (w.drop (j+1))).toNat:Int)) (((j+1:Nat):Int)-1)).T (nL n w (cg ((ag (w.drop (j+1))).toNat:Int)) (((j+1:Nat):Int)-1)).H _;rw [e1];refine bl (s:=nL n w (cg ((ag (w.drop (j+1))).toNat:Int)) (j:Int)) hS (key (by omega) (by rw [ax hj.1,ax (show w.getD j 0<=9223372036854775807 by omega)];rfl) (by show _+(kE (w.getD j 0) 9).size<=_;omega) (by omega)) ?_;rw [alV];exact⟨⟨j,by omega⟩,e8 _,rfl,rfl⟩
def Vi:Ni.Ok prog:=fun⟨⟨n,w⟩,_⟩ h=>alU n w h
def Nl:bD prog (bG nH):=cY (aX ahp (aX FB (aX SF (aX ahB (aX ahC eA)))))
def Vj:∀c:Nat,Lib.repeatL [48] c=List.replicate c 48
 |0=>rfl
 |c+1=>by rw [Lib.repeatL,Vj c];rfl
def wx:∀k:Nat,kF k 0=List.replicate k 48
 |0=>rfl
 |k+1=>by
  rw [kF,show(0:Int)/10=0 from rfl,wx k,List.replicate_succ'];rfl
def Vk:∀(k:Nat) (x:Int),0<=x->x<10^(k+1)->kF (k+1) x=List.replicate (k+1-(Lib.decDigits x.toNat).length) 48++Lib.decDigits x.toNat
 |k,x,h0,h1=>by
  by_cases hx:x<10
  .rw [kF,show x/10=0 by omega,wx,q2 (by omega)];show _++[oB x]=List.replicate (k+1-1) 48++_;rw [Nat.add_sub_cancel];unfold oB;rw [show x%10=x by omega]
  .cases k with
   |zero=>simp at h1;omega
   |succ k=>
    rw [Int.pow_succ]at h1;have e:(10:Int)^(k+1)=10^k*10:=Int.pow_succ ..;rw [kF,Vk k (x/10) (by omega) (by omega),lO (u:=x.toNat) (by omega),dU,show(x/10).toNat=x.toNat/10 by omega,q5];show _=List.replicate (k+1+1-(_+1)) 48++_;rw [Nat.add_sub_add_right];unfold oB;rw [show(x%10).toNat=x.toNat%10 by omega]
def mT (m:Int):List UInt8:=if m=0 then []else Lib.decDigits m.toNat
def alW {m:Int} (h:0<m):mT m=mT (m/1000000000000000000)++(if m/1000000000000000000=0 then Lib.decDigits (m%1000000000000000000).toNat else kF 18 (m%1000000000000000000)):=by
 unfold mT;rw [if_neg (by omega)];by_cases hq:m/1000000000000000000=0
 .rw [if_pos hq,if_pos hq,List.nil_append,show m%1000000000000000000=m by omega]
 .rw [if_neg hq,if_neg hq,<-Nj 18 _ _ (by omega) (by omega) (by have:(10:Int)^18=1000000000000000000:=rfl;omega)];congr 1;have:(10:Nat)^18=1000000000000000000:=rfl;omega
def fk (ps:List ByteArray):List UInt8:=(ps.reverse.map ak).flatten
def alX (ps:List ByteArray) (s:ByteArray):fk (ps++[s])=ak s++fk ps:=by unfold fk;simp
def mn (ps:List ByteArray) (s:ByteArray):fk (s::ps)=fk ps++ak s:=by unfold fk;simp
def Nn:∀{ps:List ByteArray},(∀s∈ps,1<=(ak s).length)->ps.length<=(fk ps).length
 |[],_=>Nat.zero_le _
 |s::ps,h=>by
  have h1:=Nn (ps:=ps) fun x hx=>h x (j8 _ hx)
  have h2:=h s kK;rw [mn,dU,List.length_cons];omega
def sb (u:Nat):1<=(Lib.decDigits u).length:=by
 by_cases h:u<10
 .rw [q2 h];exact aG _
 .rw [lO h,dU];exact Nat.le_add_left _ _
def Vl {n:Nat} {m:Int} (h0:0<=m) (h:m<18446744073709551616^n):(Lib.decDigits m.toNat).length<=20*n+1:=by
 refine Dec.L0 (20*n) _ ?_;have e:(18446744073709551616:Nat)^n<=10^(20*n):=by rw [Nat.pow_mul];exact Nat.pow_le_pow_left (by decide) _
 have h2:((18446744073709551616^n:Nat):Int)=18446744073709551616^n:=by rw [Int.natCast_pow];rfl
 have h3:10^(20*n)<=10^(20*n+1):=Nat.pow_le_pow_right (by decide) (by omega);omega
def Vm (s:ByteArray):oM (dN s)=s:=by
 refine iW ?_;unfold oM dN;show((s.data.toList.map _).map _)=_;rw [List.map_map];refine(List.map_congr_left fun x _=> ?_).trans (List.map_id _);show UInt8.ofNat ((x.toNat:Int).toNat)=x;rw [Int.toNat_natCast];exact UInt8.ofNat_toNat
def alY (a b:ByteArray):dN (a++b)=dN a++dN b:=by
 unfold dN;rw [dp,List.map_append]
def Dt (a:ByteArray):(dN a).length=(ak a).length:=by unfold dN;rw [w4]
def alZ (s:ByteArray):Ig (dN s)=true:=ax (by rw [Vm])
def ul (neg:Bool):List UInt8:=if neg then [45]else []
def Vn {a:aW} {n:Nat} (h:bK n a=true):ak (cg (au a))=ul (bW a)++Lib.decDigits (au a).natAbs:=by
 obtain⟨_,_,_,h4,_⟩:=jD h;show(cg (au a)).data.toList=_;rw [jH];unfold ul;cases hn:bW a with
 |true=>
  rw [itoa_neg (h4.1 hn)];rfl
 |false=>
  have:¬au a<0:=fun h=>by rw [h4.2 h]at hn;cases hn
  rw [wC (by omega)];show _=[]++_;rw [List.nil_append]
def Vo:∀(a b:List ByteArray),fk (a++b)=fk b++fk a
 |[],b=>by simp [fk]
 |s::a,b=>by rw [List.cons_append,mn,Vo a b,mn,q5]
def Vp (ps:List ByteArray) (k:Nat):(fk (ps.drop k)).length<=(fk ps).length:=by
 have h:=Vo (ps.take k) (ps.drop k);rw [List.take_append_drop]at h;rw [h,dU];omega
def al0 {ps:List ByteArray} {j:Nat} (h:j<ps.length):fk (ps.drop j)=fk (ps.drop (j+1))++ak (ps.getD j ByteArray.empty):=by
 rw [List.drop_eq_getElem_cons h,mn,ao,mV h];rfl
def Np {α:Type} (l:List α) (x:α):aZ.full=bJ (l++[x]).length:=by simp [bJ]
def Vq {n:Nat} (h:1<=n):aZ.full=bJ n:=(X2 h).symm
def Vr {r:Int} (h0:0<=r) (h1:r<1000000000000000000):(Lib.decDigits r.toNat).length<=18:=Dec.ahw _ (by omega)
def Nq (r:Int):ak (eh r)=Lib.decDigits r.toNat:=by unfold eh;simp
def Vs (r:Int):(eh r).size=(Lib.decDigits r.toNat).length:=by rw [c8,Nq]
def Nr (c:Int):ak (fa (ByteArray.mk #[48]) c)=List.replicate c.toNat 48:=by
 unfold fa;show(Lib.repeatL [48] c.toNat).toArray.toList=_;rw [Vj]
def al1 {r:Int} (h0:0<=r) (h1:r<1000000000000000000):ak (fa (ByteArray.mk #[48]) (18-((eh r).size:Int))++eh r)=kF 18 r:=by
 have hl:=Vr h0 h1;unfold ak;rw [dp];show ak _++ak _=_;rw [Nr,Nq,Vs,Vk 17 r h0 (by have:(10:Int)^18=1000000000000000000:=rfl;omega)];congr 2;omega
def al2:ak (fa (ByteArray.mk #[48]) 17++ByteArray.mk #[48])=kF 18 0:=by
 unfold ak;rw [dp];show ak _++ak _=_;rw [Nr];rfl
def al3 {m:Int} (h0:0<=m) (h1:m<18446744073709551616^10000):
  pI (cM 18446744073709551616 m) mw=true/\eT (cM 18446744073709551616 m) mw=cM 18446744073709551616 (m/1000000000000000000)/\cI (cM 18446744073709551616 m) mw=cM 18446744073709551616 (m%1000000000000000000):=by
 have h3:=(qD (b:=18446744073709551616) (by decide) h0).2.2;have e1:aj (cM 18446744073709551616 m)=m:=h3;have e2:aj mw=1000000000000000000:=Ae _;have hl:=iS (b:=18446744073709551616) (by decide) h0 h1;have hB:=tz h0;refine⟨?_,by unfold eT;rw [e1,e2],by unfold cI;rw [e1,e2]⟩;unfold pI mO;rw [hB,show(gL mw&&jC mw)=true by rfl,ax (show(cM 18446744073709551616 m).length<=1000000 by omega),ax (show(cM 18446744073709551616 m).length<=300000 by omega)];rfl
def al4 {r:Int} (h0:0<r) (h1:r<1000000000000000000):cM 18446744073709551616 r=[r]:=(qE (by decide) (KI ⟨by omega,by omega⟩) (RV (by omega)) (Ae r)).symm
def sc {l:List Int} (h:l≠[]):(l.length:Int)>0:=by
 cases l with
 |nil=>exact absurd rfl h
 |cons a b=>rw [List.length_cons];omega
def G4 (N:Int) (x:Int×List ByteArray):Prop:=0<=x.1/\x.1<=N/\mT N=mT x.1++fk x.2/\∀s∈x.2,1<=(ak s).length
def al5 {N:Int} {x:Int×List ByteArray} (hN:0<N) (hb:N<18446744073709551616^10000) (h:G4 N x):x.2.length<=(fk x.2).length/\(fk x.2).length<=200001:=by
 obtain⟨_,_,h3,h4⟩:=h;refine⟨Nn h4, ?_⟩;have h5:=Vl (cm hN) hb;have h6:=congrArg List.length h3;unfold mT at h6;rw [if_neg (by omega),dU]at h6;omega
def Ns {N q:Int} {m:Int} {ps:List ByteArray} {s:ByteArray} (h:G4 N (m,ps)) (hm:0<m) (hq:q=m/1000000000000000000)
  (hs:ak s=if q=0 then Lib.decDigits (m%1000000000000000000).toNat else kF 18 (m%1000000000000000000)):G4 N (q,ps++[s])/\q.toNat<m.toNat:=by
 obtain⟨h1,h2,h3,h4⟩:=h;have h2:m<=N:=h2;have h3:mT N=mT m++fk ps:=h3;refine⟨⟨by show 0<=q;omega,by show q<=N;omega, ?_,fun x hx=> ?_⟩,by omega⟩
 .show mT N=mT q++fk (ps++[s]);rw [h3,alW hm,alX,hs,hq,q5]
 .rcases List.mem_append.1 hx with hx|hx
  .exact h4 x hx
  .rw [List.mem_singleton.1 hx,hs];split
   .exact sb _
   .rw [ui];decide
def Vt (neg:Bool) (ps:List ByteArray) (x:Bool×Nat×ByteArray):Prop:=x.2.1<=ps.length/\ak x.2.2=ul neg++fk (ps.drop x.2.1)/\(x.1=false->neg=false/\x.2.1=ps.length)
def Vu {neg:Bool} {ps:List ByteArray} {v:ByteArray} (hv:ak v=ul neg++fk ps) (hl:(fk ps).length<=200001) (hlp:1<=ps.length) (hp:∀s∈ps,1<=(ak s).length) (w:World) (F:Sv.Env) (b0:Bool) (s0:ByteArray) (h0:Vt neg ps (b0,ps.length,s0)):
  aP prog w F 69 ((fl jI []).drop 11) (cond b0 (mQ ps (dN s0) ((ps.length:Int)-1)) (wE ps ((ps.length:Int)-1))).T (cond b0 (mQ ps (dN s0) ((ps.length:Int)-1)) (wE ps ((ps.length:Int)-1))).H (fy prog true f127 (sv v)):=by
 have hS:=Nl;have as7:=Nn hp;refine aP.loop (ι:={x:Bool×Nat×ByteArray//Vt neg ps x}) (id:=2) (b:=cat jI Gl) (rest:=(fl jI []).drop 12) (by kernel_rfl) (fun x=>cond x.1.1 (mQ ps (dN x.1.2.2) ((x.1.2.1:Int)-1)) (wE ps ((x.1.2.1:Int)-1))) (fun x=>x.1.2.1) ⟨(b0,ps.length,s0),h0⟩ (fun x=>by obtain⟨⟨b,_⟩,_⟩:=x;cases b<;>rfl) ?_;rintro⟨⟨b,k,s⟩,hk,hs,hb⟩;have hk:k<=ps.length:=hk;have hs:ak s=ul neg++fk (ps.drop k):=hs;have A6:(ul neg).length<=1:=by cases neg<;>decide
 have nj:(dN s).length<=200002:=by
  have:=Vp ps k;rw [Dt,hs,dU];omega
 cases k with
 |zero=>
  cases b with
  |false=>have:=(hb rfl).2;exact absurd (show 0=ps.length from this) (by omega)
  |true=>
   refine bl (s:=mQ ps (dN s) (((0:Nat):Int)-1)) hS (ahZ ps (dN s) _ (by omega)) ?_;refine cw (cz ?_);obtain rfl:s=v:=iW (by show ak s=ak v;rw [hs,hv,List.drop_zero]);have hs1:1<=(dN s).length:=by rw [Dt,hs,List.drop_zero,dU];omega
   have key:=ah0 ps (dN s) (((0:Nat):Int)-1) hs1 (by omega) (by omega) (by rw [dI];exact ap (alZ s)) (by rw [dI]);rw [Vm]at key;exact bP (s:=mQ ps (dN s) (((0:Nat):Int)-1)) hS key
 |succ j=>
  have G5:(((j+1:Nat):Int)-1)=(j:Int):=by omega
  have et:(j:Int).toNat=j:=by omega
  have hpc:=hp (ps.getD j ByteArray.empty) (by rw [ao,mV (by omega)];exact List.getElem_mem _);have hsz:(ps.getD j ByteArray.empty).size=(ak (ps.getD j ByteArray.empty)).length:=c8 _;have hnx:=al0 (ps:=ps) (j:=j) (by omega);have gp:(fk (ps.drop j)).length<=200001:=by have:=Vp ps j;omega
  rw [hnx,dU]at gp;have hbz:Nat.beq (ps.getD j ByteArray.empty).size 0=false:=by
   cases hq:Nat.beq (ps.getD j ByteArray.empty).size 0 with
   |false=>rfl
   |true=>have:=ac hq;omega
  cases b with
  |false=>
   obtain⟨rfl,hj⟩:=hb rfl;have hj:j+1=ps.length:=hj;have key:=ahX ps (j:Int);rw [et]at key;show bd _ _ _ _ _ _ (wE ps (((j+1:Nat):Int)-1)).T (wE ps (((j+1:Nat):Int)-1)).H _;rw [G5];refine bl (s:=wE ps (j:Int)) hS (key (by omega) (by omega) (by omega) hbz (by show 0+_<=_;omega) (by omega) (by show 0+_=(dN _).length;rw [Dt];omega) (Vq (show 1<=(dN _).length by rw [Dt];omega)) rfl) ?_;refine⟨⟨(true,j,ps.getD j ByteArray.empty),by show j<=_;omega, ?_,fun h=>by cases h⟩,e8 _,rfl,rfl⟩;show ak (ps.getD j ByteArray.empty)=[]++fk (ps.drop j);rw [hnx,hj,List.drop_length];rfl
  |true=>
   have key:=ahY ps (dN s) (j:Int);rw [et,<-alY]at key;show bd _ _ _ _ _ _ (mQ ps (dN s) (((j+1:Nat):Int)-1)).T (mQ ps (dN s) (((j+1:Nat):Int)-1)).H _;rw [G5];have hle:(dN s).length+(ps.getD j ByteArray.empty).size=(dN s++dN (ps.getD j ByteArray.empty)).length:=by rw [dU,Dt (ps.getD j ByteArray.empty),hsz]
   refine bl (s:=mQ ps (dN s) (j:Int)) hS (key (by omega) (by omega) (by omega) hbz (by omega) (by omega) hle (Vq (show 1<=(dN s++dN (ps.getD j ByteArray.empty)).length by rw [<-hle];omega))) ?_;refine⟨⟨(true,j,s++ps.getD j ByteArray.empty),by show j<=_;omega, ?_,fun h=>by cases h⟩,e8 _,rfl,rfl⟩;show(s++ps.getD j ByteArray.empty).data.toList=_++fk (ps.drop j);rw [hnx,dp];show ak s++_=_;rw [hs,q5]
def G6 {l:List Code} (h:l.isEmpty=false) (e:l=[]):False:=by rw [e]at h;cases h
def al6 (a:aW) (h:bK 10000 a=true) (hw:a.2≠[]):Holds prog true 127 [aJ a] (sv (cg (au a))):=by
 have hS:=Nl;obtain⟨p1,p2,p3,dY,kg⟩:=jD h;obtain⟨_,_,_,b4,_⟩:=(pq hw).1 h;have hB:=d8 h (by decide);obtain⟨N,hN⟩:∃N:Int,N=((au a).natAbs:Int):=⟨_,rfl⟩;have yJ:0<N:=by
  unfold ay at p3;rw [if_neg hw]at p3;omega
 have hb:N<18446744073709551616^10000:=by rw [hN];exact hB
 have LV:ay a=cM 18446744073709551616 N:=qE (by decide) p1 p2 (by rw [hN];exact p3);have oq:=Vn h;have hdd:Lib.decDigits (au a).natAbs=mT N:=by
  unfold mT;rw [if_neg (by omega)];congr 1;omega
 rw [hdd]at oq;have G7:aH a=true:=iz (by decide) h;have al7:List.isEmpty a.2=false:=by
  cases hq:List.isEmpty a.2 with
  |false=>rfl
  |true=>exact absurd (List.isEmpty_iff.1 hq) hw
 refine bL (c:=jI) func127 rfl rfl fun w F=> ?_
 refine cC hS 6 (ahN a al7 G7 rfl) ?_;rw [LV];generalize bW a=neg at oq ⊢;refine aP.vT (G6 (by kernel_rfl)) (i:=64) (s:=5) (e2:=167) (t:=aD) (xs:=mw) (cap:=bJ 1) (by kernel_rfl) (by kernel_rfl) ?_;refine aP.oa (G6 (by kernel_rfl)) (σ:=[(64,65,none)]) (s:=k6 neg (cM 18446744073709551616 N) []) (ahO neg _) ?_;refine aP.loop (ι:={x:Int×List ByteArray//G4 N x}) (id:=0) (b:=cat jI C3) (rest:=(fl jI []).drop 7) (by kernel_rfl) (fun x=>k6 neg (cM 18446744073709551616 x.1.1) x.1.2) (fun x=>x.1.1.toNat)
  ⟨(N,[]),cm yJ,Int.le_refl _,(List.append_nil _).symm,fun s hs=>absurd hs j7⟩ (fun _=>rfl) ?_
 rintro⟨⟨m,ps⟩,hx⟩;have hl:=al5 yJ hb hx;have hl:ps.length<=(fk ps).length/\(fk ps).length<=200001:=hl;have hm0:0<=m:=hx.1;have as8:m<=N:=hx.2.1;by_cases hm:m=0
 .subst hm;have e0:cM 18446744073709551616 0=[]:=tw (by decide);refine bl (s:=k6 neg (cM 18446744073709551616 0) ps) hS (ahS neg _ ps (by rw [e0];decide)) ?_;refine cw (cz ?_);have Nt:fk ps=mT N:=by have:=hx.2.2.1;exact this.symm
  refine aP.vT (G6 (by kernel_rfl)) (i:=64) (s:=6) (e2:=9) (t:= .str) (xs:=ps) (cap:=bJ ps.length) (by kernel_rfl) (by kernel_rfl) ?_;refine aP.oa (G6 (by kernel_rfl)) (σ:=[]) (s:=Gm neg ps) (ahT neg _ ps) ?_;refine dZ (s:=Gm neg ps) hS 1 (ahU neg ps) ?_;have hlp:1<=ps.length:=by
   cases ps with
   |nil=>
    have:mT N=[]:=Nt.symm;unfold mT at this;rw [if_neg (by omega)]at this;have h1:=sb N.toNat;rw [this]at h1;cases h1
   |cons=>simp
  cases neg with
  |true=>
   refine dZ (s:=C5 true ps) hS 3 (ahV ps (by decide) (by omega) rfl rfl rfl) ?_;exact Vu (neg:=true) (ps:=ps) (by rw [oq,Nt]) hl.2 hlp hx.2.2.2 w F true ⟨#[45]⟩ ⟨aG _,by show _=[45]++fk (ps.drop ps.length);rw [List.drop_length];rfl,fun h=>by cases h⟩
  |false=>
   refine dZ (s:=C5 false ps) hS 3 (ahW ps (by omega)) ?_;exact Vu (neg:=false) (ps:=ps) (by rw [oq,Nt]) hl.2 hlp hx.2.2.2 w F false ⟨#[]⟩ ⟨aG _,by show _=[]++fk (ps.drop ps.length);rw [List.drop_length];rfl,fun _=>⟨rfl,rfl⟩⟩
 .obtain⟨g1,g2,g3⟩:=al3 hm0 (show m<18446744073709551616^10000 by omega);have Nu:=sc (Af (b:=18446744073709551616) (by decide) (show 0<m by omega));have hz:∀{x:Int},x=0->¬((cM 18446744073709551616 x).length:Int)>0:=fun h=>by rw [h,tw (by decide)];decide
  have hp1:ps.length+1<=1000000:=by omega
  by_cases hr:m%1000000000000000000=0
  .have hq:m/1000000000000000000≠0:=by omega
   have key:=ahR neg (cM 18446744073709551616 m) ps Nu g1;rw [g2,g3]at key;obtain⟨h1,h2⟩:=Ns (s:=fa (ByteArray.mk #[48]) 17++ByteArray.mk #[48]) hx (by omega) rfl (by rw [if_neg hq,hr];exact al2);refine bl (s:=k6 neg (cM 18446744073709551616 m) ps) hS (key (hz hr) (sc (Af (by decide) (by omega))) hp1 (by rw [dU];rfl) (Np _ _) rfl) ?_;exact⟨⟨(m/1000000000000000000,ps++[fa (ByteArray.mk #[48]) 17++ByteArray.mk #[48]]),h1⟩,h2,rfl,rfl⟩
  .have e1:=al4 (r:=m%1000000000000000000) (by omega) (by omega);have hL:=Vr (r:=m%1000000000000000000) (by omega) (by omega);have nB:=Vs (m%1000000000000000000);have hrl:(((cM 18446744073709551616 (m%1000000000000000000)).length:Nat):Int)>0:=sc (Af (by decide) (by omega));have e2:List.getD [m%1000000000000000000] (Int.toNat 0) 0=m%1000000000000000000:=rfl;have e3:List.getD [m%1000000000000000000] 0 0=m%1000000000000000000:=rfl;have Vv:sy (m%1000000000000000000) 10=true:=by
    unfold sy;rw [pF.2 (by omega)];rfl
   by_cases hq:m/1000000000000000000=0
   .have key:=ahQ neg (cM 18446744073709551616 m) ps Nu g1;rw [g2,g3]at key;rw [e1]at hrl key;rw [e2,e3]at key;obtain⟨h1,h2⟩:=Ns (s:=eh (m%1000000000000000000)) hx (by omega) rfl (by rw [if_pos hq];exact Nq _);refine bl (s:=k6 neg (cM 18446744073709551616 m) ps) hS (key hrl (show 0<1 by decide) Vv (hz hq) hp1 (by rw [dU];rfl) (Np _ _) rfl) ?_;exact⟨⟨(m/1000000000000000000,ps++[eh (m%1000000000000000000)]),h1⟩,h2,rfl,rfl⟩
   .have key:=ahP neg (cM 18446744073709551616 m) ps Nu g1;rw [g2,g3]at key;rw [e1]at hrl key;rw [e2,e3]at key;obtain⟨h1,h2⟩:=Ns (s:=fa (ByteArray.mk #[48]) (18-((eh (m%1000000000000000000)).size:Int))++eh (m%1000000000000000000)) hx (by omega) rfl (by rw [if_neg hq];exact al1 (by omega) (by omega));have al8:wp (ByteArray.mk #[48]) (18-((eh (m%1000000000000000000)).size:Int))=true:=by
     unfold wp;rw [ax (show(ByteArray.mk #[48]).size<=1000000 by decide),ax (show(0:Int)<=18-((eh (m%1000000000000000000)).size:Int) by omega),ax (show(18:Int)-((eh (m%1000000000000000000)).size:Int)<=1000000 by omega)];rfl
    have as9:(fa (ByteArray.mk #[48]) (18-((eh (m%1000000000000000000)).size:Int))).size<=18:=by
     rw [c8,Nr,List.length_replicate];omega
    refine bl (s:=k6 neg (cM 18446744073709551616 m) ps) hS (key hrl (show 0<1 by decide) Vv (sc (Af (by decide) (by omega))) (by omega) al8 (by omega) hp1 (by rw [dU];rfl) (Np _ _) rfl) ?_;exact⟨⟨(m/1000000000000000000,ps++[fa (ByteArray.mk #[48]) (18-((eh (m%1000000000000000000)).size:Int))++eh (m%1000000000000000000)]),h1⟩,h2,rfl,rfl⟩
noncomputable def l5 (a:aW):ByteArray:=cg (au a)
noncomputable def Vw:bp:={f:=127,ps:=[dR],rs:=[.str],fresh:=true,pre:=fun d=>bK 10000 d.1,fn:=fun d=>(l5 d.1,())}
def al9:Vw.Ok prog:=fun⟨a,_⟩ h=>by
 have h:bK 10000 a=true:=h;show Holds prog true 127 [aJ a] (sv (l5 a));unfold l5;by_cases hw:a.2=[]
 .have h2:=h;rw [nC hw]at h2;rw [lN hw];refine bL (c:=jI) func127 rfl rfl fun w F=> ?_
  exact bx Nl 4 (ahM a (List.isEmpty_iff.2 hw) h2)
 .exact al6 a h hw
abbrev Nv (l:List Int):List Value:=l.map (Value.int .i64)
inductive Vx|unit|row|int
structure Vy where
 f:FuncId
 e:TypeId
 k:Vx
 nl:Bool
 pre:List Int->Nat->List Int->Bool
 out:List Int->Nat->List Int->List Int
 ln:List Int->Nat->List Int->Nat
 val:List Int->Nat->List Int->Int
def ama (k:Vx) (g n kc:Nat) (v:Int):Value:=match k with | .unit=> .tuple #[]| .row=> .slice (some ⟨g,0,none⟩) n kc| .int=> .int .i64 v
def Vy.Ok (P:Program) (c:Vy):Prop:=(c.nl=true->∀(p:Option Addr) (cap:Nat) (w:World),Calls P c.f #[.slice p 0 cap] w fun e w'=>e= .returned (.tuple #[])/\w'=w)/\∀(xs:List Int) (len:Nat) (us:List Int),c.pre xs len us=true->1<=len->len<=xs.length->(c.out xs len us).length=xs.length/\c.ln xs len us<=len/\
 ∀(w:World) (g kc:Nat) (cur:Array Value),w.heap[g]? =some (.cells cur c.e (0,0))->cur.toList.take xs.length=Nv xs->len<=kc->
  Calls P c.f (Value.slice (some ⟨g,0,none⟩) len kc::Nv us).toArray w fun e w'=>e= .returned (ama c.k g (c.ln xs len us) kc (c.val xs len us))/\w.grownBy w' (some g)/\
   ∃cur',w'.heap[g]? =some (.cells cur' c.e (0,0))/\cur'.size=cur.size/\cur'.toList.take xs.length=Nv (c.out xs len us)
--{
--}
def kG (s:List (Int×Int)) (k:Nat):bC:={n:=36,sl:=[(0,pl s),(3,iv k)],bF:=[],next:=64}
def amb (s:List (Int×Int)) (h1:(s.length:Int)>4):
  bu (aR []) (fl pP []) 3 36 [pl s] 3 f19 true (iv 5):=
 wy [ah h1] 1
def amc (s:List (Int×Int)) (h1:¬(s.length:Int)>4):
  cO (aR []) (fl pP []) 4 36 [pl s] 2 .normal [] (kG s 0):=
 wy [aA h1] 1
def amd (s:List (Int×Int)) (k:Nat) (h1:(k:Int)<(s.length:Int)) (h2:k<s.length) (h3:(s.getD k (0,0)).1<1):
  bH (aR []) (fl pP [1,1,0,1,0,0]) (kG s k) 28945 f19 true (iv 3):=
 wy [ah h1,ah h2,af (aS (ax h3)),ah h3] 278150258689
def ame (s:List (Int×Int)) (k:Nat) (h1:(k:Int)<(s.length:Int)) (h2:k<s.length) (h3:¬(s.getD k (0,0)).1<1) (h4:(s.getD k (0,0)).1>400):
  bH (aR []) (fl pP [1,1,0,1,0,0]) (kG s k) 28943 f19 true (iv 3):=
 wy [ah h1,ah h2,af (aS (ab h3)),aA h3,af (aS (ax h4)),ah h4] 7009030663454859265
def amf (s:List (Int×Int)) (k:Nat) (h1:(k:Int)<(s.length:Int)) (h2:k<s.length) (h3:¬(s.getD k (0,0)).1<1) (h4:¬(s.getD k (0,0)).1>400) (h5:(s.getD k (0,0)).2<1):
  bH (aR []) (fl pP [1,1,0,1,0,0]) (kG s k) 28911 f19 true (iv 3):=
 wy [ah h1,ah h2,af (aS (ab h3)),aA h3,af (aS (ab h4)),aA h4,af (aS (ax h5)),ah h5] 156891705178242950256926721
def amg (s:List (Int×Int)) (k:Nat) (h1:(k:Int)<(s.length:Int)) (h2:k<s.length) (h3:¬(s.getD k (0,0)).1<1) (h4:¬(s.getD k (0,0)).1>400) (h5:¬(s.getD k (0,0)).2<1) (h6:(s.getD k (0,0)).2>400):
  bH (aR []) (fl pP [1,1,0,1,0,0]) (kG s k) 28399 f19 true (iv 3):=
 wy [ah h1,ah h2,af (aS (ab h3)),aA h3,af (aS (ab h4)),aA h4,af (aS (ab h5)),aA h5,ah h6] 11298352058746665424349044737
def amh (s:List (Int×Int)) (k:Nat) (h1:(k:Int)<(s.length:Int)) (h2:k<s.length) (h3:¬(s.getD k (0,0)).1<1) (h4:¬(s.getD k (0,0)).1>400) (h5:¬(s.getD k (0,0)).2<1) (h6:¬(s.getD k (0,0)).2>400) (h7:i6 ((k:Int)+1)):
  bg (aR []) (fl pP [1,1,0,1,0,0]) (kG s k) 20207 .normal [] (kG s (k+1)):=
 wy [ah h1,ah h2,af (aS (ab h3)),aA h3,af (aS (ab h4)),aA h4,af (aS (ab h5)),aA h5,aA h6,yi h7] 803579977201390041359788548097
def ami (s:List (Int×Int)) (k:Nat) (h1:¬(k:Int)<(s.length:Int)):
  bg (aR []) (fl pP [1,1,0,1,0,0]) (kG s k) 2 (.exit 0) [] (kG s k):=
 wy [aA h1] 1
def amj (s:List (Int×Int)) (k:Nat):
  bH (aR []) ((fl pP []).drop 5) (kG s k) 1 f19 true (iv 0):=
 wy [] 0
def amk (s:List (Int×Int)):Holds prog true 19 [pl s] (iv (dH s)):=by
 have hS:=bc;refine bL (c:=pP) func19 rfl rfl fun w F=> ?_
 by_cases h5:4<s.length
 .have e:dH s=5:=by unfold dH;rw [if_pos h5]
  rw [e];exact bx hS 3 (amb s (by omega))
 .obtain⟨r,hr⟩:∃r,dt s s.length 0=r:=⟨_,rfl⟩;have e:dH s=r:=by unfold dH;rw [if_neg h5,hr]
  rw [e];refine cC hS 4 (amc s (by omega)) ?_;refine aP.loop (ι:={k:Nat//k<=s.length/\dt s (s.length-k) k=r}) (id:=0) (b:=cat pP [1,1,0,1,0,0]) (rest:=(fl pP []).drop 5) (by kernel_rfl) (fun k=>kG s k.1) (fun k=>s.length-k.1) ⟨0,Nat.zero_le _,hr⟩ (fun _=>rfl) ?_;rintro⟨k,hk,hx⟩;have hx:dt s (s.length-k) k=r:=hx;by_cases hlt:k<s.length
  .obtain⟨m,hm⟩:∃m,s.length-k=m+1:=⟨s.length-k-1,by omega⟩;have hm2:s.length-(k+1)=m:=by omega
   rw [hm,dt]at hx;have hit:jK (g0 s k)=true->r=3:=fun hz=>by rw [<-hx,if_pos hz]
   have key:jK (g0 s k)=true->∀T H,fy prog true f19 (iv 3) .ret T H->fy prog true f19 (iv r) .ret T H:=fun hz T H h=>by rw [hit hz];exact h
   by_cases c1:(g0 s k).1<1
   .exact aP.jB (s:=kG s k) known mixed hS _ (amd s k (by omega) (by omega) c1) fun T H h=>key (by unfold jK;rw [ax c1];rfl) T H h
   .by_cases c2:(g0 s k).1>400
    .exact aP.jB (s:=kG s k) known mixed hS _ (ame s k (by omega) (by omega) c1 c2) fun T H h=>key (by unfold jK;rw [ab c1,ax c2];rfl) T H h
    .by_cases c3:(g0 s k).2<1
     .exact aP.jB (s:=kG s k) known mixed hS _ (amf s k (by omega) (by omega) c1 c2 c3) fun T H h=>key (by unfold jK;rw [ab c1,ab c2,ax c3];rfl) T H h
     .by_cases c4:(g0 s k).2>400
      .exact aP.jB (s:=kG s k) known mixed hS _ (amg s k (by omega) (by omega) c1 c2 c3 c4) fun T H h=>key (by unfold jK;rw [ab c1,ab c2,ab c3,ax c4];rfl) T H h
      .have hw:¬jK (g0 s k)=true:=by unfold jK;rw [ab c1,ab c2,ab c3,ab c4];decide
       refine bl (s:=kG s k) hS (amh s k (by omega) (by omega) c1 c2 c3 c4 (by omega)) ?_;exact⟨⟨k+1,hlt,by rw [hm2,<-hx,if_neg hw]⟩,by simp;omega,rfl,rfl⟩
  .refine bl (s:=kG s k) hS (ami s k (by omega)) ?_;refine cw (cz ?_);obtain rfl:k=s.length:=by omega
   rw [Nat.sub_self,dt]at hx;refine aP.jB (s:=kG s s.length) known mixed hS _ (amj s _) fun T H h=> ?_
   have h2:fy prog true f19 (iv r) .ret T H:=by rw [<-hx];exact h
   exact h2
noncomputable def Vz:bp:={f:=19,ps:=[.list false yB],rs:=[.int .i64],fresh:=true,pre:=fun d=>true,fn:=fun d=>(dH d.1,())}
def aml:Vz.Ok prog:=fun⟨s,_⟩ _=>amk s
def kH (s:List (Int×Int)) (k:Nat):bC:={n:=33,sl:=[(0,pl s),(8,pl s),(9,iv s.length),(10,iv k)],bF:=[],next:=64}
def amm (s:List (Int×Int)) (h1:(s.length:Int)>4):
  bu (aR []) (fl pQ []) 3 33 [pl s] 3 f62 true (iv 5):=
 wy [ah h1] 1
def amn (s:List (Int×Int)) (h1:¬(s.length:Int)>4):
  cO (aR []) (fl pQ []) 4 33 [pl s] 2 .normal [] (kH s 0):=
 wy [aA h1] 1
def amo (s:List (Int×Int)) (k:Nat) (h1:(k:Int)<(s.length:Int)) (h2:k<s.length) (h3:(s.getD k (0,0)).1<1):
  bH (aR []) (fl pQ [1,1,0,1,0,0]) (kH s k) 28945 f62 true (iv 3):=
 wy [ah h1,ah h2,af (aS (ax h3)),ah h3] 278150258689
def amq (s:List (Int×Int)) (k:Nat) (h1:(k:Int)<(s.length:Int)) (h2:k<s.length) (h3:¬(s.getD k (0,0)).1<1) (h4:(s.getD k (0,0)).1>400):
  bH (aR []) (fl pQ [1,1,0,1,0,0]) (kH s k) 28943 f62 true (iv 3):=
 wy [ah h1,ah h2,af (aS (ab h3)),aA h3,af (aS (ax h4)),ah h4] 7009030663454859265
def amr (s:List (Int×Int)) (k:Nat) (h1:(k:Int)<(s.length:Int)) (h2:k<s.length) (h3:¬(s.getD k (0,0)).1<1) (h4:¬(s.getD k (0,0)).1>400) (h5:(s.getD k (0,0)).2<1):
  bH (aR []) (fl pQ [1,1,0,1,0,0]) (kH s k) 28911 f62 true (iv 3):=
 wy [ah h1,ah h2,af (aS (ab h3)),aA h3,af (aS (ab h4)),aA h4,af (aS (ax h5)),ah h5] 156891705178242950256926721
def ams (s:List (Int×Int)) (k:Nat) (h1:(k:Int)<(s.length:Int)) (h2:k<s.length) (h3:¬(s.getD k (0,0)).1<1) (h4:¬(s.getD k (0,0)).1>400) (h5:¬(s.getD k (0,0)).2<1) (h6:(s.getD k (0,0)).2>400):
  bH (aR []) (fl pQ [1,1,0,1,0,0]) (kH s k) 28399 f62 true (iv 3):=
 wy [ah h1,ah h2,af (aS (ab h3)),aA h3,af (aS (ab h4)),aA h4,af (aS (ab h5)),aA h5,ah h6] 11298352058746665424349044737
def amt (s:List (Int×Int)) (k:Nat) (h1:(k:Int)<(s.length:Int)) (h2:k<s.length) (h3:¬(s.getD k (0,0)).1<1) (h4:¬(s.getD k (0,0)).1>400) (h5:¬(s.getD k (0,0)).2<1) (h6:¬(s.getD k (0,0)).2>400) (h7:i6 ((k:Int)+1)):
  bg (aR []) (fl pQ [1,1,0,1,0,0]) (kH s k) 20207 .normal [] (kH s (k+1)):=
 wy [ah h1,ah h2,af (aS (ab h3)),aA h3,af (aS (ab h4)),aA h4,af (aS (ab h5)),aA h5,aA h6,yi h7] 803579977201390041359788548097
def amu (s:List (Int×Int)) (k:Nat) (h1:¬(k:Int)<(s.length:Int)):
  bg (aR []) (fl pQ [1,1,0,1,0,0]) (kH s k) 2 (.exit 0) [] (kH s k):=
 wy [aA h1] 1
def amv (s:List (Int×Int)) (k:Nat):
  bH (aR []) ((fl pQ []).drop 5) (kH s k) 1 f62 true (iv 0):=
 wy [] 0
def amw (s:List (Int×Int)):Holds prog true 62 [pl s] (iv (dH s)):=by
 have hS:=bc;refine bL (c:=pQ) func62 rfl rfl fun w F=> ?_
 by_cases h5:4<s.length
 .have e:dH s=5:=by unfold dH;rw [if_pos h5]
  rw [e];exact bx hS 3 (amm s (by omega))
 .obtain⟨r,hr⟩:∃r,dt s s.length 0=r:=⟨_,rfl⟩;have e:dH s=r:=by unfold dH;rw [if_neg h5,hr]
  rw [e];refine cC hS 4 (amn s (by omega)) ?_;refine aP.loop (ι:={k:Nat//k<=s.length/\dt s (s.length-k) k=r}) (id:=0) (b:=cat pQ [1,1,0,1,0,0]) (rest:=(fl pQ []).drop 5) (by kernel_rfl) (fun k=>kH s k.1) (fun k=>s.length-k.1) ⟨0,Nat.zero_le _,hr⟩ (fun _=>rfl) ?_;rintro⟨k,hk,hx⟩;have hx:dt s (s.length-k) k=r:=hx;by_cases hlt:k<s.length
  .obtain⟨m,hm⟩:∃m,s.length-k=m+1:=⟨s.length-k-1,by omega⟩;have hm2:s.length-(k+1)=m:=by omega
   rw [hm,dt]at hx;have hit:jK (g0 s k)=true->r=3:=fun hz=>by rw [<-hx,if_pos hz]
   have key:jK (g0 s k)=true->∀T H,fy prog true f62 (iv 3) .ret T H->fy prog true f62 (iv r) .ret T H:=fun hz T H h=>by rw [hit hz];exact h
   by_cases c1:(g0 s k).1<1
   .exact aP.jB (s:=kH s k) known mixed hS _ (amo s k (by omega) (by omega) c1) fun T H h=>key (by unfold jK;rw [ax c1];rfl) T H h
   .by_cases c2:(g0 s k).1>400
    .exact aP.jB (s:=kH s k) known mixed hS _ (amq s k (by omega) (by omega) c1 c2) fun T H h=>key (by unfold jK;rw [ab c1,ax c2];rfl) T H h
    .by_cases c3:(g0 s k).2<1
     .exact aP.jB (s:=kH s k) known mixed hS _ (amr s k (by omega) (by omega) c1 c2 c3) fun T H h=>key (by unfold jK;rw [ab c1,ab c2,ax c3];rfl) T H h
     .by_cases c4:(g0 s k).2>400
      .exact aP.jB (s:=kH s k) known mixed hS _ (ams s k (by omega) (by omega) c1 c2 c3 c4) fun T H h=>key (by unfold jK;rw [ab c1,ab c2,ab c3,ax c4];rfl) T H h
      .have hw:¬jK (g0 s k)=true:=by unfold jK;rw [ab c1,ab c2,ab c3,ab c4];decide
       refine bl (s:=kH s k) hS (amt s k (by omega) (by omega) c1 c2 c3 c4 (by omega)) ?_;exact⟨⟨k+1,hlt,by rw [hm2,<-hx,if_neg hw]⟩,by simp;omega,rfl,rfl⟩
  .refine bl (s:=kH s k) hS (amu s k (by omega)) ?_;refine cw (cz ?_);obtain rfl:k=s.length:=by omega
   rw [Nat.sub_self,dt]at hx;refine aP.jB (s:=kH s s.length) known mixed hS _ (amv s _) fun T H h=> ?_
   have h2:fy prog true f62 (iv r) .ret T H:=by rw [<-hx];exact h
   exact h2
noncomputable def VA:bp:={f:=62,ps:=[.list false yB],rs:=[.int .i64],fresh:=true,pre:=fun d=>true,fn:=fun d=>(dH d.1,())}
def amx:VA.Ok prog:=fun⟨s,_⟩ _=>amw s
end
end Go.Proofs.YtibikmmdbdlafaaGreatDoor
namespace Go.Proofs.YtibikmmdbdlafaaGreatDoor
open Go.RowKit
def G8 (x:Int):Prop:= -9223372036854775808<=x/\x<=9223372036854775807
def G8.wf {x:Int} (h:G8 x):(Lit.int .i64 x).wf=true:=by
 unfold G8 at h;simp [Lit.wf,IntKind.min,IntKind.max,IntKind.signed,IntKind.bits];omega
def yK (w:World) (b n:Nat) (f:Int->Int):Prop:=
 ∃D:DataW Unit,w.ownsMap Tryz.prog 3 (plainElem Tryz.prog 3) b n D/\Maps.IsMap D/\∀x:Int,D.atKey (.int .i64 x) (.lit (.int .i64 0))= .lit (.int .i64 (f x))
def yK.kept {w w':World} {b n:Nat} {f:Int->Int} {row:Option Nat} (h:yK w b n f) (hg:w.grownBy w' row) (hne:some b≠row):yK w' b n f:=by
 obtain⟨D,h1,h2,h3⟩:=h;exact⟨D,h1.kept hg hne,h2,h3⟩
def yK.lt {w:World} {b n:Nat} {f:Int->Int} (h:yK w b n f):b<w.heap.size:=by
 obtain⟨D,h1,_⟩:=h;exact h1.lt
def yK.look {w:World} {b n:Nat} {f:Int->Int} (h:yK w b n f) (k:Int) (hk:G8 k):
  (Instr.lookup 135 (.map (some b)) (.int .i64 k) false).run Tryz.prog w= .ok (.int .i64 (f k)) w:=by
 obtain⟨D,h1,_,h3⟩:=h;obtain⟨c,hrun,ke,_⟩:=h1.lookup_int (Maps.int_keyed Tryz.underlying3) Tryz.underlying135 Tryz.underlying3 (Tryz.zeroValue3 w) (Maps.keyOf_int_mk Tryz.underlying3 hk.wf);rw [h3 k]at ke;simp only [DataW.lit.injEq,Lit.int.injEq,true_and]at ke;rw [hrun,ke]
def Nw (f:Int->Int) (k v:Int):Int->Int:=fun y=>if y=k then v else f y
end Go.Proofs.YtibikmmdbdlafaaGreatDoor
namespace Go.Proofs.YtibikmmdbdlafaaGreatDoor
open Go.RowKit Sv Go.Proofs.Tryz
noncomputable section
def G9 {l:List (Int×Int)} {k:Nat} (h:k<l.length):g0 l k=l[k]:=by simp [ao,h]
def c9:List Int->Int
 |[]=>0
 |x::l=>if x≠0 then x else c9 l
noncomputable def wQ:Code:=(f11.body).getD .skip
def pR (l:List Int) (k:Nat):bC:={n:=19,sl:=[(0,lv l),(3,iv k)],bF:=[],next:=64}
def amy (l:List Int):
  cO (aR []) (fl wQ []) 2 19 [lv l] 1 .normal [] (pR l 0):=
 wy [] 0
def amz (l:List Int) (k:Nat) (h1:(k:Int)<(l.length:Int)) (h2:k<l.length) (h3:¬l.getD k 0=0):
  bH (aR []) (fl wQ [1,0,1,0,0]) (pR l k) 7 f11 true (iv (l.getD k 0)):=
 wy [ah h1,ah h2,af (e7.mpr h3)] 2148278273
def amA (l:List Int) (k:Nat) (h1:(k:Int)<(l.length:Int)) (h2:k<l.length) (h3:l.getD k 0=0) (h4:i6 ((k:Int)+1)):
  bg (aR []) (fl wQ [1,0,1,0,0]) (pR l k) 5 .normal [] (pR l (k+1)):=
 wy [ah h1,ah h2,af (gu.mpr h3),yi h4] 67903489
def amB (l:List Int) (k:Nat) (h1:¬(k:Int)<(l.length:Int)):
  bg (aR []) (fl wQ [1,0,1,0,0]) (pR l k) 2 (.exit 0) [] (pR l k):=
 wy [aA h1] 1
def amC (l:List Int) (k:Nat):
  bH (aR []) ((fl wQ []).drop 3) (pR l k) 1 f11 true (iv 0):=
 wy [] 0
def amD (l:List Int) (hl:l.length<=1000000):Holds prog true 11 [lv l] (iv (c9 l)):=by
 have hS:=bc;refine bL (c:=wQ) func11 rfl rfl fun w F=> ?_
 refine cC hS 2 (amy l) ?_;refine aP.loop (ι:={k:Nat//k<=l.length/\c9 (l.drop k)=c9 l}) (id:=0) (b:=cat wQ [1,0,1,0,0]) (rest:=(fl wQ []).drop 3) (by kernel_rfl) (fun k=>pR l k.1) (fun k=>l.length-k.1) ⟨0,Nat.zero_le _,by simp⟩ (fun _=>rfl) ?_;rintro⟨k,hk,hx⟩;have hx:c9 (l.drop k)=c9 l:=hx;by_cases hlt:k<l.length
 .rw [List.drop_eq_getElem_cons hlt,c9,<-getD_lt hlt]at hx;by_cases c1:l.getD k 0=0
  .rw [if_neg (by simpa using c1)]at hx;refine bl (s:=pR l k) hS (amA l k (by omega) (by omega) c1 (by omega)) ?_;exact⟨⟨k+1,hlt,hx⟩,by simp;omega,rfl,rfl⟩
  .rw [if_pos c1]at hx;refine aP.jB (s:=pR l k) known mixed hS _ (amz l k (by omega) (by omega) c1) fun T H h=> ?_
   have h2:fy prog true f11 (iv (c9 l)) .ret T H:=by rw [<-hx];exact h
   exact h2
 .refine bl (s:=pR l k) hS (amB l k (by omega)) ?_;refine cw (cz ?_);obtain rfl:k=l.length:=by omega
  rw [List.drop_length,c9]at hx;refine aP.jB (s:=pR l l.length) known mixed hS _ (amC l _) fun T H h=> ?_
  have h2:fy prog true f11 (iv (c9 l)) .ret T H:=by rw [<-hx];exact h
  exact h2
noncomputable def VB:bp:={f:=11,ps:=[.list false (.int .i64)],rs:=[.int .i64],fresh:=true,pre:=fun d=>decide (List.length (α:=Int) d.1<=1000000),fn:=fun d=>(c9 d.1,())}
def amE:VB.Ok prog:=fun⟨l,_⟩ h=>amD l (ap h)
structure Nx (w:World) (A:Option Addr) (l:List (Int×Int)):Prop where
 at_:∀k,k<l.length->∃b off,A=some ⟨b,off,none⟩/\b<w.heap.size/\w.cell? ⟨b,off+k*2,none⟩=some (.int .i64 (g0 l k).1)/\w.cell? ⟨b,off+k*2+1,none⟩=some (.int .i64 (g0 l k).2)
def Nx.below {w w':World} {A:Option Addr} {l:List (Int×Int)} {n:Nat} (h:Nx w A l) (hb:Below n w w') (hn:w.heap.size<=n):Nx w' A l:=
 ⟨fun k hk=>by
   obtain⟨b,off,h1,h2,h3,h4⟩:=h.at_ k hk;have:=hb.size;exact⟨b,off,h1,by omega,(hb.cell (p:=⟨b,off+k*2,none⟩) (by show b<_;omega)).trans h3,(hb.cell (p:=⟨b,off+k*2+1,none⟩) (by show b<_;omega)).trans h4⟩⟩
def VC {s:List (Int×Int)}:∀{n k:Nat},GQ s n k=0->∀j,k<=j->j<k+n->GP s j=0
 |0,k,h,j,h1,h2=>absurd h2 (by omega)
 |n+1,k,h,j,h1,h2=>by
  unfold GQ at h;split at h
  .contradiction
  .rename_i h3;by_cases e:j=k
   .subst e;simpa using h3
   .exact VC h j (by omega) (by omega)
def ata {s:List (Int×Int)} (h:UC s=0):1<=s.length/\s.length<=32/\∀k,k<s.length->(6<=(g0 s k).1/\(g0 s k).1<=400)/\(1<=(g0 s k).2/\(g0 s k).2<=999999999)/\(0<k->(g0 s (k-1)).1<(g0 s k).1):=by
 unfold UC at h;split at h
 .cases h
 .split at h
  .cases h
  .refine⟨by omega,by omega,fun k hk=> ?_⟩;have:=VC h k (by omega) (by omega);unfold GP UB at this;split at this
   .cases this
   .rename_i h3;split at this
    .cases this
    .rename_i h4;simp only [Bool.or_eq_true,bB,not_or,Int.not_lt,gt_iff_lt]at h3;exact⟨⟨h3.1,h3.2.1⟩,⟨h3.2.2.1,h3.2.2.2⟩,fun h5=>by
      have h6:¬(g0 s k).1<=(g0 s (k-1)).1:=fun h7=>h4 ⟨h5,h7⟩
      omega⟩
def VD {s:List (Int×Int)}:∀{n k:Nat},dt s n k=0->∀j,k<=j->j<k+n->jK (g0 s j)=false
 |0,k,h,j,h1,h2=>absurd h2 (by omega)
 |n+1,k,h,j,h1,h2=>by
  unfold dt at h;split at h
  .cases h
  .rename_i h3;by_cases e:j=k
   .subst e;simpa using h3
   .exact VD h j (by omega) (by omega)
def Du {s:List (Int×Int)} (h:dH s=0):s.length<=4/\∀k,k<s.length->(1<=(g0 s k).1/\(g0 s k).1<=400)/\(1<=(g0 s k).2/\(g0 s k).2<=400):=by
 unfold dH at h;split at h
 .cases h
 .refine⟨by omega,fun k hk=> ?_⟩;have:=VD h k (by omega) (by omega);unfold jK at this;simp only [Bool.or_eq_false_iff,decide_eq_false_iff_not,Int.not_lt,gt_iff_lt]at this;exact⟨⟨this.1,this.2.1⟩,⟨this.2.2.1,this.2.2.2⟩⟩
def EG {f:Int->Int} (h:∀x,0<=f x/\f x<=1000000000) (k:Int) (hk:f k≠0):∀x,0<=Nw f k (f k-1) x/\Nw f k (f k-1) x<=1000000000:=fun x=>by
 have h1:=h x;have h2:=h k;unfold Nw;split<;>omega
end
def gS:List (Int×Int)->Rat
 |[]=>1
 |p::t=>Rat.divInt p.1 p.2*gS t
def Ny:∀a b:List (Int×Int),gS (a++b)=gS a*gS b
 |[],b=>by show gS b=1*gS b;rw [Rat.one_mul]
 |p::t,b=>by show Rat.divInt p.1 p.2*gS (t++b)=Rat.divInt p.1 p.2*gS t*gS b;rw [Ny t b,Rat.mul_assoc]
def VE (t:List (Int×Int)):∀k,k<=t.length->A5 t k=gS (t.take k)
 |0,_=>by rw [List.take_zero];rfl
 |k+1,hk=>by
  have e:t.take (k+1)=t.take k++[g0 t k]:=by rw [List.take_succ_eq_append_getElem (by omega),G9 (by omega)]
  rw [e,Ny,<-VE t k (by omega)];show A5 t k*Rat.divInt _ _=A5 t k*(Rat.divInt _ _*1);rw [Rat.mul_one]
def amF (t:List (Int×Int)):A5 t t.length=gS t:=by rw [VE t _ (aG _),dI]
def yL (t:List (Int×Int)):Prop:=∀p∈t,(1<=p.1/\p.1<=400)/\1<=p.2/\p.2<=400
def Nz {t:List (Int×Int)}:yL t↔ ∀k,k<t.length->(1<=(g0 t k).1/\(g0 t k).1<=400)/\1<=(g0 t k).2/\(g0 t k).2<=400:=by
 constructor
 .intro h k hk;rw [G9 hk];exact h _ (List.getElem_mem hk)
 .intro h p hp;obtain⟨k,hk,rfl⟩:=List.getElem_of_mem hp;have:=h k hk;rwa [G9 hk]at this
def uI:List Int->Int
 |[]=>1
 |x::l=>x*uI l
def se:∀{l:List Int},(∀x∈l,1<=x)->1<=uI l
 |[],_=>Int.le_refl 1
 |x::l,h=>by
  have h1:=h x (kK ..);have h2:=se (l:=l) fun y hy=>h y (j8 _ hy)
  have:(1:Int)*1<=x*uI l:=Int.mul_le_mul h1 h2 (by decide) (by omega);exact this
def Fd:∀(t:List (Int×Int)),gS t=Rat.divInt (uI (t.map Prod.fst)) (uI (t.map Prod.snd))
 |[]=>by show(1:Rat)=Rat.divInt 1 1;decide
 |p::t=>by show Rat.divInt p.1 p.2*gS t=Rat.divInt (p.1*uI (t.map Prod.fst)) (p.2*uI (t.map Prod.snd));rw [Fd t,Rat.divInt_mul_divInt]
def He (r:Rat):Prop:=r.num.natAbs<1000000000000000000/\r.den<1000000000000000000
def amG {a b:Int} (hb:1<=b) (h1:a.natAbs<1000000000000000000) (h2:b<1000000000000000000):He (Rat.divInt a b):=by
 have hg:0<Int.gcd a b:=Int.gcd_pos_of_ne_zero_right _ (by omega);have e:Rat.divInt a b=Rat.divInt (a/(Int.gcd a b:Int)) (b/(Int.gcd a b:Int)):=by
  have e1:=Int.ediv_mul_cancel (show(Int.gcd a b:Int)∣a from Int.gcd_dvd_left ..);have e2:=Int.ediv_mul_cancel (show(Int.gcd a b:Int)∣b from Int.gcd_dvd_right ..);have e3:Rat.divInt a b=Rat.divInt (a/(Int.gcd a b:Int)*(Int.gcd a b:Int)) (b/(Int.gcd a b:Int)*(Int.gcd a b:Int)):=by rw [e1,e2]
  rw [e3];exact Rat.divInt_mul_right (show(Int.gcd a b:Int)≠0 by omega)
 have jw:1<=b/(Int.gcd a b:Int):=by
  have hm:=Int.ediv_mul_cancel (show(Int.gcd a b:Int)∣b from Int.gcd_dvd_right ..);have h0:0<=b/(Int.gcd a b:Int):=Int.ediv_nonneg (by omega) (by omega);rcases Int.lt_or_le 0 (b/(Int.gcd a b:Int))with h|h
  .omega
  .exfalso;have e0:b/(Int.gcd a b:Int)=0:=by omega
   rw [e0,Int.zero_mul]at hm;omega
 have hc:=Int.gcd_ediv_gcd_ediv_gcd hg;obtain⟨n1,n2⟩:=sa jw hc;rw [e];unfold He;have l1:(a/(Int.gcd a b:Int)).natAbs<=a.natAbs:=by
  rw [Int.natAbs_ediv_of_dvd (Int.gcd_dvd_left ..)];exact Nat.div_le_self _ _
 have l2:b/(Int.gcd a b:Int)<=b:=Int.ediv_le_self _ (by omega);rw [n1];refine⟨by omega,by omega⟩
noncomputable section
noncomputable def sJ:Code:=(f88.body).getD .skip
noncomputable def yM:bI:=ov [C7] (aR [ME])
def nM (s:ByteArray) (neg:Bool) (w:List Int):bC:={n:=40,sl:=[(0,sv s),(2, .ptr 64 0),(3,bv neg),(4,mR 65 w)],bF:=[(64,TX),(65,mS w)],next:=66}
abbrev NA:List Nat:=[1,1,1,1,0,0,0]
def amH (s:ByteArray) (h1:(s.size:Int)>0) (h2:Int.toNat 0<s.size) (h3:(↑(UInt8.toNat (s.data.toList.getD (Int.toNat 0) (0:UInt8))):Int)=45) (h4:Int.toNat 1<=s.size) (h5:(s.extract (Int.toNat 1) s.size)=(s.extract 1 s.size)):
  cO yM (fl sJ []) 5 40 [sv s] 63 .normal [(64,64,none)] (nM (s.extract 1 s.size) true []):=
 wy [af (aN (ax h1)),ah h2,ah h1,cW h3,ah h4,ah (by omega:s.size<=s.size),az h5,az (gT.mpr h3)] 37787111807533466517569
def amI (s:ByteArray) (h1:(s.size:Int)>0) (h2:Int.toNat 0<s.size) (h3:¬(↑(UInt8.toNat (s.data.toList.getD (Int.toNat 0) (0:UInt8))):Int)=45):
  cO yM (fl sJ []) 5 40 [sv s] 47 .normal [(64,64,none)] (nM s false []):=
 wy [af (aN (ax h1)),ah h2,ah h1,yn h3,az (fF.mpr h3)] 90072270663843905
def amJ (s:ByteArray) (h1:¬(s.size:Int)>0):
  cO yM (fl sJ []) 5 40 [sv s] 32 .normal [(64,64,none)] (nM s false []):=
 wy [af (aN (ab h1)),aA h1] 528449
def amK (s:ByteArray) (neg:Bool) (w:List Int) (h1:(s.size:Int)>9) (h2:i6 ((s.size:Int)-9)) (h3:0<=(s.size:Int)-9) (h4:(decide ((s.extract ((s.size:Int)-9).toNat s.size).size<=17)&&bY (s.extract ((s.size:Int)-9).toNat s.size).data.toList)=true) (h5:w.length+1<=1000000) (h6:(w.length+1)=(w++[bt (s.extract ((s.size:Int)-9).toNat s.size).data.toList]).length) (h7:(aZ.full)=(bJ (w++[bt (s.extract ((s.size:Int)-9).toNat s.size).data.toList]).length)):
  bg yM (fl sJ NA) (nM s neg w) 5 .normal [(64,64,none),(65,67,none)] (nM (s.extract 0 ((s.size:Int)-9).toNat) neg (w++[bt (ak (s.extract ((s.size:Int)-9).toNat s.size))])):=
 wy [ah h1,yi h2,ah h3,ah (by omega:((s.size:Int)-(9:Int)).toNat<=s.size),ah (by omega:s.size<=s.size),af h4,yk 3 (.int .i64) w,lM 8 h5,az h6,az h7,oh 3 (.int .i64) (Eq.refl (w++[bt (s.extract ((s.size:Int)-(9:Int)).toNat s.size).data.toList]))] 59889907190626495097649245648290902454401
def amL (s:ByteArray) (neg:Bool) (w:List Int) (h1:¬(s.size:Int)>9):
  bg yM (fl sJ NA) (nM s neg w) 2 (.exit 0) [(64,64,none),(65,65,none)] (nM s neg w):=
 wy [aA h1] 1
def amM (s:ByteArray) (neg:Bool) (w:List Int) (h1:(decide (s.size<=17)&&bY s.data.toList)=true) (h2:w.length+1<=1000000) (h3:(Nat.beq (w.length+1) 0||bz 3 (.int .i64) (some (bq.own 3 (.int .i64) (w++[bt s.data.toList]))) (w.length+1-1))=true) (h4:(okB (((w++[bt s.data.toList]).drop 0).take (w.length+1)))=true) (h5:(mkR (bn neg (ag (((w++[bt s.data.toList]).drop 0).take (w.length+1))))).1=(mkR (bn neg (ag (w++[bt s.data.toList])))).1) (h6:(mkR (bn neg (ag (((w++[bt s.data.toList]).drop 0).take (w.length+1))))).2=(mkR (bn neg (ag (w++[bt s.data.toList])))).2):
  bH yM ((fl sJ []).drop 6) (nM s neg w) 2 f88 false (rv (mkR (bn neg (ag (w++[bt (ak s)]))))):=
 wy [af h1,yk 3 (.int .i64) w,lM 8 h2,af (show(Nat.beq (w.length+(1:Nat)) (0:Nat)||bz 3 (.int .i64) (some (bq.own 3 (.int .i64) (bM (.int .i64) (ba 3 (.int .i64) w)++[bt s.data.toList]))) ((0:Nat)+(w.length+(1:Nat))-(1:Nat)))=true from(by simp only [ew,aw]<;>exact h3)),af (show(okB (((bM (.int .i64) (ba 3 (.int .i64) w)++[bt s.data.toList]).drop (0:Nat)).take (w.length+(1:Nat))))=true from(by simp only [ew]<;>exact h4)),az (show((mkR (bn neg (ag (((bM (.int .i64) (ba 3 (.int .i64) w)++[bt s.data.toList]).drop (0:Nat)).take (w.length+(1:Nat)))))).1)=((mkR (bn neg (ag (w++[bt s.data.toList])))).1)from(by simp only [ew]<;>exact h5)),az (show((mkR (bn neg (ag (((bM (.int .i64) (ba 3 (.int .i64) w)++[bt s.data.toList]).drop (0:Nat)).take (w.length+(1:Nat)))))).2)=((mkR (bn neg (ag (w++[bt s.data.toList])))).2)from(by simp only [ew]<;>exact h6))] 1997061059248129
def bZ (s:ByteArray):Bool:=decide (0<s.size)&&decide ((b7 s 0).toNat=45)
def bQ (s:ByteArray):ByteArray:=match bZ s with |true=>s.extract 1 s.size|false=>s
def lP (s:ByteArray):Int:=bn (bZ s) (bt (ak (bQ s)))
noncomputable def VF:bp:={f:=88,ps:=[.str],rs:=[lW],fresh:=false,pre:=fun d=>decide (d.1.size<=800000)&&bY (ak (bQ d.1)),fn:=fun d=>(mkR (lP d.1),())}
def VG:bD prog (bG yM):=uk (fun c hc=>by
 simp only [ep,j7,or_false]at hc;obtain rfl:=hc;exact Gu) (cY fun c hc=>by
 simp only [ep,j7,or_false]at hc;obtain rfl:=hc;exact Uv)
def NB (a b:List UInt8):bt (a++b)=bt a*10^b.length+bt b:=by
 show(a++b).foldl _ 0=_;rw [akt,GO];rfl
def Hf {a b:List UInt8}:bY (a++b)=true↔bY a=true/\bY b=true:=by
 unfold bY;rw [List.all_append,ae]
def uJ {s:ByteArray} (h:bY (ak s)=true):0<=bt (ak s)/\bt (ak s)<10^s.size:=by
 have:=A0 h (ak s).length (aG _);rw [dI]at this;rw [c8];exact this
def Ly {t:ByteArray} (h:9<t.size) (hd:bY (ak t)=true):
  (t.extract 0 (t.size-9)).size=t.size-9/\bY (ak (t.extract 0 (t.size-9)))=true/\(t.extract (t.size-9) t.size).size=9/\bY (ak (t.extract (t.size-9) t.size))=true/\bt (ak t)=bt (ak (t.extract 0 (t.size-9)))*1000000000+bt (ak (t.extract (t.size-9) t.size)):=by
 have e1:ak (t.extract 0 (t.size-9))=(ak t).take (t.size-9):=by rw [lZ,List.drop_zero]
 have e2:ak (t.extract (t.size-9) t.size)=(ak t).drop (t.size-9):=by rw [lZ,c8,dI]
 have e3:ak t=(ak t).take (t.size-9)++(ak t).drop (t.size-9):=(List.take_append_drop _ _).symm;have hdd:=hd;rw [e3,Hf]at hdd;have l2:((ak t).drop (t.size-9)).length=9:=by rw [mW,<-c8];omega
 refine⟨lf _ _ _ (by omega),by rw [e1];exact hdd.1,by rw [lf _ _ _ (aG _)];omega,by rw [e2];exact hdd.2, ?_⟩;rw [e1,e2];have:=NB ((ak t).take (t.size-9)) ((ak t).drop (t.size-9));rw [<-e3,l2]at this;exact this
def NC (t:ByteArray) (neg:Bool) (hd:bY (ak t)=true) (hl:t.size<=800000) (w0:World) (F:Sv.Env):
  aP prog w0 F 40 ((fl sJ []).drop 5) (nM t neg []).T (nM t neg []).H (fy prog false f88 (rv (mkR (bn neg (bt (ak t)))))):=by
 have hS:=VG;refine aP.loop (ι:={x:ByteArray×List Int//bY (ak x.1)=true/\x.1.size<=800000/\x.2.length<=800000-x.1.size/\aT 1000000000 x.2/\bt (ak t)=ag x.2+1000000000^x.2.length*bt (ak x.1)/\9*x.2.length+x.1.size<=800000}) (id:=0) (b:=cat sJ NA) (rest:=(fl sJ []).drop 6) (by kernel_rfl) (fun x=>nM x.1.1 neg x.1.2) (fun x=>x.1.1.size) ⟨(t,[]),hd,hl,Nat.zero_le _, .nil,by simp [ag,vl],by show 9*0+t.size<=_;omega⟩ (fun _=>rfl) ?_;rintro⟨⟨s,w⟩,h1,h2,h3,h4,h5,h6⟩;have h1:bY (ak s)=true:=h1;have h2:s.size<=800000:=h2;have h4:aT 1000000000 w:=h4;have h5:bt (ak t)=ag w+1000000000^w.length*bt (ak s):=h5;have h6:9*w.length+s.size<=800000:=h6;have VH:(10:Int)^9=1000000000:=rfl;by_cases hgo:9<s.size
 .have bF:((s.size:Int)-9).toNat=s.size-9:=by omega
  obtain⟨c1,c2,c3,c4,c5⟩:=Ly hgo h1;have hv:=uJ c4;rw [c3,VH]at hv;have key:=amK s neg w (by omega) (by omega) (by omega);rw [bF]at key;refine bl (s:=nM s neg w) hS (key (by rw [ax (by omega),show bY (s.extract (s.size-9) s.size).data.toList=true from c4];rfl) (by omega) (qU _ _) (ux _ _)) ?_;refine⟨⟨(s.extract 0 (s.size-9),w++[bt (ak (s.extract (s.size-9) s.size))]),c2,by show(s.extract 0 (s.size-9)).size<=_;omega,by show(w++[_]).length<=_-(s.extract 0 (s.size-9)).size;rw [dU,List.length_singleton];omega,h4.app (.cons hv .nil), ?_,by show 9*(w++[_]).length+(s.extract 0 (s.size-9)).size<=_;rw [dU,List.length_singleton];omega⟩,by show(s.extract 0 (s.size-9)).size<s.size;omega,rfl,rfl⟩;show bt (ak t)=vl 1000000000 (w++[bt (ak (s.extract (s.size-9) s.size))])+1000000000^(w++[bt (ak (s.extract (s.size-9) s.size))]).length*bt (ak (s.extract 0 (s.size-9)));rw [x6,dU,List.length_singleton,Int.pow_succ,h5,c5];unfold ag;generalize bt (ak (s.extract (s.size-9) s.size))=x1;generalize bt (ak (s.extract 0 (s.size-9)))=x2;generalize (1000000000:Int)^w.length=x3;grind
 .refine bl (s:=nM s neg w) hS (amL s neg w (by omega)) ?_;refine cw (cz ?_);have hv:=uJ h1;have hp:(10:Int)^s.size<=10^9:=iQ (by decide) (by omega);have e:ag (w++[bt (ak s)])=bt (ak t):=by
   rw [h5];show vl _ _=vl _ _+_;rw [x6]
  have iR:aT 1000000000 (w++[bt (ak s)]):=h4.app (.cons (by omega) .nil);have et:((w++[bt (ak s)]).drop 0).take (w.length+1)=w++[bt (ak s)]:=by
   rw [List.drop_zero,eF (by simp)]
  have key:=amM s neg w (by rw [ax (by omega),show bY s.data.toList=true from h1];rfl) (by omega) (by
   rw [Bool.or_eq_true];exact .inr (fi (by simp))) (by rw [et];exact oy.2 ⟨iR,by simp;omega⟩) (by rw [et]) (by rw [et])
  rw [e]at key;exact bP (s:=nM s neg w) hS key
def amN (s:ByteArray) (hl:s.size<=800000) (hd:bY (ak (bQ s))=true):Holds prog false 88 [sv s] (rv (mkR (lP s))):=by
 have hS:=VG;refine bL (c:=sJ) func88 rfl rfl fun w0 F=> ?_
 unfold lP;by_cases h0:0<s.size
 .by_cases lg:(b7 s 0).toNat=45
  .have e1:bZ s=true:=by unfold bZ;rw [ax h0,ax lg];rfl
   have e2:bQ s=s.extract 1 s.size:=by unfold bQ;rw [e1]
   rw [e2]at hd;rw [e1,e2];refine cC hS 5 (amH s (by omega) (by show 0<s.size;exact h0) (by show((b7 s 0).toNat:Int)=45;omega) (by show 1<=s.size;omega) rfl) ?_;exact NC _ true hd (by rw [lf _ _ _ (aG _)];omega) w0 F
  .have e1:bZ s=false:=by unfold bZ;rw [ax h0,ab lg];rfl
   have e2:bQ s=s:=by unfold bQ;rw [e1]
   rw [e2]at hd;rw [e1,e2];refine cC hS 5 (amI s (by omega) (by show 0<s.size;exact h0) (by show¬((b7 s 0).toNat:Int)=45;omega)) ?_;exact NC _ false hd hl w0 F
 .have e1:bZ s=false:=by unfold bZ;rw [ab h0];rfl
  have e2:bQ s=s:=by unfold bQ;rw [e1]
  rw [e2]at hd;rw [e1,e2];refine cC hS 5 (amJ s (by omega)) ?_;exact NC _ false hd hl w0 F
def amO:VF.Ok prog:=fun⟨s,_⟩ h=>by
 have h:(decide (s.size<=800000)&&bY (ak (bQ s)))=true:=h;rw [ae,bB]at h;exact amN s h.1 h.2
def amP (l:List UInt8) (h:∀b∈l,b≠47):Lib.index l [47]= -1:=by
 induction l with
 |nil=>rfl
 |cons b r ih=>
  have hb:(47==b)=false:=by
   rw [fF];intro e;exact h b (by simp) e.symm
  have:=ih (fun c hc=>h c (by simp [hc]));simp [Lib.index,List.isPrefixOf,hb,this]
def amQ (l r:List UInt8) (h:∀b∈l,b≠47):Lib.index (l++47::r) [47]=(l.length:Int):=by
 induction l with
 |nil=>simp [Lib.index,List.isPrefixOf]
 |cons b t ih=>
  have hb:(47==b)=false:=by
   rw [fF];intro e;exact h b (by simp) e.symm
  have:=ih (fun c hc=>h c (by simp [hc]));rw [List.cons_append];unfold Lib.index;rw [this];simp only [List.isPrefixOf,hb,Bool.false_and,Bool.false_eq_true,if_false,List.length_cons];rw [if_neg (by simp)];omega
def VI (n:Int):∀b∈Lib.itoa n,b≠47:=by
 have hd:∀b∈Lib.decDigits n.natAbs,b≠47:=fun b hb e=>by
  have:=Dec.LZ _ b hb;subst e;exact absurd this.1 (by decide)
 by_cases h:n<0
 .rw [itoa_neg h];intro b hb;rcases ep.1 hb with rfl |hb
  .decide
  .exact hd b hb
 .rw [wC h];exact hd
def VJ {l:List UInt8} (h:∀b∈l,b≠47):Lib.cut l [47]=(l,[],false):=by
 unfold Lib.cut;rw [amP l h];rfl
def VK {l r:List UInt8} (h:∀b∈l,b≠47):Lib.cut (l++47::r) [47]=(l,r,true):=by
 unfold Lib.cut;rw [amQ l r h];simp
def aU (r:Rat):ByteArray:=if r.den=1 then cg r.num else⟨(Lib.itoa r.num++47::Lib.itoa r.den).toArray⟩
def amR {n:Nat} {r:Rat} (hn:1<=n) (hn2:n<=100000) (h1:bK n (aY (r.num.natAbs:Int))=true) (h2:bK n (aY (r.den:Int))=true) (hs:(aU r).size<4294967281):
  gg (aU r)=true/\QR n (cq (aU r)) r:=by
 have o1:bK n (aY r.num)=true:=by
  have:=d8 h1 hn;rw [val_mk]at this;exact(kZ (by omega)).1
 have hc:sx (aU r)=true:=by unfold sx;rw [ax hs]
 have A6:(j6:ByteArray).data.toList=[47]:=rfl;have ra:jG (cg r.num)=true:=rm (iz hn2 h1);by_cases hd:r.den=1
 .have ht:aU r=cg r.num:=by unfold aU;rw [if_pos hd]
  have hcut:Lib.cut (cg r.num).data.toList (j6:ByteArray).data.toList=(Lib.itoa r.num,[],false):=by rw [jH,A6,VJ (VI _)]
  have Dv:iV (cg r.num) j6=cg r.num:=by unfold iV;rw [hcut];rfl
  have Dw:ox (cg r.num) j6=false:=by unfold ox;rw [hcut]
  rw [ht]at hc ⊢;refine⟨?_, ?_⟩
  .unfold gg;rw [hc,Dv,ra,Dw];rfl
  .unfold cq;rw [Dw,if_neg (by decide),Dv,nn];have:=C2 o1;rw [val_mk]at this;have e:(r.num:Rat)=r:=Rat.ext rfl hd.symm;rw [e]at this;exact this
 .have ht:aU r=⟨(Lib.itoa r.num++47::Lib.itoa r.den).toArray⟩:=by unfold aU;rw [if_neg hd]
  have hcut:Lib.cut (aU r).data.toList (j6:ByteArray).data.toList=(Lib.itoa r.num,Lib.itoa r.den,true):=by
   rw [ht,A6,<-VK (VI r.num)]
  have Dv:iV (aU r) j6=cg r.num:=by unfold iV;rw [hcut];rfl
  have VL:sw (aU r) j6=cg r.den:=by unfold sw;rw [hcut];rfl
  have Dw:ox (aU r) j6=true:=by unfold ox;rw [hcut]
  have rb:jG (cg r.den)=true:=rm (iz hn2 (by rw [Int.natAbs_natCast];exact h2));refine⟨?_, ?_⟩
  .unfold gg;rw [hc,Dv,VL,ra,rb,Dw];rfl
  .unfold cq;rw [Dw,if_pos rfl,Dv,VL,nn,nn];exact⟨o1,h2,val_mk _,val_mk _⟩
end
end Go.Proofs.YtibikmmdbdlafaaGreatDoor
