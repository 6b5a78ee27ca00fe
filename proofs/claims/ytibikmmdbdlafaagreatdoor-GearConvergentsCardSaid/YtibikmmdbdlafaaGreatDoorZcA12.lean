import Derived.Test.YtibikmmdbdlafaaGreatDoorZcGAw1
import Derived.WalkLawsBesides
import Derived.WalkSpells
set_option linter.defProp false
set_option linter.unusedSectionVars false
set_option linter.unusedSimpArgs false
set_option linter.unusedVariables false
set_option maxRecDepth 100000
namespace Go.Proofs.YtibikmmdbdlafaaGreatDoor
open Go.RowKit Sv Go.Proofs.Tryz
noncomputable section
abbrev r2:Sv.Ren:=[(64,64,none),(65,65,none)]
abbrev BJ (q:bB):fJ:= .blk (.cells 85 [iv q.1.1, .bn true (.int .u64) q.1.2,iv q.2.1, .bn true (.int .u64) q.2.2] true false false)
def zx {n:Nat} {x:Int} (h: -9223372036854775808<=x/\x<=9223372036854775807):aT n (aV x)=true:=by
 rw [nH (a:=aV x) rfl];unfold gI;rw [ae];exact⟨az h.1,az h.2⟩
def xj (x:Int):aj (aV x)=x:=if_pos rfl
def Oh:=k_a Tryz.f61
def okTx (q:bB):Bool:=((List.isEmpty q.1.2&&gI q.1.1)&&(List.isEmpty q.2.2&&gI q.2.1))&&(decide ((ct q.1.1).size<=100)&&decide ((ct q.2.1).size<=100))
def txS (q:bB):AT:=if hO q=true then ct q.1.1 else ct q.1.1++ByteArray.mk #[47]++ct q.2.1
end
def PH {n d:Int} (hd:1<=d):Rat.divInt (HG n d) (BF n d)=Rat.divInt n d:=by
 have hg:0<Int.gcd n d:=Int.gcd_pos_of_ne_zero_right _ ω;have e1:=Int.ediv_mul_cancel (show(Int.gcd n d:Int)∣n from Int.gcd_dvd_left ..);have e2:=Int.ediv_mul_cancel (show(Int.gcd n d:Int)∣d from Int.gcd_dvd_right ..);unfold HG BF;have e:Rat.divInt n d=Rat.divInt (n/(Int.gcd n d:Int)*(Int.gcd n d:Int)) (d/(Int.gcd n d:Int)*(Int.gcd n d:Int)):=by rw [e1,e2]
 rw [e];exact(Rat.divInt_mul_right (show(Int.gcd n d:Int)≠0 by omega)).symm
def anr {n d:Int} (hd:1<=d):Int.gcd (HG n d) (BF n d)=1:=Int.gcd_ediv_gcd_ediv_gcd (by have:=Int.gcd_pos_of_ne_zero_right n (show d≠0 by omega);omega)
def pD {p q:Int} (hq:1<=q) (h:Int.gcd p q=1):(Rat.divInt p q).num=p/\((Rat.divInt p q).den:Int)=q:=by
 have hd:0<(Rat.divInt p q).den:=(Rat.divInt p q).den_pos;have e:(Rat.divInt p q).num*q=p*((Rat.divInt p q).den:Int):=(Rat.divInt_eq_divInt_iff ω ω).1 (Rat.num_divInt_den _);have g:Int.gcd (Rat.divInt p q).num ((Rat.divInt p q).den:Int)=1:=(Rat.divInt p q).reduced;exact UB ω ω g h e
def mZ {u:Nat} (h:u<10):Lib.decDigits u=[UInt8.ofNat (48+u)]:=by rw [Lib.decDigits,dif_pos h]
def s5 {u:Nat} (h:¬u<10):Lib.decDigits u=Lib.decDigits (u/10)++[UInt8.ofNat (48+u%10)]:=by rw [Lib.decDigits,dif_neg h]
def Wq:∀(f:Nat) (n:Int) (s:List UInt8),0<=n->n<10^f->1<=s.length->cp f n 1 s=(if n=0 then []else Lib.decDigits n.toNat)++s
 |0,n,s,h0,h1,hs=>by
  have:n=0:=by simp at h1;omega
  subst this;rfl
 |f+1,n,s,h0,h1,hs=>by
  have q1:=c7 n (show(0:Int)<10 by decide);have aQ:=dr n (show(10:Int)≠0 by decide);have b7:=Int.mul_ediv_add_emod n 10;rw [Int.pow_succ]at h1;unfold cp;split
  .rename_i hc;have hn:0<n:=by omega
   rw [Wq f (n/10) (oE n::s) ω ω τ,if_neg (show¬n=0 by omega)];unfold oE;by_cases h10:n<10
   .rw [if_pos ω,mZ (u:=n.toNat) ω,show n%10=n by omega];simp
   .rw [if_neg ω,s5 (u:=n.toNat) ω,show(n/10).toNat=n.toNat/10 by omega,show(n%10).toNat=n.toNat%10 by omega];simp
  .rename_i hc;have:n=0:=by omega
   subst this;rfl
def Ea {n:Int} (h0:0<=n) (h1:n<100000000000000000000):cp 20 n 1 []=Lib.itoa n:=by
 have q1:=c7 n (show(0:Int)<10 by decide);have aQ:=dr n (show(10:Int)≠0 by decide);have b7:=Int.mul_ediv_add_emod n 10;show cp (19+1) n 1 []=_;unfold cp;rw [if_pos (.inr τ),Wq 19 (n/10) [oE n] ω ω τ];unfold Lib.itoa oE;rw [if_neg (show¬n<0 by omega)];by_cases h10:n<10
 .rw [if_pos ω,mZ (u:=n.toNat) ω,show n%10=n by omega];simp
 .rw [if_neg ω,s5 (u:=n.toNat) ω,show(n/10).toNat=n.toNat/10 by omega,show(n%10).toNat=n.toNat%10 by omega]
noncomputable section
def u6:=k_a f70
def zy:=bc [HE]
abbrev kF (n m:Int):AT:=⟨(cp 20 n m []).toArray⟩
abbrev Oi (n:Bool) (w:List Int):fJ:= .blk (.cells 97 [bv n,lv w] true false false)
def nQ (n:Bool) (w:List Int) (s:AT) (z:Int):bD:={n:=39,sl:=[(1, .ptr 64 0),(3,sv s),(4,iv z)],bJ:=[(64,Oi n w)],next:=65}
abbrev Oj:List Nat:=[1,1,1,0,1,0,0]
section
variable (n:Bool) (w:List Int)
def ans (h1:(w.length:Int)=0):
  bh zy (fl u6 []) 3 39 [rv (n,w)] 3 f70 true (sv ⟨#[48]⟩):=
 wy [cX h1] 1
def ant (h1:¬(w.length:Int)=0) (h2:i6 ((w.length:Int)-1)) (h3:0<=(w.length:Int)-1) (h4:((w.length:Int)-1).toNat<w.length) (h5:(decide ((0:av.den (.int .i64))<=w.getD ((w.length:Int)-1).toNat 0)&&(decide (w.getD ((w.length:Int)-1).toNat 0<=(9223372036854775807:av.den (.int .i64)))&&decide (1<=(20:av.den (.int .i64)))))=true) (h6:i6 ((w.length:Int)-2)):
  cZ zy (fl u6 []) 5 39 [rv (n,w)] 2 .normal [(64,64,none)] (nQ n w (kF (w.getD ((w.length:Int)-1).toNat 0) 1) ((w.length:Int)-2)):=
 wy [yn h1,yi h2,ah h3,ah h4,af h5,yi h6] 6527398017
def anu (s:AT) (z:Int) (h1:z>=0) (h2:0<=z) (h3:z.toNat<w.length) (h4:(decide ((0:av.den (.int .i64))<=w.getD z.toNat 0)&&(decide (w.getD z.toNat 0<=(9223372036854775807:av.den (.int .i64)))&&decide (9<=(20:av.den (.int .i64)))))=true) (h5:s.size+(ByteArray.mk (List.toArray (cp 20 (w.getD z.toNat 0) 9 []))).size<=9223372036854775807) (h6:i6 (z-1)):
  bt zy (fl u6 Oj) (nQ n w s z) 3 .normal [(64,64,none)] (nQ n w (s++kF (w.getD z.toNat 0) 9) (z-1)):=
 wy [ah h1,ah h2,ah h3,af h4,ah h5,yi h6] 6527398017
def anv (s:AT) (z:Int) (h1:¬z>=0):
  bt zy (fl u6 Oj) (nQ n w s z) 2 (.exit 0) [(64,64,none)] (nQ n w s z):=
 wy [aJ h1] 1
end
def anw (w:List Int) (s:AT) (z:Int) (h1:(ByteArray.mk (#[(45:UInt8)])).size+s.size<=9223372036854775807):
  bS zy ((fl u6 []).drop 6) (nQ true w s z) 3 f70 true (sv (⟨#[45]⟩++s)):=
 wy [ah h1] 64
def anx (w:List Int) (s:AT) (z:Int):
  bS zy ((fl u6 []).drop 6) (nQ false w s z) 2 f70 true (sv s):=
 wy [] 0
def Ol:=IN 70 [lZ] [.str] true (fun d=>okZ d.1) fun d=>(ct (vZ d.1),())
def kG:Nat->Int->List UInt8
 |0,_=>[]
 |k+1,x=>kG k (x/10)++[oE x]
def Om:∀(k:Nat) (x:Int),(kG k x).length=k
 |0,_=>rfl
 |k+1,x=>by rw [kG,cQ,Om k];rfl
def Wr:∀(k f:Nat) (x:Int) (s:List UInt8),k<=f->0<=x->x<10^k->cp f x ((s.length:Int)+k) s=kG k x++s
 |0,f,x,s,_,h0,h1=>by
  have:x=0:=by simp at h1;omega
  subst this;cases f with
  |zero=>rfl
  |succ f=>
   unfold cp;rw [if_neg ω];rfl
 |k+1,f,x,s,hf,h0,h1=>by
  obtain⟨g,rfl⟩:∃g,f=g+1:=⟨f-1,by omega⟩;rw [Int.pow_succ]at h1;unfold cp;rw [if_pos ω];have:=Wr k g (x/10) (oE x::s) ω ω ω;rw [List.length_cons,show(((s.length+1:Nat):Int)+(k:Int))=(s.length:Int)+((k+1:Nat):Int) by omega]at this;rw [this,kG,qh];rfl
def On:∀(k:Nat) (u:Nat) (x:Int),0<u->0<=x->x<10^k->Lib.decDigits (u*10^k+x.toNat)=Lib.decDigits u++kG k x
 |0,u,x,hu,h0,h1=>by
  have:x=0:=by simp at h1;omega
  subst this;simp [kG]
 |k+1,u,x,hu,h0,h1=>by
  rw [Int.pow_succ]at h1;have hp:0<10^k:=Nat.pow_pos δ;have h2:1*1<=u*10^k:=Nat.mul_le_mul hu hp;have e:u*10^(k+1)+x.toNat=(u*10^k+(x/10).toNat)*10+(x%10).toNat:=by
   rw [Nat.pow_succ,<-Nat.mul_assoc];omega
  have hm:(x%10).toNat<10:=by omega
  rw [e,s5 ω,show((u*10^k+(x/10).toNat)*10+(x%10).toNat)/10=u*10^k+(x/10).toNat by omega,show((u*10^k+(x/10).toNat)*10+(x%10).toNat)%10=(x%10).toNat by omega,On k u (x/10) hu ω ω,kG,qh];rfl
def anz:bC prog (bF zy):=cK (aP NM dQ)
def Ws {x:Int} (h:0<=x/\x<1000000000):(kF x 9).data.toList=kG 9 x:=by
 have:=Wr 9 20 x [] δ h.1 (by have:(10:Int)^9=1000000000:=rfl;omega);show cp 20 x 9 []=_;rw [List.append_nil]at this;exact this
def anA {x:Int} (h:0<=x/\x<1000000000):(kF x 1).data.toList=Lib.decDigits x.toNat:=by
 show cp 20 x 1 []=_;rw [Ea h.1 ω];unfold Lib.itoa;rw [if_neg ω]
def Wt {s:AT} {u:Nat} (h:s.data.toList=Lib.decDigits u):s=ct (u:Int):=gA (by rw [h,jm];exact(Dec.oz u).symm)
def Oo {w:List Int} (hw:aS 1000000000 w):(Lib.decDigits (ag w).toNat).length<=9*w.length+1:=by
 refine dh (Dec.M4 (9*w.length) _ ?_) ω;have h1:=dt (b:=1000000000) δ hw;have h0:=eh hw;have e:(1000000000:Int)^w.length=((10^(9*w.length):Nat):Int):=by
  rw [Nat.pow_mul,Int.natCast_pow];rfl
 have h2:ag w<((10^(9*w.length):Nat):Int):=by rw [<-e];exact h1
 have h3:10^(9*w.length)<=10^(9*w.length+1):=Nat.pow_le_pow_right δ ω;omega
def IH (n:Bool) (w:List Int) (h:okZ (n,w)=true):Holds prog true 70 [rv (n,w)] (sv (ct (bk n (ag w)))):=by
 obtain⟨h1,h2⟩:=pY.1 h;have h1:okA w=true:=h1;have h2:n=true->0<ag w:=h2;obtain⟨hd,ht,hl⟩:=fO.1 h1;have hS:=anz;refine bL (c:=u6) func70 rfl rfl fun w0 F=> ?_
 by_cases hz:w.length=0
 .have hw:w=[]:=List.eq_nil_of_length_eq_zero hz;subst hw;have hn:n=false:=by
   cases n with
   |false=>rfl
   |true=>exact absurd (h2 rfl) δ
  subst hn;have e:ct (bk false (ag []))=⟨#[48]⟩:=by
   refine gA ?_;rw [jm];show Lib.itoa ((0:Nat):Int)=[48];rw [Dec.oz,mZ δ];rfl
  rw [e];exact bw hS 3 (ans false [] τ)
 .obtain⟨m,hm⟩:∃m,w.length=m+1:=⟨w.length-1,by omega⟩;have Wu:=hd.get δ m;have auU:=ht m hm;have i1:((w.length:Int)-1).toNat=m:=by omega
  have i2:((w.length:Int)-2)=(m:Int)-1:=by omega
  have key:=ant n w ω ω ω;rw [i1,i2]at key;refine cJ hS 5 (key ω (by rw [az Wu.1,az (show w.getD m 0<=9223372036854775807 by omega)];rfl) ω) ?_;have hst:kF (w.getD m 0) 1=ct ((ag (w.drop m)).toNat:Int):=Wt (by
   rw [anA Wu];congr 2;unfold ag;rw [uF ω,List.drop_eq_nil_of_le ω];simp [vl])
  rw [hst];refine aU.loop (ι:={k:Nat//k<=m}) (id:=0) (b:=cat u6 Oj) (rest:=(fl u6 []).drop 6) (by kernel_rfl) (fun k=>nQ n w (ct ((ag (w.drop k.1)).toNat:Int)) ((k.1:Int)-1)) (fun k=>k.1) ⟨m,aI _⟩ (fun _=>rfl) ?_;rintro⟨k,hk⟩;have hlen:(ct ((ag (w.drop k)).toNat:Int)).size<=9*w.length+1:=by
   have h3:=Oo (hd.drop k);rw [mb]at h3;rw [uZ,jm,Dec.oz];omega
  cases k with
  |zero=>
   refine bx (s:=nQ n w (ct ((ag (w.drop 0)).toNat:Int)) (((0:Nat):Int)-1)) hS (anv n w _ _ ω) ?_;refine cy (cF ?_);have h0:=eh hd;rw [List.drop_zero,Int.toNat_of_nonneg h0]at hlen ⊢;cases n with
   |false=>exact bX (s:=nQ false w (ct (ag w)) (((0:Nat):Int)-1)) hS (anx w _ _)
   |true=>
    have hp:=h2 rfl;have e:(⟨#[45]⟩:AT)++ct (ag w)=ct (bk true (ag w)):=by
     refine gA ?_;rw [dp,jm,jm,itoa_neg (show bk true (ag w)<0 by show-ag w<0;omega),ib ω];show _=45::Lib.decDigits (-ag w).natAbs;rw [Int.natAbs_neg];rfl
    rw [<-e];exact bX (s:=nQ true w (ct (ag w)) (((0:Nat):Int)-1)) hS (anw w _ _ (by show 1+_<=_;omega))
  |succ j=>
   have hj:=hd.get δ j;have e1:(((j+1:Nat):Int)-1)=(j:Int):=by omega
   have e2:(j:Int).toNat=j:=by omega
   have auV:(kF (w.getD j 0) 9).size=9:=by rw [uZ,Ws hj,Om]
   have key:=anu n w (ct ((ag (w.drop (j+1))).toNat:Int)) (j:Int) ω ω;rw [e2]at key;have hpos:0<ag (w.drop (j+1)):=by
    have h3:=si 1000000000 (w.drop (j+1)) (m-(j+1)) (by rw [mb];omega);have h4:=eh ((hd.drop (j+1)).take (m-(j+1)));rw [List.drop_drop,show j+1+(m-(j+1))=m by omega]at h3;have h5:vl 1000000000 (w.drop m)=w.getD m 0:=by
     rw [uF ω,List.drop_eq_nil_of_le ω];simp [vl]
    rw [h5]at h3;have h6:=Int.mul_pos (dR (b:=1000000000) δ (m-(j+1))) (show 0<w.getD m 0 by omega);unfold ag at*;omega
   have anB:ct ((ag (w.drop (j+1))).toNat:Int)++kF (w.getD j 0) 9=ct ((ag (w.drop j)).toNat:Int):=Wt (by
    rw [dp,jm,Dec.oz,Ws hj,<-On 9 _ _ ω hj.1 (by have:(10:Int)^9=1000000000:=rfl;omega)];congr 1;have h3:ag (w.drop j)=w.getD j 0+1000000000*ag (w.drop (j+1)):=uF ω;have h4:(10:Nat)^9=1000000000:=rfl;rw [h3,h4];omega)
   show ba _ _ _ _ _ _ (nQ n w (ct ((ag (w.drop (j+1))).toNat:Int)) (((j+1:Nat):Int)-1)).T (nQ n w (ct ((ag (w.drop (j+1))).toNat:Int)) (((j+1:Nat):Int)-1)).H _;rw [e1];refine bx (s:=nQ n w (ct ((ag (w.drop (j+1))).toNat:Int)) (j:Int)) hS (key ω (by rw [az hj.1,az (show w.getD j 0<=9223372036854775807 by omega)];rfl) (by show _+(kF (w.getD j 0) 9).size<=_;omega) ω) ?_;rw [anB];exact⟨⟨j,by omega⟩,fG _,rfl,rfl⟩
def Wv:Ol.Ok prog:=fun⟨⟨n,w⟩,_⟩ h=>IH n w h
def Oq:bC prog (bF nM):=cK (aP ai6 (aP LR (aP Ui (aP aji (aP ajj dQ)))))
def Ww:∀c:Nat,Lib.repeatL [48] c=List.replicate c 48
 |0=>rfl
 |c+1=>by rw [Lib.repeatL,Ww c];rfl
def Wx:∀k:Nat,kG k 0=List.replicate k 48
 |0=>rfl
 |k+1=>by
  rw [kG,show(0:Int)/10=0 from rfl,Wx k,List.replicate_succ'];rfl
def Wy:∀(k:Nat) (x:Int),0<=x->x<10^(k+1)->kG (k+1) x=List.replicate (k+1-(Lib.decDigits x.toNat).length) 48++Lib.decDigits x.toNat
 |k,x,h0,h1=>by
  by_cases hx:x<10
  .rw [kG,show x/10=0 by omega,Wx,mZ ω];show _++[oE x]=List.replicate (k+1-1) 48++_;rw [Nat.add_sub_cancel];unfold oE;rw [show x%10=x by omega]
  .cases k with
   |zero=>simp at h1;omega
   |succ k=>
    rw [Int.pow_succ]at h1;have e:(10:Int)^(k+1)=10^k*10:=Int.pow_succ ..;rw [kG,Wy k (x/10) ω ω,s5 (u:=x.toNat) ω,cQ,show(x/10).toNat=x.toNat/10 by omega,qh];show _=List.replicate (k+1+1-(_+1)) 48++_;rw [Nat.add_sub_add_right];unfold oE;rw [show(x%10).toNat=x.toNat%10 by omega]
def nc (m:Int):List UInt8:=if m=0 then []else Lib.decDigits m.toNat
def anC {m:Int} (h:0<m):nc m=nc (m/1000000000000000000)++(if m/1000000000000000000=0 then Lib.decDigits (m%1000000000000000000).toNat else kG 18 (m%1000000000000000000)):=by
 unfold nc;rw [if_neg ω];by_cases hq:m/1000000000000000000=0
 .rw [if_pos hq,if_pos hq,List.nil_append,show m%1000000000000000000=m by omega]
 .rw [if_neg hq,if_neg hq,<-On 18 _ _ ω ω (by have:(10:Int)^18=1000000000000000000:=rfl;omega)];congr 1;have:(10:Nat)^18=1000000000000000000:=rfl;omega
def fE (ps:List AT):List UInt8:=(ps.reverse.map aq).flatten
def anD (ps:List AT) (s:AT):fE (ps++[s])=aq s++fE ps:=by unfold fE;simp
def HS (ps:List AT) (s:AT):fE (s::ps)=fE ps++aq s:=by unfold fE;simp
def Ot:∀{ps:List AT},(∀s∈ps,1<=(aq s).length)->ps.length<=(fE ps).length
 |[],_=>Nat.zero_le _
 |s::ps,h=>by
  have h1:=Ot (ps:=ps) fun x hx=>h x (kJ _ hx)
  have h2:=h s kK;rw [HS,cQ,List.length_cons];omega
def tk (u:Nat):1<=(Lib.decDigits u).length:=by
 by_cases h:u<10
 .rw [mZ h];exact aI _
 .rw [s5 h,cQ];exact Nat.le_add_left _ _
def Wz {n:Nat} {m:Int} (h0:0<=m) (h:m<18446744073709551616^n):(Lib.decDigits m.toNat).length<=20*n+1:=by
 refine Dec.M4 (20*n) _ ?_;have e:(18446744073709551616:Nat)^n<=10^(20*n):=by rw [Nat.pow_mul];exact Nat.pow_le_pow_left δ _
 have h2:((18446744073709551616^n:Nat):Int)=18446744073709551616^n:=by rw [Int.natCast_pow];rfl
 have h3:10^(20*n)<=10^(20*n+1):=Nat.pow_le_pow_right δ ω;omega
def WA (s:AT):oX (dV s)=s:=by
 refine gA ?_;unfold oX dV;show((s.data.toList.map _).map _)=_;rw [List.map_map];refine(List.map_congr_left fun x _=> ?_).trans (List.map_id _);show UInt8.ofNat ((x.toNat:Int).toNat)=x;rw [Int.toNat_natCast];exact UInt8.ofNat_toNat
def anE (a b:AT):dV (a++b)=dV a++dV b:=by
 unfold dV;rw [dp,List.map_append]
def i7 (a:AT):(dV a).length=(aq a).length:=by unfold dV;rw [kL]
def anF (s:AT):Jg (dV s)=true:=az (by rw [WA])
def zz (neg:Bool):List UInt8:=if neg then [45]else []
def xt {a:aC} {n:Nat} (h:aT n a=true):aq (ct (aj a))=zz (bY a)++Lib.decDigits (aj a).natAbs:=by
 obtain⟨_,_,_,h4,_⟩:=cf h;show(ct (aj a)).data.toList=_;rw [jm];unfold zz;cases hn:bY a with
 |true=>
  rw [itoa_neg (h4.1 hn)];rfl
 |false=>
  have:¬aj a<0:=fun h=>by rw [h4.2 h]at hn;cases hn
  rw [ib ω];show _=[]++_;rw [List.nil_append]
def WB:∀(a b:List AT),fE (a++b)=fE b++fE a
 |[],b=>by simp [fE]
 |s::a,b=>by rw [List.cons_append,HS,WB a b,HS,qh]
def WC (ps:List AT) (k:Nat):(fE (ps.drop k)).length<=(fE ps).length:=by
 have h:=WB (ps.take k) (ps.drop k);rw [List.take_append_drop]at h;rw [h,cQ];omega
def anG {ps:List AT} {j:Nat} (h:j<ps.length):fE (ps.drop j)=fE (ps.drop (j+1))++aq (ps.getD j ByteArray.empty):=by
 rw [List.drop_eq_getElem_cons h,HS,ao,rJ h];rfl
def zA {α:Type} (l:List α) (x:α):aX.full=bH (l++[x]).length:=by simp [bH]
def WD {n:Nat} (h:1<=n):aX.full=bH n:=(ZS h).symm
def WE {r:Int} (h0:0<=r) (h1:r<1000000000000000000):(Lib.decDigits r.toNat).length<=18:=Dec.ajd _ ω
def Ou (r:Int):aq (eI r)=Lib.decDigits r.toNat:=by unfold eI;simp
def WG (r:Int):(eI r).size=(Lib.decDigits r.toNat).length:=by rw [cP,Ou]
def Ov (c:Int):aq (fw (ByteArray.mk #[48]) c)=List.replicate c.toNat 48:=by
 unfold fw;show(Lib.repeatL [48] c.toNat).toArray.toList=_;rw [Ww]
def anH {r:Int} (h0:0<=r) (h1:r<1000000000000000000):aq (fw (ByteArray.mk #[48]) (18-((eI r).size:Int))++eI r)=kG 18 r:=by
 have hl:=WE h0 h1;unfold aq;rw [dp];show aq _++aq _=_;rw [Ov,Ou,WG,Wy 17 r h0 (by have:(10:Int)^18=1000000000000000000:=rfl;omega)];congr 2;omega
def anI:aq (fw (ByteArray.mk #[48]) 17++ByteArray.mk #[48])=kG 18 0:=by
 unfold aq;rw [dp];show aq _++aq _=_;rw [Ov];rfl
def anJ {m:Int} (h0:0<=m) (h1:m<18446744073709551616^10000):
  pR (cO 18446744073709551616 m) lY=true/\e7 (cO 18446744073709551616 m) lY=cO 18446744073709551616 (m/1000000000000000000)/\cI (cO 18446744073709551616 m) lY=cO 18446744073709551616 (m%1000000000000000000):=by
 have h3:=(qX (b:=18446744073709551616) δ h0).2.2;have e1:ak (cO 18446744073709551616 m)=m:=h3;have e2:ak lY=1000000000000000000:=A1 _;have hl:=jn (b:=18446744073709551616) δ h0 h1;have hB:=yL h0;refine⟨?_,by unfold e7;rw [e1,e2],by unfold cI;rw [e1,e2]⟩;unfold pR mR;rw [hB,show(gR lY&&jG lY)=true by rfl,az (show(cO 18446744073709551616 m).length<=1000000 by omega),az (show(cO 18446744073709551616 m).length<=300000 by omega)];rfl
def anK {r:Int} (h0:0<r) (h1:r<1000000000000000000):cO 18446744073709551616 r=[r]:=(qY δ (LJ ⟨by omega,by omega⟩) (TB ω) (A1 r)).symm
def tl {l:List Int} (h:l≠[]):(l.length:Int)>0:=by
 cases l with
 |nil=>exact absurd rfl h
 |cons a b=>rw [List.length_cons];omega
def HT (N:Int) (x:Int×List AT):Prop:=0<=x.1/\x.1<=N/\nc N=nc x.1++fE x.2/\∀s∈x.2,1<=(aq s).length
def anL {N:Int} {x:Int×List AT} (hN:0<N) (hb:N<18446744073709551616^10000) (h:HT N x):x.2.length<=(fE x.2).length/\(fE x.2).length<=200001:=by
 obtain⟨_,_,h3,h4⟩:=h;refine⟨Ot h4, ?_⟩;have h5:=Wz (cr hN) hb;have h6:=congrArg List.length h3;unfold nc at h6;rw [if_neg ω,cQ]at h6;omega
def Ow {N q:Int} {m:Int} {ps:List AT} {s:AT} (h:HT N (m,ps)) (hm:0<m) (hq:q=m/1000000000000000000)
  (hs:aq s=if q=0 then Lib.decDigits (m%1000000000000000000).toNat else kG 18 (m%1000000000000000000)):HT N (q,ps++[s])/\q.toNat<m.toNat:=by
 obtain⟨h1,h2,h3,h4⟩:=h;have h2:m<=N:=h2;have h3:nc N=nc m++fE ps:=h3;refine⟨⟨by show 0<=q;omega,by show q<=N;omega, ?_,fun x hx=> ?_⟩,by omega⟩
 .show nc N=nc q++fE (ps++[s]);rw [h3,anC hm,anD,hs,hq,qh]
 .rcases List.mem_append.1 hx with hx|hx
  .exact h4 x hx
  .rw [List.mem_singleton.1 hx,hs];split
   .exact tk _
   .rw [Om];decide
def WH (neg:Bool) (ps:List AT) (x:Bool×Nat×AT):Prop:=x.2.1<=ps.length/\aq x.2.2=zz neg++fE (ps.drop x.2.1)/\(x.1=false->neg=false/\x.2.1=ps.length)
def WI {neg:Bool} {ps:List AT} {v:AT} (hv:aq v=zz neg++fE ps) (hl:(fE ps).length<=200001) (hlp:1<=ps.length) (hp:∀s∈ps,1<=(aq s).length) (w:World) (F:Sv.Env) (b0:Bool) (s0:AT) (h0:WH neg ps (b0,ps.length,s0)):
  aU prog w F 69 ((fl jN []).drop 11) (cond b0 (mV ps (dV s0) ((ps.length:Int)-1)) (wZ ps ((ps.length:Int)-1))).T (cond b0 (mV ps (dV s0) ((ps.length:Int)-1)) (wZ ps ((ps.length:Int)-1))).H (hG prog true f127 (sv v)):=by
 have hS:=Oq;have auW:=Ot hp;refine aU.loop (ι:={x:Bool×Nat×AT//WH neg ps x}) (id:=2) (b:=cat jN Hi) (rest:=(fl jN []).drop 12) (by kernel_rfl) (fun x=>cond x.1.1 (mV ps (dV x.1.2.2) ((x.1.2.1:Int)-1)) (wZ ps ((x.1.2.1:Int)-1))) (fun x=>x.1.2.1) ⟨(b0,ps.length,s0),h0⟩ (fun x=>by obtain⟨⟨b,_⟩,_⟩:=x;cases b<;>rfl) ?_;rintro⟨⟨b,k,s⟩,hk,hs,hb⟩;have hk:k<=ps.length:=hk;have hs:aq s=zz neg++fE (ps.drop k):=hs;have p0:(zz neg).length<=1:=by cases neg<;>decide
 have nw:(dV s).length<=200002:=by
  have:=WC ps k;rw [i7,hs,cQ];omega
 cases k with
 |zero=>
  cases b with
  |false=>have:=(hb rfl).2;exact absurd (show 0=ps.length from this) ω
  |true=>
   refine bx (s:=mV ps (dV s) (((0:Nat):Int)-1)) hS (ajH ps (dV s) _ ω) ?_;refine cy (cF ?_);obtain rfl:s=v:=gA (by show aq s=aq v;rw [hs,hv,List.drop_zero]);have hs1:1<=(dV s).length:=by rw [i7,hs,List.drop_zero,cQ];omega
   have key:=ajI ps (dV s) (((0:Nat):Int)-1) hs1 ω ω (by rw [dK];exact ap (anF s)) (by rw [dK]);rw [WA]at key;exact bX (s:=mV ps (dV s) (((0:Nat):Int)-1)) hS key
 |succ j=>
  have HU:(((j+1:Nat):Int)-1)=(j:Int):=by omega
  have et:(j:Int).toNat=j:=by omega
  have hpc:=hp (ps.getD j ByteArray.empty) (by rw [ao,rJ ω];exact List.getElem_mem _);have hsz:(ps.getD j ByteArray.empty).size=(aq (ps.getD j ByteArray.empty)).length:=cP _;have hnx:=anG (ps:=ps) (j:=j) ω;have hU:(fE (ps.drop j)).length<=200001:=by have:=WC ps j;omega
  rw [hnx,cQ]at hU;have hbz:Nat.beq (ps.getD j ByteArray.empty).size 0=false:=by
   cases hq:Nat.beq (ps.getD j ByteArray.empty).size 0 with
   |false=>rfl
   |true=>have:=ac hq;omega
  cases b with
  |false=>
   obtain⟨rfl,hj⟩:=hb rfl;have hj:j+1=ps.length:=hj;have key:=ajF ps (j:Int);rw [et]at key;show ba _ _ _ _ _ _ (wZ ps (((j+1:Nat):Int)-1)).T (wZ ps (((j+1:Nat):Int)-1)).H _;rw [HU];refine bx (s:=wZ ps (j:Int)) hS (key ω ω ω hbz (by show 0+_<=_;omega) ω (by show 0+_=(dV _).length;rw [i7];omega) (WD (show 1<=(dV _).length by rw [i7];omega)) rfl) ?_;refine⟨⟨(true,j,ps.getD j ByteArray.empty),by show j<=_;omega, ?_,fun h=>by cases h⟩,fG _,rfl,rfl⟩;show aq (ps.getD j ByteArray.empty)=[]++fE (ps.drop j);rw [hnx,hj,List.drop_length];rfl
  |true=>
   have key:=ajG ps (dV s) (j:Int);rw [et,<-anE]at key;show ba _ _ _ _ _ _ (mV ps (dV s) (((j+1:Nat):Int)-1)).T (mV ps (dV s) (((j+1:Nat):Int)-1)).H _;rw [HU];have hle:(dV s).length+(ps.getD j ByteArray.empty).size=(dV s++dV (ps.getD j ByteArray.empty)).length:=by rw [cQ,i7 (ps.getD j ByteArray.empty),hsz]
   refine bx (s:=mV ps (dV s) (j:Int)) hS (key ω ω ω hbz ω ω hle (WD (show 1<=(dV s++dV (ps.getD j ByteArray.empty)).length by rw [<-hle];omega))) ?_;refine⟨⟨(true,j,s++ps.getD j ByteArray.empty),by show j<=_;omega, ?_,fun h=>by cases h⟩,fG _,rfl,rfl⟩;show(s++ps.getD j ByteArray.empty).data.toList=_++fE (ps.drop j);rw [hnx,dp];show aq s++_=_;rw [hs,qh]
def BK {l:List Code} (h:l.isEmpty=false) (e:l=[]):False:=by rw [e]at h;cases h
def anM (a:aC) (h:aT 10000 a=true) (hw:a.2≠[]):Holds prog true 127 [aA a] (sv (ct (aj a))):=by
 have hS:=Oq;obtain⟨p1,p2,p3,ec,kU⟩:=cf h;obtain⟨_,_,_,b4,_⟩:=(pM hw).1 h;have hB:=jI h δ;obtain⟨N,hN⟩:∃N:Int,N=((aj a).natAbs:Int):=⟨_,rfl⟩;have zB:0<N:=by
  unfold aB at p3;rw [if_neg hw]at p3;omega
 have hb:N<18446744073709551616^10000:=by rw [hN];exact hB
 have MW:aB a=cO 18446744073709551616 N:=qY δ p1 p2 (by rw [hN];exact p3);have lU:=xt h;have hdd:Lib.decDigits (aj a).natAbs=nc N:=by
  unfold nc;rw [if_neg ω];congr 1;omega
 rw [hdd]at lU;have anN:ay a=true:=a8 δ h;have anO:List.isEmpty a.2=false:=by
  cases hq:List.isEmpty a.2 with
  |false=>rfl
  |true=>exact absurd (List.isEmpty_iff.1 hq) hw
 refine bL (c:=jN) func127 rfl rfl fun w F=> ?_
 refine cJ hS 6 (ajv a anO anN rfl) ?_;rw [MW];generalize bY a=neg at lU ⊢;refine aU.uA (BK (by kernel_rfl)) (i:=64) (s:=5) (e2:=167) (t:=aE) (xs:=lY) (cap:=bH 1) (by kernel_rfl) (by kernel_rfl) ?_;refine aU.nD (BK (by kernel_rfl)) (σ:=[(64,65,none)]) (s:=lg neg (cO 18446744073709551616 N) []) (ajw neg _) ?_;refine aU.loop (ι:={x:Int×List AT//HT N x}) (id:=0) (b:=cat jN DP) (rest:=(fl jN []).drop 7) (by kernel_rfl) (fun x=>lg neg (cO 18446744073709551616 x.1.1) x.1.2) (fun x=>x.1.1.toNat)
  ⟨(N,[]),cr zB,Int.le_refl _,(List.append_nil _).symm,fun s hs=>absurd hs ki⟩ (fun _=>rfl) ?_
 rintro⟨⟨m,ps⟩,hx⟩;have hl:=anL zB hb hx;have hl:ps.length<=(fE ps).length/\(fE ps).length<=200001:=hl;have hm0:0<=m:=hx.1;have auX:m<=N:=hx.2.1;by_cases hm:m=0
 .subst hm;have e0:cO 18446744073709551616 0=[]:=LK δ;refine bx (s:=lg neg (cO 18446744073709551616 0) ps) hS (ajA neg _ ps (by rw [e0];decide)) ?_;refine cy (cF ?_);have Ox:fE ps=nc N:=by have:=hx.2.2.1;exact this.symm
  refine aU.uA (BK (by kernel_rfl)) (i:=64) (s:=6) (e2:=9) (t:= .str) (xs:=ps) (cap:=bH ps.length) (by kernel_rfl) (by kernel_rfl) ?_;refine aU.nD (BK (by kernel_rfl)) (σ:=[]) (s:=Hj neg ps) (ajB neg _ ps) ?_;refine c6 (s:=Hj neg ps) hS 1 (ajC neg ps) ?_;have hlp:1<=ps.length:=by
   cases ps with
   |nil=>
    have:nc N=[]:=Ox.symm;unfold nc at this;rw [if_neg ω]at this;have h1:=tk N.toNat;rw [this]at h1;cases h1
   |cons=>simp
  cases neg with
  |true=>
   refine c6 (s:=DQ true ps) hS 3 (ajD ps δ ω rfl rfl rfl) ?_;exact WI (neg:=true) (ps:=ps) (by rw [lU,Ox]) hl.2 hlp hx.2.2.2 w F true ⟨#[45]⟩ ⟨aI _,by show _=[45]++fE (ps.drop ps.length);rw [List.drop_length];rfl,fun h=>by cases h⟩
  |false=>
   refine c6 (s:=DQ false ps) hS 3 (ajE ps ω) ?_;exact WI (neg:=false) (ps:=ps) (by rw [lU,Ox]) hl.2 hlp hx.2.2.2 w F false ⟨#[]⟩ ⟨aI _,by show _=[]++fE (ps.drop ps.length);rw [List.drop_length];rfl,fun _=>⟨rfl,rfl⟩⟩
 .obtain⟨g1,g2,g3⟩:=anJ hm0 (show m<18446744073709551616^10000 by omega);have Oy:=tl (A2 (b:=18446744073709551616) δ (show 0<m by omega));have hz:∀{x:Int},x=0->¬((cO 18446744073709551616 x).length:Int)>0:=fun h=>by rw [h,LK δ];decide
  have hp1:ps.length+1<=1000000:=by omega
  by_cases hr:m%1000000000000000000=0
  .have hq:m/1000000000000000000≠0:=by omega
   have key:=ajz neg (cO 18446744073709551616 m) ps Oy g1;rw [g2,g3]at key;obtain⟨h1,h2⟩:=Ow (s:=fw (ByteArray.mk #[48]) 17++ByteArray.mk #[48]) hx ω rfl (by rw [if_neg hq,hr];exact anI);refine bx (s:=lg neg (cO 18446744073709551616 m) ps) hS (key (hz hr) (tl (A2 δ ω)) hp1 (by rw [cQ];rfl) (zA _ _) rfl) ?_;exact⟨⟨(m/1000000000000000000,ps++[fw (ByteArray.mk #[48]) 17++ByteArray.mk #[48]]),h1⟩,h2,rfl,rfl⟩
  .have e1:=anK (r:=m%1000000000000000000) ω ω;have hL:=WE (r:=m%1000000000000000000) ω ω;have k6:=WG (m%1000000000000000000);have hrl:(((cO 18446744073709551616 (m%1000000000000000000)).length:Nat):Int)>0:=tl (A2 δ ω);have e2:List.getD [m%1000000000000000000] (Int.toNat 0) 0=m%1000000000000000000:=rfl;have e3:List.getD [m%1000000000000000000] 0 0=m%1000000000000000000:=rfl;have WJ:sS (m%1000000000000000000) 10=true:=by
    unfold sS;rw [sy.2 ω];rfl
   by_cases hq:m/1000000000000000000=0
   .have key:=ajy neg (cO 18446744073709551616 m) ps Oy g1;rw [g2,g3]at key;rw [e1]at hrl key;rw [e2,e3]at key;obtain⟨h1,h2⟩:=Ow (s:=eI (m%1000000000000000000)) hx ω rfl (by rw [if_pos hq];exact Ou _);refine bx (s:=lg neg (cO 18446744073709551616 m) ps) hS (key hrl (show 0<1 by decide) WJ (hz hq) hp1 (by rw [cQ];rfl) (zA _ _) rfl) ?_;exact⟨⟨(m/1000000000000000000,ps++[eI (m%1000000000000000000)]),h1⟩,h2,rfl,rfl⟩
   .have key:=ajx neg (cO 18446744073709551616 m) ps Oy g1;rw [g2,g3]at key;rw [e1]at hrl key;rw [e2,e3]at key;obtain⟨h1,h2⟩:=Ow (s:=fw (ByteArray.mk #[48]) (18-((eI (m%1000000000000000000)).size:Int))++eI (m%1000000000000000000)) hx ω rfl (by rw [if_neg hq];exact anH ω ω);have anP:Br (ByteArray.mk #[48]) (18-((eI (m%1000000000000000000)).size:Int))=true:=by
     unfold Br;rw [az (show(ByteArray.mk #[48]).size<=1000000 by decide),az (show(0:Int)<=18-((eI (m%1000000000000000000)).size:Int) by omega),az (show(18:Int)-((eI (m%1000000000000000000)).size:Int)<=1000000 by omega)];rfl
    have auY:(fw (ByteArray.mk #[48]) (18-((eI (m%1000000000000000000)).size:Int))).size<=18:=by
     rw [cP,Ov,List.length_replicate];omega
    refine bx (s:=lg neg (cO 18446744073709551616 m) ps) hS (key hrl (show 0<1 by decide) WJ (tl (A2 δ ω)) ω anP ω hp1 (by rw [cQ];rfl) (zA _ _) rfl) ?_;exact⟨⟨(m/1000000000000000000,ps++[fw (ByteArray.mk #[48]) (18-((eI (m%1000000000000000000)).size:Int))++eI (m%1000000000000000000)]),h1⟩,h2,rfl,rfl⟩
noncomputable def ip (a:aC):AT:=ct (aj a)
def WK:=IN 127 [cS] [.str] true (fun d=>aT 10000 d.1) fun d=>(ip d.1,())
def anQ:WK.Ok prog:=fun⟨a,_⟩ h=>by
 have h:aT 10000 a=true:=h;show Holds prog true 127 [aA a] (sv (ip a));unfold ip;by_cases hw:a.2=[]
 .have h2:=h;rw [nH hw]at h2;rw [lT hw];refine bL (c:=jN) func127 rfl rfl fun w F=> ?_
  exact bw Oq 4 (aju a (List.isEmpty_iff.2 hw) h2)
 .exact anM a h hw
abbrev Oz (l:List Int):List Value:=l.map (Value.int .i64)
inductive WL|unit|row|int
structure WM where
 f:FuncId
 e:TypeId
 k:WL
 nl:Bool
 pre:List Int->Nat->List Int->Bool
 out:List Int->Nat->List Int->List Int
 ln:List Int->Nat->List Int->Nat
 val:List Int->Nat->List Int->Int
def anR (k:WL) (g n kc:Nat) (v:Int):Value:=match k with | .unit=> .tuple #[]| .row=> .slice (some ⟨g,0,none⟩) n kc| .int=> .int .i64 v
def WM.Ok (P:Program) (c:WM):Prop:=(c.nl=true->∀(p:Option Addr) (cap:Nat) (w:World),Calls P c.f #[.slice p 0 cap] w fun e w'=>e= .returned (.tuple #[])/\w'=w)/\∀(xs:List Int) (len:Nat) (us:List Int),c.pre xs len us=true->1<=len->len<=xs.length->(c.out xs len us).length=xs.length/\c.ln xs len us<=len/\
 ∀(w:World) (g kc:Nat) (cur:Array Value),w.heap[g]? =some (.cells cur c.e (0,0))->cur.toList.take xs.length=Oz xs->len<=kc->
  Calls P c.f (Value.slice (some ⟨g,0,none⟩) len kc::Oz us).toArray w fun e w'=>e= .returned (anR c.k g (c.ln xs len us) kc (c.val xs len us))/\w.grownBy w' (some g)/\
   ∃cur',w'.heap[g]? =some (.cells cur' c.e (0,0))/\cur'.size=cur.size/\cur'.toList.take xs.length=Oz (c.out xs len us)
--{
--}
end
end Go.Proofs.YtibikmmdbdlafaaGreatDoor
namespace Go.Proofs.YtibikmmdbdlafaaGreatDoor
open Go.RowKit
def HV (x:Int):Prop:= -9223372036854775808<=x/\x<=9223372036854775807
def HV.wf {x:Int} (h:HV x):(Lit.int .i64 x).wf=true:=by
 unfold HV at h;simp [Lit.wf,IntKind.min,IntKind.max,IntKind.signed,IntKind.bits];omega
def zC (w:World) (b n:Nat) (f:Int->Int):Prop:=
 ∃D:DataW Unit,w.ownsMap Tryz.prog 3 (plainElem Tryz.prog 3) b n D/\Maps.IsMap D/\∀x:Int,D.atKey (.int .i64 x) (.lit (.int .i64 0))= .lit (.int .i64 (f x))
def zC.kept {w w':World} {b n:Nat} {f:Int->Int} {row:Option Nat} (h:zC w b n f) (hg:w.grownBy w' row) (hne:some b≠row):zC w' b n f:=by
 obtain⟨D,h1,h2,h3⟩:=h;exact⟨D,h1.kept hg hne,h2,h3⟩
def zC.lt {w:World} {b n:Nat} {f:Int->Int} (h:zC w b n f):b<w.heap.size:=by
 obtain⟨D,h1,_⟩:=h;exact h1.lt
def zC.look {w:World} {b n:Nat} {f:Int->Int} (h:zC w b n f) (k:Int) (hk:HV k):
  (Instr.lookup 135 (.map (some b)) (.int .i64 k) false).run Tryz.prog w= .ok (.int .i64 (f k)) w:=by
 obtain⟨D,h1,_,h3⟩:=h;obtain⟨c,hrun,jz,_⟩:=h1.lookup_int (Maps.int_keyed Tryz.underlying3) Tryz.underlying135 Tryz.underlying3 (Tryz.zeroValue3 w) (Maps.keyOf_int_mk Tryz.underlying3 hk.wf);rw [h3 k]at jz;simp only [DataW.lit.injEq,Lit.int.injEq,true_and]at jz;rw [hrun,jz]
def OA (f:Int->Int) (k v:Int):Int->Int:=fun y=>if y=k then v else f y
end Go.Proofs.YtibikmmdbdlafaaGreatDoor
namespace Go.Proofs.YtibikmmdbdlafaaGreatDoor
open Go.RowKit Sv Go.Proofs.Tryz
noncomputable section
structure OB (w:World) (A:Option Addr) (l:List (Int×Int)):Prop where
 at_:∀k,k<l.length->∃b off,A=some ⟨b,off,none⟩/\b<w.heap.size/\w.cell? ⟨b,off+k*2,none⟩=some (.int .i64 (g0 l k).1)/\w.cell? ⟨b,off+k*2+1,none⟩=some (.int .i64 (g0 l k).2)
def OB.below {w w':World} {A:Option Addr} {l:List (Int×Int)} {n:Nat} (h:OB w A l) (hb:Below n w w') (hn:w.heap.size<=n):OB w' A l:=
 ⟨fun k hk=>by
   obtain⟨b,off,h1,h2,h3,h4⟩:=h.at_ k hk;have:=hb.size;exact⟨b,off,h1,by omega,(hb.cell (p:=⟨b,off+k*2,none⟩) (by show b<_;omega)).trans h3,(hb.cell (p:=⟨b,off+k*2+1,none⟩) (by show b<_;omega)).trans h4⟩⟩
def Fx {f:Int->Int} (h:∀x,0<=f x/\f x<=1000000000) (k:Int) (hk:f k≠0):∀x,0<=OA f k (f k-1) x/\OA f k (f k-1) x<=1000000000:=fun x=>by
 have h1:=h x;have h2:=h k;unfold OA;split<;>omega
end
def p4 (r:Rat):Prop:=r.num.natAbs<1000000000000000000/\r.den<1000000000000000000
def PP {a b:Int} (hb:1<=b) (h1:a.natAbs<1000000000000000000) (h2:b<1000000000000000000):p4 (Rat.divInt a b):=by
 have hg:0<Int.gcd a b:=Int.gcd_pos_of_ne_zero_right _ ω;have e:Rat.divInt a b=Rat.divInt (a/(Int.gcd a b:Int)) (b/(Int.gcd a b:Int)):=by
  have e1:=Int.ediv_mul_cancel (show(Int.gcd a b:Int)∣a from Int.gcd_dvd_left ..);have e2:=Int.ediv_mul_cancel (show(Int.gcd a b:Int)∣b from Int.gcd_dvd_right ..);have e3:Rat.divInt a b=Rat.divInt (a/(Int.gcd a b:Int)*(Int.gcd a b:Int)) (b/(Int.gcd a b:Int)*(Int.gcd a b:Int)):=by rw [e1,e2]
  rw [e3];exact Rat.divInt_mul_right (show(Int.gcd a b:Int)≠0 by omega)
 have jy:1<=b/(Int.gcd a b:Int):=by
  have hm:=Int.ediv_mul_cancel (show(Int.gcd a b:Int)∣b from Int.gcd_dvd_right ..);have h0:0<=b/(Int.gcd a b:Int):=Int.ediv_nonneg ω ω;rcases Int.lt_or_le 0 (b/(Int.gcd a b:Int))with h|h
  .omega
  .exfalso;have e0:b/(Int.gcd a b:Int)=0:=by omega
   rw [e0,Int.zero_mul]at hm;omega
 have hc:=Int.gcd_ediv_gcd_ediv_gcd hg;obtain⟨n1,n2⟩:=pD jy hc;rw [e];unfold p4;have l1:(a/(Int.gcd a b:Int)).natAbs<=a.natAbs:=by
  rw [Int.natAbs_ediv_of_dvd (Int.gcd_dvd_left ..)];exact Nat.div_le_self _ _
 have l2:b/(Int.gcd a b:Int)<=b:=Int.ediv_le_self _ ω;rw [n1];refine⟨by omega,by omega⟩
noncomputable section
def s6:=k_a f88
def zD:=ow [DS] (bc [NK])
def nR (s:AT) (neg:Bool) (w:List Int):bD:={n:=40,sl:=[(0,sv s),(2, .ptr 64 0),(3,bv neg),(4,mW 65 w)],bJ:=[(64,Vn),(65,mX w)],next:=66}
abbrev OC:List Nat:=[1,1,1,1,0,0,0]
section
variable (s:AT)
def PQ (h1:(s.size:Int)>0) (h2:Int.toNat 0<s.size) (h3:(↑(UInt8.toNat (s.data.toList.getD (Int.toNat 0) (0:UInt8))):Int)=45) (h4:Int.toNat 1<=s.size) (h5:(s.extract (Int.toNat 1) s.size)=(s.extract 1 s.size)):
  cZ zD (fl s6 []) 5 40 [sv s] 63 .normal [(64,64,none)] (nR (s.extract 1 s.size) true []):=
 wy [af (aM (az h1)),ah h2,ah h1,cX h3,ah h4,ah (by omega:s.size<=s.size),ax h5,ax (fU.mpr h3)] 37787111807533466517569
def anS (h1:(s.size:Int)>0) (h2:Int.toNat 0<s.size) (h3:¬(↑(UInt8.toNat (s.data.toList.getD (Int.toNat 0) (0:UInt8))):Int)=45):
  cZ zD (fl s6 []) 5 40 [sv s] 47 .normal [(64,64,none)] (nR s false []):=
 wy [af (aM (az h1)),ah h2,ah h1,yn h3,ax (e8.mpr h3)] 90072270663843905
def anT (h1:¬(s.size:Int)>0):
  cZ zD (fl s6 []) 5 40 [sv s] 32 .normal [(64,64,none)] (nR s false []):=
 wy [af (aM (ab h1)),aJ h1] 528449
def anU (neg:Bool) (w:List Int) (h1:(s.size:Int)>9) (h2:i6 ((s.size:Int)-9)) (h3:0<=(s.size:Int)-9) (h4:(decide ((s.extract ((s.size:Int)-9).toNat s.size).size<=17)&&bZ (s.extract ((s.size:Int)-9).toNat s.size).data.toList)=true) (h5:w.length+1<=1000000) (h6:(w.length+1)=(w++[bg (s.extract ((s.size:Int)-9).toNat s.size).data.toList]).length) (h7:(aX.full)=(bH (w++[bg (s.extract ((s.size:Int)-9).toNat s.size).data.toList]).length)):
  bt zD (fl s6 OC) (nR s neg w) 5 .normal [(64,64,none),(65,67,none)] (nR (s.extract 0 ((s.size:Int)-9).toNat) neg (w++[bg (aq (s.extract ((s.size:Int)-9).toNat s.size))])):=
 wy [ah h1,yi h2,ah h3,ah (by omega:((s.size:Int)-(9:Int)).toNat<=s.size),ah (by omega:s.size<=s.size),af h4,yk 3 (.int .i64) w,jF 8 h5,ax h6,ax h7,kW 3 (.int .i64) (Eq.refl (w++[bg (s.extract ((s.size:Int)-(9:Int)).toNat s.size).data.toList]))] 59889907190626495097649245648290902454401
def anV (neg:Bool) (w:List Int) (h1:¬(s.size:Int)>9):
  bt zD (fl s6 OC) (nR s neg w) 2 (.exit 0) [(64,64,none),(65,65,none)] (nR s neg w):=
 wy [aJ h1] 1
def anW (neg:Bool) (w:List Int) (h1:(decide (s.size<=17)&&bZ s.data.toList)=true) (h2:w.length+1<=1000000) (h3:(Nat.beq (w.length+1) 0||bz 3 (.int .i64) (some (bl.own 3 (.int .i64) (w++[bg s.data.toList]))) (w.length+1-1))=true) (h4:(okB (((w++[bg s.data.toList]).drop 0).take (w.length+1)))=true) (h5:(mkR (bk neg (ag (((w++[bg s.data.toList]).drop 0).take (w.length+1))))).1=(mkR (bk neg (ag (w++[bg s.data.toList])))).1) (h6:(mkR (bk neg (ag (((w++[bg s.data.toList]).drop 0).take (w.length+1))))).2=(mkR (bk neg (ag (w++[bg s.data.toList])))).2):
  bS zD ((fl s6 []).drop 6) (nR s neg w) 2 f88 false (rv (mkR (bk neg (ag (w++[bg (aq s)]))))):=
 wy [af h1,yk 3 (.int .i64) w,jF 8 h2,af (show(Nat.beq (w.length+(1:Nat)) (0:Nat)||bz 3 (.int .i64) (some (bl.own 3 (.int .i64) (bN (.int .i64) (bU 3 (.int .i64) w)++[bg s.data.toList]))) ((0:Nat)+(w.length+(1:Nat))-(1:Nat)))=true from(by simp only [ep,aw]<;>exact h3)),af (show(okB (((bN (.int .i64) (bU 3 (.int .i64) w)++[bg s.data.toList]).drop (0:Nat)).take (w.length+(1:Nat))))=true from(by simp only [ep]<;>exact h4)),ax (show((mkR (bk neg (ag (((bN (.int .i64) (bU 3 (.int .i64) w)++[bg s.data.toList]).drop (0:Nat)).take (w.length+(1:Nat)))))).1)=((mkR (bk neg (ag (w++[bg s.data.toList])))).1)from(by simp only [ep]<;>exact h5)),ax (show((mkR (bk neg (ag (((bN (.int .i64) (bU 3 (.int .i64) w)++[bg s.data.toList]).drop (0:Nat)).take (w.length+(1:Nat)))))).2)=((mkR (bk neg (ag (w++[bg s.data.toList])))).2)from(by simp only [ep]<;>exact h6))] 1997061059248129
def b5:Bool:=decide (0<s.size)&&decide ((b9 s 0).toNat=45)
def bO:AT:=match b5 s with |true=>s.extract 1 s.size|false=>s
def jq:Int:=bk (b5 s) (bg (aq (bO s)))
end
def OD:=IN 88 [.str] [lZ] false (fun d=>decide (d.1.size<=800000)&&bZ (aq (bO d.1))) fun d=>(mkR (jq d.1),())
def WN:bC prog (bF zD):=uM (fun c hc=>by
 simp only [en,ki,or_false]at hc;obtain rfl:=hc;exact tc) (cK fun c hc=>by
 simp only [en,ki,or_false]at hc;obtain rfl:=hc;exact VT)
def OE (a b:List UInt8):bg (a++b)=bg a*10^b.length+bg b:=by
 show(a++b).foldl _ 0=_;rw [amf,HF];rfl
def HW {a b:List UInt8}:bZ (a++b)=true↔bZ a=true/\bZ b=true:=by
 unfold bZ;rw [List.all_append,ae]
def u7 {s:AT} (h:bZ (aq s)=true):0<=bg (aq s)/\bg (aq s)<10^s.size:=by
 have:=BB h (aq s).length (aI _);rw [dK]at this;rw [cP];exact this
def anX {t:AT} (h:9<t.size) (hd:bZ (aq t)=true):
  (t.extract 0 (t.size-9)).size=t.size-9/\bZ (aq (t.extract 0 (t.size-9)))=true/\(t.extract (t.size-9) t.size).size=9/\bZ (aq (t.extract (t.size-9) t.size))=true/\bg (aq t)=bg (aq (t.extract 0 (t.size-9)))*1000000000+bg (aq (t.extract (t.size-9) t.size)):=by
 have e1:aq (t.extract 0 (t.size-9))=(aq t).take (t.size-9):=by rw [jQ,List.drop_zero]
 have e2:aq (t.extract (t.size-9) t.size)=(aq t).drop (t.size-9):=by rw [jQ,cP,dK]
 have e3:aq t=(aq t).take (t.size-9)++(aq t).drop (t.size-9):=(List.take_append_drop _ _).symm;have hdd:=hd;rw [e3,HW]at hdd;have l2:((aq t).drop (t.size-9)).length=9:=by rw [mb,<-cP];omega
 refine⟨lu _ _ _ ω,by rw [e1];exact hdd.1,by rw [lu _ _ _ (aI _)];omega,by rw [e2];exact hdd.2, ?_⟩;rw [e1,e2];have:=OE ((aq t).take (t.size-9)) ((aq t).drop (t.size-9));rw [<-e3,l2]at this;exact this
def OG (t:AT) (neg:Bool) (hd:bZ (aq t)=true) (hl:t.size<=800000) (w0:World) (F:Sv.Env):
  aU prog w0 F 40 ((fl s6 []).drop 5) (nR t neg []).T (nR t neg []).H (hG prog false f88 (rv (mkR (bk neg (bg (aq t)))))):=by
 have hS:=WN;refine aU.loop (ι:={x:AT×List Int//bZ (aq x.1)=true/\x.1.size<=800000/\x.2.length<=800000-x.1.size/\aS 1000000000 x.2/\bg (aq t)=ag x.2+1000000000^x.2.length*bg (aq x.1)/\9*x.2.length+x.1.size<=800000}) (id:=0) (b:=cat s6 OC) (rest:=(fl s6 []).drop 6) (by kernel_rfl) (fun x=>nR x.1.1 neg x.1.2) (fun x=>x.1.1.size) ⟨(t,[]),hd,hl,Nat.zero_le _, .nil,by simp [ag,vl],by show 9*0+t.size<=_;omega⟩ (fun _=>rfl) ?_;rintro⟨⟨s,w⟩,h1,h2,h3,h4,h5,h6⟩;have h1:bZ (aq s)=true:=h1;have h2:s.size<=800000:=h2;have h4:aS 1000000000 w:=h4;have h5:bg (aq t)=ag w+1000000000^w.length*bg (aq s):=h5;have h6:9*w.length+s.size<=800000:=h6;have WO:(10:Int)^9=1000000000:=rfl;by_cases hgo:9<s.size
 .have bJ:((s.size:Int)-9).toNat=s.size-9:=by omega
  obtain⟨c1,c2,c3,c4,c5⟩:=anX hgo h1;have hv:=u7 c4;rw [c3,WO]at hv;have key:=anU s neg w ω ω ω;rw [bJ]at key;refine bx (s:=nR s neg w) hS (key (by rw [az ω,show bZ (s.extract (s.size-9) s.size).data.toList=true from c4];rfl) ω (rz _ _) (ph _ _)) ?_;refine⟨⟨(s.extract 0 (s.size-9),w++[bg (aq (s.extract (s.size-9) s.size))]),c2,by show(s.extract 0 (s.size-9)).size<=_;omega,by show(w++[_]).length<=_-(s.extract 0 (s.size-9)).size;rw [cQ,List.length_singleton];omega,h4.app (.cons hv .nil), ?_,by show 9*(w++[_]).length+(s.extract 0 (s.size-9)).size<=_;rw [cQ,List.length_singleton];omega⟩,by show(s.extract 0 (s.size-9)).size<s.size;omega,rfl,rfl⟩;show bg (aq t)=vl 1000000000 (w++[bg (aq (s.extract (s.size-9) s.size))])+1000000000^(w++[bg (aq (s.extract (s.size-9) s.size))]).length*bg (aq (s.extract 0 (s.size-9)));rw [yG,cQ,List.length_singleton,Int.pow_succ,h5,c5];unfold ag;generalize bg (aq (s.extract (s.size-9) s.size))=x1;generalize bg (aq (s.extract 0 (s.size-9)))=x2;generalize (1000000000:Int)^w.length=x3;grind
 .refine bx (s:=nR s neg w) hS (anV s neg w ω) ?_;refine cy (cF ?_);have hv:=u7 h1;have hp:(10:Int)^s.size<=10^9:=iQ δ ω;have e:ag (w++[bg (aq s)])=bg (aq t):=by
   rw [h5];show vl _ _=vl _ _+_;rw [yG]
  have iT:aS 1000000000 (w++[bg (aq s)]):=h4.app (.cons ω .nil);have et:((w++[bg (aq s)]).drop 0).take (w.length+1)=w++[bg (aq s)]:=by
   rw [List.drop_zero,eH τ]
  have key:=anW s neg w (by rw [az ω,show bZ s.data.toList=true from h1];rfl) ω (by
   rw [Bool.or_eq_true];exact .inr (pX τ)) (by rw [et];exact oA.2 ⟨iT,by simp;omega⟩) (by rw [et]) (by rw [et])
  rw [e]at key;exact bX (s:=nR s neg w) hS key
def anY (s:AT) (hl:s.size<=800000) (hd:bZ (aq (bO s))=true):Holds prog false 88 [sv s] (rv (mkR (jq s))):=by
 have hS:=WN;refine bL (c:=s6) func88 rfl rfl fun w0 F=> ?_
 unfold jq;by_cases h0:0<s.size
 .by_cases lz:(b9 s 0).toNat=45
  .have e1:b5 s=true:=by unfold b5;rw [az h0,az lz];rfl
   have e2:bO s=s.extract 1 s.size:=by unfold bO;rw [e1]
   rw [e2]at hd;rw [e1,e2];refine cJ hS 5 (PQ s ω (by show 0<s.size;exact h0) (by show((b9 s 0).toNat:Int)=45;omega) (by show 1<=s.size;omega) rfl) ?_;exact OG _ true hd (by rw [lu _ _ _ (aI _)];omega) w0 F
  .have e1:b5 s=false:=by unfold b5;rw [az h0,ab lz];rfl
   have e2:bO s=s:=by unfold bO;rw [e1]
   rw [e2]at hd;rw [e1,e2];refine cJ hS 5 (anS s ω (by show 0<s.size;exact h0) (by show¬((b9 s 0).toNat:Int)=45;omega)) ?_;exact OG _ false hd hl w0 F
 .have e1:b5 s=false:=by unfold b5;rw [ab h0];rfl
  have e2:bO s=s:=by unfold bO;rw [e1]
  rw [e2]at hd;rw [e1,e2];refine cJ hS 5 (anT s ω) ?_;exact OG _ false hd hl w0 F
def WQ:OD.Ok prog:=fun⟨s,_⟩ h=>by
 have h:(decide (s.size<=800000)&&bZ (aq (bO s)))=true:=h;rw [ae,bE]at h;exact anY s h.1 h.2
def anZ (l:List UInt8) (h:∀b∈l,b≠47):Lib.index l [47]= -1:=by
 induction l with
 |nil=>rfl
 |cons b r ih=>
  have hb:(47==b)=false:=by
   rw [e8];intro e;exact h b τ e.symm
  have:=ih (fun c hc=>h c (by simp [hc]));simp [Lib.index,List.isPrefixOf,hb,this]
def an0 (l r:List UInt8) (h:∀b∈l,b≠47):Lib.index (l++47::r) [47]=(l.length:Int):=by
 induction l with
 |nil=>simp [Lib.index,List.isPrefixOf]
 |cons b t ih=>
  have hb:(47==b)=false:=by
   rw [e8];intro e;exact h b τ e.symm
  have:=ih (fun c hc=>h c (by simp [hc]));rw [List.cons_append];unfold Lib.index;rw [this];simp only [List.isPrefixOf,hb,Bool.false_and,Bool.false_eq_true,if_false,List.length_cons];rw [if_neg τ];omega
def WR (n:Int):∀b∈Lib.itoa n,b≠47:=by
 have hd:∀b∈Lib.decDigits n.natAbs,b≠47:=fun b hb e=>by
  have:=Dec.M3 _ b hb;subst e;exact absurd this.1 δ
 by_cases h:n<0
 .rw [itoa_neg h];intro b hb;rcases en.1 hb with rfl |hb
  .decide
  .exact hd b hb
 .rw [ib h];exact hd
def WS {l:List UInt8} (h:∀b∈l,b≠47):Lib.cut l [47]=(l,[],false):=by
 unfold Lib.cut;rw [anZ l h];rfl
def WT {l r:List UInt8} (h:∀b∈l,b≠47):Lib.cut (l++47::r) [47]=(l,r,true):=by
 unfold Lib.cut;rw [an0 l r h];simp
def textQ (r:Rat):AT:=if r.den=1 then ct r.num else⟨(Lib.itoa r.num++47::Lib.itoa r.den).toArray⟩
def WU {n:Nat} {r:Rat} (hn:1<=n) (hn2:n<=100000) (h1:aT n (aY (r.num.natAbs:Int))=true) (h2:aT n (aY (r.den:Int))=true) (hs:(textQ r).size<4294967281):
  fh (textQ r)=true/\QR n (aW (textQ r)) r:=by
 have o1:aT n (aY r.num)=true:=by
  have:=jI h1 hn;rw [val_mk]at this;exact(jJ ω).1
 have hc:nf (textQ r)=true:=by unfold nf;rw [az hs]
 have p0:(kg:AT).data.toList=[47]:=rfl;have ra:jM (ct r.num)=true:=sf (a8 hn2 h1);by_cases hd:r.den=1
 .have ht:textQ r=ct r.num:=by unfold textQ;rw [if_pos hd]
  have hcut:Lib.cut (ct r.num).data.toList (kg:AT).data.toList=(Lib.itoa r.num,[],false):=by rw [jm,p0,WS (WR _)]
  have Eb:iV (ct r.num) kg=ct r.num:=by unfold iV;rw [hcut];rfl
  have Ec:oy (ct r.num) kg=false:=by unfold oy;rw [hcut]
  rw [ht]at hc ⊢;refine⟨?_, ?_⟩
  .unfold fh;rw [hc,Eb,ra,Ec];rfl
  .unfold aW;rw [Ec,if_neg δ,Eb,M6];have:=DN o1;rw [val_mk]at this;have e:(r.num:Rat)=r:=Rat.ext rfl hd.symm;rw [e]at this;exact this
 .have ht:textQ r=⟨(Lib.itoa r.num++47::Lib.itoa r.den).toArray⟩:=by unfold textQ;rw [if_neg hd]
  have hcut:Lib.cut (textQ r).data.toList (kg:AT).data.toList=(Lib.itoa r.num,Lib.itoa r.den,true):=by
   rw [ht,p0,<-WT (WR r.num)]
  have Eb:iV (textQ r) kg=ct r.num:=by unfold iV;rw [hcut];rfl
  have WV:sR (textQ r) kg=ct r.den:=by unfold sR;rw [hcut];rfl
  have Ec:oy (textQ r) kg=true:=by unfold oy;rw [hcut]
  have rb:jM (ct r.den)=true:=sf (a8 hn2 (by rw [Int.natAbs_natCast];exact h2));refine⟨?_, ?_⟩
  .unfold fh;rw [hc,Eb,WV,ra,rb,Ec];rfl
  .unfold aW;rw [Ec,if_pos rfl,Eb,WV,M6,M6];exact⟨o1,h2,val_mk _,val_mk _⟩
def OH:=k_a f66
def zE:=k_a f67
def OI:=bc [BC,OD,Nl]
def BL:=ow [DS] (bc [VK,NH,ND,Ol])
def an1 (s:AT) (h1:s.size<=1000000000) (h2:(↑(bf s.data.toList):Int)=(s.size:Int)) (h3:(decide (s.size<=800000)&&bZ (bO s).data.toList)=true):
  bh OI (fl OH []) 5 25 [sv s] 3 f66 false (.tuple [rv (mkR (jq s)),rv (mkR 1)]):=
 wy [ah h1,cX h2,af h3] 12417
def an2 (s:AT) (h1:s.size<=1000000000) (h2:¬(↑(bf s.data.toList):Int)=(s.size:Int)) (h3:bf s.data.toList<=s.size) (h4:(decide ((s.extract 0 (bf s.data.toList)).size<=800000)&&bZ (bO (s.extract 0 (bf s.data.toList))).data.toList)=true) (h5:i6 ((↑(bf s.data.toList):Int)+1)) (h6:((↑(bf s.data.toList):Int)+1).toNat<=s.size) (h7:(decide ((s.extract ((↑(bf s.data.toList):Int)+1).toNat s.size).size<=800000)&&bZ (bO (s.extract ((↑(bf s.data.toList):Int)+1).toNat s.size)).data.toList)=true) (h8:(mkR (jq (s.extract ((↑(bf s.data.toList):Int)+1).toNat s.size))).1=(mkR (jq (s.extract (bf s.data.toList+1) s.size))).1) (h9:(mkR (jq (s.extract ((↑(bf s.data.toList):Int)+1).toNat s.size))).2=(mkR (jq (s.extract (bf s.data.toList+1) s.size))).2):
  bh OI (fl OH []) 9 25 [sv s] 2 f66 false (.tuple [rv (mkR (jq (s.extract 0 (bf (aq s))))),rv (mkR (jq (s.extract (bf (aq s)+1) s.size)))]):=
 wy [ah h1,yn h2,ah h3,af h4,yi h5,ah h6,ah (by omega:s.size<=s.size),af h7,ax h8,ax h9] 196148223583635607820173441
def wp (n:Bool) (x:List Int) (m:Bool) (y:List Int):bD:={n:=57,sl:=[(2, .ptr 64 0),(3, .ptr 65 0)],bJ:=[(64,Oi n x),(65,Oi m y)],next:=66}
def an3 (n:Bool) (x y:List Int):
  cZ BL (fl zE []) 3 57 [rv (n,x),rv (false,y)] 2 .normal [(64,64,none),(65,65,none)] (wp n x false y):=
 wy [] 0
def an4 (n:Bool) (x y:List Int) (h1:(okZ (n,x))=true) (h2:(okZ (true,y))=true):
  cZ BL (fl zE []) 3 57 [rv (n,x),rv (true,y)] 3 .normal [(64,64,none),(65,65,none)] (wp (mkR (-vZ (n,x))).1 (mkR (-vZ (n,x))).2 (mkR (-vZ (true,y))).1 (mkR (-vZ (true,y))).2):=
 wy [af (aF (v:=aa.agg [aa.raw (Value.bool n),aa.bn false (.int .i64) x])),af h1,af (aF (v:=aa.agg [aa.raw (Value.bool true),aa.bn false (.int .i64) y])),af h2] 4346093632
def OJ (x y:List Int):List Int:=aK (Int.gcd (ag x) (ag y))
def zF (n:Bool) (x y:List Int):AT:=ct (vZ (mkR (bk n (ag (aK (ag x/ag (OJ x y)))))))
def Ed (x y:List Int):List Int:=aK (ag y/ag (OJ x y))
abbrev iC:AT:=⟨#[47]⟩
section
variable (n:Bool) (x:List Int) (m:Bool) (y:List Int) (h1:(okA x&&okA y)=true) (h2:(okA x&&(okA (aK (↑(Int.gcd (ag x) (ag y)):Int))&&decide (0<ag (aK (↑(Int.gcd (ag x) (ag y)):Int)))))=true) (h3:(okA y&&(okA (aK (↑(Int.gcd (ag x) (ag y)):Int))&&decide (0<ag (aK (↑(Int.gcd (ag x) (ag y)):Int)))))=true) (h4:(okB (aK (ag x/ag (aK (↑(Int.gcd (ag x) (ag y)):Int)))))=true) (h5:(okZ (mkR (bk n (ag (aK (ag x/ag (aK (↑(Int.gcd (ag x) (ag y)):Int))))))))=true)
def an5 (h6:(↑(aK (ag y/ag (aK (↑(Int.gcd (ag x) (ag y)):Int)))).length:Int)=1) (h7:Int.toNat 0<(aK (ag y/ag (aK (↑(Int.gcd (ag x) (ag y)):Int)))).length) (h8:(aK (ag y/ag (aK (↑(Int.gcd (ag x) (ag y)):Int)))).getD (Int.toNat 0) 0=1) (h9:(ct (vZ (mkR (bk n (ag (aK (ag x/ag (aK (↑(Int.gcd (ag x) (ag y)):Int)))))))))=(zF n x y)):
  bS BL ((fl zE []).drop 3) (wp n x m y) 127 f67 true (sv (zF n x y)):=
 wy [af h1,af h2,af h3,af h4,af h5,af (aM (fU.mpr h6)),ah h7,cX h6,cX h8,ax h9] 3065413170778920828547201
def an6 (h6:(↑(aK (ag y/ag (aK (↑(Int.gcd (ag x) (ag y)):Int)))).length:Int)=1) (h7:Int.toNat 0<(aK (ag y/ag (aK (↑(Int.gcd (ag x) (ag y)):Int)))).length) (h8:¬(aK (ag y/ag (aK (↑(Int.gcd (ag x) (ag y)):Int)))).getD (Int.toNat 0) 0=1) (h9:(ct (vZ (mkR (bk n (ag (aK (ag x/ag (aK (↑(Int.gcd (ag x) (ag y)):Int))))))))).size+(ByteArray.mk (#[(47:UInt8)])).size<=9223372036854775807) (h10:(okB (aK (ag y/ag (aK (↑(Int.gcd (ag x) (ag y)):Int)))))=true) (h11:(okZ (mkR (bk false (ag (aK (ag y/ag (aK (↑(Int.gcd (ag x) (ag y)):Int))))))))=true) (h12:(ct (vZ (mkR (bk n (ag (aK (ag x/ag (aK (↑(Int.gcd (ag x) (ag y)):Int))))))))++(ByteArray.mk (#[(47:UInt8)]))).size+(ct (vZ (mkR (bk false (ag (aK (ag y/ag (aK (↑(Int.gcd (ag x) (ag y)):Int))))))))).size<=9223372036854775807) (dF:(ct (vZ (mkR (bk n (ag (aK (ag x/ag (aK (↑(Int.gcd (ag x) (ag y)):Int))))))))++(ByteArray.mk (#[(47:UInt8)]))++ct (vZ (mkR (bk false (ag (aK (ag y/ag (aK (↑(Int.gcd (ag x) (ag y)):Int)))))))))=(zF n x y++(ByteArray.mk (#[(47:UInt8)]))++ct (vZ (mkR (bk false (ag (Ed x y))))))):
  bS BL ((fl zE []).drop 3) (wp n x m y) 95 f67 true (sv (zF n x y++iC++ct (vZ (mkR (bk false (ag (Ed x y))))))):=
 wy [af h1,af h2,af h3,af h4,af h5,af (aM (fU.mpr h6)),ah h7,cX h6,yn h8,ah h9,af h10,af h11,ah h12,ax dF] 72033470842295130389485817180289
def an7 (h6:¬(↑(aK (ag y/ag (aK (↑(Int.gcd (ag x) (ag y)):Int)))).length:Int)=1) (h7:(ct (vZ (mkR (bk n (ag (aK (ag x/ag (aK (↑(Int.gcd (ag x) (ag y)):Int))))))))).size+(ByteArray.mk (#[(47:UInt8)])).size<=9223372036854775807) (h8:(okB (aK (ag y/ag (aK (↑(Int.gcd (ag x) (ag y)):Int)))))=true) (h9:(okZ (mkR (bk false (ag (aK (ag y/ag (aK (↑(Int.gcd (ag x) (ag y)):Int))))))))=true) (h10:(ct (vZ (mkR (bk n (ag (aK (ag x/ag (aK (↑(Int.gcd (ag x) (ag y)):Int))))))))++(ByteArray.mk (#[(47:UInt8)]))).size+(ct (vZ (mkR (bk false (ag (aK (ag y/ag (aK (↑(Int.gcd (ag x) (ag y)):Int))))))))).size<=9223372036854775807) (h11:(ct (vZ (mkR (bk n (ag (aK (ag x/ag (aK (↑(Int.gcd (ag x) (ag y)):Int))))))))++(ByteArray.mk (#[(47:UInt8)]))++ct (vZ (mkR (bk false (ag (aK (ag y/ag (aK (↑(Int.gcd (ag x) (ag y)):Int)))))))))=(zF n x y++(ByteArray.mk (#[(47:UInt8)]))++ct (vZ (mkR (bk false (ag (Ed x y))))))):
  bS BL ((fl zE []).drop 3) (wp n x m y) 64 f67 true (sv (zF n x y++iC++ct (vZ (mkR (bk false (ag (Ed x y))))))):=
 wy [af h1,af h2,af h3,af h4,af h5,af (aM (e8.mpr h6)),yn h6,ah h7,af h8,af h9,ah h10,ax h11] 15071116821947747238537080961
end
def ptN (s:AT):Int:=jq (s.extract 0 (bf (aq s)))
def ptD (s:AT):Int:=if bf (aq s)<s.size then jq (s.extract (bf (aq s)+1) s.size)else 1
def okPt (s:AT):Bool:=decide (s.size<=800000)&&(bZ (aq (bO (s.extract 0 (bf (aq s)))))&&bZ (aq (bO (s.extract (bf (aq s)+1) s.size))))
def OK:=IN 66 [.str] [lZ,lZ] false (fun d=>okPt d.1) fun d=>(mkR (ptN d.1),mkR (ptD d.1),())
def WW:=IN 67 [lZ,lZ] [.str] true (fun d=>okZ d.1&&(okZ d.2.1&& !(Nat.beq (List.length (α:=Int) d.2.1.2) 0))) fun d=>(textQ (Rat.divInt (vZ d.1) (vZ d.2.1)),())
def WX:bC prog (bF OI):=cK (aP D0 (aP WQ (aP Vs dQ)))
def WY:bC prog (bF BL):=uM (fun c hc=>by rw [List.mem_singleton.1 hc];exact tc) (cK fun c hc=>by
 simp only [en,ki,or_false]at hc;rcases hc with rfl |rfl |rfl |rfl
 .exact alL
 .exact VP
 .exact VH
 .exact Wv)
def WZ (s:AT):s.extract 0 s.size=s:=gA (by rw [Hf,uZ,dK])
def an8 (s:AT) (h:okPt s=true):Holds prog false 66 [sv s] (.tuple [rv (mkR (ptN s)),rv (mkR (ptD s))]):=by
 unfold okPt at h;rw [ae,ae,bE]at h;obtain⟨hl,h1,h2⟩:=h;have hle:bf (aq s)<=s.size:=by rw [cP];exact BD _
 have ha:bf s.data.toList=bf (aq s):=rfl;refine bL (c:=OH) func66 rfl rfl fun w F=> ?_
 unfold ptN ptD;by_cases hlt:bf (aq s)<s.size
 .rw [if_pos hlt];have u9:((bf (aq s):Int)+1).toNat=bf (aq s)+1:=by omega
  have key:=an2 s ω ω ω (by rw [ha,az (by rw [lu _ _ _ hle];omega)];exact h1) ω ω;rw [ha,u9]at key;exact bw WX 9 (key (by rw [az (by rw [lu _ _ _ (aI _)];omega)];exact h2) rfl rfl)
 .rw [if_neg hlt,show bf (aq s)=s.size by omega,WZ];rw [show bf (aq s)=s.size by omega,WZ]at h1;exact bw WX 5 (an1 s ω ω (by rw [az hl];exact h1))
def W0:OK.Ok prog:=fun⟨s,_⟩ h=>an8 s h
def an9 {n:Bool} {x:Int} {g:Int} (h:g∣x):bk n x/g=bk n (x/g):=by
 cases n with
 |false=>rfl
 |true=>exact Int.neg_ediv_of_dvd h
def HX {n:Bool} {x y:Int}:Int.gcd (bk n x) y=Int.gcd x y:=by
 cases n with
 |false=>rfl
 |true=>exact Int.neg_gcd
def W1 {n:Bool} {x y:Int} (hy:0<y):(Rat.divInt (bk n x) y).num=bk n (x/Int.gcd x y)/\((Rat.divInt (bk n x) y).den:Int)=y/Int.gcd x y:=by
 have h1:=PH (n:=bk n x) (d:=y) ω;have h2:=anr (n:=bk n x) (d:=y) ω;have hg:0<Int.gcd x y:=Int.gcd_pos_of_ne_zero_right _ ω;have hq:1<=BF (bk n x) y:=by
  unfold BF;rw [HX];exact Int.le_ediv_of_mul_le ω (by rw [Int.one_mul];exact Int.le_of_dvd hy (Int.gcd_dvd_right ..))
 obtain⟨h3,h4⟩:=pD hq h2;rw [h1]at h3 h4;refine⟨?_, ?_⟩
 .rw [h3];unfold HG;rw [HX,an9 (Int.gcd_dvd_left ..)]
 .rw [h4];unfold BF;rw [HX]
def W2 {z:Int} {k:Nat} (h:(z.natAbs:Int)<1000000000^k):(ct z).size<=9*k+2:=by
 have h1:=Oo (co (z:=(z.natAbs:Int)) (Int.natCast_nonneg _)).1;rw [(co (z:=(z.natAbs:Int)) (Int.natCast_nonneg _)).2.2,Int.toNat_natCast]at h1;have h2:=HC (Int.natCast_nonneg _) h;rw [uZ,jm];by_cases hz:z<0
 .rw [itoa_neg hz,List.length_cons];omega
 .rw [ib hz];omega
def BM {n:Bool} {x:Int} (h:0<=x):((bk n x).natAbs:Int)=x:=by
 cases n with
 |false=>show(x.natAbs:Int)=x;omega
 |true=>show((-x).natAbs:Int)=x;omega
def W3 (n m:Bool) (x y:List Int) (h1:okA x=true) (h2:okA y=true) (hy:0<ag y) (w:World) (F:Sv.Env):
  aU prog w F 57 ((fl zE []).drop 3) (wp n x m y).T (wp n x m y).H (hG prog true f67 (sv (textQ (Rat.divInt (bk n (ag x)) (ag y))))):=by
 have hS:=WY;obtain⟨HD,tx,lx⟩:=fO.1 h1;obtain⟨BA,ty,ly⟩:=fO.1 h2;have hx0:=eh HD;have hx1:=pi h1;have hy1:=pi h2;have hg:0<Int.gcd (ag x) (ag y):=Int.gcd_pos_of_ne_zero_right _ ω;have aoa:(Int.gcd (ag x) (ag y):Int)<=ag y:=Int.le_of_dvd hy (Int.gcd_dvd_right ..);obtain⟨r1,r2⟩:=W1 (n:=n) (x:=ag x) (y:=ag y) hy;have aob:ag (aK (Int.gcd (ag x) (ag y)))=Int.gcd (ag x) (ag y):=(co (Int.natCast_nonneg _)).2.2;have W4:okA (aK (Int.gcd (ag x) (ag y)))=true:=zr (k:=y.length) (Int.natCast_nonneg _) ω ly;have auZ:1<=ag y/Int.gcd (ag x) (ag y):=Int.le_ediv_of_mul_le ω (by rw [Int.one_mul];exact aoa);have hpx:0<=ag x/Int.gcd (ag x) (ag y):=Int.ediv_nonneg hx0 ω;have au0:ag x/Int.gcd (ag x) (ag y)<=ag x:=Int.ediv_le_self _ hx0;have au1:ag y/Int.gcd (ag x) (ag y)<=ag y:=Int.ediv_le_self _ ω;have k1:=an5 n x m y;have k2:=an6 n x m y;have dN:=an7 n x m y;unfold zF Ed OJ at*;generalize cv:(Int.gcd (ag x) (ag y):Int)=g at*;rw [aob]at k1 k2 dN;generalize hp:ag x/g=p at*;generalize hq:ag y/g=q at*;have aoc:ag (aK p)=p:=(co hpx).2.2;have W5:ag (aK q)=q:=(co ω).2.2;rw [aoc]at k1 k2 dN;rw [W5]at k2 dN;have pA:(okA x&&okA y)=true:=by rw [h1,h2];rfl
 have OL:(okA x&&(okA (aK g)&&decide (0<g)))=true:=by rw [h1,W4,az ω];rfl
 have OM:(okA y&&(okA (aK g)&&decide (0<g)))=true:=by rw [h2,W4,az ω];rfl
 have pB:okB (aK p)=true:=rf (k:=x.length) hpx ω ω;have qB:okB (aK q)=true:=rf (k:=y.length) ω ω ω;have OO:okZ (mkR (bk n p))=true:=jP (k:=x.length) (by rw [BM hpx];omega) lx;have W6:okZ (mkR (bk false q))=true:=jP (k:=y.length) (by rw [BM ω];omega) ly;have sp:(ct (vZ (mkR (bk n p)))).size<=9*x.length+2:=by rw [dU];exact W2 (by rw [BM hpx];omega)
 have sq:(ct (vZ (mkR (bk false q)))).size<=9*y.length+2:=by rw [dU];exact W2 (by rw [BM ω];omega)
 have ed:((Rat.divInt (bk n (ag x)) (ag y)).den:Int)=q:=r2;have bJ:(Rat.divInt (bk n (ag x)) (ag y)).num=bk n p:=r1;by_cases hq1:q=1
 .have e:textQ (Rat.divInt (bk n (ag x)) (ag y))=ct (vZ (mkR (bk n p))):=by
   unfold textQ;rw [if_pos ω,bJ,dU]
  have e1:aK q=[1]:=by
   have h11:e5 [(1:Int)]:=fun k hk=>by
    obtain rfl:k=0:=by simpa using hk.symm
    show(1:Int)≠0;decide
   have:=BY (l:=[(1:Int)]) (.cons (show(0:Int)<=1/\(1:Int)<1000000000 by decide) .nil) h11;rw [show ag [(1:Int)]=1 from sg _ _]at this;rw [hq1];exact this
  rw [e];rw [e1]at k1;exact bX (s:=wp n x m y) hS (k1 pA OL OM pB OO rfl δ rfl rfl)
 .have e:textQ (Rat.divInt (bk n (ag x)) (ag y))=ct (vZ (mkR (bk n p)))++iC++ct (vZ (mkR (bk false q))):=by
   unfold textQ;rw [if_neg ω,bJ,ed,dU,dU];refine gA ?_;rw [dp,dp,jm,jm];show _++47::_=_++[47]++_;rw [qh];rfl
  rw [e];have dD:(ct (vZ (mkR (bk n p)))).size+(ByteArray.mk #[47]).size<=9223372036854775807:=by
   show _+1<=_;omega
  have z2:(ct (vZ (mkR (bk n p)))++ByteArray.mk #[47]).size+(ct (vZ (mkR (bk false q)))).size<=9223372036854775807:=by
   rw [ByteArray.size_append];show _+1+_<=_;omega
  by_cases tW:((aK q).length:Int)=1
  .have hne:¬(aK q).getD 0 0=1:=fun h=>by
    obtain⟨c,hc⟩:∃c,aK q=[c]:=List.length_eq_one_iff.1 ω;rw [hc]at h;have h:c=1:=h;rw [hc,h]at W5;have:ag [(1:Int)]=1:=sg _ _;omega
   exact bX (s:=wp n x m y) hS (k2 pA OL OM pB OO tW (by show 0<_;omega) hne dD qB W6 z2 rfl)
  .exact bX (s:=wp n x m y) hS (dN pA OL OM pB OO tW dD qB W6 z2 rfl)
def aod {y:List Int} (h:okA y=true) (hn:Nat.beq y.length 0=false):0<ag y:=by
 obtain⟨BA,ty,_⟩:=fO.1 h;have h0:=eh BA;rcases Int.lt_or_le 0 (ag y)with h1|h1
 .exact h1
 .have:y=[]:=(Gd lq BA ty).1 (by unfold ag at*;omega);rw [this]at hn;cases hn
def IOz (n m:Bool) (x y:List Int) (h:okZ (n,x)=true) (g:okZ (m,y)=true) (hy:0<ag y):Holds prog true 67 [rv (n,x),rv (m,y)] (sv (textQ (Rat.divInt (bk n (ag x)) (bk m (ag y))))):=by
 have hS:=WY;obtain⟨h1,h2⟩:=pY.1 h;obtain⟨g1,g2⟩:=pY.1 g;refine bL (c:=zE) func67 rfl rfl fun w F=> ?_
 cases m with
 |false=>
  refine cJ hS 3 (an3 n x y) ?_;exact W3 n false x y h1 g1 hy w F
 |true=>
  refine cJ hS 3 (an4 n x y h g) ?_;have a1:okZ (mkR (-vZ (n,x)))=true:=jP (k:=x.length) (by
   rw [Int.natAbs_neg];show((bk n (ag x)).natAbs:Int)<_;rw [BM (eh (fO.1 h1).1)];exact pi h1) (fO.1 h1).2.2
  have a2:okZ (mkR (-vZ (true,y)))=true:=jP (k:=y.length) (by
   rw [Int.natAbs_neg];show((bk true (ag y)).natAbs:Int)<_;rw [BM (cr hy)];exact pi g1) (fO.1 g1).2.2
  have e1:bk (mkR (-vZ (n,x))).1 (ag (mkR (-vZ (n,x))).2)= -vZ (n,x):=dU _;have e2:ag (mkR (-vZ (true,y))).2=ag y:=by
   show ag (aK ((-vZ (true,y)).natAbs:Int))=_;rw [(co (Int.natCast_nonneg _)).2.2];show((-(-ag y)).natAbs:Int)=_;omega
  have key:=W3 (mkR (-vZ (n,x))).1 (mkR (-vZ (true,y))).1 (mkR (-vZ (n,x))).2 (mkR (-vZ (true,y))).2 (pY.1 a1).1 (pY.1 a2).1 (by rw [e2];exact hy) w F;rw [e1,e2]at key;have e3:Rat.divInt (bk n (ag x)) (bk true (ag y))=Rat.divInt (-vZ (n,x)) (ag y):=by
   show Rat.divInt (bk n (ag x)) (-ag y)=Rat.divInt (-(bk n (ag x))) (ag y);have:=Rat.neg_divInt_neg (bk n (ag x)) (-ag y);rw [Int.neg_neg]at this;exact this.symm
  rw [e3];exact key
def P1:WW.Ok prog:=fun⟨⟨n,x⟩,⟨m,y⟩,_⟩ h=>by
 have h:(okZ (n,x)&&(okZ (m,y)&& !(Nat.beq y.length 0)))=true:=h;rw [ae,ae,Bool.not_eq_true']at h;exact IOz n m x y h.1 h.2.1 (aod (pY.1 h.2.1).1 h.2.2)
end
end Go.Proofs.YtibikmmdbdlafaaGreatDoor
