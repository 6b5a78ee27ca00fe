import Derived.Test.YtibikmmdbdlafaaGreatDoorZcCp3
set_option linter.defProp false
set_option linter.unusedSimpArgs false
set_option linter.unusedVariables false
set_option maxRecDepth 100000
namespace Go.Proofs.YtibikmmdbdlafaaGreatDoor
open Go.RowKit Sv Go.Proofs.Tryz
set_option maxHeartbeats 1000000
noncomputable section
def atj:bC prog (bF EM):=cK (aP arp (aP WQ dQ))
def atk {n:Int} (h1:1<=n) (h2:n<1000000000):Holds prog true 35 [sv (textQ (n:Rat))] (.tuple [iv n,bv true]):=by
 have hS:=atj;have i2:l7 2 (n:Rat):=⟨by rw [Rat.num_intCast];show(n.natAbs:Int)<1000000000000000000;omega,by rw [Rat.den_intCast];decide⟩;have hb:aq (textQ (n:Rat))=Lib.itoa n:=by rw [vC,zP (Rat.den_intCast _),List.append_nil,Rat.num_intCast]
 obtain⟨v1,v2⟩:=OV hb;have em:mkR n=(false,[n]):=by
  have e1:ag [n]=n:=sg _ _;have e2:=BY (l:=[n]) (fun d hd=>by rw [List.mem_singleton.1 hd];exact⟨by omega,h2⟩) (by unfold e5;simp;omega);rw [e1]at e2;unfold mkR;rw [ab (show¬n<0 by omega),show(n.natAbs:Int)=n by omega,e2]
 have sz:(textQ (n:Rat)).size<=20:=by
  have:=Zh 9 n.natAbs δ (by have:(10:Nat)^9=1000000000:=(by decide);omega)
  rw [Qe n ω];omega
 refine bL (c:=zR) func35 rfl rfl fun w F=> ?_
 have key:=as2 (textQ (n:Rat)) ω (by rw [arq];exact az (Rat.den_intCast n)) ω (cq (az ω) v2);rw [v1,em]at key;refine cJ hS 6 (key (by show-9223372036854775808<=((1:Nat):Int)-1/\((1:Nat):Int)-1<=9223372036854775807;decide)) ?_;refine aU.loop (ι:={x:Int×Int//x=(0,0)\/x=(n,-1)}) (id:=0) (b:=cat zR Qf) (rest:=(fl zR []).drop 7) (by kernel_rfl) (fun x=>tA false [n] x.1.1 x.1.2) (fun x=>(x.1.2+1).toNat) ⟨(0,0),Or.inl rfl⟩ (fun _=>rfl) ?_;rintro⟨⟨o,i⟩,h⟩;rcases h with h|h
 .obtain⟨rfl,rfl⟩:=Prod.mk.inj h;have key:=as3 n (by show 0<1;decide) (by show-9223372036854775808<=0*1000000000+n/\0*1000000000+n<=9223372036854775807;omega) rfl;rw [show(0:Int)*1000000000+n=n by omega]at key;refine bx (s:=tA false [n] 0 0) hS key ?_;exact⟨⟨(n,-1),Or.inr rfl⟩,by show((-1:Int)+1).toNat<((0:Int)+1).toNat;decide,rfl,rfl⟩
 .obtain⟨rfl,rfl⟩:=Prod.mk.inj h;refine bx (s:=tA false [o] o (-1)) hS (as4 o [o]) ?_;refine cy (cF ?_);exact bX (s:=tA false [o] o (-1)) hS (as5 o [o])
def Zk {s:AT}:Qg s=true↔ ∃n:Int,(1<=n/\n<1000000000)/\s=textQ (n:Rat):= @decide_eq_true_iff _ (Classical.propDecidable _)
def Qi {n:Int} (h1:1<=n) (h2:n<1000000000):xE (textQ (n:Rat))=n:=by
 unfold xE;rw [p6 (k:=2) δ ⟨by rw [Rat.num_intCast];show(n.natAbs:Int)<1000000000000000000;omega,by rw [Rat.den_intCast];decide⟩,Rat.num_intCast]
def atl:Zi.Ok prog:=fun⟨s,_⟩ h=>by
 obtain⟨n,⟨h1,h2⟩,rfl⟩:=Zk.1 h;have key:=atk h1 h2;rw [<-Qi h1 h2]at key;have e:textQ ((xE (textQ (n:Rat)):Int):Rat)=textQ (n:Rat):=by rw [Qi h1 h2]
 rw [e]at key;exact key
def NE:bC prog (bF l9):=cK (aP (fun _ _=>arS) (aP asX (aP aq1 (aP aqV (aP apE (aP Iq (aP Yj (aP Yk (aP Xn (aP PJ (aP PG (aP asZ (aP aru (aP atl (aP asF dQ)))))))))))))))
def Qj:∀l:List AT,(∀s∈l,ckR s=0)->p8 l=0
 |[],_=>rfl
 |s::r,h=>by
  show(if ckR s=0 then p8 r else ckR s)=0;rw [if_pos (h s (kK ..))];exact Qj r fun x hx=>h x (kJ _ hx)
structure atm (r:Rat) (i:Nat) (p P q Q u v:Int):Prop where
 E:qg r.num r.den i p P q Q u v
 last:v=0↔i+1=(cfI r.num r.den).length
 C:qa ((cfI r.num r.den).take (i+1))=(p:Rat)/(q:Rat)
 g:Int.gcd p q=1
 num:((p:Rat)/(q:Rat)).num=p
 den:((((p:Rat)/(q:Rat)).den:Nat):Int)=q
 sm:p4 ((p:Rat)/(q:Rat))
 aQ:q<=200000000
 prev:1<=i->qa ((cfI r.num r.den).take i)=(P:Rat)/(Q:Rat)
def Zl {r:Rat} (hf:No r) (k:Nat) {t:List Int} (ht:s9 t ((cfI r.num r.den).drop k)): -200000000<=(kk t).1/\(kk t).1<=200000000/\1<=(kk t).2/\(kk t).2<=200000000/\(1<=k->1<=(kk t).1):=by
 obtain⟨h1,h2⟩:=hf;have h3:=r.den_pos;exact XW (B:=200000000) ω ⟨by omega,by omega⟩ ω k ht
def IU {r:Rat} (hf:No r) {i:Nat} (hi:i<(cfI r.num r.den).length):∃p P q Q u v:Int,atm r i p P q Q u v:=by
 have hD:0<(r.den:Int):=by have:=r.den_pos;omega
 obtain⟨P,Q,u,v,E,hd,hp,_,_⟩:=Y6 (N:=r.num) hD i hi;have hB:=Zl hf 0 (Yd hi);have hg:=XT ((cfI r.num r.den).take (i+1));have hq:=E.q1;refine⟨_,P,_,Q,u,v,E,asM hD hi E.v0 hd, ?_,hg, ?_, ?_, ?_,hB.2.2.2.1,fun h=> ?_⟩
 .unfold qa;rw [Rat.divInt_eq_div]
 .rw [<-Rat.divInt_eq_div];exact(zO ω hg).1
 .rw [<-Rat.divInt_eq_div];exact(zO ω hg).2
 .rw [<-Rat.divInt_eq_div];exact PP hq ω ω
 .obtain⟨e1,e2⟩:=hp h;unfold qa;rw [Rat.divInt_eq_div,e1,e2]
def atn {L:List Int} {i:Nat} (h:i<L.length):(cvX L).getD i ByteArray.empty=textQ (qa (L.take (i+1))):=by
 unfold cvX;rw [ao,List.getElem?_map,List.getElem?_range h];rfl
def ato (L:List Int):(cvX L).length=L.length:=by unfold cvX;rw [kL,List.length_range]
def atp {r:Rat} (hf:No r) {n:Int} (hn:n∈cfI r.num r.den):p4 (n:Rat):=by
 obtain⟨k,hk,rfl⟩:=List.getElem_of_mem hn;have hB:=Zl hf k (t:=[(cfI r.num r.den)[k]]) ⟨List.cons_ne_nil _ _,(cfI r.num r.den).drop (k+1),by rw [List.drop_eq_getElem_cons hk];rfl⟩;have e:kk [(cfI r.num r.den)[k]]=((cfI r.num r.den)[k],1):=by rw [Ey];show((cfI r.num r.den)[k]*1+0,(cfI r.num r.den)[k]*0+1)=_;simp
 rw [e]at hB;have h1: -200000000<=(cfI r.num r.den)[k]:=hB.1;have h2:(cfI r.num r.den)[k]<=200000000:=hB.2.1;exact⟨by rw [Rat.num_intCast];omega,by rw [Rat.den_intCast];decide⟩
def Zm {l:List AT} (hn:l.length<=1000000) (h:∀s∈l,s.size<=60):(decide (l.length<=1000000)&&l.all fun s=>decide (s.size<=1000000000))=true:=
 cq (az hn) (List.all_eq_true.2 fun s hs=>az (by have:=h s hs;omega))
attribute [local irreducible] ckR textQ isQ toQ cvX cfI EZ ot kR
def atq (a:AT):Holds prog true 5 [sv a] (bv true):=by
 have hS:=NE;refine bL (c:=jt) func5 rfl rfl fun w F=> ?_
 cases hw:xD a with
 |false=>exact bw hS 8 (as6 a rfl hw)
 |true=>
 obtain⟨ave,hc,hf⟩:=as0 hw;have f:=EB (a:=a) ω hc;have z24:a.size<=24:=by omega
 have vQ:=zQ hc;have hL:lG a=cvX (dI a):=by unfold lG;rw [if_pos hc]
 have hX:vt a=(dI a).map lF:=by unfold vt;rw [if_pos hc]
 have hn:=(EC f).2.2;have hlen:(iX (aW a)).length=(dI a).length:=by rw [<-kL (f:=aj),(EC f).1];rfl
 have tW:(dI a).length<=160:=by omega
 have hl0:1<=(dI a).length:=by
  have:dI a≠[]:=XV (by have:=(toQ a).den_pos;omega);have:=List.length_pos_iff.2 this;omega
 have get:∀{i:Nat},i<(dI a).length->(cvX (dI a)).getD i ByteArray.empty=textQ (qa ((dI a).take (i+1))):=fun h=>atn h
 have Zn:(cvX (dI a)).length=(dI a).length:=ato _;have Zo:∀s∈cvX (dI a),ckR s=0/\s.size<=60:=fun s hs=>by
  obtain⟨i,hi,rfl⟩:=List.getElem_of_mem hs;have hi2:i<(dI a).length:=by omega
  have e:(cvX (dI a))[i]=(cvX (dI a)).getD i ByteArray.empty:=by simp [ao,hi]
  obtain⟨p,P,q,Q,u,v,A⟩:=IU hf hi2;have EN:qa ((dI a).take (i+1))=(p:Rat)/(q:Rat):=A.C;rw [e,get hi2,EN];exact⟨xq A.sm,Ic A.sm⟩
 have Qk:∀s∈(dI a).map lF,ckR s=0/\s.size<=60:=fun s hs=>by
  obtain⟨n,hn,rfl⟩:=List.mem_map.1 hs;have sm:=atp hf hn;exact⟨xq sm,Ic sm⟩
 have vW:(cvX (dI a)).getD (((dI a).length:Int)-1).toNat ByteArray.empty=a:=by
  have hi:(((dI a).length:Int)-1).toNat<(dI a).length:=by omega
  obtain⟨p,P,q,Q,u,v,A⟩:=IU hf (i:=(((dI a).length:Int)-1).toNat) hi;have EN:qa ((dI a).take ((((dI a).length:Int)-1).toNat+1))=(p:Rat)/(q:Rat):=A.C;have hv:v=0:=A.last.2 (by show _=(dI a).length;omega);rw [get hi,EN,Za A.E hv,<-f.tx]
 have key:=as7 a rfl hw z24;rw [hL,hX,hc,kL,Zn]at key;refine cJ hS 8 (key δ δ ω rfl (by have:=Zm (l:=cvX (dI a)) ω fun s hs=>(Zo s hs).2;rw [Zn]at this;exact this) (Qj _ fun s hs=>(Zo s hs).1) (by have:=Zm (l:=(dI a).map lF) (by rw [kL];omega) fun s hs=>(Qk s hs).2;rw [kL]at this;exact this) (Qj _ fun s hs=>(Qk s hs).1) ω ω ω (congrArg aq vW)) ?_;clear key vW Qk hX;generalize avf:cvX (dI a)=c at*;refine aU.loop (ι:={i:Nat//i<=(dI a).length}) (id:=0) (b:=cat jt B8) (rest:=(fl jt []).drop 9) (by kernel_rfl) (fun i=>fP a c i.1) (fun i=>(dI a).length-i.1) ⟨0,Nat.zero_le _⟩ (fun _=>rfl) ?_;rintro⟨i,hi⟩;have hi:i<=(dI a).length:=hi;by_cases hlt:i<(dI a).length
 .refine c6 (s:=fP a c i) hS 2 (as8 a c i ω) ?_;refine Dj (id:=1) (c:=cat jt tB) (rest:=(fl jt B8).drop 3) (by kernel_rfl) ?_;obtain⟨p,P,q,Q,u,v,A⟩:=IU hf hlt;have q1:=A.E.q1;have aQ:=A.aQ;have EN:qa ((dI a).take (i+1))=(p:Rat)/(q:Rat):=A.C;have qI:c.getD i ByteArray.empty=textQ ((p:Rat)/(q:Rat)):=by rw [get hlt,EN]
  have atr:=xq A.sm;have Zp:=zQ atr;have avg:=Ic A.sm;have Zq:=BS A.sm;have hd:nU a (textQ ((p:Rat)/(q:Rat)))=textQ (toQ a-(p:Rat)/(q:Rat)):=by unfold nU;rw [Zq]
  have key:=ata a c i ω;rw [qI,hd]at key;refine c6 (s:=fP a c i) hS 1 (key (cq vQ Zp)) ?_;have lU:=Iy (toQ a-(p:Rat)/(q:Rat));have step:∀(R:Prop),(∀L,aD.path (yB prog l9 ((fl jt tB).drop 1) 2 (B9 a c i (textQ (toQ a-(p:Rat)/(q:Rat))))) L (ef prog 189 .normal [] (fP a c i))->R)->R:=fun R k=>by
   have et:Int.tmod (i:Int) 2=((i%2:Nat):Int):=by rw [Int.tmod_eq_emod_of_nonneg ω];rfl
   by_cases hl:i+1=(dI a).length
   .exact k _ (atd a c i _ ω ω)
   .have hv:v≠0:=fun e=>hl (A.last.1 e)
    have Zr:=Y9 A.E hv;by_cases he:i%2=0
    .rw [if_pos he]at Zr;rw [if_neg (by grind),if_neg (by grind)]at lU;exact k _ (atb a c i _ ω ω ω ω ω)
    .rw [if_neg he]at Zr;rw [if_pos (by grind)]at lU;exact k _ (atc a c i _ ω ω ω ω ω)
  refine step _ fun L hP=> ?_
  refine c6 (s:=B9 a c i (textQ (toQ a-(p:Rat)/(q:Rat)))) hS 2 hP ?_;by_cases h0:i=0
  .refine c6 (s:=fP a c i) hS 2 (ate a c i ω) ?_;refine cy (cF ?_);refine bx (s:=fP a c i) hS (Zj a c i ω) ?_;exact⟨⟨i+1,hlt⟩,by show(dI a).length-(i+1)<(dI a).length-i;omega,rfl,rfl⟩
  have h1:1<=i:=by omega
  refine c6 (s:=fP a c i) hS 2 (atf a c i ω) ?_
  -- the fraction before
  obtain⟨p',P',q',Q',u',v',A'⟩:=IU hf (i:=i-1) (by show i-1<(dI a).length;omega);have jB:i-1+1=i:=by omega
  have att:qa ((dI a).take i)=(p':Rat)/(q':Rat):=by have h:=A'.C;rw [jB]at h;exact h
  have Zs:qa ((dI a).take i)=(P:Rat)/(Q:Rat):=A.prev h1;have atu:(p':Rat)/(q':Rat)=(P:Rat)/(Q:Rat):=att.symm.trans Zs;have fQ:=A.E.fQ h1;have Zt:Int.gcd P Q=1:=by
   have iH:=A.E.iH;by_cases he:i%2=0
   .rw [if_pos he]at iH;exact(P9 (u:=P) (y:=q) (x:=p) (v:=Q) ω).2
   .rw [if_neg he]at iH;exact(P9 (u:=p) (y:=Q) (x:=P) (v:=q) ω).1
  have Zu:((P:Rat)/(Q:Rat)).num=P:=by rw [<-Rat.divInt_eq_div];exact(zO ω Zt).1
  have atv:((((P:Rat)/(Q:Rat)).den:Nat):Int)=Q:=by rw [<-Rat.divInt_eq_div];exact(zO ω Zt).2
  have IV:p4 ((P:Rat)/(Q:Rat)):=by rw [<-atu];exact A'.sm
  have atw:c.getD ((i:Int)-1).toNat ByteArray.empty=textQ ((P:Rat)/(Q:Rat)):=by
   rw [show((i:Int)-1).toNat=i-1 by omega,get ω,jB,Zs]
  have atx:=zQ (xq IV);have avh:=Ic IV;have aty:=BS IV;have jT:=IV.1;rw [Zu]at jT;have EO:=A.sm.1;rw [A.num]at EO;have B7:=A.E.B7;have xF:∀{n:Int},n.natAbs<1000000000000000000->p4 (n:Rat):=fun h=>⟨by rw [Rat.num_intCast];exact h,by rw [Rat.den_intCast];decide⟩
  have key:=atg a c i ω ω ω;rw [qI,atw,Qc,Qc,Qd,Qd,Zu,atv,A.num,A.den]at key;have m1:vu (textQ (P:Rat)) (textQ (q:Rat))=textQ ((P*q:Int):Rat):=by unfold vu;rw [BS (xF jT),BS (xF ω),Rat.intCast_mul]
  have m2:vu (textQ (Q:Rat)) (textQ (p:Rat))=textQ ((Q*p:Int):Rat):=by unfold vu;rw [BS (xF ω),BS (xF EO),Rat.intCast_mul]
  have ii:∀{n:Int},n.natAbs<1000000000000000000000000000->l7 3 (n:Rat):=fun {n} h=>⟨by rw [Rat.num_intCast];show(n.natAbs:Int)<1000000000000000000000000000;omega,by rw [Rat.den_intCast];decide⟩
  have w1:(P*q).natAbs<1000000000000000000000000000:=by
   rw [Int.natAbs_mul];exact Nat.lt_of_lt_of_le (Nat.mul_lt_mul_of_lt_of_le jT (show q.natAbs<=200000000 by omega) δ) δ
  have w2:(Q*p).natAbs<1000000000000000000000000000:=by
   rw [Int.natAbs_mul,Nat.mul_comm];exact Nat.lt_of_lt_of_le (Nat.mul_lt_mul_of_lt_of_le EO (show Q.natAbs<=200000000 by omega) δ) δ
  have s1:nU (textQ ((P*q:Int):Rat)) (textQ ((Q*p:Int):Rat))=textQ ((P*q-Q*p:Int):Rat):=by unfold nU;rw [p6 (k:=3) δ (ii w1),p6 (k:=3) δ (ii w2),<-Rat.intCast_sub]
  have atz:((P*q-Q*p).natAbs:Int)=1:=by
   have iH:=A.E.iH;have e:Q*p=p*Q:=Int.mul_comm _ _;rw [e];split at iH<;>omega
  rw [m1,m2,s1,IQ,Zg,atz]at key;have fi:tv (textQ ((p:Rat)/(q:Rat))) a=textQ (rI ((p:Rat)/(q:Rat)-toQ a)):=by unfold tv nU;rw [Zq,IQ]
  have fp:tv (textQ ((P:Rat)/(Q:Rat))) a=textQ (rI ((P:Rat)/(Q:Rat)-toQ a)):=by unfold tv nU;rw [aty,IQ]
  have Zv:∀{x y:Int},1<=y->x.natAbs<1000000000000000000->y<1000000000000000000->l7 5 (rI ((x:Rat)/(y:Rat)-toQ a)):=fun {x y} hy hx hy2=>by
   have hD:0<((toQ a).den:Int):=by have:=(toQ a).den_pos;omega
   have e:=Qb (a:=x) (b:=y) (c:=(toQ a).num) (d:=(toQ a).den) ω hD;rw [vB]at e;rw [e,IM (Int.mul_pos ω hD),<-Rat.divInt_eq_div];obtain⟨f1,f2⟩:=hf;have t1:y*((toQ a).den:Int)<=1000000000000000000*100000000:=Int.mul_le_mul ω ω ω δ;have t2:(x*((toQ a).den:Int)).natAbs<=1000000000000000000*100000000:=by rw [Int.natAbs_mul];exact Nat.mul_le_mul ω ω
   have t3:((toQ a).num*y).natAbs<=100000000*1000000000000000000:=by rw [Int.natAbs_mul];exact Nat.mul_le_mul ω ω
   have pos:1<=y*((toQ a).den:Int):=by have:=Int.mul_pos (show 0<y by omega) hD;omega
   exact arU (k:=5) (arT (N:=1000000000000000000000000000) (D:=1000000000000000000000000000) pos ω ω) δ δ
  rw [fi,fp]at key;have Zw:=Zv (x:=p) (y:=q) q1 EO ω;have jp:=Zv (x:=P) (y:=Q) ω jT ω;have hcmp:=arv (k:=5) (m:=5) δ δ Zw jp;have near:=Y8 A.E h1;rw [if_pos (by grind)]at hcmp;have one:textQ ((1:Int):Rat)=ByteArray.mk #[49]:=by
   refine gA ?_;show aq (textQ ((1:Int):Rat))=_;rw [vC,zP (Rat.den_intCast _),List.append_nil,Rat.num_intCast];show Lib.itoa ((1:Nat):Int)=[49];rw [Dec.oz,mZ δ];rfl
  refine c6 (s:=fP a c i) hS 3 (key ω ω ω (cq (zQ (xq (xF jT))) (zQ (xq (xF ω)))) (cq (zQ (xq (xF ω))) (zQ (xq (xF EO)))) (cq (ml (k:=3) δ (ii w1)) (ml (k:=3) δ (ii w2))) (congrArg aq one) (cq Zp vQ) (cq atx vQ) (cq (ml (k:=5) δ Zw) (ml (k:=5) δ jp)) ω) ?_
  -- Approximate
  have Zx:q<1000000000:=by omega
  have ht:=Qi q1 Zx;have hnk:gB a q=0:=by unfold gB;rw [if_pos hc,if_pos ω]
  obtain⟨lo,hi',n1,n2,l1,l2,oO⟩:=asH z24 hnk hf;obtain⟨b,eb,hb⟩:=asJ hnk (f.qr) l1 l2;have JL:=asP A.E h1 A.g oO hb;have key:=ath a c i (textQ (q:Rat)) (Zk.2 ⟨q,⟨q1,Zx⟩,rfl⟩);rw [ht,qI,eb,JL]at key;refine bx (s:=Qh a c i (textQ (q:Rat))) hS (key ω ω z24 hnk ω rfl) ?_;show ba _ _ _ _ _ ((fl jt B8).drop 3) (fP a c i).T (fP a c i).H _;refine bx (s:=fP a c i) hS (Zj a c i ω) ?_;exact⟨⟨i+1,hlt⟩,by show(dI a).length-(i+1)<(dI a).length-i;omega,rfl,rfl⟩
 .refine bx (s:=fP a c i) hS (as9 a c i ω) ?_;refine cy (cF ?_);exact bX (s:=fP a c i) hS (ati a c i)
end
end Go.Proofs.YtibikmmdbdlafaaGreatDoor
