import Derived.Test.YtibikmmdbdlafaaGreatDoorZmVDv2
set_option linter.defProp false
set_option linter.unusedVariables false
set_option maxRecDepth 100000
set_option linter.unusedSimpArgs false
namespace Go.Proofs.YtibikmmdbdlafaaGreatDoor
open Go.RowKit Sv Go.Proofs.Tryz
noncomputable section
structure Ay (u:List Int) (s:Nat) (d:List Int) (i:Nat):Prop where
 len:d.length=u.length
 dg:aT 18446744073709551616 d
 same:∀j,i<=j->d.getD j 0=u.getD j 0
 val:2^s*aj (d.take i)=aj (u.take i)+u.getD i 0%2^s*18446744073709551616^i
def Ay.next {u d:List Int} {s i:Nat} (I:Ay u s d i) (hu:aT 18446744073709551616 u) (hs:s<=63) (hi:i+1<u.length) {x:Int} (hx:0<=x/\x<18446744073709551616) (he:2^s*x=u.getD i 0-u.getD i 0%2^s+u.getD (i+1) 0%2^s*18446744073709551616):
  Ay u s (d.set i x) (i+1):=by
 have hl:=I.len;refine⟨by rw [b6];exact hl,I.dg.set hx,fun j hj=> ?_, ?_⟩
 .rw [eK,if_neg (by omega)];exact I.same j (by omega)
 .have hv:=I.val;unfold aj at hv ⊢;rw [x7 (by omega),kU u,Int.pow_succ];generalize vl 18446744073709551616 (d.take i)=a at*;generalize vl 18446744073709551616 (u.take i)=b at*;generalize (18446744073709551616:Int)^i=P at*;generalize (2:Int)^s=S at*;generalize u.getD (i+1) 0%S=r1 at*;generalize u.getD i 0%S=gH at*;generalize u.getD i 0=aE at*;have e:P*(S*x)=P*(aE-gH+r1*18446744073709551616):=by rw [he]
  grind
def afT {x y:Int} {s:Nat} (hs:1<=s/\s<=63) (hx:0<=x/\x<18446744073709551616) (hy:0<=y/\y<18446744073709551616):
  (0<=eN (dy x s) (fh y (64-(s:Int)))/\eN (dy x s) (fh y (64-(s:Int)))<18446744073709551616)/\2^s*eN (dy x s) (fh y (64-(s:Int)))=x-x%2^s+y%2^s*18446744073709551616:=by
 have qL:(64-(s:Int))=((64-s:Nat):Int):=by omega
 have hp:(0:Int)<2^s:=dK (by decide) _;have hq:(0:Int)<2^(64-s):=dK (by decide) _;have jz:(2:Int)^s*2^(64-s)=18446744073709551616:=by rw [<-Int.pow_add,show s+(64-s)=64 by omega];rfl
 have h1:dy x s=x/2^s:=La (by omega) hx.1;have h2:fh y (64-(s:Int))=2^(64-s)*(y%2^s):=by
  rw [qL,Sq (by omega) hy,show 64-(64-s)=s by omega]
 have hd:=Int.emod_add_mul_ediv x (2^s);have a0:0<=x/2^s:=Int.ediv_nonneg hx.1 (cm hp);have a1:x/2^s<2^(64-s):=Int.ediv_lt_of_lt_mul hp (by rw [Int.mul_comm,jz];exact hx.2);have b0:=eG y (show(2:Int)^s≠0 by omega);have b1:=e6 y hp;have c0:0<=2^(64-s)*(y%2^s):=Int.mul_nonneg (cm hq) b0;have c1:2^(64-s)*(y%2^s)+2^(64-s)<=18446744073709551616:=by
  have:=eU (show y%2^s+1<=2^s by omega) (cm hq);rw [Int.mul_add,Int.mul_one,Int.mul_comm (2^(64-s)) (2^s),jz]at this;omega
 have e:eN (dy x s) (fh y (64-(s:Int)))=x/2^s+2^(64-s)*(y%2^s):=by
  rw [h1,h2];exact K1 (s:=64-s) (by omega) ⟨a0,a1⟩ b0 rfl (by omega)
 rw [e];refine⟨by omega, ?_⟩;rw [Int.mul_add,<-Int.mul_assoc,jz];generalize (2:Int)^s*(x/2^s)=X at*;rw [Int.mul_comm (18446744073709551616:Int)];omega
def afU {u q:List Int} {n s:Nat} {R:Int} (hu:aT 18446744073709551616 u) (jl:aT 18446744073709551616 q) (hs:s<=63) (hn:n<u.length) (nr:1<=n) (fD:u.length<=400000) (hlq:q.length<=400000) (Au:aj u=2^s*R) (hR:0<=R) (hlt:aj u<18446744073709551616^n) (w:World) (F:Sv.Env):
  aP prog w F 137 ((fl fR []).drop 13) (jF n u q s 0).T (jF n u q s 0).H (Lr (dL q) (cM 18446744073709551616 R)):=by
 have hS:=FZ;have hp:(0:Int)<2^s:=dK (by decide) _;have jz:(2:Int)^s*2^(64-s)=18446744073709551616:=by rw [<-Int.pow_add,show s+(64-s)=64 by omega];rfl
 have Az:u.getD 0 0%2^s=0:=by
  have h1:=ua (b:=18446744073709551616) (l:=u) (k:=0) (by omega);rw [List.drop_zero,aw]at h1;have h2:u.getD 0 0=2^s*(R-2^(64-s)*aj (u.drop 1)):=by
   have h3:2^s*(2^(64-s)*aj (u.drop 1))=18446744073709551616*aj (u.drop 1):=by rw [<-Int.mul_assoc,jz]
   rw [Int.mul_sub,h3];unfold aj at Au ⊢;omega
  rw [h2];exact Int.mul_emod_right _ _
 have hun:u.getD n 0=0/\aj (u.take n)=aj u:=by
  have h1:=tp (b:=18446744073709551616) (by decide) hu hlt;have h2:=dq (b:=18446744073709551616) (l:=u) (k:=n) hn;have h3:=acn (b:=18446744073709551616) (by decide) hu (n+1);have h4:=hu.get (by decide) n;have h5:=dK (b:=18446744073709551616) (by decide) n;refine⟨?_,h1⟩;by_cases hz:u.getD n 0=0
  .exact hz
  .have:=Int.mul_pos h5 (show 0<u.getD n 0 by omega);omega
 refine aP.loop (ι:={x:List Int×Nat//x.2<=n/\Ay u s x.1 x.2}) (id:=4) (b:=cat fR FY) (rest:=(fl fR []).drop 14) (by kernel_rfl) (fun x=>jF n x.1.1 q s x.1.2) (fun x=>n-x.1.2)
  ⟨(u,0),Nat.zero_le _,⟨rfl,hu,fun _ _=>rfl,by show 2^s*vl _ ([]:List Int)=vl _ ([]:List Int)+u.getD 0 0%2^s*_;rw [Az];simp [vl]⟩⟩ (fun _=>rfl) ?_
 rintro⟨⟨d,i⟩,hi,I⟩;have hi:i<=n:=hi;have I:Ay u s d i:=I;have hdl:=I.len;by_cases hlt2:i<n
 .have rZ:=hu.get (by decide) i;have afV:=hu.get (by decide) (i+1);have ho:∀l:List Int,l.length=u.length->∀j,j<u.length->bz 167 aD (some (.own 167 aD l)) j=true:=fun l hl j hj=>by rw [zv];exact ax (by omega)
  have kS:((i:Int)+1).toNat=i+1:=by omega
  have sd:=I.same i (aG _);have afW:=I.same (i+1) (by omega);by_cases hs0:s=0
  .subst hs0;have e1:dy (d.getD i 0) (0:Nat)=d.getD i 0:=by rw [La (by omega) (by rw [sd];exact rZ.1)];simp
   have N:=I.next hu (by omega) (by omega) (x:=dy (d.getD i 0) (0:Nat)) (by rw [e1,sd];exact rZ) (by rw [e1,sd];simp [Int.emod_one]);exact aP.all (s:=jF n d q (0:Nat) i) (s':=jF n (d.set i (dy (d.getD i 0) (0:Nat))) q (0:Nat) (i+1)) known mixed hS _ (afP n d q _ i (by omega) (by omega) (ho d hdl i (by omega)) (by omega) (by omega) (by omega) (by rw [b6]) rfl) (by kernel_rfl)
    ⟨⟨(_,i+1),by show i+1<=n;omega,N⟩,by show n-(i+1)<n-i;omega,rfl,rfl⟩
  .obtain⟨g1,g2⟩:=afT (s:=s) (by omega) rZ afV;have e1:(d.set i (dy (d.getD i 0) s)).getD i 0=dy (u.getD i 0) s:=by rw [vV (by omega),sd]
   have e2:(d.set i (dy (d.getD i 0) s)).getD (i+1) 0=u.getD (i+1) 0:=by rw [eK,if_neg (by omega),afW]
   have e3:(d.set i (dy (d.getD i 0) s)).set i (eN (dy (u.getD i 0) s) (fh (u.getD (i+1) 0) (64-(s:Int))))=d.set i (eN (dy (u.getD i 0) s) (fh (u.getD (i+1) 0) (64-(s:Int)))):=List.set_set ..;have N:=I.next hu hs (by omega) g1 g2;have fin:∃j:{x:List Int×Nat//x.2<=n/\Ay u s x.1 x.2},n-j.1.2<n-i/\
     (jF n ((d.set i (dy (d.getD i 0) s)).set i (eN ((d.set i (dy (d.getD i 0) s)).getD i 0) (fh ((d.set i (dy (d.getD i 0) s)).getD (i+1) 0) (64-s)))) q s (i+1)).T=(jF n j.1.1 q s j.1.2).T/\
     (jF n ((d.set i (dy (d.getD i 0) s)).set i (eN ((d.set i (dy (d.getD i 0) s)).getD i 0) (fh ((d.set i (dy (d.getD i 0) s)).getD (i+1) 0) (64-s)))) q s (i+1)).H=(jF n j.1.1 q s j.1.2).H:=by
    rw [e1,e2,e3];exact⟨⟨(_,i+1),by show i+1<=n;omega,N⟩,by show n-(i+1)<n-i;omega,rfl,rfl⟩
   exact bl (s:=jF n d q s i) hS (afO n d q s i (by omega) (by omega) (ho d hdl i (by omega)) (by omega) (by omega) (by omega) (by omega) (ho _ (by rw [b6];exact hdl) i (by omega)) (by omega) (by rw [kS];exact ho _ (by rw [b6];exact hdl) (i+1) (by omega)) (by omega) (by omega) (by simp) (by rw [kS];rfl)) fin
 .refine bl (s:=jF n d q s i) hS (afQ n d q s i (by omega)) ?_;refine cw (cz ?_);obtain rfl:i=n:=by omega
  have hv:=I.val;rw [hun.1,hun.2,Au,Int.zero_emod,Int.zero_mul,Int.add_zero]at hv;have iO:aj (d.take i)=R:=Int.eq_of_mul_eq_mul_left (by omega) hv;rw [<-iO,<-lw (I.dg.take i)];have bU:(q.drop 0).take q.length=q:=by simp
  have o7:(d.drop 0).take i=d.take i:=by simp
  exact aP.jB (s:=jF i d q s i) known mixed hS _ (afR i d q s i (SC rfl) (by rw [bU];omega) (by omega) (by
   rw [zv,ax (show i-1<d.length by omega)];simp) (by rw [o7,ei];omega) (by rw [bU]) (by rw [o7])) fun T H h=>h
def afX {a v:List Int} {s n m:Nat} {vb:Int} (ha:aT 18446744073709551616 a) (hv:aT 18446744073709551616 v) (hs:s<=63) (Lt:v.length=n) (hn:2<=n) (hm:m+n=a.length+1) (pE:1<=m) (hla:a.length<=300000)
  (hV:aj v=vb*2^s) (hb0:0<vb) (ij:18446744073709551616^(n-1)<=vb) (r7:9223372036854775808<=v.getD (n-1) 0) (w:World) (F:Sv.Env):
  aP prog w F 137 ((fl fR []).drop 11) (k4 a v (cH a s) (cG m) s m).T (k4 a v (cH a s) (cG m) s m).H (Lr (cM 18446744073709551616 (aj a/vb)) (cM 18446744073709551616 (aj a%vb))):=by
 have hS:=FZ;have hp:(0:Int)<2^s:=dK (by decide) _;have asD:(2:Int)^s<=2^63:=iQ (by decide) hs;have R9:(2:Int)^63=9223372036854775808:=rfl;have iA:0<aj v:=by rw [hV];exact Int.mul_pos hb0 hp
 have r8:aj v<18446744073709551616^n:=by rw [<-Lt];exact fP (by decide) hv
 have lR:0<=aj a:=fO (by decide) ha;have CT:aj a<18446744073709551616^a.length:=fP (by decide) ha;have afY:aj a*2^s<18446744073709551616^(a.length+1):=by
  rw [Int.pow_succ];have h1:=eU (show(2:Int)^s<=18446744073709551616 by omega) lR;have h2:=Int.mul_lt_mul_of_pos_right CT (show(0:Int)<18446744073709551616 by decide);omega
 have Az:aj (cH a s)=aj a*2^s:=by
  unfold cH;rw [Int.toNat_natCast];exact CJ (by decide) _ _ (Int.mul_nonneg lR (cm hp)) afY
 have CR:(cH a s).length=a.length+1:=by unfold cH;exact yc _ _ _
 have SD:aT 18446744073709551616 (cH a s):=by unfold cH;exact CI (by decide) _ _
 have Lu:∀k,(cG m).getD k 0=0:=fun k=>by
  unfold cG;rw [ao,List.getElem?_replicate];split<;>rfl
 refine aP.loop (ι:={x:List Int×List Int×Nat//x.2.2<=m/\x.1.length=a.length+1/\aT 18446744073709551616 x.1/\x.2.1.length=m/\aT 18446744073709551616 x.2.1/\aj (x.1.drop x.2.2)<aj v/\aj x.1+aj v*aj x.2.1=aj a*2^s/\∀j,j<x.2.2->x.2.1.getD j 0=0}) (id:=2) (b:=cat fR FX) (rest:=(fl fR []).drop 12) (by kernel_rfl) (fun x=>k4 a v x.1.1 x.1.2.1 s x.1.2.2) (fun x=>x.1.2.2)
  ⟨(cH a s,cG m,m),aG _,CR,SD,gz _,Ad _, ?_, ?_,fun j _=>Lu j⟩ (fun _=>rfl) ?_
 .show aj ((cH a s).drop m)<aj v;have h1:=rP 18446744073709551616 (cH a s) m (by omega);have h2:=fO (b:=18446744073709551616) (by decide) (SD.take m);have h3:18446744073709551616^m*aj ((cH a s).drop m)<=aj a*2^s:=by rw [<-Az];unfold aj;omega
  have h4:aj a*2^s<18446744073709551616^m*aj v:=by
   have e1:(18446744073709551616:Int)^a.length=18446744073709551616^m*18446744073709551616^(n-1):=by rw [<-Int.pow_add,show m+(n-1)=a.length by omega]
   have c1:=Int.mul_lt_mul_of_pos_right CT hp;have c2:=ar ij (cm hp);have c3:=eU c2 (cm (dK (b:=18446744073709551616) (by decide) m));rw [<-hV,<-Int.mul_assoc,<-e1]at c3;omega
  exact Int.lt_of_mul_lt_mul_left (show 18446744073709551616^m*aj ((cH a s).drop m)<18446744073709551616^m*aj v by omega) (cm (dK (by decide) m))
 .show aj (cH a s)+aj v*aj (cG m)=_;have:aj (cG m)=0:=tk _ m;rw [this,Az];omega
 rintro⟨⟨u,q,k⟩,hk,hl,iT,hq,jl,kC,hval,hz⟩;have hk:k<=m:=hk;have hl:u.length=a.length+1:=hl;have iT:aT 18446744073709551616 u:=iT;have hq:q.length=m:=hq;have jl:aT 18446744073709551616 q:=jl;have kC:aj (u.drop k)<aj v:=kC;have hval:aj u+aj v*aj q=aj a*2^s:=hval;have hz:∀j,j<k->q.getD j 0=0:=hz;cases k with
 |zero=>
  refine bl (s:=k4 a v u q s 0) hS (afM a v u q s 0 (by omega)) ?_;refine cw (cz ?_);rw [List.drop_zero]at kC;have pH:0<=aj u:=fO (by decide) iT;obtain⟨g1,g2⟩:=K4 (A:=aj a) (b:=vb) (V:=aj v) (S:=2^s) (U:=aj u) (q:=aj q) hp hb0 hV hval pH kC;rw [g1,<-lw jl];refine dZ (s:=k4 a v u q s 0) hS 1 (afN a v u q s 0) ?_;rw [Lt];exact afU iT jl hs (by omega) (by omega) (by omega) (by omega) g2 (eG _ (by omega)) (Int.lt_trans kC r8) w F
 |succ j=>
  have ej:(((j+1:Nat):Int)-1).toNat=j:=by omega
  have AA:(((j+1:Nat):Int)-1+v.length+1).toNat=j+(n+1):=by omega
  have ed:j+(n+1)-j=n+1:=by omega
  have o7:(((j+1:Nat):Int)-1-1)=(j:Int)-1:=by omega
  obtain⟨w1,w2,w3⟩:=K3 (b:=18446744073709551616) (by decide) iT (j:=j) (n:=n) (V:=aj v) (by omega) (cm r8) kC;have wo:aj (qN u j (n+1))<18446744073709551616*aj v:=by unfold qN aj;rw [<-w1];exact w2
  have hpre:we u j (n+1) v=true:=by
   unfold we;rw [cp.2 iT,cp.2 hv,ax (show 2<=v.length by omega),Lt,Nat.beq_refl,ax (show n<=1000000 by omega),ax r7,ax wo];rfl
  obtain⟨n1,n2,n3,Aq⟩:=R7 (b:=18446744073709551616) (by decide) iT (j:=j) (n:=n) (V:=aj v) (by omega) iA (cm r8) kC (u':=gE u j (n+1) v) rfl;have Lv:0<=aj (qN u j (n+1)):=fO (by decide) ((iT.drop j).take _);have wk:0<=jh u j (n+1) v:=Int.ediv_nonneg Lv (cm iA);have FU:jh u j (n+1) v<18446744073709551616:=(Int.ediv_lt_iff_lt_mul iA).2 wo;have fin:∃y:{x:List Int×List Int×Nat//x.2.2<=m/\x.1.length=a.length+1/\aT 18446744073709551616 x.1/\x.2.1.length=m/\aT 18446744073709551616 x.2.1/\aj (x.1.drop x.2.2)<aj v/\aj x.1+aj v*aj x.2.1=aj a*2^s/\∀j,j<x.2.2->x.2.1.getD j 0=0},y.1.2.2<j+1/\
    (Aw a v (gE u j (n+1) v) (q.set j (jh u j (n+1) v)) s (j+1)).T=(k4 a v y.1.1 y.1.2.1 s y.1.2.2).T/\(Aw a v (gE u j (n+1) v) (q.set j (jh u j (n+1) v)) s (j+1)).H=(k4 a v y.1.1 y.1.2.1 s y.1.2.2).H:=by
   refine⟨⟨(gE u j (n+1) v,q.set j (jh u j (n+1) v),j),by show j<=m;omega,by show(gE u j (n+1) v).length=_;omega,n2,by show(q.set j _).length=m;rw [b6];exact hq,jl.set ⟨wk,FU⟩,Aq, ?_,fun i hi=> ?_⟩,e8 _, ?_,rfl⟩
   .show aj (gE u j (n+1) v)+aj v*aj (q.set j (jh u j (n+1) v))=_;have qy:aj (q.set j (jh u j (n+1) v))=aj q+18446744073709551616^j*jh u j (n+1) v:=by
     unfold aj;rw [qz _ _ _ _ (by omega),hz j (e8 _),Int.sub_zero]
    have Lw:aj (gE u j (n+1) v)+18446744073709551616^j*jh u j (n+1) v*aj v=aj u:=n3;rw [qy,<-hval,<-Lw];generalize aj (gE u j (n+1) v)=x1;generalize jh u j (n+1) v=x2;generalize (18446744073709551616:Int)^j=x3;generalize aj q=qx;generalize aj v=vR;grind
   .have hi:i<j:=hi;show(q.set j _).getD i 0=0;rw [eK,if_neg (by omega)];exact hz i (by omega)
   .show(Aw a v _ _ s (j+1)).T=(k4 a v _ _ s j).T;unfold Aw k4;rw [o7]
  have hlen':u.length=(gE u j (n+1) v).length:=by omega
  have hown:∀i l,i<u.length->1<=l->(bz 167 aD (some (.own 167 aD u)) i&&Nat.ble 1 l)=true:=fun i l hi hl=>by rw [zv,ax hi,fo hl];rfl
  have CU:(((0+1:Nat):Int)-1+v.length+1).toNat=n+1:=by omega
  by_cases hj0:j=0
  .subst hj0;refine bl (s:=k4 a v u q s 1) hS (afK a v u q s 1 (by omega) (by omega) (by omega) (by omega) (by rw [CU];omega) rfl (by rw [CU];exact hown _ _ (by omega) (by omega)) (by rw [CU];exact hpre) (by rw [ej];omega) (by omega) (by rw [CU];exact hlen') (by rw [b6]) (by rw [b6])) ?_;rw [CU,ej];exact fin
  .refine aP.all (s:=k4 a v u q s (j+1)) known mixed hS _ (afL a v u q s (j+1) (by omega) (by omega) (by omega) (by omega) (by rw [AA];omega) (by
    rw [ej];cases hb:Nat.beq j 0 with
    |false=>rfl
    |true=>exact absurd (ac hb) hj0) (by rw [AA,ej];omega) (by
    rw [AA,ej,ed];exact hown _ _ (by omega) (by omega)) (by rw [AA,ej,ed];exact hpre) (by rw [ej];omega) (by omega) (by rw [AA,ej,ed];exact hlen') (by rw [b6]) (by rw [b6])) (by kernel_rfl) ?_
   rw [AA,ej,ed];exact fin
def afZ (a b:List Int) (h:pI a b=true):Holds prog false 178 [bE a,bE b] (.tuple [bE (eT a b),bE (cI a b)]):=by
 have hS:=FZ;unfold pI mO at h;simp only [ae,bB,cp,qG]at h;obtain⟨⟨⟨ha,ke⟩,⟨hb,F0⟩,hal⟩,jw,hla,hlb⟩:=h;have hC:mO a b=true:=by
  unfold mO;rw [cp.2 ha,qG.2 ke,cp.2 hb,qG.2 F0,ax hal];rfl
 have lR:0<=aj a:=fO (by decide) ha;have um:0<=aj b:=fO (by decide) hb;refine bL (c:=fR) func178 rfl rfl fun w F=> ?_
 by_cases hlt:aj a<aj b
 .have e1:eT a b=[]:=by unfold eT;rw [Int.ediv_eq_zero_of_lt lR hlt];exact tw (by decide)
  have e2:cI a b=a:=by unfold cI;rw [Int.emod_eq_of_lt lR hlt];exact(qE (by decide) ha ke rfl).symm
  rw [e1,e2];exact bx hS 3 (afB a b hC (by unfold kV;rw [if_pos hlt];decide))
 .refine cC hS 4 (afC a b hC (by unfold kV;rw [if_neg hlt];split<;>decide)) ?_;obtain⟨n,hn⟩:∃n,b.length=n+1:=⟨b.length-1,by omega⟩;have CV:=hb.get (by decide) n;have hbz:=F0 n hn;cases n with
  |zero=>
   obtain⟨y,rfl⟩:∃y,b=[y]:=List.length_eq_one_iff.1 hn;have hy:y≠0:=hbz;have hy2:0<=y/\y<18446744073709551616:=CV;refine SB (X:=oZ) (o:= .tmp 23) (x:=cat fR CS) (y:= .skip) (rest:=(fl fR []).drop 5) (by kernel_rfl) (by kernel_rfl) ?_;refine aP.mono (fun e T H hq=> ?_) (afS ha (by omega) hla w F);obtain⟨rfl,hq⟩:=hq;exact hq
  |succ m=>
   refine dZ (s:=r6 a b) hS 1 (afH a b (by omega)) ?_;obtain⟨s,hs,Sd,Se,Sf⟩:=K7 (x:=b.getD (m+1) 0) (by omega);have bF:((b.length:Int)-1).toNat=m+1:=by omega
   have hp:(0:Int)<2^s:=dK (by decide) _;have asE:=r0 (u:=b) (n:=m+1) hn;have asF:=fO (b:=18446744073709551616) (by decide) (hb.take (m+1));have af0:=fP (b:=18446744073709551616) (by decide) (hb.take (m+1));rw [ei,Nat.min_eq_left (by omega)]at af0;have hP:=dK (b:=18446744073709551616) (by decide) (m+1);have ij:18446744073709551616^(m+1)<=aj b:=tl (by decide) hb F0 hn
   -- the divisor, shifted up, has as many words
   have af1:(b.getD (m+1) 0+1)*2^s<=18446744073709551616:=by
    have qL:(18446744073709551616:Int)=2^(64-s)*2^s:=by rw [<-Int.pow_add,show 64-s+s=64 by omega];rfl
    have h1:b.getD (m+1) 0<2^(64-s):=Int.lt_of_mul_lt_mul_right (show b.getD (m+1) 0*2^s<2^(64-s)*2^s by rw [<-qL];exact Sf) (cm hp);rw [qL];exact ar (by omega) (cm hp)
   have Lx:aj b*2^s<18446744073709551616^(m+2):=by
    have h1:aj b<18446744073709551616^(m+1)*(b.getD (m+1) 0+1):=by rw [Int.mul_add,Int.mul_one];unfold aj at*;omega
    have h2:=Int.mul_lt_mul_of_pos_right h1 hp;have h3:=eU af1 (cm hP);rw [Int.mul_assoc]at h2;rw [Int.pow_succ];omega
   have af2:aj (cH b s)=aj b*2^s:=by
    unfold cH;rw [Int.toNat_natCast];refine CJ (by decide) _ _ (Int.mul_nonneg um (cm hp)) ?_;have:=iQ (b:=18446744073709551616) (by decide) (show m+2<=b.length+1 by omega);omega
   have af3:aT 18446744073709551616 (cH b s):=by unfold cH;exact CI (by decide) _ _
   have asG:(cH b s).length=m+3:=by unfold cH;rw [yc];omega
   have hv:=lw af3;rw [af2]at hv;have iA:0<=aj b*2^s:=Int.mul_nonneg um (cm hp);obtain⟨v1,v2,v3⟩:=qD (b:=18446744073709551616) (by decide) iA;have Lz:aj (dL (cH b s))=aj b*2^s:=by rw [hv];exact v3
   have hvl:(dL (cH b s)).length=m+2:=by
    have h1:=iS (b:=18446744073709551616) (by decide) iA Lx;rw [<-hv]at h1;by_cases hc:m+2<=(dL (cH b s)).length
    .omega
    .have h2:=fP (b:=18446744073709551616) (by decide) v1;rw [<-hv]at h2;have h3:=iQ (b:=18446744073709551616) (by decide) (show(dL (cH b s)).length<=m+1 by omega);have h4:=eU (show(1:Int)<=2^s by omega) um;unfold aj at Lz ij h4;omega
   have CK:aT 18446744073709551616 (dL (cH b s)):=by rw [hv];exact v1
   have r7:9223372036854775808<=(dL (cH b s)).getD (m+2-1) 0:=by
    have h1:=r0 (u:=dL (cH b s)) (n:=m+1) hvl;have h2:=fP (b:=18446744073709551616) (by decide) (CK.take (m+1));rw [ei,Nat.min_eq_left (by omega)]at h2;have h3:18446744073709551616^(m+1)*(b.getD (m+1) 0*2^s)<=aj b*2^s:=by
     rw [<-Int.mul_assoc];exact ar (by unfold aj at*;omega) (cm hp)
    have h4:=eU Se (cm hP);show _<=(dL (cH b s)).getD (m+1) 0;rw [Lz]at h1;have h5:18446744073709551616^(m+1)*9223372036854775808<18446744073709551616^(m+1)*((dL (cH b s)).getD (m+1) 0+1):=by
     rw [Int.mul_add,Int.mul_one];unfold aj at*;omega
    have:=Int.lt_of_mul_lt_mul_left h5 (cm hP);omega
   have hge:m+2<=a.length:=by
    refine Nat.not_lt.1 fun hh=> ?_
    exact hlt (vU (by decide) ha hb F0 (by omega))
   have SE:∀l:List Int,aT 18446744073709551616 l->l.length<=300000->ye l (s:Int)=true:=fun l hl af4=>by
    unfold ye;rw [cp.2 hl,ax (show l.length<=400000 by omega),ax (show(0:Int)<=(s:Int) by omega),ax (show(s:Int)<64 by omega)];rfl
   have ht:((cH b s).drop 0).take (cH b s).length=cH b s:=by simp
   have hs':dM (b.getD ((b.length:Int)-1).toNat 0)=(s:Int):=by rw [bF];exact hs
   refine aP.st (s:=r6 a b) known mixed hS 2 _ (afI a b (dL (cH b s)) s (by omega) (by omega) (by omega) (by rw [bF];exact pF.2 CV) (by rw [hs'];exact SE b hb hlb) (by
    rw [hs'];have:bz 167 aD (some (.own 167 aD (cH b s))) ((cH b s).length-1)=true:=by rw [zv];exact ax (by omega)
    rw [Bool.or_eq_true];exact .inr this) (by rw [hs',ht];omega) hs' (by rw [hs',ht])) (by kernel_rfl) ?_
   have em:((a.length:Int)-(dL (cH b s)).length+1).toNat=a.length-(m+2)+1:=by omega
   refine dZ (s:=Lp a (dL (cH b s)) s) hS 4 (afJ a (dL (cH b s)) s (a.length-(m+2)+1) (SE a ha hla) (by omega) (by omega) (by omega) (by rw [em];omega) rfl (by rw [em,gz]) (by rw [em]) (by rw [gz]) (by omega) (by rw [em];exact x8 _) (by rw [gz])) ?_;exact afX ha CK Sd hvl (by omega) (by omega) (by omega) hla Lz (by omega) (by rw [show m+2-1=m+1 by omega];exact ij) r7 w F
def SF:Lq.Ok prog:=fun⟨a,b,_⟩ h=>afZ a b h
noncomputable def uo:Code:=(f171.body).getD .skip
noncomputable def wq:bI:=aR [CE,KM,Lq,v8,FI,ya]
abbrev F1:Sv.Ren:=[(64,64,none),(65,65,none),(66,66,none),(67,67,none)]
def uq (a b:aW):bC:={n:=84,sl:=[(2, .ptr 64 0),(3, .ptr 65 0),(4, .ptr 66 0),(5, .ptr 67 0)],bF:=[(64,qK a),(65,qK b),(66,b0),(67,b0)],next:=68}
def kD (a b:aW):Int×List Int:=aY (b9 (bW a) (eT (ay a) (ay b)))
def gM (a b:aW):Int×List Int:=aY (b9 (bW a) (cI (ay a) (ay b)))
def af5 (a b:aW) (h1:a.2.isEmpty=true) (h2:b.2.isEmpty=true) (h3:¬a.1= -9223372036854775808) (h4:b.1≠0) (h5:i6 (Int.tdiv a.1 b.1)) (h6:Int.tmod a.1 b.1<0) (h7:i6 (Int.tdiv a.1 b.1-1)) (h8:i6 (Int.tmod a.1 b.1+b.1)):
  bu wq (fl uo []) 3 84 [aJ a,aJ b] 2047 f171 false (.tuple [aJ (Int.tdiv a.1 b.1-1,[]),aJ (Int.tmod a.1 b.1+b.1,[])]):=
 wy [af (aN (aN (h1))),af (aN (h1)),af (aN (aN (h2))),af (aN (h2)),af (e7.mpr h3),af (aV (v:=iv (a.1))),af (aV (v:=iv (b.1))),ah h4,yi h5,ah h6,yi h7,yi h8] 251558458034092392577408602166792257
def SG (a b:aW) (h1:a.2.isEmpty=true) (h2:b.2.isEmpty=true) (h3:¬a.1= -9223372036854775808) (h4:b.1≠0) (h5:i6 (Int.tdiv a.1 b.1)) (h6:¬Int.tmod a.1 b.1<0):
  bu wq (fl uo []) 3 84 [aJ a,aJ b] 1535 f171 false (.tuple [aJ (Int.tdiv a.1 b.1,[]),aJ (Int.tmod a.1 b.1,[])]):=
 wy [af (aN (aN (h1))),af (aN (h1)),af (aN (aN (h2))),af (aN (h2)),af (e7.mpr h3),af (aV (v:=iv (a.1))),af (aV (v:=iv (b.1))),ah h4,yi h5,aA h6] 802322401637226796831279157313
def af6 (a b:aW) (h1:a.2.isEmpty=false):
  cO wq (fl uo []) 3 84 [aJ a,aJ b] 512 .normal F1 (uq a b):=
 wy [af (aN (aN (h1))),af (aN (h1))] 528449
def af7 (a b:aW) (h1:a.2.isEmpty=true) (h2:b.2.isEmpty=false):
  cO wq (fl uo []) 3 84 [aJ a,aJ b] 527 .normal F1 (uq a b):=
 wy [af (aN (aN (h1))),af (aN (h1)),af (aN (aN (h2))),af (aN (h2))] 17801616560193
def af8 (a b:aW) (h1:a.2.isEmpty=true) (h2:b.2.isEmpty=true) (h3:a.1= -9223372036854775808):
  cO wq (fl uo []) 3 84 [aJ a,aJ b] 767 .normal F1 (uq a b):=
 wy [af (aN (aN (h1))),af (aN (h1)),af (aN (aN (h2))),af (aN (h2)),af (gu.mpr h3)] 1425176500113473
def af9 (a b:aW) (h1:(aH a)=true) (h2:(aH b)=true) (h3:(pI (ay a) (ay b))=true) (h4:(gL (eT (ay a) (ay b))&&jC (eT (ay a) (ay b)))=true) (h5:(gL (cI (ay a) (ay b))&&jC (cI (ay a) (ay b)))=true) (h6:(aH (aY (b9 (bW a) (cI (ay a) (ay b)))))=true) (h7:fe (aY (b9 (bW a) (cI (ay a) (ay b))))<0) (h8:(aH (aY (b9 (bW a) (eT (ay a) (ay b))))&&aH (1,[]))=true) (h9:(aH (aY (b9 (bW a) (cI (ay a) (ay b))))&&aH b)=true) (h10:(kq (aY (b9 (bW a) (eT (ay a) (ay b)))) (1,[])).1=(kq (kD a b) (1,[])).1) (h11:(kq (aY (b9 (bW a) (eT (ay a) (ay b)))) (1,[])).2=(kq (kD a b) (1,[])).2) (h12:(dx (aY (b9 (bW a) (cI (ay a) (ay b)))) b).1=(dx (gM a b) b).1) (dG:(dx (aY (b9 (bW a) (cI (ay a) (ay b)))) b).2=(dx (gM a b) b).2):
  bH wq ((fl uo []).drop 3) (uq a b) 3 f171 false (.tuple [aJ (kq (kD a b) (1,[])),aJ (dx (gM a b) b)]):=
 wy [af h1,af h2,af h3,af h4,af h5,af h6,ah h7,af (aV (v:=aJ (aY (b9 (bW a) (eT (ay a) (ay b)))))),af h8,af (aV (v:=aJ (aY (b9 (bW a) (cI (ay a) (ay b)))))),af (aV (v:=aJ b)),af h9,af (aV (v:=aJ (kq (aY (b9 (bW a) (eT (ay a) (ay b)))) ((1:Int),[])))),af (aV (v:=aJ (dx (aY (b9 (bW a) (cI (ay a) (ay b)))) b))),az h10,az h11,az h12,az dG] 6366022754155619780025161810062091830177921
def aga (a b:aW) (h1:(aH a)=true) (h2:(aH b)=true) (h3:(pI (ay a) (ay b))=true) (h4:(gL (eT (ay a) (ay b))&&jC (eT (ay a) (ay b)))=true) (h5:(gL (cI (ay a) (ay b))&&jC (cI (ay a) (ay b)))=true) (h6:(aH (aY (b9 (bW a) (cI (ay a) (ay b)))))=true) (h7:¬fe (aY (b9 (bW a) (cI (ay a) (ay b))))<0) (h8:(aY (b9 (bW a) (eT (ay a) (ay b)))).1=(kD a b).1) (h9:(aY (b9 (bW a) (eT (ay a) (ay b)))).2=(kD a b).2) (h10:(aY (b9 (bW a) (cI (ay a) (ay b)))).1=(gM a b).1) (h11:(aY (b9 (bW a) (cI (ay a) (ay b)))).2=(gM a b).2):
  bH wq ((fl uo []).drop 3) (uq a b) 2 f171 false (.tuple [aJ (kD a b),aJ (gM a b)]):=
 wy [af h1,af h2,af h3,af h4,af h5,af h6,aA h7,af (aV (v:=aJ (aY (b9 (bW a) (eT (ay a) (ay b)))))),af (aV (v:=aJ (aY (b9 (bW a) (cI (ay a) (ay b)))))),az h8,az h9,az h10,az h11] 3986500662194803160658049
noncomputable def iU (a b:aW):Int×List Int:=if iy a&&(iy b&& !(a.1== -9223372036854775808))then aY (au a/au b)else if au (gM a b)<0 then kq (kD a b) (1,[])else kD a b
noncomputable def lS (a b:aW):Int×List Int:=aY (au a%au b)
def r9 (a b:aW):Bool:=(aH a&&aH b)&&decide (0<au b)
noncomputable def F2:bp:={f:=171,ps:=[dR,dR],rs:=[dR,dR],fresh:=false,pre:=fun d=>r9 d.1 d.2.1,fn:=fun d=>(iU d.1 d.2.1,(lS d.1 d.2.1,()))}
def SH:bD prog (bG wq):=cY (aX FB (aX RY (aX SF (aX gd (aX KW (aX Ak eA))))))
def SI {n:Nat} {a b:aW} (h:bK n a=true) (g:bK n b=true) (hb:0<au b):
  0<=aj (ay a)/aj (ay b)/\0<=aj (ay a)%aj (ay b)/\aj (ay a)%aj (ay b)<au b/\aj (ay b)=au b/\
  ((0<=au a/\au (kD a b)=au a/au b/\au (gM a b)=au a%au b/\¬au (gM a b)<0)\/
   (au (gM a b)<0/\au (kD a b)-1=au a/au b/\au (gM a b)+au b=au a%au b)\/
   (¬au (gM a b)<0/\au (kD a b)=au a/au b/\au (gM a b)=au a%au b)):=by
 obtain⟨_,_,a3,a4,_⟩:=jD h;obtain⟨_,_,b3,b4,_⟩:=jD g;have eb:aj (ay b)=au b:=by omega
 have q0:0<=aj (ay a)/aj (ay b):=Int.ediv_nonneg (by omega) (by omega);have gH:=eG (aj (ay a)) (show aj (ay b)≠0 by omega);have r1:=e6 (aj (ay a)) (show 0<aj (ay b) by omega);have tH:=Int.emod_add_mul_ediv (aj (ay a)) (aj (ay b));have eQ:au (kD a b)=b9 (bW a) (eT (ay a) (ay b)):=val_mk _;have k5:au (gM a b)=b9 (bW a) (cI (ay a) (ay b)):=val_mk _;have SJ:aj (eT (ay a) (ay b))=aj (ay a)/aj (ay b):=lA q0;have LA:aj (cI (ay a) (ay b))=aj (ay a)%aj (ay b):=lA gH;refine⟨q0,gH,by omega,eb, ?_⟩;unfold b9 at eQ k5;cases hn:bW a
 .rw [hn]at eQ k5;have eQ:au (kD a b)=aj (eT (ay a) (ay b)):=eQ;have k5:au (gM a b)=aj (cI (ay a) (ay b)):=k5;have ha:¬au a<0:=fun hh=>by rw [a4.2 hh]at hn;cases hn
  have ea:aj (ay a)=au a:=by omega
  refine .inl ⟨by omega,by rw [eQ,SJ,ea,eb],by rw [k5,LA,ea,eb],by rw [k5,LA];omega⟩
 .rw [hn]at eQ k5;have eQ:au (kD a b)= -aj (eT (ay a) (ay b)):=eQ;have k5:au (gM a b)= -aj (cI (ay a) (ay b)):=k5;have ha:=a4.1 hn;have ea:aj (ay a)= -au a:=by omega
  rw [SJ]at eQ;rw [LA]at k5;rw [eb]at eQ k5 tH r1 gH q0;generalize aj (ay a)/au b=q at*;generalize aj (ay a)%au b=r at*;by_cases hr:r=0
  .obtain⟨k1,k2⟩:=kd (U:=au a) (V:=au b) (t:= -q) hb (by rw [Int.neg_mul,Int.mul_comm q];omega) (by rw [Int.neg_mul,Int.mul_comm q];omega);rw [Int.neg_mul,Int.mul_comm q]at k2;exact .inr (.inr ⟨by omega,by omega,by omega⟩)
  .have e:(-q-1)*au b= -(au b*q)-au b:=by rw [Int.sub_mul,Int.one_mul,Int.neg_mul,Int.mul_comm q]
   obtain⟨k1,k2⟩:=kd (U:=au a) (V:=au b) (t:= -q-1) hb (by rw [e];omega) (by rw [e];omega);rw [e]at k2;exact .inr (.inl ⟨by omega,by omega,by omega⟩)
def LB {n:Nat} {a b:aW} (h:bK n a=true) (g:bK n b=true) (hb:0<au b):au (iU a b)=au a/au b:=by
 obtain⟨_,_,_,_,hv⟩:=SI h g hb;unfold iU;split
 .exact val_mk _
 .split
  .rename_i hlt;rw [val_sub];have e1:au (1,[])=1:=rfl;rw [e1];omega
  .omega
def LC (a b:aW):au (lS a b)=au a%au b:=val_mk _
def SK (x:Int) {y:Int} (hy:0<y):(x/y).natAbs<=x.natAbs:=by
 have h1:=Int.emod_add_mul_ediv x y;have h2:=eG x (show y≠0 by omega);have h3:=e6 x hy;by_cases h0:0<=x
 .have h4:0<=x/y:=Int.ediv_nonneg h0 (by omega);have:=ar (show 1<=y by omega) h4;omega
 .have h4:x/y<= -1:=by
   have:x/y<0:=(Int.ediv_lt_iff_lt_mul hy).2 (by omega);omega
  have h5:=eU (show x/y+1<=0 by omega) (show 0<=y-1 by omega);rw [Int.mul_zero]at h5;have e:(y-1)*(x/y+1)=y*(x/y)+y-x/y-1:=by grind
  omega
def SL {n:Nat} {a b:aW} (h:bK n a=true) (g:bK n b=true) (hb:0<au b) (hn:1<=n):bK n (iU a b)=true:=by
 have hv:=LB h g hb;have ha:=d8 h hn;have hd:=SK (au a) hb;have hk:∀z:Int,z=au a/au b->(z.natAbs:Int)<18446744073709551616^n:=fun z hz=>by subst hz;omega
 unfold iU at hv ⊢;split
 .exact(kZ (hk _ rfl)).1
 .rename_i hc;rw [if_neg hc]at hv;split
  .rename_i hlt;rw [if_pos hlt,val_sub]at hv;exact CD (by rw [fg];exact hk _ (by omega))
  .rename_i hlt;rw [if_neg hlt]at hv;unfold kD at hv ⊢;rw [val_mk]at hv;exact(kZ (hk _ hv)).1
def SM {n:Nat} {a b:aW} (g:bK n b=true) (hb:0<au b) (hn:1<=n):((au a%au b).natAbs:Int)<18446744073709551616^n:=by
 have h1:=eG (au a) (show au b≠0 by omega);have h2:=e6 (au a) hb;have h3:=d8 g hn;omega
def agb {n:Nat} {a b:aW} (g:bK n b=true) (hb:0<au b) (hn:1<=n):bK n (lS a b)=true:=(kZ (SM g hb hn)).1
def LD (a b:aW) (h:aH a=true) (g:aH b=true) (hb:0<au b) (hc:¬(iy a&&(iy b&& !(a.1== -9223372036854775808)))=true) (w:World) (F:Sv.Env):
  aP prog w F 84 ((fl uo []).drop 3) (uq a b).T (uq a b).H (fy prog false f171 (.tuple [aJ (iU a b),aJ (lS a b)])):=by
 have hS:=SH;obtain⟨q0,gH,r1,eb,hv⟩:=SI h g hb;obtain⟨a1,a2,a3,a4,a5⟩:=jD h;obtain⟨b1,b2,b3,b4,gi⟩:=jD g;have hD:pI (ay a) (ay b)=true:=by
  unfold pI;have hne:1<=(ay b).length:=by
   cases hl:ay b with
   |nil=>rw [hl]at eb;have:aj []=0:=rfl;omega
   |cons _ _=>simp
  rw [show mO (ay a) (ay b)=true from KQ h g,ax hne,ax (show(ay a).length<=300000 by omega),ax (show(ay b).length<=300000 by omega)];rfl
 have SN:=tz q0;have SP:=tz gH;have ha:=d8 h (by decide);have ij:=d8 g (by decide);have asH:aj (ay a)/aj (ay b)<=aj (ay a):=Int.ediv_le_self _ (by omega);have okQ:aH (kD a b)=true:=by
  refine(kZ ?_).1;rw [KO (bW a) (w:=eT (ay a) (ay b)) (qD (b:=18446744073709551616) (by decide) q0).1,show aj (eT (ay a) (ay b))=_ from lA q0];omega
 have LF:aH (gM a b)=true:=by
  refine(kZ ?_).1;rw [KO (bW a) (w:=cI (ay a) (ay b)) (qD (b:=18446744073709551616) (by decide) gH).1,show aj (cI (ay a) (ay b))=_ from lA gH];omega
 by_cases hlt:au (gM a b)<0
 .have e1:iU a b=kq (kD a b) (1,[]):=by unfold iU;rw [if_neg hc,if_pos hlt]
  have hval:au (dx (gM a b) b)=au a%au b:=by rw [Ag];omega
  have e2:dx (gM a b) b=lS a b:=by
   have ho:aH (dx (gM a b) b)=true:=CD (by rw [<-Ag,hval];exact SM g hb (by decide));have:=Fx ho (by rw [hval];have:=eG (au a) (show au b≠0 by omega);omega);rw [hval]at this;exact this
  rw [e1,<-e2];have one:aH ((1:Int),([]:List Int))=true:=rfl;exact bP (s:=uq a b) hS (af9 a b h g hD SN SP LF (by unfold fe;exact Int.lt_of_le_of_lt (Int.le_of_eq (Fy hlt)) (by decide)) (by rw [ae];exact⟨okQ,one⟩) (by rw [ae];exact⟨LF,g⟩) rfl rfl rfl rfl)
 .have e1:iU a b=kD a b:=by unfold iU;rw [if_neg hc,if_neg hlt]
  have e2:gM a b=lS a b:=by
   unfold lS;have:au (gM a b)=au a%au b:=by omega
   rw [<-this];unfold gM;rw [val_mk]
  rw [e1,<-e2];exact aP.jB (s:=uq a b) known mixed hS _ (aga a b h g hD SN SP LF (by
   show¬kY (au (gM a b))<0;unfold kY;rw [if_neg hlt];split<;>decide) rfl rfl rfl rfl) fun T H h=>h
def agc (a b:aW) (h:aH a=true) (g:aH b=true) (hb:0<au b):Holds prog false 171 [aJ a,aJ b] (.tuple [aJ (iU a b),aJ (lS a b)]):=by
 have hS:=SH;refine bL (c:=uo) func171 rfl rfl fun w F=> ?_
 by_cases ha:a.2=[]
 .have KT:=yb h ha;by_cases lF:b.2=[]
  .have hrb:=yb g lF;by_cases hm:a.1= -9223372036854775808
   .refine cC hS 3 (af8 a b (dm.2 ha) (dm.2 lF) hm) (LD a b h g hb (fun hh=> ?_) w F);simp only [ae,Bool.not_eq_true',fF]at hh;exact hh.2.2 hm
   .have SQ:=lN ha;have LG:=lN lF;rw [LG]at hb;have hc:(iy a&&(iy b&& !(a.1== -9223372036854775808)))=true:=by
     rw [dm.2 ha,dm.2 lF,fF.2 hm];rfl
    have tH:=Int.tmod_add_mul_tdiv a.1 b.1;have uj:=eG a.1 (show b.1≠0 by omega);have lI:=e6 a.1 hb;have Sj:=Int.emod_add_mul_ediv a.1 b.1;have F3:=SK a.1 hb;have agd:iU a b=(a.1/b.1,[]):=by
     unfold iU;rw [if_pos hc,SQ,LG];exact rT (by omega)
    have age:lS a b=(a.1%b.1,[]):=by
     unfold lS;rw [SQ,LG];exact rT (by omega)
    rw [agd,age];by_cases hneg:0<=a.1
    .have e1:a.1.tdiv b.1=a.1/b.1:=Int.tdiv_eq_ediv_of_nonneg hneg;have e2:a.1.tmod b.1=a.1%b.1:=Int.tmod_eq_emod_of_nonneg hneg;have:=aP.ret (P:=prog) (w0:=w) (F:=F) (X:=oZ) known mixed hS 3 _ (SG a b (dm.2 ha) (dm.2 lF) hm (by omega) (by rw [e1];omega) (by rw [e2];omega)) fun T H h=>h
     rw [e1,e2]at this;exact this
    .have e1:a.1.tdiv b.1= -((-a.1)/b.1):=by
      have:=Int.neg_tdiv (a:= -a.1) (b:=b.1);rw [Int.neg_neg]at this;rw [this,Int.tdiv_eq_ediv_of_nonneg (by omega)]
     have n1:=Int.emod_add_mul_ediv (-a.1) b.1;have n2:=eG (-a.1) (show b.1≠0 by omega);have n3:=e6 (-a.1) hb;have Aq:0<=(-a.1)/b.1:=Int.ediv_nonneg (by omega) (by omega);have Sl:(-a.1)/b.1<= -a.1:=Int.ediv_le_self _ (by omega);have e2:a.1.tmod b.1= -((-a.1)%b.1):=by
      rw [e1,Int.mul_neg]at tH;omega
     have bU:a.1.tdiv b.1*b.1= -(b.1*(-a.1/b.1)):=by rw [e1,Int.neg_mul,Int.mul_comm]
     by_cases hr:(-a.1)%b.1=0
     .obtain⟨k1,k2⟩:=kd (U:=a.1) (V:=b.1) (t:=a.1.tdiv b.1) hb (by rw [bU];omega) (by rw [bU];omega);have:=aP.ret (P:=prog) (w0:=w) (F:=F) (X:=oZ) known mixed hS 3 _ (SG a b (dm.2 ha) (dm.2 lF) hm (by omega) (by omega) (by omega)) fun T H h=>h
      rw [<-k1,show a.1.tmod b.1=a.1%b.1 by omega]at this;exact this
     .have e3:(a.1.tdiv b.1-1)*b.1= -(b.1*(-a.1/b.1))-b.1:=by rw [Int.sub_mul,Int.one_mul,bU]
      obtain⟨k1,k2⟩:=kd (U:=a.1) (V:=b.1) (t:=a.1.tdiv b.1-1) hb (by rw [e3];omega) (by rw [e3];omega);have:=aP.ret (P:=prog) (w0:=w) (F:=F) (X:=oZ) known mixed hS 3 _ (af5 a b (dm.2 ha) (dm.2 lF) hm (by omega) (by omega) (by omega) (by omega) (by omega)) fun T H h=>h
      rw [<-k1,show a.1.tmod b.1+b.1=a.1%b.1 by rw [k2,e3];omega]at this;exact this
  .exact aP.to known mixed hS 3 _ (af7 a b (dm.2 ha) (rS.2 lF)) (by kernel_rfl) (LD a b h g hb (fun hh=>by
    simp only [ae]at hh;exact lF (dm.1 hh.2.1)) w F)
 .exact aP.to known mixed hS 3 _ (af6 a b (rS.2 ha)) (by kernel_rfl) (LD a b h g hb (fun hh=>by
   simp only [ae]at hh;exact ha (dm.1 hh.1)) w F)
def F4 {a b:aW}:r9 a b=true↔aH a=true/\aH b=true/\0<au b:=by
 unfold r9;simp only [ae,bB,and_assoc]
def LH:F2.Ok prog:=fun⟨a,b,_⟩ h=>by
 obtain⟨h1,h2,h3⟩:=F4.1 (show r9 a b=true from h);exact agc a b h1 h2 h3
noncomputable def ym:Code:=(f121.body).getD .skip
noncomputable def LI:Code:=(f148.body).getD .skip
noncomputable def yo:Code:=(f83.body).getD .skip
noncomputable def yp:bI:=aR [R4,v8,F2,x9]
abbrev wu:List Nat:=[1,1,0,0,0]
def sg (a b:aW):bC:={n:=23,sl:=[(2, .ptr 64 0),(3, .ptr 65 0),(4, .ptr 66 0)],bF:=[(64,qK a),(65,qK b),(66,b0)],next:=67}
def agf (a b:aW) (h1:(aH a)=true) (h2:(aH b)=true):
  cO yp (fl ym []) 2 23 [aJ a,aJ b] 1 .normal s3 (sg (pn a) (pn b)):=
 wy [af (aV (v:=aJ a)),af h1,af (aV (v:=aJ b)),af h2] 67907713
def agh (a b:aW) (h1:(aH b)=true) (h2:¬fe b=0) (h3:(r9 a b)=true):
  bg yp (fl ym wu) (sg a b) 3 .normal s3 (sg b (lS a b)):=
 wy [af h1,af (e7.mpr h2),af h3,af (aV (v:=aJ b)),af (aV (v:=aJ (lS a b)))] 5453656193
def agi (a b:aW) (h1:(aH b)=true) (h2:fe b=0):
  bg yp (fl ym wu) (sg a b) 2 (.exit 0) s3 (sg a b):=
 wy [af h1,af (gu.mpr h2)] 129
def agj (a b:aW):
  bH yp ((fl ym []).drop 3) (sg a b) 1 f121 false (aJ a):=
 wy [] 0
def agk (a b:aW) (h1:(aH b)=true) (h2:fe b<0) (h3:(aH a)=true) (h4:(r9 (eY a) (eY b))=true):
  bu yp (fl LI []) 9 21 [aJ a,aJ b] 3 f148 false (aJ (iU (eY a) (eY b))):=
 wy [af h1,ah h2,af (aV (v:=aJ a)),af h3,af (aV (v:=aJ b)),af h4] 26462452199553
def agl (a b:aW) (h1:(aH b)=true) (h2:¬fe b<0) (h3:(r9 a b)=true):
  bu yp (fl LI []) 9 21 [aJ a,aJ b] 2 f148 false (aJ (iU a b)):=
 wy [af h1,aA h2,af h3] 12417
def dT (a b:aW):Int×List Int:=aY (Int.gcd (au a) (au b))
noncomputable def jm (a b:aW):Int×List Int:=if au b<0 then iU (eY a) (eY b)else iU a b
def jo (a b:aW):Bool:=(aH a&&aH b)&& !(au b==0)
noncomputable def F5:bp:={f:=121,ps:=[dR,dR],rs:=[dR],fresh:=false,pre:=fun d=>aH d.1&&aH d.2.1,fn:=fun d=>(dT d.1 d.2.1,())}
noncomputable def LJ:bp:={f:=148,ps:=[dR,dR],rs:=[dR],fresh:=false,pre:=fun d=>jo d.1 d.2.1,fn:=fun d=>(jm d.1 d.2.1,())}
def SR:bD prog (bG yp):=cY (aX aen (aX gd (aX LH (aX Aj eA))))
def SS {a:aW}:fe a=0↔au a=0:=by
 unfold fe kY;split
 .constructor
  .intro h;exact absurd h (by decide)
  .intro h;omega
 .split
  .simp [*]
  .constructor
   .intro h;exact absurd h (by decide)
   .intro h;omega
def F6 {a:aW}:fe a<0↔au a<0:=by
 unfold fe kY;split
 .simp [*]
 .split
  .simp [*]
  .constructor
   .intro h;exact absurd h (by decide)
   .intro h;omega
def SU {a:aW} (h:aH a=true):aH (pn a)=true:=by
 have:=d8 h (by decide);exact(kZ (by rw [Int.natAbs_natCast];exact this)).1
def AS {x y:Int} (hx:0<=x) (hy:0<y):Int.gcd y (x%y)=Int.gcd x y:=by
 obtain⟨m,rfl⟩:∃m:Nat,x=(m:Int):=⟨x.toNat,by omega⟩;obtain⟨n,rfl⟩:∃n:Nat,y=(n:Int):=⟨y.toNat,by omega⟩;rw [<-Int.natCast_emod];show Nat.gcd n (m%n)=Nat.gcd m n;rw [Nat.gcd_comm n,<-Nat.gcd_rec,Nat.gcd_comm]
def agm (a b:aW) (h:aH a=true) (g:aH b=true):Holds prog false 121 [aJ a,aJ b] (aJ (dT a b)):=by
 have hS:=SR;refine bL (c:=ym) func121 rfl rfl fun w F=> ?_
 refine cC hS 2 (agf a b h g) ?_;refine aP.loop (ι:={x:aW×aW//aH x.1=true/\aH x.2=true/\0<=au x.1/\0<=au x.2/\Int.gcd (au x.1) (au x.2)=Int.gcd (au a) (au b)}) (id:=0) (b:=cat ym wu) (rest:=(fl ym []).drop 3) (by kernel_rfl) (fun x=>sg x.1.1 x.1.2) (fun x=>(au x.1.2).natAbs)
  ⟨(pn a,pn b),SU h,SU g,by rw [FJ];omega,by rw [FJ];omega,by rw [FJ,FJ];rfl⟩ (fun _=>rfl) ?_
 rintro⟨⟨x,y⟩,hx,hy,hx0,hy0,hg⟩;have hx:aH x=true:=hx;have hy:aH y=true:=hy;have hx0:0<=au x:=hx0;have hy0:0<=au y:=hy0;have hg:Int.gcd (au x) (au y)=Int.gcd (au a) (au b):=hg;by_cases hz:au y=0
 .refine bl (s:=sg x y) hS (agi x y hy (SS.2 hz)) ?_;refine cw (cz ?_);have e:x=dT a b:=by
   have h1:=Fx hx (by omega);unfold dT;rw [<-hg,hz];have:((Int.gcd (au x) 0:Nat):Int)=au x:=by
    show((Nat.gcd (au x).natAbs 0:Nat):Int)=_;rw [Nat.gcd_zero_right];omega
   rw [this];exact h1
  rw [<-e];exact bP (s:=sg x y) hS (agj x y)
 .have hyp:0<au y:=by omega
  have hm0:=eG (au x) hz;have pE:=e6 (au x) hyp;refine bl (s:=sg x y) hS (agh x y hy (fun hh=>hz (SS.1 hh)) (F4.2 ⟨hx,hy,hyp⟩)) ?_;refine⟨⟨(y,lS x y),hy,agb hy hyp (by decide),hy0,by show 0<=au (lS x y);rw [LC];exact hm0, ?_⟩, ?_,rfl,rfl⟩
  .show Int.gcd (au y) (au (lS x y))=_;rw [LC,AS hx0 hyp,hg]
  .show(au (lS x y)).natAbs<(au y).natAbs;rw [LC];omega
def x5:F5.Ok prog:=fun⟨a,b,_⟩ h=>by
 have h:(aH a&&aH b)=true:=h;rw [ae]at h;exact agm a b h.1 h.2
def agn (a b:aW) (h:aH a=true) (g:aH b=true) (hb:au b≠0):Holds prog false 148 [aJ a,aJ b] (aJ (jm a b)):=by
 have hS:=SR;refine bL (c:=LI) func148 rfl rfl fun w F=> ?_
 by_cases hn:au b<0
 .have e:jm a b=iU (eY a) (eY b):=by unfold jm;rw [if_pos hn]
  rw [e];exact bx hS 9 (agk a b g (F6.2 hn) h (F4.2 ⟨pz h (by decide),pz g (by decide),by show 0<au (eY b);rw [fg];omega⟩))
 .have e:jm a b=iU a b:=by unfold jm;rw [if_neg hn]
  rw [e];exact bx hS 9 (agl a b g (fun hh=>hn (F6.1 hh)) (F4.2 ⟨h,g,by show 0<au b;omega⟩))
def wz {a b:aW}:jo a b=true↔aH a=true/\aH b=true/\au b≠0:=by
 unfold jo;simp only [ae,Bool.not_eq_true',fF,and_assoc]
def SV:LJ.Ok prog:=fun⟨a,b,_⟩ h=>by
 obtain⟨h1,h2,h3⟩:=wz.1 (show jo a b=true from h);exact agn a b h1 h2 h3
def SW {n:Nat} {a b:aW} (h:bK n a=true) (g:bK n b=true) (hn:1<=n) (hb:au b≠0) {c:Int} (hc:au a=au b*c):au (jm a b)=c:=by
 unfold jm;split
 .rw [LB (pz h hn) (pz g hn) (by rw [fg];omega),fg,fg,hc,<-Int.neg_mul];exact Int.mul_ediv_cancel_left _ (by omega)
 .rw [LB h g (by omega),hc];exact Int.mul_ediv_cancel_left _ hb
def SX {n:Nat} {a b:aW} (h:bK n a=true) (g:bK n b=true) (hn:1<=n) (hb:au b≠0):bK n (jm a b)=true:=by
 unfold jm;split
 .exact SL (pz h hn) (pz g hn) (by rw [fg];omega) hn
 .exact SL h g (by omega) hn
abbrev fX:av:= .pair dR dR
abbrev b5:=(Int×List Int)×(Int×List Int)
abbrev cc (a:b5):aa:= .agg [iv a.1.1, .bh true aD a.1.2,iv a.2.1, .bh true aD a.2.2]
abbrev SY:fG:= .blk (.cells 85 [iv 0, .raw (.slice none 0 0),iv 0, .raw (.slice none 0 0)] true false false)
def si (a b:aW):bC:={n:=34,sl:=[(2, .ptr 64 0),(3, .ptr 65 0),(4, .ptr 66 0)],bF:=[(64,qK a),(65,qK b),(66,SY)],next:=67}
noncomputable def AB:bI:=aR [v8,x9,F5,LJ]
def ago (a b:aW) (h1:(aH b)=true) (h2:fe b<0) (h3:(aH a)=true):
  cO AB (fl yo []) 3 34 [aJ a,aJ b] 3 .normal s3 (si (eY a) (eY b)):=
 wy [af h1,ah h2,af (aV (v:=aJ a)),af h3,af (aV (v:=aJ b))] 74173132929
def agp (a b:aW) (h1:(aH b)=true) (h2:¬fe b<0):
  cO AB (fl yo []) 3 34 [aJ a,aJ b] 2 .normal s3 (si a b):=
 wy [af h1,aA h2] 129
def agq (a b:aW) (h1:b.2.isEmpty=true) (h2:b.1=1):
  bH AB ((fl yo []).drop 3) (si a b) 63 f83 false (cc (a,b)):=
 wy [af (aN (aN (h1))),af (aN (h1)),cW h2] 50860097
def agr (a b:aW) (h1:b.2.isEmpty=true) (h2:¬b.1=1) (h3:(aH a&&aH b)=true) (h4:(jo a (dT a b))=true) (h5:(jo b (dT a b))=true):
  bH AB ((fl yo []).drop 3) (si a b) 47 f83 false (cc (jm a (dT a b),jm b (dT a b))):=
 wy [af (aN (aN (h1))),af (aN (h1)),yn h2,af h3,af (aV (v:=aJ a)),af (aV (v:=aJ (dT a b))),af h4,af (aV (v:=aJ b)),af h5] 2748869384372188533493825
def ags (a b:aW) (h1:b.2.isEmpty=false) (h2:(aH a&&aH b)=true) (h3:(jo a (dT a b))=true) (h4:(jo b (dT a b))=true):
  bH AB ((fl yo []).drop 3) (si a b) 32 f83 false (cc (jm a (dT a b),jm b (dT a b))):=
 wy [af (aN (aN (h1))),af (aN (h1)),af h2,af (aV (v:=aJ a)),af (aV (v:=aJ (dT a b))),af h3,af (aV (v:=aJ b)),af h4] 2441840604787520773296193
noncomputable def AD (a b:aW):(Int×List Int)×(Int×List Int):=if iy b&&(b.1==1)then(a,b)else(jm a (dT a b),jm b (dT a b))
noncomputable def lT (a b:aW):(Int×List Int)×(Int×List Int):=if fe b<0 then AD (eY a) (eY b)else AD a b
noncomputable def CW:bp:={f:=83,ps:=[dR,dR],rs:=[fX],fresh:=false,pre:=fun d=>jo d.1 d.2.1,fn:=fun d=>(lT d.1 d.2.1,())}
def SZ:bD prog (bG AB):=cY (aX gd (aX Aj (aX x5 (aX SV eA))))
def F7 (a b:aW):au (dT a b)=(Int.gcd (au a) (au b):Int):=val_mk _
def S0 {n:Nat} {a b:aW} (g:bK n b=true) (hn:1<=n) (hb:au b≠0):bK n (dT a b)=true:=by
 have h1:=d8 g hn;have h2:((Int.gcd (au a) (au b):Nat):Int)<=((au b).natAbs:Int):=by
  have:Int.gcd (au a) (au b)<=(au b).natAbs:=Nat.gcd_le_right _ (by omega);omega
 exact(kZ (by rw [Int.natAbs_natCast];omega)).1
def agt {a b:aW} (h:aH a=true) (g:aH b=true) (hb:au b≠0):jo a (dT a b)=true/\jo b (dT a b)=true:=by
 have h0:0<Int.gcd (au a) (au b):=Int.gcd_pos_of_ne_zero_right _ hb;have h1:au (dT a b)≠0:=by rw [F7];omega
 have h2:aH (dT a b)=true:=S0 g (by decide) hb;exact⟨wz.2 ⟨h,h2,h1⟩,wz.2 ⟨g,h2,h1⟩⟩
def S1 {a:aW}:iy a=true↔a.2=[]:=by
 unfold iy;exact List.isEmpty_iff
def wl (a b:aW) (h:aH a=true) (g:aH b=true) (hb:au b≠0) (w:World) (F:Sv.Env):
  aP prog w F 34 ((fl yo []).drop 3) (si a b).T (si a b).H (fy prog false f83 (cc (AD a b))):=by
 have hS:=SZ;obtain⟨q1,aO⟩:=agt h g hb;have hab:(aH a&&aH b)=true:=by rw [h,g];rfl
 unfold AD;by_cases he:b.2.isEmpty=true
 .by_cases h1:b.1=1
  .rw [if_pos (by rw [show iy b=true from he,h1];rfl)];exact bP (s:=si a b) hS (agq a b he h1)
  .rw [if_neg (by rw [show iy b=true from he];simpa using h1)];exact bP (s:=si a b) hS (agr a b he h1 hab q1 aO)
 .rw [if_neg (by rw [show iy b=b.2.isEmpty from rfl];simp [he])];exact bP (s:=si a b) hS (ags a b (by simpa using he) hab q1 aO)
def agu (a b:aW) (h:aH a=true) (g:aH b=true) (hb:au b≠0):Holds prog false 83 [aJ a,aJ b] (cc (lT a b)):=by
 have hS:=SZ;refine bL (c:=yo) func83 rfl rfl fun w F=> ?_
 unfold lT;by_cases hs:fe b<0
 .rw [if_pos hs];refine cC hS 3 (ago a b g hs h) ?_;exact wl _ _ (pz h (by decide)) (pz g (by decide)) (by rw [fg];omega) w F
 .rw [if_neg hs];refine cC hS 3 (agp a b g hs) ?_;exact wl _ _ h g hb w F
def F8:CW.Ok prog:=fun⟨a,b,_⟩ h=>by
 obtain⟨h1,h2,h3⟩:=wz.1 (show jo a b=true from h);exact agu a b h1 h2 h3
structure AE (n:Nat) (q:b5) (x y:Int):Prop where
 o1:bK n q.1=true
 o2:bK n q.2=true
 pos:0<au q.2
 low:Int.gcd (au q.1) (au q.2)=1
 val:au q.1*y=x*au q.2
def S2 {n:Nat} {a b:aW} (h:bK n a=true) (g:bK n b=true) (hn:1<=n) (hb:0<au b):AE n (AD a b) (au a) (au b):=by
 unfold AD;split
 .rename_i hc;rw [ae]at hc;have hv:au b=1:=by unfold au;rw [if_pos (S1.1 hc.1)];simpa using hc.2
  exact⟨h,g,hb,by show Int.gcd (au a) (au b)=1;rw [hv];exact Int.gcd_one,rfl⟩
 .have hg:0<Int.gcd (au a) (au b):=Int.gcd_pos_of_ne_zero_right _ (by omega);have F9:=S0 (a:=a) g hn (by omega);have Ga:au (dT a b)≠0:=by rw [F7];omega
  have e1:au a=au (dT a b)*(au a/(Int.gcd (au a) (au b):Int)):=by rw [F7];exact(Int.mul_ediv_cancel' (Int.gcd_dvd_left _ _)).symm
  have e2:au b=au (dT a b)*(au b/(Int.gcd (au a) (au b):Int)):=by rw [F7];exact(Int.mul_ediv_cancel' (Int.gcd_dvd_right _ _)).symm
  have v1:=SW h F9 hn Ga e1;have v2:=SW g F9 hn Ga e2;refine⟨SX h F9 hn Ga,SX g F9 hn Ga, ?_, ?_, ?_⟩
  .show 0<au (jm b (dT a b));rw [v2];exact Int.ediv_pos_of_pos_of_dvd hb (by omega) (Int.gcd_dvd_right _ _)
  .show Int.gcd (au (jm a (dT a b))) (au (jm b (dT a b)))=1;rw [v1,v2];exact Int.gcd_ediv_gcd_ediv_gcd hg
  .show au (jm a (dT a b))*au b=au a*au (jm b (dT a b));rw [v1,v2];generalize au a/(Int.gcd (au a) (au b):Int)=x at*;generalize au b/(Int.gcd (au a) (au b):Int)=y at*;grind
def CX {n:Nat} {a b:aW} (h:bK n a=true) (g:bK n b=true) (hn:1<=n) (hb:au b≠0):AE n (lT a b) (au a) (au b):=by
 unfold lT;split
 .rename_i hs;have hs:=F6.1 hs;have:=S2 (pz h hn) (pz g hn) hn (by rw [fg];omega);refine⟨this.o1,this.o2,this.pos,this.low, ?_⟩;have hv:=this.val;rw [fg,fg]at hv;rw [Int.mul_neg,Int.neg_mul]at hv;omega
 .rename_i hs;have h0:¬au b<0:=fun hh=>hs (F6.2 hh)
  exact S2 h g hn (by omega)
def S3 {x y u v:Int} (hy:0<y) (hv:0<v) (g1:Int.gcd x y=1) (g2:Int.gcd u v=1) (h:x*v=u*y):x=u/\y=v:=by
 have d1:y∣v:=by
  have h1:y.natAbs∣v.natAbs:=by
   refine Nat.Coprime.dvd_of_dvd_mul_left (k:=y.natAbs) (m:=x.natAbs) (n:=v.natAbs) ?_ ?_
   .show Nat.gcd _ _=1;rw [Nat.gcd_comm];exact g1
   .rw [<-Int.natAbs_mul,h,Int.natAbs_mul];exact Nat.dvd_mul_left _ _
  exact Int.natAbs_dvd_natAbs.1 h1
 have d2:v∣y:=by
  have h1:v.natAbs∣y.natAbs:=by
   refine Nat.Coprime.dvd_of_dvd_mul_left (k:=v.natAbs) (m:=u.natAbs) (n:=y.natAbs) ?_ ?_
   .show Nat.gcd _ _=1;rw [Nat.gcd_comm];exact g2
   .rw [<-Int.natAbs_mul,<-h,Int.natAbs_mul];exact Nat.dvd_mul_left _ _
  exact Int.natAbs_dvd_natAbs.1 h1
 have e:=Int.dvd_antisymm (by omega) (by omega) d1 d2;subst e;exact⟨Int.eq_of_mul_eq_mul_right (by omega) h,rfl⟩
noncomputable def S4:Code:=(f80.body).getD .skip
noncomputable def S5:Code:=(f79.body).getD .skip
noncomputable def S6:Code:=(f57.body).getD .skip
noncomputable def LK:Code:=(f124.body).getD .skip
noncomputable def S7:Code:=(f63.body).getD .skip
noncomputable def P1:Code:=(f152.body).getD .skip
noncomputable def Gb:Code:=(f58.body).getD .skip
noncomputable def P2:Code:=(f56.body).getD .skip
noncomputable def S8:Code:=(f125.body).getD .skip
noncomputable def S9:Code:=(f92.body).getD .skip
noncomputable def Ta:Code:=(f149.body).getD .skip
noncomputable def u4:bI:=aR [Ai,ya,CW,x9,v8,KU,F2]
def hM (a:b5):Bool:=iy a.2&&(a.2.1==1)
def agv (n:Int):
  bu u4 (fl S4 []) 9 5 [iv n] 1 f80 false (aJ (n,[])):=
 wy [] 0
def agw (a:b5) (h1:a.2.2.isEmpty=true):
  bu u4 (fl LK []) 9 13 [cc a] 63 f124 true (bv (a.2.1==1)):=
 wy [af (aN (aN (h1))),af (aN (h1))] 33820737
def agx (a:b5) (h1:a.2.2.isEmpty=false):
  bu u4 (fl LK []) 9 13 [cc a] 32 f124 true (bv false):=
 wy [af (aN (aN (h1))),af (aN (h1))] 33820737
def agy (a:b5) (h1:(aH a.1)=true):
  bu u4 (fl S7 []) 9 6 [cc a] 1 f63 true (iv (fe a.1)):=
 wy [af h1] 1
def RK (a:b5) (h1:(aH a.1)=true):
  bu u4 (fl P1 []) 9 9 [cc a] 1 f152 false (cc (eY a.1,a.2)):=
 wy [af (aV (v:=aJ a.1)),af h1,af (aV (v:=aJ a.2))] 798849
def agz (a b:b5) (h1:(aH a.1&&aH b.1)=true) (h2:(aH a.2&&aH b.2)=true) (h3:(jo (ct a.1 b.1) (ct a.2 b.2))=true):
  bu u4 (fl P2 []) 9 16 [cc a,cc b] 1 f56 false (cc (lT (ct a.1 b.1) (ct a.2 b.2))):=
 wy [af (aV (v:=aJ a.1)),af (aV (v:=aJ b.1)),af h1,af (aV (v:=aJ a.2)),af (aV (v:=aJ b.2)),af h2,af h3] 1997062150303873
def agA (a:b5) (h1:(jo a.2 a.1)=true):
  bu u4 (fl S8 []) 9 8 [cc a] 1 f125 false (cc (lT a.2 a.1)):=
 wy [af h1] 1
def agB (a b:b5) (h1:(aH a.1&&aH b.2)=true) (h2:(aH b.1&&aH a.2)=true) (h3:(bK 50000 (ct a.1 b.2)&&bK 50000 (ct b.1 a.2))=true):
  bu u4 (fl S9 []) 9 16 [cc a,cc b] 1 f92 true (iv (AC (ct a.1 b.2) (ct b.1 a.2))):=
 wy [af (aV (v:=aJ a.1)),af (aV (v:=aJ b.2)),af h1,af (aV (v:=aJ b.1)),af (aV (v:=aJ a.2)),af h2,af h3] 1997062150303873
def agC (a:b5) (h1:(r9 a.1 a.2)=true):
  bu u4 (fl Ta []) 9 14 [cc a] 1 f149 false (aJ (iU a.1 a.2)):=
 wy [af h1] 1
def okQ (n:Nat) (q:b5):Bool:=bK n q.1&&(bK n q.2&&decide (0<au q.2))
def bX (n:Int):Int×List Int:=(n,[])
def cT (n:aW):(Int×List Int)×(Int×List Int):=(n,(1,[]))
noncomputable def GT (a:b5):(Int×List Int)×(Int×List Int):=(eY a.1,a.2)
noncomputable def fB (a b:b5):(Int×List Int)×(Int×List Int):=lT (ct a.1 b.1) (ct a.2 b.2)
noncomputable def AF (a:b5):(Int×List Int)×(Int×List Int):=lT a.2 a.1
noncomputable def Tb (a b:b5):Int:=AC (ct a.1 b.2) (ct b.1 a.2)
noncomputable def ji (a b:b5):(Int×List Int)×(Int×List Int):=if hM a&&hM b then(dx a.1 b.1,(1,[]))else lT (dx (ct a.1 b.2) (ct b.1 a.2)) (ct a.2 b.2)
noncomputable def wA:bp:={f:=80,ps:=[.int .i64],rs:=[dR],fresh:=false,pre:=fun d=>true,fn:=fun d=>(bX d.1,())}
noncomputable def Gc:bp:={f:=79,ps:=[dR],rs:=[fX],fresh:=false,pre:=fun d=>true,fn:=fun d=>(cT d.1,())}
noncomputable def CY:bp:={f:=57,ps:=[.int .i64],rs:=[fX],fresh:=false,pre:=fun d=>true,fn:=fun d=>(cT (bX d.1),())}
noncomputable def Gd:bp:={f:=124,ps:=[fX],rs:=[.bool],fresh:=true,pre:=fun d=>true,fn:=fun d=>(hM d.1,())}
noncomputable def LL:bp:={f:=63,ps:=[fX],rs:=[.int .i64],fresh:=true,pre:=fun d=>aH d.1.1,fn:=fun d=>(fe d.1.1,())}
noncomputable def LM:bp:={f:=152,ps:=[fX],rs:=[fX],fresh:=false,pre:=fun d=>aH d.1.1,fn:=fun d=>(GT d.1,())}
noncomputable def AG:bp:={f:=56,ps:=[fX,fX],rs:=[fX],fresh:=false,pre:=fun d=>okQ 20000 d.1&&okQ 20000 d.2.1,fn:=fun d=>(fB d.1 d.2.1,())}
noncomputable def LN:bp:={f:=125,ps:=[fX],rs:=[fX],fresh:=false,pre:=fun d=>jo d.1.2 d.1.1,fn:=fun d=>(AF d.1,())}
noncomputable def LP:bp:={f:=92,ps:=[fX,fX],rs:=[.int .i64],fresh:=true,pre:=fun d=>okQ 20000 d.1&&okQ 20000 d.2.1,fn:=fun d=>(Tb d.1 d.2.1,())}
noncomputable def Tc:bp:={f:=149,ps:=[fX],rs:=[dR],fresh:=false,pre:=fun d=>r9 d.1.1 d.1.2,fn:=fun d=>(iU d.1.1 d.1.2,())}
noncomputable def CZ:bp:={f:=58,ps:=[fX,fX],rs:=[fX],fresh:=false,pre:=fun d=>okQ 20000 d.1&&okQ 20000 d.2.1,fn:=fun d=>(ji d.1 d.2.1,())}
noncomputable def C0:bI:=aR [wA,Gc,Gd,Ai,ya,CW]
def agD (n:Int) (h1:(cT (bX n)).1.1=(n)) (h2:(cT (bX n)).1.2=(vS)) (h3:(cT (bX n)).2.1=(1)) (h4:(cT (bX n)).2.2=(vS)):
  bu C0 (fl S6 []) 9 6 [iv n] 1 f57 false (cc ((n,[]),(1,[]))):=
 wy [az h1,az h2,az h3,az h4] 4345827328
def agE (a b:b5) (h1:(hM a)=true) (h2:(hM b)=true) (h3:(aH a.1&&aH b.1)=true) (h4:(cT (dx a.1 b.1)).1.1=(dx a.1 b.1).1) (h5:(cT (dx a.1 b.1)).1.2=(dx a.1 b.1).2) (h6:(cT (dx a.1 b.1)).2.1=(1)) (h7:(cT (dx a.1 b.1)).2.2=(vS)):
  bu C0 (fl Gb []) 9 34 [cc a,cc b] 31 f58 false (cc (dx a.1 b.1,(1,[]))):=
 wy [af (aN (h1)),af h1,af h2,af h3,az h4,az h5,az h6,az h7] 598475754935026716736
def agF (a b:b5) (h1:(hM a)=true) (h2:(hM b)=false) (h3:(aH a.1&&aH b.2)=true) (h4:(aH b.1&&aH a.2)=true) (h5:(aH (ct a.1 b.2)&&aH (ct b.1 a.2))=true) (h6:(aH a.2&&aH b.2)=true) (h7:(jo (dx (ct a.1 b.2) (ct b.1 a.2)) (ct a.2 b.2))=true):
  bu C0 (fl Gb []) 9 34 [cc a,cc b] 23 f58 false (cc (lT (dx (ct a.1 b.2) (ct b.1 a.2)) (ct a.2 b.2))):=
 wy [af (aN (h1)),af h1,af h2,af (aV (v:=aJ a.1)),af (aV (v:=aJ b.2)),af h3,af (aV (v:=aJ b.1)),af (aV (v:=aJ a.2)),af h4,af h5,af h6,af h7] 271469537658300528069794124337656264073941056
def agG (a b:b5) (h1:(hM a)=false) (h2:(aH a.1&&aH b.2)=true) (h3:(aH b.1&&aH a.2)=true) (h4:(aH (ct a.1 b.2)&&aH (ct b.1 a.2))=true) (h5:(aH a.2&&aH b.2)=true) (h6:(jo (dx (ct a.1 b.2) (ct b.1 a.2)) (ct a.2 b.2))=true):
  bu C0 (fl Gb []) 9 34 [cc a,cc b] 16 f58 false (cc (lT (dx (ct a.1 b.2) (ct b.1 a.2)) (ct a.2 b.2))):=
 wy [af (aN (h1)),af h1,af (aV (v:=aJ a.1)),af (aV (v:=aJ b.2)),af h2,af (aV (v:=aJ b.1)),af (aV (v:=aJ a.2)),af h3,af h4,af h5,af h6] 3887731443394586653605839251940190814998592
def ur:bD prog (bG u4):=cY (aX CF (aX Ak (aX F8 (aX Aj (aX gd (aX R6 (aX LH eA)))))))
def ow {n:Nat} {q:b5}:okQ n q=true↔bK n q.1=true/\bK n q.2=true/\0<au q.2:=by
 unfold okQ;simp only [ae,bB]
def AE.ok {n:Nat} {q:b5} {x y:Int} (h:AE n q x y):okQ n q=true:=ow.2 ⟨h.o1,h.o2,h.pos⟩
def lU {n m:Nat} {a b:aW} (h:bK n a=true) (g:bK m b=true) (hn:1<=n) (hm:1<=m):bK (n+m) (ct a b)=true:=by
 have h1:=d8 h hn;have h2:=d8 g hm;refine(kZ ?_).1;rw [Int.natAbs_mul,Int.natCast_mul,Int.pow_add];have p:=dK (b:=18446744073709551616) (by decide) n;generalize (18446744073709551616:Int)^n=P at*;generalize (18446744073709551616:Int)^m=Q at*;have e1:=ar (show((au a).natAbs:Int)<=P by omega) (show(0:Int)<=((au b).natAbs:Int) by omega);have e2:=Int.mul_lt_mul_of_pos_left h2 (show 0<P by omega);omega
def Cw {n:Nat} {a b:aW} (h:bK n a=true) (g:bK n b=true) (hn:1<=n):bK (n+1) (dx a b)=true:=by
 have h1:=d8 h hn;have h2:=d8 g hn;refine CD ?_;rw [Int.pow_succ];have p:=dK (b:=18446744073709551616) (by decide) n;generalize (18446744073709551616:Int)^n=P at*;omega
def Ge {x y:Int} (hx:0<x) (hy:0<y):0<x*y:=Int.mul_pos hx hy
def agH (n:Int):Holds prog false 80 [iv n] (aJ (bX n)):=by
 refine bL (c:=S4) func80 rfl rfl fun w F=> ?_
 exact bx ur 9 (agv n)
def tU:wA.Ok prog:=fun⟨n,_⟩ h=>agH n
def agI (a:b5):Holds prog true 124 [cc a] (bv (hM a)):=by
 refine bL (c:=LK) func124 rfl rfl fun w F=> ?_
 cases he:a.2.2.isEmpty with
 |true=>
  have e:hM a=(a.2.1==1):=by unfold hM;rw [show iy a.2=true from he];rfl
  rw [e];exact bx ur 9 (agw a he)
 |false=>
  have e:hM a=false:=by unfold hM;rw [show iy a.2=false from he];rfl
  rw [e];exact bx ur 9 (agx a he)
def LQ:Gd.Ok prog:=fun⟨a,_⟩ h=>agI a
def agJ (a:b5) (h:aH a.1=true):Holds prog true 63 [cc a] (iv (fe a.1)):=by
 refine bL (c:=S7) func63 rfl rfl fun w F=> ?_
 exact bx ur 9 (agy a h)
def Td:LL.Ok prog:=fun⟨a,_⟩ h=>agJ a h
def agK (a:b5) (h:aH a.1=true):Holds prog false 152 [cc a] (cc (GT a)):=by
 refine bL (c:=P1) func152 rfl rfl fun w F=> ?_
 exact bx ur 9 (RK a h)
def Te:LM.Ok prog:=fun⟨a,_⟩ h=>agK a h
def mP {a b:aW} (h:aH a=true) (g:aH b=true):(aH a&&aH b)=true:=by rw [h,g];rfl
def agL (a b:b5) (h:okQ 20000 a=true) (g:okQ 20000 b=true):Holds prog false 56 [cc a,cc b] (cc (fB a b)):=by
 obtain⟨h1,h2,h3⟩:=ow.1 h;obtain⟨g1,g2,g3⟩:=ow.1 g;have m:= @iz 20000 100000;have m2:= @iz (20000+20000) 100000;refine bL (c:=P2) func56 rfl rfl fun w F=> ?_
 exact aP.ret known mixed ur 9 _ (agz a b (mP (m (by decide) h1) (m (by decide) g1)) (mP (m (by decide) h2) (m (by decide) g2))
  (wz.2 ⟨m2 (by decide) (lU h1 g1 (by decide) (by decide)),m2 (by decide) (lU h2 g2 (by decide) (by decide)),by
    have:=Ge h3 g3;show au (ct a.2 b.2)≠0;rw [ku];omega⟩)) fun T H h=>h
def C1:AG.Ok prog:=fun⟨a,b,_⟩ h=>by
 have h:(okQ 20000 a&&okQ 20000 b)=true:=h;rw [ae]at h;exact agL a b h.1 h.2
def agM (a:b5) (h:jo a.2 a.1=true):Holds prog false 125 [cc a] (cc (AF a)):=by
 refine bL (c:=S8) func125 rfl rfl fun w F=> ?_
 exact bx ur 9 (agA a h)
def Tf:LN.Ok prog:=fun⟨a,_⟩ h=>agM a h
def agN {a b:aW} (h:bK 50000 a=true) (g:bK 50000 b=true):(bK 50000 a&&bK 50000 b)=true:=by rw [h,g];rfl
def agO (a b:b5) (h:okQ 20000 a=true) (g:okQ 20000 b=true):Holds prog true 92 [cc a,cc b] (iv (Tb a b)):=by
 obtain⟨h1,h2,h3⟩:=ow.1 h;obtain⟨g1,g2,g3⟩:=ow.1 g;have m:= @iz 20000 100000;have m2:= @iz (20000+20000) 50000;refine bL (c:=S9) func92 rfl rfl fun w F=> ?_
 exact aP.ret known mixed ur 9 _ (agB a b (mP (m (by decide) h1) (m (by decide) g2)) (mP (m (by decide) g1) (m (by decide) h2))
  (agN (m2 (by decide) (lU h1 g2 (by decide) (by decide))) (m2 (by decide) (lU g1 h2 (by decide) (by decide))))) fun T H h=>h
def Tg:LP.Ok prog:=fun⟨a,b,_⟩ h=>by
 have h:(okQ 20000 a&&okQ 20000 b)=true:=h;rw [ae]at h;exact agO a b h.1 h.2
def agP (a:b5) (h:r9 a.1 a.2=true):Holds prog false 149 [cc a] (aJ (iU a.1 a.2)):=by
 refine bL (c:=Ta) func149 rfl rfl fun w F=> ?_
 exact bx ur 9 (agC a h)
def agQ:Tc.Ok prog:=fun⟨a,_⟩ h=>agP a h
def agR (n:aW) (h1:n.1=(cT n).1.1) (h2:n.2=(cT n).1.2) (h3:(bX 1).1=(cT n).2.1) (h4:(bX 1).2=(cT n).2.2):
  bu (aR [wA]) (fl S5 []) 9 6 [aJ n] 1 f79 false (cc (cT n)):=
 wy [af (aV (v:=aJ n)),az h1,az h2,az h3,az h4] 347943211009
def agS:bD prog (bG (aR [wA])):=cY (aX tU eA)
def agT (n:aW):Holds prog false 79 [aJ n] (cc (cT n)):=by
 refine bL (c:=S5) func79 rfl rfl fun w F=> ?_
 exact bx agS 9 (agR n rfl rfl rfl rfl)
def LR:Gc.Ok prog:=fun⟨n,_⟩ h=>agT n
def Th:bD prog (bG C0):=cY (aX tU (aX LR (aX LQ (aX CF (aX Ak (aX F8 eA))))))
def agU (n:Int):Holds prog false 57 [iv n] (cc (cT (bX n))):=by
 refine bL (c:=S6) func57 rfl rfl fun w F=> ?_
 exact bx Th 9 (agD n rfl rfl rfl rfl)
def Gf:CY.Ok prog:=fun⟨n,_⟩ h=>agU n
def agV (a b:b5) (h:okQ 20000 a=true) (g:okQ 20000 b=true):Holds prog false 58 [cc a,cc b] (cc (ji a b)):=by
 obtain⟨h1,h2,h3⟩:=ow.1 h;obtain⟨g1,g2,g3⟩:=ow.1 g;have hS:=Th;have m:= @iz 20000 100000;have m2:= @iz (20000+20000) 100000;have m3:= @iz (20000+20000+1) 100000;have p1:=mP (m (by decide) h1) (m (by decide) g1);have p2:=mP (m (by decide) h1) (m (by decide) g2);have p3:=mP (m (by decide) g1) (m (by decide) h2);have dY:=mP (m (by decide) h2) (m (by decide) g2);have o1:=lU h1 g2 (by decide) (by decide);have o2:=lU g1 h2 (by decide) (by decide);have kg:=mP (m2 (by decide) o1) (m2 (by decide) o2);have oY:jo (dx (ct a.1 b.2) (ct b.1 a.2)) (ct a.2 b.2)=true:=wz.2 ⟨m3 (by decide) (Cw o1 o2 (by decide)),m2 (by decide) (lU h2 g2 (by decide) (by decide)),by
   have:=Ge h3 g3;rw [ku];omega⟩
 refine bL (c:=Gb) func58 rfl rfl fun w F=> ?_
 unfold ji;by_cases hw:hM a=true
 .by_cases lQ:hM b=true
  .rw [if_pos (by rw [hw,lQ];rfl)];exact bx hS 9 (agE a b hw lQ p1 rfl rfl rfl rfl)
  .rw [if_neg (by rw [hw];simpa using lQ)];exact bx hS 9 (agF a b hw (by simpa using lQ) p2 p3 kg dY oY)
 .rw [if_neg (by simp [hw])];exact bx hS 9 (agG a b (by simpa using hw) p2 p3 kg dY oY)
def Gg:CZ.Ok prog:=fun⟨a,b,_⟩ h=>by
 have h:(okQ 20000 a&&okQ 20000 b)=true:=h;rw [ae]at h;exact agV a b h.1 h.2
structure QR (n:Nat) (q:b5) (r:Rat):Prop where
 o1:bK n q.1=true
 o2:bK n q.2=true
 num:au q.1=r.num
 den:au q.2=r.den
def QR.ok {n:Nat} {q:b5} {r:Rat} (h:QR n q r):okQ n q=true:=ow.2 ⟨h.o1,h.o2,by rw [h.den];have:=r.den_pos;omega⟩
def QR.mono {n m:Nat} {q:b5} {r:Rat} (h:QR n q r) (hnm:n<=m):QR m q r:=⟨iz hnm h.o1,iz hnm h.o2,h.num,h.den⟩
def AE.qr {n:Nat} {q:b5} {x y:Int} (h:AE n q x y) (hy:y≠0):QR n q (Rat.divInt x y):=by
 have hd:((Rat.divInt x y).den:Int)≠0:=by have:=(Rat.divInt x y).den_pos;omega
 have e:(Rat.divInt x y).num*y=x*((Rat.divInt x y).den:Int):=(Rat.divInt_eq_divInt_iff hd hy).1 (Rat.num_divInt_den _);have g:Int.gcd (Rat.divInt x y).num ((Rat.divInt x y).den:Int)=1:=(Rat.divInt x y).reduced;have e2:au q.1*((Rat.divInt x y).den:Int)=(Rat.divInt x y).num*au q.2:=by
  have h1:=h.val;refine Int.eq_of_mul_eq_mul_right hy ?_;generalize (Rat.divInt x y).num=N at*;generalize ((Rat.divInt x y).den:Int)=D at*;grind
 obtain⟨h1,h2⟩:=S3 h.pos (by omega) h.low g e2;exact⟨h.o1,h.o2,h1,h2⟩
def QR.self {n:Nat} {q:b5} {r:Rat} (h:QR n q r):Rat.divInt (au q.1) (au q.2)=r:=by
 rw [h.num,h.den];exact Rat.num_divInt_den _
def QR.pos {n:Nat} {q:b5} {r:Rat} (h:QR n q r):0<au q.2:=(ow.1 h.ok).2.2
def ol {n m:Nat} {a b:b5} {r s:Rat} (h:QR n a r) (g:QR m b s) (hn:1<=n) (hm:1<=m):QR (n+m) (fB a b) (r*s):=by
 have p:=Ge h.pos g.pos;have:=(CX (lU h.o1 g.o1 hn hm) (lU h.o2 g.o2 hn hm) (by omega) (by rw [ku];omega)).qr (by rw [ku];omega);rw [ku,ku,<-Rat.divInt_mul_divInt,h.self,g.self]at this;exact this
def C2 {n:Nat} {a:aW} (h:bK n a=true):QR n (cT a) (au a:Rat):=by
 refine⟨h, ?_,rfl,rfl⟩;exact(nC (n:=n) (a:=(1,[])) rfl).trans (by decide)
def Ti {n:Nat} {a:b5} {r:Rat} (h:QR n a r) (hw:hM a=true):r=(au a.1:Rat):=by
 unfold hM at hw;rw [ae]at hw;have hv:au a.2=1:=by unfold au;rw [if_pos (S1.1 hw.1)];simpa using hw.2
 have hd:=h.den;refine Rat.ext ?_ ?_
 .rw [h.num];rfl
 .show r.den=1;omega
def Tj {n:Nat} {a b:b5} {r s:Rat} (h:QR n a r) (g:QR n b s) (hn:1<=n):QR (n+n+1) (ji a b) (r+s):=by
 unfold ji;split
 .rename_i hw;rw [ae]at hw;have:=C2 (Cw h.o1 g.o1 hn);rw [Ag,Rat.intCast_add,<-Ti h hw.1,<-Ti g hw.2]at this;exact this.mono (by omega)
 .have p:=Ge h.pos g.pos;have:=(CX (Cw (lU h.o1 g.o2 hn hn) (lU g.o1 h.o2 hn hn) (by omega)) (iz (Nat.le_succ _) (lU h.o2 g.o2 hn hn)) (by omega) (by rw [ku];omega)).qr (by rw [ku];omega);rw [Ag,ku,ku,ku,<-Rat.divInt_add_divInt _ _ (by have:=h.pos;omega) (by have:=g.pos;omega),h.self,g.self]at this;exact this
def Nm {n:Nat} {a:b5} {r:Rat} (h:QR n a r) (hn:1<=n) (hr:r≠0):QR n (AF a) r⁻¹ :=by
 have h0:au a.1≠0:=by rw [h.num];intro e;exact hr (Rat.num_eq_zero.1 e)
 have:=(CX h.o2 h.o1 hn h0).qr h0;rw [<-Rat.inv_divInt,h.self]at this;exact this
def Gh {r:Rat}:r.num<0↔r<0:=by
 rw [<-Int.not_le,<-Rat.not_le,Rat.num_nonneg]
def agW {n:Nat} {a:b5} {r:Rat} (h:QR n a r):fe a.1=if r<0 then-1 else if r=0 then 0 else 1:=by
 unfold fe kY;rw [h.num];by_cases h1:r<0
 .rw [if_pos h1,if_pos (Gh.2 h1)]
 .rw [if_neg h1,if_neg (fun hh=>h1 (Gh.1 hh))];by_cases h2:r=0
  .rw [if_pos h2,if_pos (by rw [h2];rfl)]
  .rw [if_neg h2,if_neg (fun hh=>h2 (Rat.num_eq_zero.1 hh))]
noncomputable def uu:Code:=(f175.body).getD .skip
noncomputable def yq:bI:=aR [wA,Ai]
def lV (a o:aW) (k:Int):bC:={n:=23,sl:=[(1,iv k),(2, .ptr 64 0),(4, .ptr 65 0),(5, .ptr 66 0)],bF:=[(64,qK a),(65,b0),(66,qK o)],next:=67}
def agX (a:aW) (k:Int) (h1:(bX 1).1=(1)) (h2:(bX 1).2=(vS)):
  cO yq (fl uu []) 2 23 [aJ a,iv k] 1 .normal s3 (lV a (1,[]) k):=
 wy [az h1,az h2] 2323857407723175936
def agY (a o:aW) (k j:Int) (h1:k>0) (h2:IntKind.wrap IntKind.i64 (↑(BitVec.toNat (BitVec.ofInt 64 k &&& BitVec.ofInt 64 1)):Int)=1) (h3:(aH o&&aH a)=true) (h4:k>1) (h5:(aH a&&aH a)=true) (h6:(Int.fdiv k ((2:Int)^min (Int.toNat 1) 64))=(j)):
  bg yq (fl uu wu) (lV a o k) 15 .normal s3 (lV (ct a a) (ct o a) j):=
 wy [ah h1,cW h2,af h3,ah h4,af h5,az h6] 412401807489
def agZ (a o:aW) (k j:Int) (h1:k>0) (h2:IntKind.wrap IntKind.i64 (↑(BitVec.toNat (BitVec.ofInt 64 k &&& BitVec.ofInt 64 1)):Int)=1) (h3:(aH o&&aH a)=true) (h4:¬k>1) (h5:(Int.fdiv k ((2:Int)^min (Int.toNat 1) 64))=(j)):
  bg yq (fl uu wu) (lV a o k) 11 .normal s3 (lV a (ct o a) j):=
 wy [ah h1,cW h2,af h3,aA h4,az h5] 5369770113
def ag0 (a o:aW) (k j:Int) (h1:k>0) (h2:¬IntKind.wrap IntKind.i64 (↑(BitVec.toNat (BitVec.ofInt 64 k &&& BitVec.ofInt 64 1)):Int)=1) (h3:k>1) (h4:(aH a&&aH a)=true) (h5:(Int.fdiv k ((2:Int)^min (Int.toNat 1) 64))=(j)):
  bg yq (fl uu wu) (lV a o k) 13 .normal s3 (lV (ct a a) o j):=
 wy [ah h1,yn h2,ah h3,af h4,az h5] 5369770113
def ag1 (a o:aW) (k:Int) (h1:¬k>0):
  bg yq (fl uu wu) (lV a o k) 2 (.exit 0) s3 (lV a o k):=
 wy [aA h1] 1
def ag2 (a o:aW) (k:Int):
  bH yq ((fl uu []).drop 3) (lV a o k) 1 f175 false (aJ o):=
 wy [] 0
noncomputable def sj (a:aW) (k:Int):Int×List Int:=aY (au a^k.toNat)
def AH (a:aW) (k:Int):Bool:=aH a&&(decide (0<=k)&&decide (1+(a.2.length+1)*k.toNat<=100000))
noncomputable def Tk:bp:={f:=175,ps:=[dR, .int .i64],rs:=[dR],fresh:=false,pre:=fun d=>AH d.1 d.2.1,fn:=fun d=>(sj d.1 d.2.1,())}
def ag3:bD prog (bG yq):=cY (aX tU (aX CF eA))
def Tl {m:Nat} (h:m<=100000):IntKind.i64.wrap ↑(BitVec.ofInt 64 (m:Int) &&& BitVec.ofInt 64 1).toNat=((m%2:Nat):Int):=by
 have e:(BitVec.ofInt 64 (m:Int) &&& BitVec.ofInt 64 1).toNat=m%2:=by
  rw [BitVec.toNat_and,BitVec.toNat_ofInt,BitVec.toNat_ofInt,show((m:Int)%(2^64:Nat)).toNat=m by omega];exact Nat.and_one_is_mod m
 rw [e];rcases Nat.mod_two_eq_zero_or_one m with h|h
 .rw [h];rfl
 .rw [h];rfl
def half (m:Nat):Int.fdiv (m:Int) (2^min (Int.toNat 1) 64)=((m/2:Nat):Int):=by
 have e:(2:Int)^min (Int.toNat 1) 64=2:=rfl;rw [e,Int.fdiv_eq_ediv_of_nonneg _ (by decide)];omega
def sq_pow (a:Int):∀j:Nat,(a*a)^j=a^j*a^j
 |0=>by rw [Int.pow_zero,Int.pow_zero,Int.one_mul]
 |j+1=>by rw [Int.pow_succ,Int.pow_succ,sq_pow a j];grind
def pow_even {a:Int} {m:Nat} (h:m%2=0):(a*a)^(m/2)=a^m:=by
 rw [sq_pow,<-Int.pow_add];congr 1;omega
def pow_odd {a:Int} {m:Nat} (h:m%2=1):a*(a*a)^(m/2)=a^m:=by
 obtain⟨j,rfl⟩:∃j,m=2*j+1:=⟨m/2,by omega⟩;rw [show(2*j+1)/2=j by omega,sq_pow,Int.pow_succ,show 2*j=j+j by omega,Int.pow_add,Int.mul_comm]
def ag4 {n:Nat} {a:aW} (h:bK n a=true):bK (a.2.length+1) a=true:=by
 by_cases hs:a.2=[]
 .rw [nC hs]at h ⊢;exact h
 .obtain⟨h1,h2,h3,h4,h5⟩:=(pq hs).1 h;exact(pq hs).2 ⟨h1,h2,h3,h4,by omega⟩
def ag5 (a:aW) (k:Nat) (h:aH a=true) (hk:1+(a.2.length+1)*k<=100000):Holds prog false 175 [aJ a,iv (k:Int)] (aJ (aY (au a^k))):=by
 have hS:=ag3;refine bL (c:=uu) func175 rfl rfl fun w F=> ?_
 refine cC hS 2 (agX a k rfl rfl) ?_;refine aP.loop (ι:={x:(aW×aW)×Nat//x.1.2=aY (au x.1.2)/\au x.1.2*au x.1.1^x.2=au a^k/\∃p q:Nat,1<=p/\1<=q/\bK p x.1.1=true/\bK q x.1.2=true/\q+p*x.2<=100000}) (id:=0) (b:=cat uu wu) (rest:=(fl uu []).drop 3) (by kernel_rfl) (fun x=>lV x.1.1.1 x.1.1.2 (x.1.2:Int)) (fun x=>x.1.2)
  ⟨((a,(1,[])),k),by
    have v:au (1,[])=1:=rfl;refine⟨?_, ?_,a.2.length+1,1,by omega,by omega,ag4 h, ?_,hk⟩
    .show((1,[]):aW)=aY (au (1,[]));rw [v];unfold aY;rw [if_pos (by decide)]
    .show au (1,[])*au a^k=au a^k;rw [v,Int.one_mul]
    .exact(nC (n:=1) (a:=(1,[])) rfl).trans (by decide)⟩ (fun _=>rfl) ?_
 rintro⟨⟨⟨x,o⟩,m⟩,ho,hv,p,q,hp,hq,sr,kn,hm⟩;have ho:o=aY (au o):=ho;have hv:au o*au x^m=au a^k:=hv;have sr:bK p x=true:=sr;have kn:bK q o=true:=kn;have hm:q+p*m<=100000:=hm;have hmp:m<=p*m:=Nat.le_mul_of_pos_left m hp;by_cases hz:m=0
 .subst hz;refine bl (s:=lV x o (0:Nat)) hS (ag1 x o (0:Nat) (by decide)) ?_;refine cw (cz ?_);have e:au o=au a^k:=by rw [<-hv];simp
  rw [<-e,<-ho];exact bP (s:=lV x o (0:Nat)) hS (ag2 x o _)
 .have su:p<=p*m:=Nat.le_mul_of_pos_right p (by omega);have AI:=iz (show p<=100000 by omega) sr;have Tm:=iz (show q<=100000 by omega) kn;have hlt:m/2<m:=by omega
  have hpos:(m:Int)>0:=by omega
  have vm:=ku;by_cases Tn:m%2=1
  .have hb:IntKind.i64.wrap ↑(BitVec.ofInt 64 (m:Int) &&& BitVec.ofInt 64 1).toNat=1:=by rw [Tl (by omega),Tn];rfl
   by_cases h1:m=1
   .subst h1;refine bl (s:=lV x o (1:Nat)) hS (agZ x o (1:Nat) (0:Nat) hpos hb (mP Tm AI) (by decide) (half 1)) ?_;refine⟨⟨((x,ct o x),0), ?_, ?_,p,q+p,hp,by omega,sr,lU kn sr hq hp,by omega⟩,hlt,rfl,rfl⟩
    .show ct o x=aY (au (ct o x));rw [ku];rfl
    .show au (ct o x)*au x^0=_;rw [ku,<-hv,Int.pow_zero,Int.mul_one,Int.pow_succ,Int.pow_zero,Int.one_mul]
   .refine bl (s:=lV x o (m:Nat)) hS (agY x o (m:Nat) (m/2:Nat) hpos hb (mP Tm AI) (by omega) (mP AI AI) (half m)) ?_;refine⟨⟨((ct x x,ct o x),m/2), ?_, ?_,p+p,q+p,by omega,by omega,lU sr sr hp hp,lU kn sr hq hp, ?_⟩,hlt,rfl,rfl⟩
    .show ct o x=aY (au (ct o x));rw [ku];rfl
    .show au (ct o x)*au (ct x x)^(m/2)=_;rw [ku,ku,<-hv,<-pow_odd Tn,Int.mul_assoc]
    .show q+p+(p+p)*(m/2)<=100000;obtain⟨j,rfl⟩:∃j,m=2*j+1:=⟨m/2,by omega⟩;rw [show(2*j+1)/2=j by omega];have:p*(2*j+1)=(p+p)*j+p:=by grind
     omega
  .have h0:m%2=0:=by omega
   have hb:¬IntKind.i64.wrap ↑(BitVec.ofInt 64 (m:Int) &&& BitVec.ofInt 64 1).toNat=1:=by rw [Tl (by omega),h0];decide
   refine bl (s:=lV x o (m:Nat)) hS (ag0 x o (m:Nat) (m/2:Nat) hpos hb (by omega) (mP AI AI) (half m)) ?_;refine⟨⟨((ct x x,o),m/2),ho, ?_,p+p,q,by omega,hq,lU sr sr hp hp,kn, ?_⟩,hlt,rfl,rfl⟩
   .show au o*au (ct x x)^(m/2)=_;rw [ku,<-hv,pow_even h0]
   .show q+(p+p)*(m/2)<=100000;obtain⟨j,rfl⟩:∃j,m=2*j:=⟨m/2,by omega⟩;rw [show(2*j)/2=j by omega];have:p*(2*j)=(p+p)*j:=by grind
    omega
def No:Tk.Ok prog:=fun⟨a,k,_⟩ h=>by
 have h:AH a k=true:=h;unfold AH at h;simp only [ae,bB]at h;obtain⟨h1,h2,h3⟩:=h;obtain⟨n,rfl⟩:∃n:Nat,k=(n:Int):=⟨k.toNat,(Int.toNat_of_nonneg h2).symm⟩;exact ag5 a n h1 h3
def pJ (s p:ByteArray):Bool:=Lib.hasPrefix s.data.toList p.data.toList
def qQ (s p:ByteArray):ByteArray:=⟨(Lib.trimPrefix s.data.toList p.data.toList).toArray⟩
def AJ (s:ByteArray):Bool:=decide (s.size<=18)&&(Lib.atoi s.data.toList).isSome
def wB (s:ByteArray):Int:=(Lib.atoi s.data.toList).getD 0
noncomputable def To:bp:={f:=172,ps:=[.str, .str],rs:=[.bool],fresh:=true,pre:=fun d=>true,fn:=fun d=>(pJ d.1 d.2.1,())}
noncomputable def Tp:bp:={f:=173,ps:=[.str, .str],rs:=[.str],fresh:=true,pre:=fun d=>true,fn:=fun d=>(qQ d.1 d.2.1,())}
noncomputable def LS (args:List aa):aC (Option aa):=match args with |[.raw (.string s)]=> .must (AJ s) (.ret (some (.tuple [iv (wB s), .raw .nilIface])))|_=> .ret none
noncomputable def Tq:tT:={f:=174,res:=LS}
--{
def ag6:To.Ok prog:=fun⟨s,p,_⟩ h w F xs hF cu hd=>by
 cases hd with
 |cons d1 d2=>
  cases d2 with
  |cons d2 d3=>
  cases d3;rw [d1.b8,d2.b8];refine(Tryz.strings_HasPrefix s p w).mono fun e w' ⟨h1,h2⟩=> ?_
  subst h2;exact⟨_,⟨F.at',fun _=>none⟩,h1, .raw _,⟨hF.ob,hF.all,fun b A h=>by cases h⟩,(fun b A h=>by cases h),Below.refl _ _⟩
def ag7:Tp.Ok prog:=fun⟨s,p,_⟩ h w F xs hF cu hd=>by
 cases hd with
 |cons d1 d2=>
  cases d2 with
  |cons d2 d3=>
  cases d3;rw [d1.b8,d2.b8];refine(Tryz.strings_TrimPrefix s p w).mono fun e w' ⟨h1,h2⟩=> ?_
  subst h2;exact⟨_,⟨F.at',fun _=>none⟩,h1, .raw _,⟨hF.ob,hF.all,fun b A h=>by cases h⟩,(fun b A h=>by cases h),Below.refl _ _⟩
def ag8:Tq.Ok prog:=by
 intro args v hv w F xs hF cu hd;change (LS args).gr=_ at hv;unfold LS at hv;split at hv
 .rename_i s;unfold aC.gr at hv;cases ho:AJ s with
  |false=>rw [ho]at hv;cases hv
  |true=>
   rw [ho]at hv;cases hv;unfold AJ at ho;rw [ae,bB]at ho;obtain⟨n,hn⟩:=Option.isSome_iff_exists.1 ho.2;cases hd with
   |cons d1 d2=>
   cases d2;rw [d1.b8];refine(Tryz.strconv_Atoi s n ho.1 hn w).mono ?_;rintro e w' ⟨rfl,t,rfl⟩;refine⟨_,rfl, ?_,Joins.below_bytesWorld _ _ _ _ (aG _)⟩;have e:wB s=n:=by unfold wB;rw [hn];rfl
   rw [e];exact .tuple (.cons (.raw _) (.cons (.raw _) .nil))
 .cases hv
--}
noncomputable def rc:Code:=(f122.body).getD .skip
noncomputable def AK:bI:=Cu [Tq] (aR [To,Tp,wA,Tk,Ai,ya,x9])
abbrev LU:List Nat:=[1,1,1,1,0,0,0]
def nG (s:ByteArray) (o:aW) (neg:Bool):bC:={n:=41,sl:=[(0,sv s),(2, .ptr 64 0),(3,bv neg),(4, .ptr 65 0)],bF:=[(64,b0),(65,qK o)],next:=66}
abbrev e4:ByteArray:=⟨#[45]⟩
abbrev s2:Sv.Ren:=[(64,64,none),(65,65,none)]
def ag9 (s:ByteArray):
  cO AK (fl rc []) 4 41 [sv s] 1 .normal s2 (nG (qQ s e4) (0,[]) (pJ s e4)):=
 wy [] 0
def aha (s s':ByteArray) (o o':aW) (neg:Bool) (h1:(s.size:Int)>0) (h2:(AJ (s.extract 0 (if(s.size:Int)<18 then(s.size:Int)else 18).toNat))=true) (h3:(AH (bX 10) (if(s.size:Int)<18 then(s.size:Int)else 18))=true) (h4:(aH o&&aH (sj (bX 10) (if(s.size:Int)<18 then(s.size:Int)else 18)))=true) (h5:(aH (ct o (sj (bX 10) (if(s.size:Int)<18 then(s.size:Int)else 18)))&&aH (bX (wB (s.extract 0 (if(s.size:Int)<18 then(s.size:Int)else 18).toNat))))=true) (h6:(s.extract (if(s.size:Int)<18 then(s.size:Int)else 18).toNat s.size)=(s')) (h7:(dx (ct o (sj (bX 10) (if(s.size:Int)<18 then(s.size:Int)else 18))) (bX (wB (s.extract 0 (if(s.size:Int)<18 then(s.size:Int)else 18).toNat)))).1=o'.1) (h8:(dx (ct o (sj (bX 10) (if(s.size:Int)<18 then(s.size:Int)else 18))) (bX (wB (s.extract 0 (if(s.size:Int)<18 then(s.size:Int)else 18).toNat)))).2=o'.2):
  bg AK (fl rc LU) (nG s o neg) 3 .normal s2 (nG s' o' neg):=
 wy [ah h1,ah (by omega:(0:Int)<=if(s.size:Int)<(18:Int)then(s.size:Int)else(18:Int)),ah (by omega:(if(s.size:Int)<(18:Int)then(s.size:Int)else(18:Int)).toNat<=s.size),af h2,af (aV (v:=aJ o)),af h3,af h4,af h5,ah (by omega:s.size<=s.size),az h6,az h7,az h8] 4241279421303380490363686664233810978930817
def ahb (s:ByteArray) (o:aW) (neg:Bool) (h1:¬(s.size:Int)>0):
  bg AK (fl rc LU) (nG s o neg) 2 (.exit 0) s2 (nG s o neg):=
 wy [aA h1] 1
def ahc (s:ByteArray) (o:aW) (neg:Bool) (h1:(neg)=true) (h2:(aH o)=true):
  bH AK ((fl rc []).drop 5) (nG s o neg) 3 Tryz.f122 false (aJ (eY o)):=
 wy [af h1,af h2] 129
def ahd (s:ByteArray) (o:aW) (neg:Bool) (h1:(neg)=false):
  bH AK ((fl rc []).drop 5) (nG s o neg) 2 Tryz.f122 false (aJ o):=
 wy [af h1] 1
open Lib in
theorem rf (e:Nat):∀(l:List UInt8) (a x:Nat),decFrom a l=some x->decFrom (a+e) l=some (x+e*10^l.length)
 |[],a,x,h=>by cases h;simp [decFrom]
 |b::r,a,x,h=>by
  unfold decFrom at h ⊢;cases hd:digitVal b with
  |none=>rw [hd]at h;cases h
  |some d=>
   rw [hd]at h;have ih:=rf (e*10) r _ _ h;show decFrom ((a+e)*10+d) r=_;rw [show(a+e)*10+d=a*10+d+e*10 by omega];rw [ih,List.length_cons,Nat.pow_succ];congr 1;have:e*10*10^r.length=e*(10^r.length*10):=by grind
   omega
open Lib in
theorem nm:∀(l:List UInt8) (a x:Nat),decFrom a l=some x->a<=x
 |[],a,x,h=>by cases h;omega
 |b::r,a,x,h=>by
  unfold decFrom at h;cases hd:digitVal b with
  |none=>rw [hd]at h;cases h
  |some d=>rw [hd]at h;have:=nm r _ _ h;omega
open Lib in
theorem Tr:∀(C:Nat) (l:List UInt8) (a x:Nat),decFrom a l=some x->C<=l.length->∃v,decFrom 0 (l.take C)=some v/\decFrom (a*10^C+v) (l.drop C)=some x
 |0,l,a,x,h,_=>⟨0,rfl,by simpa using h⟩
 |C+1,[],a,x,h,hc=>by simp at hc
 |C+1,b::r,a,x,h,hc=>by
  unfold decFrom at h;cases hd:digitVal b with
  |none=>rw [hd]at h;cases h
  |some d=>
   rw [hd]at h;obtain⟨v,h1,h2⟩:=Tr C r _ x h (by simpa using hc);refine⟨v+d*10^C, ?_, ?_⟩
   .rw [List.take_succ_cons];unfold decFrom;rw [hd];have:=rf d _ _ _ h1;rw [ei,Nat.min_eq_left (by simpa using hc),aw]at this;show decFrom (0*10+d) _=_;rw [Nat.zero_mul,aw];exact this
   .rw [List.drop_succ_cons,<-h2];congr 1;rw [Nat.pow_succ];have:(a*10+d)*10^C=a*(10^C*10)+d*10^C:=by grind
    omega
open Lib in
theorem ahe {l:List UInt8} {v:Nat} (h:decFrom 0 l=some v) (hl:l≠[]):atoi l=some (v:Int):=by
 cases l with
 |nil=>exact absurd rfl hl
 |cons b r=>
  have hb:48<=b.toNat:=by
   unfold decFrom at h;cases hd:digitVal b with
   |none=>rw [hd]at h;cases h
   |some d=>unfold digitVal at hd;split at hd
            .omega
            .cases hd
  have n1:(b==45)=false:=by
   rw [fF];intro e;subst e;exact absurd hb (by decide)
  have n2:(b==43)=false:=by
   rw [fF];intro e;subst e;exact absurd hb (by decide)
  rw [show atoi (b::r)=if(b==45)=true then(decNat r).map (fun(m:Nat)=> -(m:Int))else if(b==43)=true then(decNat r).map (fun(m:Nat)=>(m:Int))else(decNat (b::r)).map (fun(m:Nat)=>(m:Int))from rfl,n1,n2];show(decNat (b::r)).map _=_;unfold decNat;rw [show(b::r).isEmpty=false from rfl];simp [h]
def Gi {n x y:Nat} (h:bK n (aY (y:Int))=true) (hn:1<=n) (hxy:x<=y):bK n (aY (x:Int))=true:=by
 have h1:=d8 h hn;rw [val_mk]at h1;exact(kZ (by omega)).1
def ahf {n:Nat} {x v:Nat} (h:bK n (dx (aY (x:Int)) (bX v))=true):dx (aY (x:Int)) (bX v)=aY ((x+v:Nat):Int):=by
 have e:au (dx (aY (x:Int)) (bX v))=((x+v:Nat):Int):=by
  rw [Ag,val_mk];show(x:Int)+v=_;omega
 have:=Fx h (by rw [e];omega);rw [e]at this;exact this
end
end Go.Proofs.YtibikmmdbdlafaaGreatDoor
