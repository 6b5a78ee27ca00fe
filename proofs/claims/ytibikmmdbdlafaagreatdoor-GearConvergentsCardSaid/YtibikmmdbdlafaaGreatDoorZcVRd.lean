import Derived.Test.YtibikmmdbdlafaaGreatDoorZcVDv2
import Derived.Lib.SmallJoins
set_option linter.defProp false
set_option linter.unusedSimpArgs false
set_option linter.unusedVariables false
set_option maxRecDepth 100000
namespace Go.Proofs.YtibikmmdbdlafaaGreatDoor
open Go.RowKit Sv Go.Proofs.Tryz
noncomputable section
structure Bf (u:List Int) (s:Nat) (d:List Int) (i:Nat):Prop where
 len:d.length=u.length
 dg:aS 18446744073709551616 d
 same:∀j,i<=j->d.getD j 0=u.getD j 0
 val:2^s*ak (d.take i)=ak (u.take i)+u.getD i 0%2^s*18446744073709551616^i
def Bf.next {u d:List Int} {s i:Nat} (I:Bf u s d i) (hu:aS 18446744073709551616 u) (hs:s<=63) (hi:i+1<u.length) {x:Int} (hx:0<=x/\x<18446744073709551616) (he:2^s*x=u.getD i 0-u.getD i 0%2^s+u.getD (i+1) 0%2^s*18446744073709551616):
  Bf u s (d.set i x) (i+1):=by
 have hl:=I.len;refine⟨by rw [b6];exact hl,I.dg.set hx,fun j hj=> ?_, ?_⟩
 .rw [ou,if_neg ω];exact I.same j ω
 .have hv:=I.val;unfold ak at hv ⊢;rw [yI ω,kX u,Int.pow_succ];generalize vl 18446744073709551616 (d.take i)=a at*;generalize vl 18446744073709551616 (u.take i)=b at*;generalize (18446744073709551616:Int)^i=P at*;generalize (2:Int)^s=S at*;generalize u.getD (i+1) 0%S=r1 at*;generalize u.getD i 0%S=er at*;generalize u.getD i 0=aH at*;have e:P*(S*x)=P*(aH-er+r1*18446744073709551616):=by rw [he]
  grind
def H4 {x y:Int} {s:Nat} (hs:1<=s/\s<=63) (hx:0<=x/\x<18446744073709551616) (hy:0<=y/\y<18446744073709551616):
  (0<=eV (dG x s) (fC y (64-(s:Int)))/\eV (dG x s) (fC y (64-(s:Int)))<18446744073709551616)/\2^s*eV (dG x s) (fC y (64-(s:Int)))=x-x%2^s+y%2^s*18446744073709551616:=by
 have q7:(64-(s:Int))=((64-s:Nat):Int):=by omega
 have hp:(0:Int)<2^s:=dR δ _;have hq:(0:Int)<2^(64-s):=dR δ _;have jD:(2:Int)^s*2^(64-s)=18446744073709551616:=by rw [<-Int.pow_add,show s+(64-s)=64 by omega];rfl
 have h1:dG x s=x/2^s:=Mb ω hx.1;have h2:fC y (64-(s:Int))=2^(64-s)*(y%2^s):=by
  rw [q7,T7 ω hy,show 64-(64-s)=s by omega]
 have hd:=Int.emod_add_mul_ediv x (2^s);have a0:0<=x/2^s:=Int.ediv_nonneg hx.1 (cr hp);have a1:x/2^s<2^(64-s):=Int.ediv_lt_of_lt_mul hp (by rw [Int.mul_comm,jD];exact hx.2);have b0:=dr y (show(2:Int)^s≠0 by omega);have b1:=c7 y hp;have c0:0<=2^(64-s)*(y%2^s):=Int.mul_nonneg (cr hq) b0;have c1:2^(64-s)*(y%2^s)+2^(64-s)<=18446744073709551616:=by
  have:=dn (show y%2^s+1<=2^s by omega) (cr hq);rw [Int.mul_add,Int.mul_one,Int.mul_comm (2^(64-s)) (2^s),jD]at this;omega
 have e:eV (dG x s) (fC y (64-(s:Int)))=x/2^s+2^(64-s)*(y%2^s):=by
  rw [h1,h2];exact L3 (s:=64-s) ω ⟨a0,a1⟩ b0 rfl ω
 rw [e];refine⟨by omega, ?_⟩;rw [Int.mul_add,<-Int.mul_assoc,jD];generalize (2:Int)^s*(x/2^s)=X at*;rw [Int.mul_comm (18446744073709551616:Int)];omega
def ahB {u q:List Int} {n s:Nat} {R:Int} (hu:aS 18446744073709551616 u) (jl:aS 18446744073709551616 q) (hs:s<=63) (hn:n<u.length) (ny:1<=n) (fN:u.length<=400000) (hlq:q.length<=400000) (Bb:ak u=2^s*R) (hR:0<=R) (hlt:ak u<18446744073709551616^n) (w:World) (F:Sv.Env):
  aU prog w F 137 ((fl gh []).drop 13) (jL n u q s 0).T (jL n u q s 0).H (Mr (dS q) (cO 18446744073709551616 R)):=by
 have hS:=GU;have hp:(0:Int)<2^s:=dR δ _;have jD:(2:Int)^s*2^(64-s)=18446744073709551616:=by rw [<-Int.pow_add,show s+(64-s)=64 by omega];rfl
 have Bg:u.getD 0 0%2^s=0:=by
  have h1:=uF (b:=18446744073709551616) (l:=u) (k:=0) ω;rw [List.drop_zero,aw]at h1;have h2:u.getD 0 0=2^s*(R-2^(64-s)*ak (u.drop 1)):=by
   have h3:2^s*(2^(64-s)*ak (u.drop 1))=18446744073709551616*ak (u.drop 1):=by rw [<-Int.mul_assoc,jD]
   rw [Int.mul_sub,h3];unfold ak at Bb ⊢;omega
  rw [h2];exact Int.mul_emod_right _ _
 have hun:u.getD n 0=0/\ak (u.take n)=ak u:=by
  have h1:=Dm (b:=18446744073709551616) δ hu hlt;have h2:=lS (b:=18446744073709551616) (l:=u) (k:=n) hn;have h3:=aea (b:=18446744073709551616) δ hu (n+1);have h4:=hu.get δ n;have h5:=dR (b:=18446744073709551616) δ n;refine⟨?_,h1⟩;by_cases hz:u.getD n 0=0
  .exact hz
  .have:=Int.mul_pos h5 (show 0<u.getD n 0 by omega);omega
 refine aU.loop (ι:={x:List Int×Nat//x.2<=n/\Bf u s x.1 x.2}) (id:=4) (b:=cat gh GS) (rest:=(fl gh []).drop 14) (by kernel_rfl) (fun x=>jL n x.1.1 q s x.1.2) (fun x=>n-x.1.2)
  ⟨(u,0),Nat.zero_le _,⟨rfl,hu,fun _ _=>rfl,by show 2^s*vl _ ([]:List Int)=vl _ ([]:List Int)+u.getD 0 0%2^s*_;rw [Bg];simp [vl]⟩⟩ (fun _=>rfl) ?_
 rintro⟨⟨d,i⟩,hi,I⟩;have hi:i<=n:=hi;have I:Bf u s d i:=I;have hdl:=I.len;by_cases hlt2:i<n
 .have sF:=hu.get δ i;have ahC:=hu.get δ (i+1);have ho:∀l:List Int,l.length=u.length->∀j,j<u.length->bz 167 aE (some (.own 167 aE l)) j=true:=fun l hl j hj=>by rw [gk];exact az ω
  have jB:((i:Int)+1).toNat=i+1:=by omega
  have sd:=I.same i (aI _);have ahD:=I.same (i+1) ω;by_cases hs0:s=0
  .subst hs0;have e1:dG (d.getD i 0) (0:Nat)=d.getD i 0:=by rw [Mb ω (by rw [sd];exact sF.1)];simp
   have N:=I.next hu ω ω (x:=dG (d.getD i 0) (0:Nat)) (by rw [e1,sd];exact sF) (by rw [e1,sd];simp [Int.emod_one]);exact aU.all (s:=jL n d q (0:Nat) i) (s':=jL n (d.set i (dG (d.getD i 0) (0:Nat))) q (0:Nat) (i+1)) known mixed hS _ (ahx n d q _ i ω ω (ho d hdl i ω) ω ω ω (by rw [b6]) rfl) (by kernel_rfl)
    ⟨⟨(_,i+1),by show i+1<=n;omega,N⟩,by show n-(i+1)<n-i;omega,rfl,rfl⟩
  .obtain⟨g1,g2⟩:=H4 (s:=s) ω sF ahC;have e1:(d.set i (dG (d.getD i 0) s)).getD i 0=dG (u.getD i 0) s:=by rw [wF ω,sd]
   have e2:(d.set i (dG (d.getD i 0) s)).getD (i+1) 0=u.getD (i+1) 0:=by rw [ou,if_neg ω,ahD]
   have e3:(d.set i (dG (d.getD i 0) s)).set i (eV (dG (u.getD i 0) s) (fC (u.getD (i+1) 0) (64-(s:Int))))=d.set i (eV (dG (u.getD i 0) s) (fC (u.getD (i+1) 0) (64-(s:Int)))):=List.set_set ..;have N:=I.next hu hs ω g1 g2;have fin:∃j:{x:List Int×Nat//x.2<=n/\Bf u s x.1 x.2},n-j.1.2<n-i/\
     (jL n ((d.set i (dG (d.getD i 0) s)).set i (eV ((d.set i (dG (d.getD i 0) s)).getD i 0) (fC ((d.set i (dG (d.getD i 0) s)).getD (i+1) 0) (64-s)))) q s (i+1)).T=(jL n j.1.1 q s j.1.2).T/\
     (jL n ((d.set i (dG (d.getD i 0) s)).set i (eV ((d.set i (dG (d.getD i 0) s)).getD i 0) (fC ((d.set i (dG (d.getD i 0) s)).getD (i+1) 0) (64-s)))) q s (i+1)).H=(jL n j.1.1 q s j.1.2).H:=by
    rw [e1,e2,e3];exact⟨⟨(_,i+1),by show i+1<=n;omega,N⟩,by show n-(i+1)<n-i;omega,rfl,rfl⟩
   exact bx (s:=jL n d q s i) hS (ahw n d q s i ω ω (ho d hdl i ω) ω ω ω ω (ho _ (by rw [b6];exact hdl) i ω) ω (by rw [jB];exact ho _ (by rw [b6];exact hdl) (i+1) ω) ω ω τ (by rw [jB];rfl)) fin
 .refine bx (s:=jL n d q s i) hS (ahy n d q s i ω) ?_;refine cy (cF ?_);obtain rfl:i=n:=by omega
  have hv:=I.val;rw [hun.1,hun.2,Bb,Int.zero_emod,Int.zero_mul,Int.add_zero]at hv;have iO:ak (d.take i)=R:=Int.eq_of_mul_eq_mul_left ω hv;rw [<-iO,<-wH (I.dg.take i)];have bV:(q.drop 0).take q.length=q:=by simp
  have iR:(d.drop 0).take i=d.take i:=by simp
  exact aU.uw (s:=jL i d q s i) known mixed hS _ (ahz i d q s i (Uf rfl) (by rw [bV];omega) ω (by
   rw [gk,az (show i-1<d.length by omega)];simp) (by rw [iR,ek];omega) (by rw [bV]) (by rw [iR])) fun T H h=>h
def ahE {a v:List Int} {s n m:Nat} {vb:Int} (ha:aS 18446744073709551616 a) (hv:aS 18446744073709551616 v) (hs:s<=63) (Ms:v.length=n) (hn:2<=n) (hm:m+n=a.length+1) (pN:1<=m) (hla:a.length<=300000)
  (hV:ak v=vb*2^s) (hb0:0<vb) (ij:18446744073709551616^(n-1)<=vb) (sK:9223372036854775808<=v.getD (n-1) 0) (w:World) (F:Sv.Env):
  aU prog w F 137 ((fl gh []).drop 11) (ld a v (cH a s) (cG m) s m).T (ld a v (cH a s) (cG m) s m).H (Mr (cO 18446744073709551616 (ak a/vb)) (cO 18446744073709551616 (ak a%vb))):=by
 have hS:=GU;have hp:(0:Int)<2^s:=dR δ _;have auq:(2:Int)^s<=2^63:=iQ δ hs;have TP:(2:Int)^63=9223372036854775808:=rfl;have iz:0<ak v:=by rw [hV];exact Int.mul_pos hb0 hp
 have sL:ak v<18446744073709551616^n:=by rw [<-Ms];exact dt δ hv
 have lW:0<=ak a:=fY δ ha;have DG:ak a<18446744073709551616^a.length:=dt δ ha;have ahF:ak a*2^s<18446744073709551616^(a.length+1):=by
  rw [Int.pow_succ];have h1:=dn (show(2:Int)^s<=18446744073709551616 by omega) lW;have h2:=Int.mul_lt_mul_of_pos_right DG (show(0:Int)<18446744073709551616 by decide);omega
 have Bg:ak (cH a s)=ak a*2^s:=by
  unfold cH;rw [Int.toNat_natCast];exact Dx δ _ _ (Int.mul_nonneg lW (cr hp)) ahF
 have DE:(cH a s).length=a.length+1:=by unfold cH;exact yP _ _ _
 have Ug:aS 18446744073709551616 (cH a s):=by unfold cH;exact Dw δ _ _
 have Mt:∀k,(cG m).getD k 0=0:=fun k=>by
  unfold cG;rw [ao,List.getElem?_replicate];split<;>rfl
 refine aU.loop (ι:={x:List Int×List Int×Nat//x.2.2<=m/\x.1.length=a.length+1/\aS 18446744073709551616 x.1/\x.2.1.length=m/\aS 18446744073709551616 x.2.1/\ak (x.1.drop x.2.2)<ak v/\ak x.1+ak v*ak x.2.1=ak a*2^s/\∀j,j<x.2.2->x.2.1.getD j 0=0}) (id:=2) (b:=cat gh GR) (rest:=(fl gh []).drop 12) (by kernel_rfl) (fun x=>ld a v x.1.1 x.1.2.1 s x.1.2.2) (fun x=>x.1.2.2)
  ⟨(cH a s,cG m,m),aI _,DE,Ug,gH _,A0 _, ?_, ?_,fun j _=>Mt j⟩ (fun _=>rfl) ?_
 .show ak ((cH a s).drop m)<ak v;have h1:=si 18446744073709551616 (cH a s) m ω;have h2:=fY (b:=18446744073709551616) δ (Ug.take m);have h3:18446744073709551616^m*ak ((cH a s).drop m)<=ak a*2^s:=by rw [<-Bg];unfold ak;omega
  have h4:ak a*2^s<18446744073709551616^m*ak v:=by
   have e1:(18446744073709551616:Int)^a.length=18446744073709551616^m*18446744073709551616^(n-1):=by rw [<-Int.pow_add,show m+(n-1)=a.length by omega]
   have c1:=Int.mul_lt_mul_of_pos_right DG hp;have c2:=ar ij (cr hp);have c3:=dn c2 (cr (dR (b:=18446744073709551616) δ m));rw [<-hV,<-Int.mul_assoc,<-e1]at c3;omega
  exact Int.lt_of_mul_lt_mul_left (show 18446744073709551616^m*ak ((cH a s).drop m)<18446744073709551616^m*ak v by omega) (cr (dR δ m))
 .show ak (cH a s)+ak v*ak (cG m)=_;have:ak (cG m)=0:=Dk _ m;rw [this,Bg];omega
 rintro⟨⟨u,q,k⟩,hk,hl,iU,hq,jl,kD,hval,hz⟩;have hk:k<=m:=hk;have hl:u.length=a.length+1:=hl;have iU:aS 18446744073709551616 u:=iU;have hq:q.length=m:=hq;have jl:aS 18446744073709551616 q:=jl;have kD:ak (u.drop k)<ak v:=kD;have hval:ak u+ak v*ak q=ak a*2^s:=hval;have hz:∀j,j<k->q.getD j 0=0:=hz;cases k with
 |zero=>
  refine bx (s:=ld a v u q s 0) hS (ahu a v u q s 0 ω) ?_;refine cy (cF ?_);rw [List.drop_zero]at kD;have pP:0<=ak u:=fY δ iU;obtain⟨g1,g2⟩:=L6 (A:=ak a) (b:=vb) (V:=ak v) (S:=2^s) (U:=ak u) (q:=ak q) hp hb0 hV hval pP kD;rw [g1,<-wH jl];refine c6 (s:=ld a v u q s 0) hS 1 (ahv a v u q s 0) ?_;rw [Ms];exact ahB iU jl hs ω ω ω ω g2 (dr _ ω) (Int.lt_trans kD sL) w F
 |succ j=>
  have ej:(((j+1:Nat):Int)-1).toNat=j:=by omega
  have Bh:(((j+1:Nat):Int)-1+v.length+1).toNat=j+(n+1):=by omega
  have ed:j+(n+1)-j=n+1:=by omega
  have iR:(((j+1:Nat):Int)-1-1)=(j:Int)-1:=by omega
  obtain⟨w1,w2,w3⟩:=L5 (b:=18446744073709551616) δ iU (j:=j) (n:=n) (V:=ak v) ω (cr sL) kD;have wV:ak (ri u j (n+1))<18446744073709551616*ak v:=by unfold ri ak;rw [<-w1];exact w2
  have hpre:wP u j (n+1) v=true:=by
   unfold wP;rw [hM.2 iU,hM.2 hv,az (show 2<=v.length by omega),Ms,Nat.beq_refl,az (show n<=1000000 by omega),az sK,az wV];rfl
  obtain⟨n1,n2,n3,sC⟩:=TL (b:=18446744073709551616) δ iU (j:=j) (n:=n) (V:=ak v) ω iz (cr sL) kD (u':=k9 u j (n+1) v) rfl;have Mu:0<=ak (ri u j (n+1)):=fY δ ((iU.drop j).take _);have wT:0<=jk u j (n+1) v:=Int.ediv_nonneg Mu (cr iz);have GO:jk u j (n+1) v<18446744073709551616:=(Int.ediv_lt_iff_lt_mul iz).2 wV;have fin:∃y:{x:List Int×List Int×Nat//x.2.2<=m/\x.1.length=a.length+1/\aS 18446744073709551616 x.1/\x.2.1.length=m/\aS 18446744073709551616 x.2.1/\ak (x.1.drop x.2.2)<ak v/\ak x.1+ak v*ak x.2.1=ak a*2^s/\∀j,j<x.2.2->x.2.1.getD j 0=0},y.1.2.2<j+1/\
    (Bd a v (k9 u j (n+1) v) (q.set j (jk u j (n+1) v)) s (j+1)).T=(ld a v y.1.1 y.1.2.1 s y.1.2.2).T/\(Bd a v (k9 u j (n+1) v) (q.set j (jk u j (n+1) v)) s (j+1)).H=(ld a v y.1.1 y.1.2.1 s y.1.2.2).H:=by
   refine⟨⟨(k9 u j (n+1) v,q.set j (jk u j (n+1) v),j),by show j<=m;omega,by show(k9 u j (n+1) v).length=_;omega,n2,by show(q.set j _).length=m;rw [b6];exact hq,jl.set ⟨wT,GO⟩,sC, ?_,fun i hi=> ?_⟩,fG _, ?_,rfl⟩
   .show ak (k9 u j (n+1) v)+ak v*ak (q.set j (jk u j (n+1) v))=_;have qT:ak (q.set j (jk u j (n+1) v))=ak q+18446744073709551616^j*jk u j (n+1) v:=by
     unfold ak;rw [qU _ _ _ _ ω,hz j (fG _),Int.sub_zero]
    have Mv:ak (k9 u j (n+1) v)+18446744073709551616^j*jk u j (n+1) v*ak v=ak u:=n3;rw [qT,<-hval,<-Mv];generalize ak (k9 u j (n+1) v)=x1;generalize jk u j (n+1) v=x2;generalize (18446744073709551616:Int)^j=x3;generalize ak q=qR;generalize ak v=wB;grind
   .have hi:i<j:=hi;show(q.set j _).getD i 0=0;rw [ou,if_neg ω];exact hz i ω
   .show(Bd a v _ _ s (j+1)).T=(ld a v _ _ s j).T;unfold Bd ld;rw [iR]
  have hlen':u.length=(k9 u j (n+1) v).length:=by omega
  have hown:∀i l,i<u.length->1<=l->(bz 167 aE (some (.own 167 aE u)) i&&Nat.ble 1 l)=true:=fun i l hi hl=>by rw [gk,az hi,fF hl];rfl
  have DH:(((0+1:Nat):Int)-1+v.length+1).toNat=n+1:=by omega
  by_cases hj0:j=0
  .subst hj0;refine bx (s:=ld a v u q s 1) hS (ahs a v u q s 1 ω ω ω ω (by rw [DH];omega) rfl (by rw [DH];exact hown _ _ ω ω) (by rw [DH];exact hpre) (by rw [ej];omega) ω (by rw [DH];exact hlen') (by rw [b6]) (by rw [b6])) ?_;rw [DH,ej];exact fin
  .refine aU.all (s:=ld a v u q s (j+1)) known mixed hS _ (aht a v u q s (j+1) ω ω ω ω (by rw [Bh];omega) (by
    rw [ej];cases hb:Nat.beq j 0 with
    |false=>rfl
    |true=>exact absurd (ac hb) hj0) (by rw [Bh,ej];omega) (by
    rw [Bh,ej,ed];exact hown _ _ ω ω) (by rw [Bh,ej,ed];exact hpre) (by rw [ej];omega) ω (by rw [Bh,ej,ed];exact hlen') (by rw [b6]) (by rw [b6])) (by kernel_rfl) ?_
   rw [Bh,ej,ed];exact fin
def H5 (a b:List Int) (h:pR a b=true):Holds prog false 178 [bI a,bI b] (.tuple [bI (e7 a b),bI (cI a b)]):=by
 have hS:=GU;unfold pR mR at h;simp only [ae,bE,hM,q2]at h;obtain⟨⟨⟨ha,jz⟩,⟨hb,GV⟩,hal⟩,jy,hla,hlb⟩:=h;have hC:mR a b=true:=by
  unfold mR;rw [hM.2 ha,q2.2 jz,hM.2 hb,q2.2 GV,az hal];rfl
 have lW:0<=ak a:=fY δ ha;have uN:0<=ak b:=fY δ hb;refine bL (c:=gh) func178 rfl rfl fun w F=> ?_
 by_cases hlt:ak a<ak b
 .have e1:e7 a b=[]:=by unfold e7;rw [Int.ediv_eq_zero_of_lt lW hlt];exact LK δ
  have e2:cI a b=a:=by unfold cI;rw [Int.emod_eq_of_lt lW hlt];exact(qY δ ha jz rfl).symm
  rw [e1,e2];exact bw hS 3 (ahj a b hC (by unfold k3;rw [if_pos hlt];decide))
 .refine cJ hS 4 (ahk a b hC (by unfold k3;rw [if_neg hlt];split<;>decide)) ?_;obtain⟨n,hn⟩:∃n,b.length=n+1:=⟨b.length-1,by omega⟩;have DI:=hb.get δ n;have hbz:=GV n hn;cases n with
  |zero=>
   obtain⟨y,rfl⟩:∃y,b=[y]:=List.length_eq_one_iff.1 hn;have hy:y≠0:=hbz;have hy2:0<=y/\y<18446744073709551616:=DI;refine Ue (X:=pz) (o:= .tmp 23) (x:=cat gh DF) (y:= .skip) (rest:=(fl gh []).drop 5) (by kernel_rfl) (by kernel_rfl) ?_;refine aU.mono (fun e T H hq=> ?_) (ahA ha ω hla w F);obtain⟨rfl,hq⟩:=hq;exact hq
  |succ m=>
   refine c6 (s:=sJ a b) hS 1 (ahp a b ω) ?_;obtain⟨s,hs,TT,TU,TV⟩:=TN (x:=b.getD (m+1) 0) ω;have bJ:((b.length:Int)-1).toNat=m+1:=by omega
   have hp:(0:Int)<2^s:=dR δ _;have aur:=sG (u:=b) (n:=m+1) hn;have aus:=fY (b:=18446744073709551616) δ (hb.take (m+1));have ahG:=dt (b:=18446744073709551616) δ (hb.take (m+1));rw [ek,Nat.min_eq_left ω]at ahG;have hP:=dR (b:=18446744073709551616) δ (m+1);have ij:18446744073709551616^(m+1)<=ak b:=yH δ hb GV hn
   -- the divisor, shifted up, has as many words
   have ahH:(b.getD (m+1) 0+1)*2^s<=18446744073709551616:=by
    have q7:(18446744073709551616:Int)=2^(64-s)*2^s:=by rw [<-Int.pow_add,show 64-s+s=64 by omega];rfl
    have h1:b.getD (m+1) 0<2^(64-s):=Int.lt_of_mul_lt_mul_right (show b.getD (m+1) 0*2^s<2^(64-s)*2^s by rw [<-q7];exact TV) (cr hp);rw [q7];exact ar ω (cr hp)
   have Mw:ak b*2^s<18446744073709551616^(m+2):=by
    have h1:ak b<18446744073709551616^(m+1)*(b.getD (m+1) 0+1):=by rw [Int.mul_add,Int.mul_one];unfold ak at*;omega
    have h2:=Int.mul_lt_mul_of_pos_right h1 hp;have h3:=dn ahH (cr hP);rw [Int.mul_assoc]at h2;rw [Int.pow_succ];omega
   have ahI:ak (cH b s)=ak b*2^s:=by
    unfold cH;rw [Int.toNat_natCast];refine Dx δ _ _ (Int.mul_nonneg uN (cr hp)) ?_;have:=iQ (b:=18446744073709551616) δ (show m+2<=b.length+1 by omega);omega
   have ahJ:aS 18446744073709551616 (cH b s):=by unfold cH;exact Dw δ _ _
   have aut:(cH b s).length=m+3:=by unfold cH;rw [yP];omega
   have hv:=wH ahJ;rw [ahI]at hv;have iz:0<=ak b*2^s:=Int.mul_nonneg uN (cr hp);obtain⟨v1,v2,v3⟩:=qX (b:=18446744073709551616) δ iz;have Mx:ak (dS (cH b s))=ak b*2^s:=by rw [hv];exact v3
   have hvl:(dS (cH b s)).length=m+2:=by
    have h1:=jn (b:=18446744073709551616) δ iz Mw;rw [<-hv]at h1;by_cases hc:m+2<=(dS (cH b s)).length
    .omega
    .have h2:=dt (b:=18446744073709551616) δ v1;rw [<-hv]at h2;have h3:=iQ (b:=18446744073709551616) δ (show(dS (cH b s)).length<=m+1 by omega);have h4:=dn (show(1:Int)<=2^s by omega) uN;unfold ak at Mx ij h4;omega
   have Dy:aS 18446744073709551616 (dS (cH b s)):=by rw [hv];exact v1
   have sK:9223372036854775808<=(dS (cH b s)).getD (m+2-1) 0:=by
    have h1:=sG (u:=dS (cH b s)) (n:=m+1) hvl;have h2:=dt (b:=18446744073709551616) δ (Dy.take (m+1));rw [ek,Nat.min_eq_left ω]at h2;have h3:18446744073709551616^(m+1)*(b.getD (m+1) 0*2^s)<=ak b*2^s:=by
     rw [<-Int.mul_assoc];exact ar (by unfold ak at*;omega) (cr hp)
    have h4:=dn TU (cr hP);show _<=(dS (cH b s)).getD (m+1) 0;rw [Mx]at h1;have h5:18446744073709551616^(m+1)*9223372036854775808<18446744073709551616^(m+1)*((dS (cH b s)).getD (m+1) 0+1):=by
     rw [Int.mul_add,Int.mul_one];unfold ak at*;omega
    have:=Int.lt_of_mul_lt_mul_left h5 (cr hP);omega
   have hge:m+2<=a.length:=by
    refine Nat.not_lt.1 fun hh=> ?_
    exact hlt (wD δ ha hb GV ω)
   have Uh:∀l:List Int,aS 18446744073709551616 l->l.length<=300000->yS l (s:Int)=true:=fun l hl ahK=>by
    unfold yS;rw [hM.2 hl,az (show l.length<=400000 by omega),az (show(0:Int)<=(s:Int) by omega),az (show(s:Int)<64 by omega)];rfl
   have ht:((cH b s).drop 0).take (cH b s).length=cH b s:=by simp
   have hs':dY (b.getD ((b.length:Int)-1).toNat 0)=(s:Int):=by rw [bJ];exact hs
   refine aU.st (s:=sJ a b) known mixed hS 2 _ (ahq a b (dS (cH b s)) s ω ω ω (by rw [bJ];exact sy.2 DI) (by rw [hs'];exact Uh b hb hlb) (by
    rw [hs'];have:bz 167 aE (some (.own 167 aE (cH b s))) ((cH b s).length-1)=true:=by rw [gk];exact az ω
    rw [Bool.or_eq_true];exact .inr this) (by rw [hs',ht];omega) hs' (by rw [hs',ht])) (by kernel_rfl) ?_
   have em:((a.length:Int)-(dS (cH b s)).length+1).toNat=a.length-(m+2)+1:=by omega
   refine c6 (s:=Mp a (dS (cH b s)) s) hS 4 (ahr a (dS (cH b s)) s (a.length-(m+2)+1) (Uh a ha hla) ω ω ω (by rw [em];omega) rfl (by rw [em,gH]) (by rw [em]) (by rw [gH]) ω (by rw [em];exact yJ _) (by rw [gH])) ?_;exact ahE ha Dy TT hvl ω ω ω hla Mx ω (by rw [show m+2-1=m+1 by omega];exact ij) sK w F
def Ui:Mq.Ok prog:=fun⟨a,b,_⟩ h=>H5 a b h
def uO:=k_a f171
def wW:=bc [Gv,LP,Mq,wL,Dt,uE]
abbrev GW:Sv.Ren:=[(64,64,none),(65,65,none),(66,66,none),(67,67,none)]
section
variable (a b:aC)
def uP:bD:={n:=84,sl:=[(2, .ptr 64 0),(3, .ptr 65 0),(4, .ptr 66 0),(5, .ptr 67 0)],bJ:=[(64,eu a),(65,eu b),(66,b0),(67,b0)],next:=68}
def kE:Int×List Int:=aY (cc (bY a) (e7 (aB a) (aB b)))
def gS:Int×List Int:=aY (cc (bY a) (cI (aB a) (aB b)))
def ahL (h1:a.2.isEmpty=true) (h2:b.2.isEmpty=true) (h3:¬a.1= -9223372036854775808) (h4:b.1≠0) (h5:i6 (Int.tdiv a.1 b.1)) (h6:Int.tmod a.1 b.1<0) (h7:i6 (Int.tdiv a.1 b.1-1)) (h8:i6 (Int.tmod a.1 b.1+b.1)):
  bh wW (fl uO []) 3 84 [aA a,aA b] 2047 f171 false (.tuple [aA (Int.tdiv a.1 b.1-1,[]),aA (Int.tmod a.1 b.1+b.1,[])]):=
 wy [af (aM (aM (h1))),af (aM (h1)),af (aM (aM (h2))),af (aM (h2)),af (gC.mpr h3),af (aF (v:=iv (a.1))),af (aF (v:=iv (b.1))),ah h4,yi h5,ah h6,yi h7,yi h8] 251558458034092392577408602166792257
def Uj (h1:a.2.isEmpty=true) (h2:b.2.isEmpty=true) (h3:¬a.1= -9223372036854775808) (h4:b.1≠0) (h5:i6 (Int.tdiv a.1 b.1)) (h6:¬Int.tmod a.1 b.1<0):
  bh wW (fl uO []) 3 84 [aA a,aA b] 1535 f171 false (.tuple [aA (Int.tdiv a.1 b.1,[]),aA (Int.tmod a.1 b.1,[])]):=
 wy [af (aM (aM (h1))),af (aM (h1)),af (aM (aM (h2))),af (aM (h2)),af (gC.mpr h3),af (aF (v:=iv (a.1))),af (aF (v:=iv (b.1))),ah h4,yi h5,aJ h6] 802322401637226796831279157313
def ahM (h1:a.2.isEmpty=false):
  cZ wW (fl uO []) 3 84 [aA a,aA b] 512 .normal GW (uP a b):=
 wy [af (aM (aM (h1))),af (aM (h1))] 528449
def ahN (h1:a.2.isEmpty=true) (h2:b.2.isEmpty=false):
  cZ wW (fl uO []) 3 84 [aA a,aA b] 527 .normal GW (uP a b):=
 wy [af (aM (aM (h1))),af (aM (h1)),af (aM (aM (h2))),af (aM (h2))] 17801616560193
def ahO (h1:a.2.isEmpty=true) (h2:b.2.isEmpty=true) (h3:a.1= -9223372036854775808):
  cZ wW (fl uO []) 3 84 [aA a,aA b] 767 .normal GW (uP a b):=
 wy [af (aM (aM (h1))),af (aM (h1)),af (aM (aM (h2))),af (aM (h2)),af (eR.mpr h3)] 1425176500113473
def ahP (h1:(ay a)=true) (h2:(ay b)=true) (h3:(pR (aB a) (aB b))=true) (h4:(gR (e7 (aB a) (aB b))&&jG (e7 (aB a) (aB b)))=true) (h5:(gR (cI (aB a) (aB b))&&jG (cI (aB a) (aB b)))=true) (h6:(ay (aY (cc (bY a) (cI (aB a) (aB b)))))=true) (h7:fk (aY (cc (bY a) (cI (aB a) (aB b))))<0) (h8:(ay (aY (cc (bY a) (e7 (aB a) (aB b))))&&ay (1,[]))=true) (h9:(ay (aY (cc (bY a) (cI (aB a) (aB b))))&&ay b)=true) (h10:(cz (aY (cc (bY a) (e7 (aB a) (aB b)))) (1,[])).1=(cz (kE a b) (1,[])).1) (h11:(cz (aY (cc (bY a) (e7 (aB a) (aB b)))) (1,[])).2=(cz (kE a b) (1,[])).2) (h12:(b8 (aY (cc (bY a) (cI (aB a) (aB b)))) b).1=(b8 (gS a b) b).1) (dF:(b8 (aY (cc (bY a) (cI (aB a) (aB b)))) b).2=(b8 (gS a b) b).2):
  bS wW ((fl uO []).drop 3) (uP a b) 3 f171 false (.tuple [aA (cz (kE a b) (1,[])),aA (b8 (gS a b) b)]):=
 wy [af h1,af h2,af h3,af h4,af h5,af h6,ah h7,af (aF (v:=aA (aY (cc (bY a) (e7 (aB a) (aB b)))))),af h8,af (aF (v:=aA (aY (cc (bY a) (cI (aB a) (aB b)))))),af (aF (v:=aA b)),af h9,af (aF (v:=aA (cz (aY (cc (bY a) (e7 (aB a) (aB b)))) ((1:Int),[])))),af (aF (v:=aA (b8 (aY (cc (bY a) (cI (aB a) (aB b)))) b))),ax h10,ax h11,ax h12,ax dF] 6366022754155619780025161810062091830177921
def ahQ (h1:(ay a)=true) (h2:(ay b)=true) (h3:(pR (aB a) (aB b))=true) (h4:(gR (e7 (aB a) (aB b))&&jG (e7 (aB a) (aB b)))=true) (h5:(gR (cI (aB a) (aB b))&&jG (cI (aB a) (aB b)))=true) (h6:(ay (aY (cc (bY a) (cI (aB a) (aB b)))))=true) (h7:¬fk (aY (cc (bY a) (cI (aB a) (aB b))))<0) (h8:(aY (cc (bY a) (e7 (aB a) (aB b)))).1=(kE a b).1) (h9:(aY (cc (bY a) (e7 (aB a) (aB b)))).2=(kE a b).2) (h10:(aY (cc (bY a) (cI (aB a) (aB b)))).1=(gS a b).1) (h11:(aY (cc (bY a) (cI (aB a) (aB b)))).2=(gS a b).2):
  bS wW ((fl uO []).drop 3) (uP a b) 2 f171 false (.tuple [aA (kE a b),aA (gS a b)]):=
 wy [af h1,af h2,af h3,af h4,af h5,af h6,aJ h7,af (aF (v:=aA (aY (cc (bY a) (e7 (aB a) (aB b)))))),af (aF (v:=aA (aY (cc (bY a) (cI (aB a) (aB b)))))),ax h8,ax h9,ax h10,ax h11] 3986500662194803160658049
noncomputable def cn:Int×List Int:=if iy a&&(iy b&& !(a.1== -9223372036854775808))then aY (aj a/aj b)else if aj (gS a b)<0 then cz (kE a b) (1,[])else kE a b
noncomputable def io:Int×List Int:=aY (aj a%aj b)
def lf:Bool:=(ay a&&ay b)&&decide (0<aj b)
end
def GX:=IN 171 [cS,cS] [cS,cS] false (fun d=>lf d.1 d.2.1) fun d=>(cn d.1 d.2.1,(io d.1 d.2.1,()))
def Uk:bC prog (bF wW):=cK (aP LR (aP TE (aP Ui (aP yN (aP GD (aP hJ dQ))))))
def Ul {n:Nat} {a b:aC} (h:aT n a=true) (g:aT n b=true) (hb:0<aj b):
  0<=ak (aB a)/ak (aB b)/\0<=ak (aB a)%ak (aB b)/\ak (aB a)%ak (aB b)<aj b/\ak (aB b)=aj b/\
  ((0<=aj a/\aj (kE a b)=aj a/aj b/\aj (gS a b)=aj a%aj b/\¬aj (gS a b)<0)\/
   (aj (gS a b)<0/\aj (kE a b)-1=aj a/aj b/\aj (gS a b)+aj b=aj a%aj b)\/
   (¬aj (gS a b)<0/\aj (kE a b)=aj a/aj b/\aj (gS a b)=aj a%aj b)):=by
 obtain⟨_,_,a3,a4,_⟩:=cf h;obtain⟨_,_,b3,b4,_⟩:=cf g;have eb:ak (aB b)=aj b:=by omega
 have q0:0<=ak (aB a)/ak (aB b):=Int.ediv_nonneg ω ω;have er:=dr (ak (aB a)) (show ak (aB b)≠0 by omega);have r1:=c7 (ak (aB a)) (show 0<ak (aB b) by omega);have ug:=Int.emod_add_mul_ediv (ak (aB a)) (ak (aB b));have eQ:aj (kE a b)=cc (bY a) (e7 (aB a) (aB b)):=val_mk _;have ox:aj (gS a b)=cc (bY a) (cI (aB a) (aB b)):=val_mk _;have Um:ak (e7 (aB a) (aB b))=ak (aB a)/ak (aB b):=wN q0;have My:ak (cI (aB a) (aB b))=ak (aB a)%ak (aB b):=wN er;refine⟨q0,er,by omega,eb, ?_⟩;unfold cc at eQ ox;cases hn:bY a
 .rw [hn]at eQ ox;have eQ:aj (kE a b)=ak (e7 (aB a) (aB b)):=eQ;have ox:aj (gS a b)=ak (cI (aB a) (aB b)):=ox;have ha:¬aj a<0:=fun hh=>by rw [a4.2 hh]at hn;cases hn
  have ea:ak (aB a)=aj a:=by omega
  refine .inl ⟨by omega,by rw [eQ,Um,ea,eb],by rw [ox,My,ea,eb],by rw [ox,My];omega⟩
 .rw [hn]at eQ ox;have eQ:aj (kE a b)= -ak (e7 (aB a) (aB b)):=eQ;have ox:aj (gS a b)= -ak (cI (aB a) (aB b)):=ox;have ha:=a4.1 hn;have ea:ak (aB a)= -aj a:=by omega
  rw [Um]at eQ;rw [My]at ox;rw [eb]at eQ ox ug r1 er q0;generalize ak (aB a)/aj b=q at*;generalize ak (aB a)%aj b=r at*;by_cases hr:r=0
  .obtain⟨k1,k2⟩:=yQ (U:=aj a) (V:=aj b) (t:= -q) hb (by rw [Int.neg_mul,Int.mul_comm q];omega) (by rw [Int.neg_mul,Int.mul_comm q];omega);rw [Int.neg_mul,Int.mul_comm q]at k2;exact .inr (.inr ⟨by omega,by omega,by omega⟩)
  .have e:(-q-1)*aj b= -(aj b*q)-aj b:=by rw [Int.sub_mul,Int.one_mul,Int.neg_mul,Int.mul_comm q]
   obtain⟨k1,k2⟩:=yQ (U:=aj a) (V:=aj b) (t:= -q-1) hb (by rw [e];omega) (by rw [e];omega);rw [e]at k2;exact .inr (.inl ⟨by omega,by omega,by omega⟩)
def yY {n:Nat} {a b:aC} (h:aT n a=true) (g:aT n b=true) (hb:0<aj b):aj (cn a b)=aj a/aj b:=by
 obtain⟨_,_,_,_,hv⟩:=Ul h g hb;unfold cn;split
 .exact val_mk _
 .split
  .rename_i hlt;rw [val_sub];have e1:aj (1,[])=1:=rfl;rw [e1];omega
  .omega
def Mz (a b:aC):aj (io a b)=aj a%aj b:=val_mk _
def Un (x:Int) {y:Int} (hy:0<y):(x/y).natAbs<=x.natAbs:=by
 have h1:=Int.emod_add_mul_ediv x y;have h2:=dr x (show y≠0 by omega);have h3:=c7 x hy;by_cases h0:0<=x
 .have h4:0<=x/y:=Int.ediv_nonneg h0 ω;have:=ar (show 1<=y by omega) h4;omega
 .have h4:x/y<= -1:=by
   have:x/y<0:=(Int.ediv_lt_iff_lt_mul hy).2 ω;omega
  have h5:=dn (show x/y+1<=0 by omega) (show 0<=y-1 by omega);rw [Int.mul_zero]at h5;have e:(y-1)*(x/y+1)=y*(x/y)+y-x/y-1:=by grind
  omega
def DJ {n:Nat} {a b:aC} (h:aT n a=true) (g:aT n b=true) (hb:0<aj b) (hn:1<=n):aT n (cn a b)=true:=by
 have hv:=yY h g hb;have ha:=jI h hn;have hd:=Un (aj a) hb;have hk:∀z:Int,z=aj a/aj b->(z.natAbs:Int)<18446744073709551616^n:=fun z hz=>by subst hz;omega
 unfold cn at hv ⊢;split
 .exact(jJ (hk _ rfl)).1
 .rename_i hc;rw [if_neg hc]at hv;split
  .rename_i hlt;rw [if_pos hlt,val_sub]at hv;exact q6 (by rw [eK];exact hk _ ω)
  .rename_i hlt;rw [if_neg hlt]at hv;unfold kE at hv ⊢;rw [val_mk]at hv;exact(jJ (hk _ hv)).1
section
variable {n:Nat} {a b:aC} (g:aT n b=true) (hb:0<aj b) (hn:1<=n)
def Uo:((aj a%aj b).natAbs:Int)<18446744073709551616^n:=by
 have h1:=dr (aj a) (show aj b≠0 by omega);have h2:=c7 (aj a) hb;have h3:=jI g hn;omega
def ahR:aT n (io a b)=true:=(jJ (Uo g hb hn)).1
end
section
variable (a b:aC) (h:ay a=true) (g:ay b=true) (hb:0<aj b)
def MA (hc:¬(iy a&&(iy b&& !(a.1== -9223372036854775808)))=true) (w:World) (F:Sv.Env):
  aU prog w F 84 ((fl uO []).drop 3) (uP a b).T (uP a b).H (hG prog false f171 (.tuple [aA (cn a b),aA (io a b)])):=by
 have hS:=Uk;obtain⟨q0,er,r1,eb,hv⟩:=Ul h g hb;obtain⟨a1,a2,a3,a4,a5⟩:=cf h;obtain⟨b1,b2,b3,b4,gy⟩:=cf g;have hD:pR (aB a) (aB b)=true:=by
  unfold pR;have hne:1<=(aB b).length:=by
   cases hl:aB b with
   |nil=>rw [hl]at eb;have:ak []=0:=rfl;omega
   |cons _ _=>simp
  rw [show mR (aB a) (aB b)=true from LV h g,az hne,az (show(aB a).length<=300000 by omega),az (show(aB b).length<=300000 by omega)];rfl
 have Up:=yL q0;have Uq:=yL er;have ha:=jI h δ;have ij:=jI g δ;have auu:ak (aB a)/ak (aB b)<=ak (aB a):=Int.ediv_le_self _ ω;have okQ:ay (kE a b)=true:=by
  refine(jJ ?_).1;rw [LS (bY a) (w:=e7 (aB a) (aB b)) (qX (b:=18446744073709551616) δ q0).1,show ak (e7 (aB a) (aB b))=_ from wN q0];omega
 have MB:ay (gS a b)=true:=by
  refine(jJ ?_).1;rw [LS (bY a) (w:=cI (aB a) (aB b)) (qX (b:=18446744073709551616) δ er).1,show ak (cI (aB a) (aB b))=_ from wN er];omega
 by_cases hlt:aj (gS a b)<0
 .have e1:cn a b=cz (kE a b) (1,[]):=by unfold cn;rw [if_neg hc,if_pos hlt]
  have hval:aj (b8 (gS a b) b)=aj a%aj b:=by rw [nI];omega
  have e2:b8 (gS a b) b=io a b:=by
   have ho:ay (b8 (gS a b) b)=true:=q6 (by rw [<-nI,hval];exact Uo g hb δ);have:=Gr ho (by rw [hval];have:=dr (aj a) (show aj b≠0 by omega);omega);rw [hval]at this;exact this
  rw [e1,<-e2];have one:ay ((1:Int),([]:List Int))=true:=rfl;exact bX (s:=uP a b) hS (ahP a b h g hD Up Uq MB (by unfold fk;exact Int.lt_of_le_of_lt (Int.le_of_eq (Gs hlt)) δ) (by rw [ae];exact⟨okQ,one⟩) (by rw [ae];exact⟨MB,g⟩) rfl rfl rfl rfl)
 .have e1:cn a b=kE a b:=by unfold cn;rw [if_neg hc,if_neg hlt]
  have e2:gS a b=io a b:=by
   unfold io;have:aj (gS a b)=aj a%aj b:=by omega
   rw [<-this];unfold gS;rw [val_mk]
  rw [e1,<-e2];exact aU.uw (s:=uP a b) known mixed hS _ (ahQ a b h g hD Up Uq MB (by
   show¬jH (aj (gS a b))<0;unfold jH;rw [if_neg hlt];split<;>decide) rfl rfl rfl rfl) fun T H h=>h
def ahS:Holds prog false 171 [aA a,aA b] (.tuple [aA (cn a b),aA (io a b)]):=by
 have hS:=Uk;refine bL (c:=uO) func171 rfl rfl fun w F=> ?_
 by_cases ha:a.2=[]
 .have LX:=yM h ha;by_cases lK:b.2=[]
  .have hrb:=yM g lK;by_cases hm:a.1= -9223372036854775808
   .refine cJ hS 3 (ahO a b (dy.2 ha) (dy.2 lK) hm) (MA a b h g hb (fun hh=> ?_) w F);simp only [ae,Bool.not_eq_true',e8]at hh;exact hh.2.2 hm
   .have Ur:=lT ha;have MC:=lT lK;rw [MC]at hb;have hc:(iy a&&(iy b&& !(a.1== -9223372036854775808)))=true:=by
     rw [dy.2 ha,dy.2 lK,e8.2 hm];rfl
    have ug:=Int.tmod_add_mul_tdiv a.1 b.1;have uL:=dr a.1 (show b.1≠0 by omega);have lQ:=c7 a.1 hb;have TZ:=Int.emod_add_mul_ediv a.1 b.1;have GY:=Un a.1 hb;have ahT:cn a b=(a.1/b.1,[]):=by
     unfold cn;rw [if_pos hc,Ur,MC];exact sw ω
    have ahU:io a b=(a.1%b.1,[]):=by
     unfold io;rw [Ur,MC];exact sw ω
    rw [ahT,ahU];by_cases hneg:0<=a.1
    .have e1:a.1.tdiv b.1=a.1/b.1:=Int.tdiv_eq_ediv_of_nonneg hneg;have e2:a.1.tmod b.1=a.1%b.1:=Int.tmod_eq_emod_of_nonneg hneg;have:=aU.ret (P:=prog) (w0:=w) (F:=F) (X:=pz) known mixed hS 3 _ (Uj a b (dy.2 ha) (dy.2 lK) hm ω (by rw [e1];omega) (by rw [e2];omega)) fun T H h=>h
     rw [e1,e2]at this;exact this
    .have e1:a.1.tdiv b.1= -((-a.1)/b.1):=by
      have:=Int.neg_tdiv (a:= -a.1) (b:=b.1);rw [Int.neg_neg]at this;rw [this,Int.tdiv_eq_ediv_of_nonneg ω]
     have n1:=Int.emod_add_mul_ediv (-a.1) b.1;have n2:=dr (-a.1) (show b.1≠0 by omega);have n3:=c7 (-a.1) hb;have sC:0<=(-a.1)/b.1:=Int.ediv_nonneg ω ω;have T4:(-a.1)/b.1<= -a.1:=Int.ediv_le_self _ ω;have e2:a.1.tmod b.1= -((-a.1)%b.1):=by
      rw [e1,Int.mul_neg]at ug;omega
     have bV:a.1.tdiv b.1*b.1= -(b.1*(-a.1/b.1)):=by rw [e1,Int.neg_mul,Int.mul_comm]
     by_cases hr:(-a.1)%b.1=0
     .obtain⟨k1,k2⟩:=yQ (U:=a.1) (V:=b.1) (t:=a.1.tdiv b.1) hb (by rw [bV];omega) (by rw [bV];omega);have:=aU.ret (P:=prog) (w0:=w) (F:=F) (X:=pz) known mixed hS 3 _ (Uj a b (dy.2 ha) (dy.2 lK) hm ω ω ω) fun T H h=>h
      rw [<-k1,show a.1.tmod b.1=a.1%b.1 by omega]at this;exact this
     .have e3:(a.1.tdiv b.1-1)*b.1= -(b.1*(-a.1/b.1))-b.1:=by rw [Int.sub_mul,Int.one_mul,bV]
      obtain⟨k1,k2⟩:=yQ (U:=a.1) (V:=b.1) (t:=a.1.tdiv b.1-1) hb (by rw [e3];omega) (by rw [e3];omega);have:=aU.ret (P:=prog) (w0:=w) (F:=F) (X:=pz) known mixed hS 3 _ (ahL a b (dy.2 ha) (dy.2 lK) hm ω ω ω ω ω) fun T H h=>h
      rw [<-k1,show a.1.tmod b.1+b.1=a.1%b.1 by rw [k2,e3];omega]at this;exact this
  .exact aU.to known mixed hS 3 _ (ahN a b (dy.2 ha) (su.2 lK)) (by kernel_rfl) (MA a b h g hb (fun hh=>by
    simp only [ae]at hh;exact lK (dy.1 hh.2.1)) w F)
 .exact aU.to known mixed hS 3 _ (ahM a b (su.2 ha)) (by kernel_rfl) (MA a b h g hb (fun hh=>by
   simp only [ae]at hh;exact ha (dy.1 hh.1)) w F)
end
def yZ {a b:aC}:lf a b=true↔ay a=true/\ay b=true/\0<aj b:=by
 unfold lf;simp only [ae,bE,and_assoc]
def MD:GX.Ok prog:=fun⟨a,b,_⟩ h=>by
 obtain⟨h1,h2,h3⟩:=yZ.1 (show lf a b=true from h);exact ahS a b h1 h2 h3
def y4:=k_a f121
def ME:=k_a f148
def y5:=k_a f83
def y6:=bc [TJ,wL,GX,yK]
abbrev wX:List Nat:=[1,1,0,0,0]
section
variable (a b:aC)
def sM:bD:={n:=23,sl:=[(2, .ptr 64 0),(3, .ptr 65 0),(4, .ptr 66 0)],bJ:=[(64,eu a),(65,eu b),(66,b0)],next:=67}
def ahV (h1:(ay a)=true) (h2:(ay b)=true):
  cZ y6 (fl y4 []) 2 23 [aA a,aA b] 1 .normal s3 (sM (pL a) (pL b)):=
 wy [af (aF (v:=aA a)),af h1,af (aF (v:=aA b)),af h2] 67907713
def ahW (h1:(ay b)=true) (h2:¬fk b=0) (h3:(lf a b)=true):
  bt y6 (fl y4 wX) (sM a b) 3 .normal s3 (sM b (io a b)):=
 wy [af h1,af (gC.mpr h2),af h3,af (aF (v:=aA b)),af (aF (v:=aA (io a b)))] 5453656193
def ahX (h1:(ay b)=true) (h2:fk b=0):
  bt y6 (fl y4 wX) (sM a b) 2 (.exit 0) s3 (sM a b):=
 wy [af h1,af (eR.mpr h2)] 129
def ahY:
  bS y6 ((fl y4 []).drop 3) (sM a b) 1 f121 false (aA a):=
 wy [] 0
def ahZ (h1:(ay b)=true) (h2:fk b<0) (h3:(ay a)=true) (h4:(lf (e6 a) (e6 b))=true):
  bh y6 (fl ME []) 9 21 [aA a,aA b] 3 f148 false (aA (cn (e6 a) (e6 b))):=
 wy [af h1,ah h2,af (aF (v:=aA a)),af h3,af (aF (v:=aA b)),af h4] 26462452199553
def ah0 (h1:(ay b)=true) (h2:¬fk b<0) (h3:(lf a b)=true):
  bh y6 (fl ME []) 9 21 [aA a,aA b] 2 f148 false (aA (cn a b)):=
 wy [af h1,aJ h2,af h3] 12417
def d9:Int×List Int:=aY (Int.gcd (aj a) (aj b))
noncomputable def fD:Int×List Int:=if aj b<0 then cn (e6 a) (e6 b)else cn a b
def eO:Bool:=(ay a&&ay b)&& !(aj b==0)
end
def GZ:=IN 121 [cS,cS] [cS] false (fun d=>ay d.1&&ay d.2.1) fun d=>(d9 d.1 d.2.1,())
def G0:=IN 148 [cS,cS] [cS] false (fun d=>eO d.1 d.2.1) fun d=>(fD d.1 d.2.1,())
def Us:bC prog (bF y6):=cK (aP af5 (aP yN (aP MD (aP A4 dQ))))
def Ut {a:aC}:fk a=0↔aj a=0:=by
 unfold fk jH;split
 .constructor
  .intro h;exact absurd h δ
  .intro h;omega
 .split
  .simp [*]
  .constructor
   .intro h;exact absurd h δ
   .intro h;omega
def G1 {a:aC}:fk a<0↔aj a<0:=by
 unfold fk jH;split
 .simp [*]
 .split
  .simp [*]
  .constructor
   .intro h;exact absurd h δ
   .intro h;omega
def Uu {a:aC} (h:ay a=true):ay (pL a)=true:=by
 have:=jI h δ;exact(jJ (by rw [Int.natAbs_natCast];exact this)).1
def Uv {x y:Int} (hx:0<=x) (hy:0<y):Int.gcd y (x%y)=Int.gcd x y:=by
 obtain⟨m,rfl⟩:∃m:Nat,x=(m:Int):=⟨x.toNat,by omega⟩;obtain⟨n,rfl⟩:∃n:Nat,y=(n:Int):=⟨y.toNat,by omega⟩;rw [<-Int.natCast_emod];show Nat.gcd n (m%n)=Nat.gcd m n;rw [Nat.gcd_comm n,<-Nat.gcd_rec,Nat.gcd_comm]
def ah1 (a b:aC) (h:ay a=true) (g:ay b=true):Holds prog false 121 [aA a,aA b] (aA (d9 a b)):=by
 have hS:=Us;refine bL (c:=y4) func121 rfl rfl fun w F=> ?_
 refine cJ hS 2 (ahV a b h g) ?_;refine aU.loop (ι:={x:aC×aC//ay x.1=true/\ay x.2=true/\0<=aj x.1/\0<=aj x.2/\Int.gcd (aj x.1) (aj x.2)=Int.gcd (aj a) (aj b)}) (id:=0) (b:=cat y4 wX) (rest:=(fl y4 []).drop 3) (by kernel_rfl) (fun x=>sM x.1.1 x.1.2) (fun x=>(aj x.1.2).natAbs)
  ⟨(pL a,pL b),Uu h,Uu g,by rw [GC];omega,by rw [GC];omega,by rw [GC,GC];rfl⟩ (fun _=>rfl) ?_
 rintro⟨⟨x,y⟩,hx,hy,hx0,hy0,hg⟩;have hx:ay x=true:=hx;have hy:ay y=true:=hy;have hx0:0<=aj x:=hx0;have hy0:0<=aj y:=hy0;have hg:Int.gcd (aj x) (aj y)=Int.gcd (aj a) (aj b):=hg;by_cases hz:aj y=0
 .refine bx (s:=sM x y) hS (ahX x y hy (Ut.2 hz)) ?_;refine cy (cF ?_);have e:x=d9 a b:=by
   have h1:=Gr hx ω;unfold d9;rw [<-hg,hz];have:((Int.gcd (aj x) 0:Nat):Int)=aj x:=by
    show((Nat.gcd (aj x).natAbs 0:Nat):Int)=_;rw [Nat.gcd_zero_right];omega
   rw [this];exact h1
  rw [<-e];exact bX (s:=sM x y) hS (ahY x y)
 .have hyp:0<aj y:=by omega
  have hm0:=dr (aj x) hz;have pN:=c7 (aj x) hyp;refine bx (s:=sM x y) hS (ahW x y hy (fun hh=>hz (Ut.1 hh)) (yZ.2 ⟨hx,hy,hyp⟩)) ?_;refine⟨⟨(y,io x y),hy,ahR hy hyp δ,hy0,by show 0<=aj (io x y);rw [Mz];exact hm0, ?_⟩, ?_,rfl,rfl⟩
  .show Int.gcd (aj y) (aj (io x y))=_;rw [Mz,Uv hx0 hyp,hg]
  .show(aj (io x y)).natAbs<(aj y).natAbs;rw [Mz];omega
def MF:GZ.Ok prog:=fun⟨a,b,_⟩ h=>by
 have h:(ay a&&ay b)=true:=h;rw [ae]at h;exact ah1 a b h.1 h.2
def ah2 (a b:aC) (h:ay a=true) (g:ay b=true) (hb:aj b≠0):Holds prog false 148 [aA a,aA b] (aA (fD a b)):=by
 have hS:=Us;refine bL (c:=ME) func148 rfl rfl fun w F=> ?_
 by_cases hn:aj b<0
 .have e:fD a b=cn (e6 a) (e6 b):=by unfold fD;rw [if_pos hn]
  rw [e];exact bw hS 9 (ahZ a b g (G1.2 hn) h (yZ.2 ⟨oo h δ,oo g δ,by show 0<aj (e6 b);rw [eK];omega⟩))
 .have e:fD a b=cn a b:=by unfold fD;rw [if_neg hn]
  rw [e];exact bw hS 9 (ah0 a b g (fun hh=>hn (G1.1 hh)) (yZ.2 ⟨h,g,by show 0<aj b;omega⟩))
def fa {a b:aC}:eO a b=true↔ay a=true/\ay b=true/\aj b≠0:=by
 unfold eO;simp only [ae,Bool.not_eq_true',e8,and_assoc]
def MG:G0.Ok prog:=fun⟨a,b,_⟩ h=>by
 obtain⟨h1,h2,h3⟩:=fa.1 (show eO a b=true from h);exact ah2 a b h1 h2 h3
section
variable {n:Nat} {a b:aC} (h:aT n a=true) (g:aT n b=true)
def Uw (hn:1<=n) (hb:aj b≠0) {c:Int} (hc:aj a=aj b*c):aj (fD a b)=c:=by
 unfold fD;split
 .rw [yY (oo h hn) (oo g hn) (by rw [eK];omega),eK,eK,hc,<-Int.neg_mul];exact Int.mul_ediv_cancel_left _ ω
 .rw [yY h g ω,hc];exact Int.mul_ediv_cancel_left _ hb
def MH (hn:1<=n) (hb:aj b≠0):aT n (fD a b)=true:=by
 unfold fD;split
 .exact DJ (oo h hn) (oo g hn) (by rw [eK];omega) hn
 .exact DJ h g ω hn
end
abbrev fT:av:= .pair cS cS
abbrev bB:=(Int×List Int)×(Int×List Int)
abbrev bM (a:bB):aa:= .agg [iv a.1.1, .bn true aE a.1.2,iv a.2.1, .bn true aE a.2.2]
abbrev uQ:fJ:= .blk (.cells 85 [iv 0, .raw (.slice none 0 0),iv 0, .raw (.slice none 0 0)] true false false)
def sN (a b:aC):bD:={n:=34,sl:=[(2, .ptr 64 0),(3, .ptr 65 0),(4, .ptr 66 0)],bJ:=[(64,eu a),(65,eu b),(66,uQ)],next:=67}
def Bi:=bc [wL,yK,GZ,G0]
section
variable (a b:aC)
def ah3 (h1:(ay b)=true) (h2:fk b<0) (h3:(ay a)=true):
  cZ Bi (fl y5 []) 3 34 [aA a,aA b] 3 .normal s3 (sN (e6 a) (e6 b)):=
 wy [af h1,ah h2,af (aF (v:=aA a)),af h3,af (aF (v:=aA b))] 74173132929
def ah4 (h1:(ay b)=true) (h2:¬fk b<0):
  cZ Bi (fl y5 []) 3 34 [aA a,aA b] 2 .normal s3 (sN a b):=
 wy [af h1,aJ h2] 129
def ah5 (h1:b.2.isEmpty=true) (h2:b.1=1):
  bS Bi ((fl y5 []).drop 3) (sN a b) 63 f83 false (bM (a,b)):=
 wy [af (aM (aM (h1))),af (aM (h1)),cX h2] 50860097
def ah6 (h1:b.2.isEmpty=true) (h2:¬b.1=1) (h3:(ay a&&ay b)=true) (h4:(eO a (d9 a b))=true) (h5:(eO b (d9 a b))=true):
  bS Bi ((fl y5 []).drop 3) (sN a b) 47 f83 false (bM (fD a (d9 a b),fD b (d9 a b))):=
 wy [af (aM (aM (h1))),af (aM (h1)),yn h2,af h3,af (aF (v:=aA a)),af (aF (v:=aA (d9 a b))),af h4,af (aF (v:=aA b)),af h5] 2748869384372188533493825
def ah7 (h1:b.2.isEmpty=false) (h2:(ay a&&ay b)=true) (h3:(eO a (d9 a b))=true) (h4:(eO b (d9 a b))=true):
  bS Bi ((fl y5 []).drop 3) (sN a b) 32 f83 false (bM (fD a (d9 a b),fD b (d9 a b))):=
 wy [af (aM (aM (h1))),af (aM (h1)),af h2,af (aF (v:=aA a)),af (aF (v:=aA (d9 a b))),af h3,af (aF (v:=aA b)),af h4] 2441840604787520773296193
noncomputable def Bj:(Int×List Int)×(Int×List Int):=if iy b&&(b.1==1)then(a,b)else(fD a (d9 a b),fD b (d9 a b))
noncomputable def cT:(Int×List Int)×(Int×List Int):=if fk b<0 then Bj (e6 a) (e6 b)else Bj a b
end
def Bk:=IN 83 [cS,cS] [fT] false (fun d=>eO d.1 d.2.1) fun d=>(cT d.1 d.2.1,())
def Ux:bC prog (bF Bi):=cK (aP yN (aP A4 (aP MF (aP MG dQ))))
def G2 (a b:aC):aj (d9 a b)=(Int.gcd (aj a) (aj b):Int):=val_mk _
def Uy {n:Nat} {a b:aC} (g:aT n b=true) (hn:1<=n) (hb:aj b≠0):aT n (d9 a b)=true:=by
 have h1:=jI g hn;have h2:((Int.gcd (aj a) (aj b):Nat):Int)<=((aj b).natAbs:Int):=by
  have:Int.gcd (aj a) (aj b)<=(aj b).natAbs:=Nat.gcd_le_right _ ω;omega
 exact(jJ (by rw [Int.natAbs_natCast];omega)).1
def ah8 {a b:aC} (h:ay a=true) (g:ay b=true) (hb:aj b≠0):eO a (d9 a b)=true/\eO b (d9 a b)=true:=by
 have h0:0<Int.gcd (aj a) (aj b):=Int.gcd_pos_of_ne_zero_right _ hb;have h1:aj (d9 a b)≠0:=by rw [G2];omega
 have h2:ay (d9 a b)=true:=Uy g δ hb;exact⟨fa.2 ⟨h,h2,h1⟩,fa.2 ⟨g,h2,h1⟩⟩
def Uz {a:aC}:iy a=true↔a.2=[]:=by
 unfold iy;exact List.isEmpty_iff
section
variable (a b:aC) (h:ay a=true) (g:ay b=true) (hb:aj b≠0)
def xf (w:World) (F:Sv.Env):
  aU prog w F 34 ((fl y5 []).drop 3) (sN a b).T (sN a b).H (hG prog false f83 (bM (Bj a b))):=by
 have hS:=Ux;obtain⟨q1,aQ⟩:=ah8 h g hb;have hab:(ay a&&ay b)=true:=by rw [h,g];rfl
 unfold Bj;by_cases he:b.2.isEmpty=true
 .by_cases h1:b.1=1
  .rw [if_pos (by rw [show iy b=true from he,h1];rfl)];exact bX (s:=sN a b) hS (ah5 a b he h1)
  .rw [if_neg (by rw [show iy b=true from he];simpa using h1)];exact bX (s:=sN a b) hS (ah6 a b he h1 hab q1 aQ)
 .rw [if_neg (by rw [show iy b=b.2.isEmpty from rfl];simp [he])];exact bX (s:=sN a b) hS (ah7 a b (by simpa using he) hab q1 aQ)
def ah9:Holds prog false 83 [aA a,aA b] (bM (cT a b)):=by
 have hS:=Ux;refine bL (c:=y5) func83 rfl rfl fun w F=> ?_
 unfold cT;by_cases hs:fk b<0
 .rw [if_pos hs];refine cJ hS 3 (ah3 a b g hs h) ?_;exact xf _ _ (oo h δ) (oo g δ) (by rw [eK];omega) w F
 .rw [if_neg hs];refine cJ hS 3 (ah4 a b g hs) ?_;exact xf _ _ h g hb w F
end
def DK:Bk.Ok prog:=fun⟨a,b,_⟩ h=>by
 obtain⟨h1,h2,h3⟩:=fa.1 (show eO a b=true from h);exact ah9 a b h1 h2 h3
structure Bl (n:Nat) (q:bB) (x y:Int):Prop where
 o1:aT n q.1=true
 o2:aT n q.2=true
 pos:0<aj q.2
 low:Int.gcd (aj q.1) (aj q.2)=1
 val:aj q.1*y=x*aj q.2
section
variable {n:Nat} {a b:aC} (h:aT n a=true) (g:aT n b=true) (hn:1<=n)
def UA (hb:0<aj b):Bl n (Bj a b) (aj a) (aj b):=by
 unfold Bj;split
 .rename_i hc;rw [ae]at hc;have hv:aj b=1:=by unfold aj;rw [if_pos (Uz.1 hc.1)];simpa using hc.2
  exact⟨h,g,hb,by show Int.gcd (aj a) (aj b)=1;rw [hv];exact Int.gcd_one,rfl⟩
 .have hg:0<Int.gcd (aj a) (aj b):=Int.gcd_pos_of_ne_zero_right _ ω;have G3:=Uy (a:=a) g hn ω;have G4:aj (d9 a b)≠0:=by rw [G2];omega
  have e1:aj a=aj (d9 a b)*(aj a/(Int.gcd (aj a) (aj b):Int)):=by rw [G2];exact(Int.mul_ediv_cancel' (Int.gcd_dvd_left _ _)).symm
  have e2:aj b=aj (d9 a b)*(aj b/(Int.gcd (aj a) (aj b):Int)):=by rw [G2];exact(Int.mul_ediv_cancel' (Int.gcd_dvd_right _ _)).symm
  have v1:=Uw h G3 hn G4 e1;have v2:=Uw g G3 hn G4 e2;refine⟨MH h G3 hn G4,MH g G3 hn G4, ?_, ?_, ?_⟩
  .show 0<aj (fD b (d9 a b));rw [v2];exact Int.ediv_pos_of_pos_of_dvd hb ω (Int.gcd_dvd_right _ _)
  .show Int.gcd (aj (fD a (d9 a b))) (aj (fD b (d9 a b)))=1;rw [v1,v2];exact Int.gcd_ediv_gcd_ediv_gcd hg
  .show aj (fD a (d9 a b))*aj b=aj a*aj (fD b (d9 a b));rw [v1,v2];generalize aj a/(Int.gcd (aj a) (aj b):Int)=x at*;generalize aj b/(Int.gcd (aj a) (aj b):Int)=y at*;grind
def y7 (hb:aj b≠0):Bl n (cT a b) (aj a) (aj b):=by
 unfold cT;split
 .rename_i hs;have hs:=G1.1 hs;have:=UA (oo h hn) (oo g hn) hn (by rw [eK];omega);refine⟨this.o1,this.o2,this.pos,this.low, ?_⟩;have hv:=this.val;rw [eK,eK]at hv;rw [Int.mul_neg,Int.neg_mul]at hv;omega
 .rename_i hs;have h0:¬aj b<0:=fun hh=>hs (G1.2 hh)
  exact UA h g hn ω
end
def UB {x y u v:Int} (hy:0<y) (hv:0<v) (g1:Int.gcd x y=1) (g2:Int.gcd u v=1) (h:x*v=u*y):x=u/\y=v:=by
 have d1:y∣v:=by
  have h1:y.natAbs∣v.natAbs:=by
   refine Nat.Coprime.dvd_of_dvd_mul_left (k:=y.natAbs) (m:=x.natAbs) (n:=v.natAbs) ?_ ?_
   .show Nat.gcd _ _=1;rw [Nat.gcd_comm];exact g1
   .rw [<-Int.natAbs_mul,h,Int.natAbs_mul];exact Nat.dvd_mul_left _ _
  exact Int.natAbs_dvd_natAbs.1 h1
 have d2:v∣y:=by
  have h1:v.natAbs∣y.natAbs:=by
   refine Nat.Coprime.dvd_of_dvd_mul_left (k:=v.natAbs) (m:=u.natAbs) (n:=y.natAbs) ?_ ?_
   .show Nat.gcd _ _=1;rw [Nat.gcd_comm];exact g2
   .rw [<-Int.natAbs_mul,<-h,Int.natAbs_mul];exact Nat.dvd_mul_left _ _
  exact Int.natAbs_dvd_natAbs.1 h1
 have e:=Int.dvd_antisymm ω ω d1 d2;subst e;exact⟨Int.eq_of_mul_eq_mul_right ω h,rfl⟩
def UC:=k_a f80
def UD:=k_a f79
def UE:=k_a f57
def MI:=k_a f124
def UF:=k_a f63
def UG:=k_a f152
def G5:=k_a f58
def UH:=k_a f56
def UI:=k_a f125
def UJ:=k_a f92
def UK:=k_a f149
def sO:=bc [wM,uE,Bk,yK,wL,A5,GX]
def hO (a:bB):Bool:=iy a.2&&(a.2.1==1)
def aia (n:Int):
  bh sO (fl UC []) 9 5 [iv n] 1 f80 false (aA (n,[])):=
 wy [] 0
def aib (a:bB) (h1:a.2.2.isEmpty=true):
  bh sO (fl MI []) 9 13 [bM a] 63 f124 true (bv (a.2.1==1)):=
 wy [af (aM (aM (h1))),af (aM (h1))] 33820737
def aic (a:bB) (h1:a.2.2.isEmpty=false):
  bh sO (fl MI []) 9 13 [bM a] 32 f124 true (bv false):=
 wy [af (aM (aM (h1))),af (aM (h1))] 33820737
def aid (a:bB) (h1:(ay a.1)=true):
  bh sO (fl UF []) 9 6 [bM a] 1 f63 true (iv (fk a.1)):=
 wy [af h1] 1
def aie (a:bB) (h1:(ay a.1)=true):
  bh sO (fl UG []) 9 9 [bM a] 1 f152 false (bM (e6 a.1,a.2)):=
 wy [af (aF (v:=aA a.1)),af h1,af (aF (v:=aA a.2))] 798849
def aif (a b:bB) (h1:(ay a.1&&ay b.1)=true) (h2:(ay a.2&&ay b.2)=true) (h3:(eO (a7 a.1 b.1) (a7 a.2 b.2))=true):
  bh sO (fl UH []) 9 16 [bM a,bM b] 1 f56 false (bM (cT (a7 a.1 b.1) (a7 a.2 b.2))):=
 wy [af (aF (v:=aA a.1)),af (aF (v:=aA b.1)),af h1,af (aF (v:=aA a.2)),af (aF (v:=aA b.2)),af h2,af h3] 1997062150303873
def aih (a:bB) (h1:(eO a.2 a.1)=true):
  bh sO (fl UI []) 9 8 [bM a] 1 f125 false (bM (cT a.2 a.1)):=
 wy [af h1] 1
def aii (a b:bB) (h1:(ay a.1&&ay b.2)=true) (h2:(ay b.1&&ay a.2)=true) (h3:(aT 50000 (a7 a.1 b.2)&&aT 50000 (a7 b.1 a.2))=true):
  bh sO (fl UJ []) 9 16 [bM a,bM b] 1 f92 true (iv (fM (a7 a.1 b.2) (a7 b.1 a.2))):=
 wy [af (aF (v:=aA a.1)),af (aF (v:=aA b.2)),af h1,af (aF (v:=aA b.1)),af (aF (v:=aA a.2)),af h2,af h3] 1997062150303873
def aij (a:bB) (h1:(lf a.1 a.2)=true):
  bh sO (fl UK []) 9 14 [bM a] 1 f149 false (aA (cn a.1 a.2)):=
 wy [af h1] 1
def okQ (n:Nat) (q:bB):Bool:=aT n q.1&&(aT n q.2&&decide (0<aj q.2))
def aV (n:Int):Int×List Int:=(n,[])
def dH (n:aC):(Int×List Int)×(Int×List Int):=(n,(1,[]))
noncomputable def y8 (a:bB):(Int×List Int)×(Int×List Int):=(e6 a.1,a.2)
noncomputable def Ib (a b:bB):(Int×List Int)×(Int×List Int):=cT (a7 a.1 b.1) (a7 a.2 b.2)
noncomputable def kf (a:bB):(Int×List Int)×(Int×List Int):=cT a.2 a.1
noncomputable def mS (a b:bB):Int:=fM (a7 a.1 b.2) (a7 b.1 a.2)
noncomputable def zf (a b:bB):(Int×List Int)×(Int×List Int):=if hO a&&hO b then(b8 a.1 b.1,(1,[]))else cT (b8 (a7 a.1 b.2) (a7 b.1 a.2)) (a7 a.2 b.2)
def ru:=IN 80 [.int .i64] [cS] false (fun d=>true) fun d=>(aV d.1,())
def Bm:=IN 79 [cS] [fT] false (fun d=>true) fun d=>(dH d.1,())
def UL:=IN 57 [.int .i64] [fT] false (fun d=>true) fun d=>(dH (aV d.1),())
def G6:=IN 124 [fT] [.bool] true (fun d=>true) fun d=>(hO d.1,())
def MJ:=IN 63 [fT] [.int .i64] true (fun d=>ay d.1.1) fun d=>(fk d.1.1,())
def MK:=IN 152 [fT] [fT] false (fun d=>ay d.1.1) fun d=>(y8 d.1,())
def ML:=IN 56 [fT,fT] [fT] false (fun d=>okQ 20000 d.1&&okQ 20000 d.2.1) fun d=>(Ib d.1 d.2.1,())
def G7:=IN 125 [fT] [fT] false (fun d=>eO d.1.2 d.1.1) fun d=>(kf d.1,())
def G8:=IN 92 [fT,fT] [.int .i64] true (fun d=>okQ 20000 d.1&&okQ 20000 d.2.1) fun d=>(mS d.1 d.2.1,())
def G9:=IN 149 [fT] [cS] false (fun d=>lf d.1.1 d.1.2) fun d=>(cn d.1.1 d.1.2,())
def MM:=IN 58 [fT,fT] [fT] false (fun d=>okQ 20000 d.1&&okQ 20000 d.2.1) fun d=>(zf d.1 d.2.1,())
def DL:=bc [ru,Bm,G6,wM,uE,Bk]
def aik (n:Int) (h1:(dH (aV n)).1.1=(n)) (h2:(dH (aV n)).1.2=(wC)) (h3:(dH (aV n)).2.1=(1)) (h4:(dH (aV n)).2.2=(wC)):
  bh DL (fl UE []) 9 6 [iv n] 1 f57 false (bM ((n,[]),(1,[]))):=
 wy [ax h1,ax h2,ax h3,ax h4] 4345827328
def ail (a b:bB) (h1:(hO a)=true) (h2:(hO b)=true) (h3:(ay a.1&&ay b.1)=true) (h4:(dH (b8 a.1 b.1)).1.1=(b8 a.1 b.1).1) (h5:(dH (b8 a.1 b.1)).1.2=(b8 a.1 b.1).2) (h6:(dH (b8 a.1 b.1)).2.1=(1)) (h7:(dH (b8 a.1 b.1)).2.2=(wC)):
  bh DL (fl G5 []) 9 34 [bM a,bM b] 31 f58 false (bM (b8 a.1 b.1,(1,[]))):=
 wy [af (aM (h1)),af h1,af h2,af h3,ax h4,ax h5,ax h6,ax h7] 598475754935026716736
def aim (a b:bB) (h1:(hO a)=true) (h2:(hO b)=false) (h3:(ay a.1&&ay b.2)=true) (h4:(ay b.1&&ay a.2)=true) (h5:(ay (a7 a.1 b.2)&&ay (a7 b.1 a.2))=true) (h6:(ay a.2&&ay b.2)=true) (h7:(eO (b8 (a7 a.1 b.2) (a7 b.1 a.2)) (a7 a.2 b.2))=true):
  bh DL (fl G5 []) 9 34 [bM a,bM b] 23 f58 false (bM (cT (b8 (a7 a.1 b.2) (a7 b.1 a.2)) (a7 a.2 b.2))):=
 wy [af (aM (h1)),af h1,af h2,af (aF (v:=aA a.1)),af (aF (v:=aA b.2)),af h3,af (aF (v:=aA b.1)),af (aF (v:=aA a.2)),af h4,af h5,af h6,af h7] 271469537658300528069794124337656264073941056
def ain (a b:bB) (h1:(hO a)=false) (h2:(ay a.1&&ay b.2)=true) (h3:(ay b.1&&ay a.2)=true) (h4:(ay (a7 a.1 b.2)&&ay (a7 b.1 a.2))=true) (h5:(ay a.2&&ay b.2)=true) (h6:(eO (b8 (a7 a.1 b.2) (a7 b.1 a.2)) (a7 a.2 b.2))=true):
  bh DL (fl G5 []) 9 34 [bM a,bM b] 16 f58 false (bM (cT (b8 (a7 a.1 b.2) (a7 b.1 a.2)) (a7 a.2 b.2))):=
 wy [af (aM (h1)),af h1,af (aF (v:=aA a.1)),af (aF (v:=aA b.2)),af h2,af (aF (v:=aA b.1)),af (aF (v:=aA a.2)),af h3,af h4,af h5,af h6] 3887731443394586653605839251940190814998592
def uR:bC prog (bF sO):=cK (aP yO (aP hJ (aP DK (aP A4 (aP yN (aP Dv (aP MD dQ)))))))
def fb {n:Nat} {q:bB}:okQ n q=true↔aT n q.1=true/\aT n q.2=true/\0<aj q.2:=by
 unfold okQ;simp only [ae,bE]
def Bl.ok {n:Nat} {q:bB} {x y:Int} (h:Bl n q x y):okQ n q=true:=fb.2 ⟨h.o1,h.o2,h.pos⟩
def dE {n m:Nat} {a b:aC} (h:aT n a=true) (g:aT m b=true) (hn:1<=n) (hm:1<=m):aT (n+m) (a7 a b)=true:=by
 have h1:=jI h hn;have h2:=jI g hm;refine(jJ ?_).1;rw [Int.natAbs_mul,Int.natCast_mul,Int.pow_add];have p:=dR (b:=18446744073709551616) δ n;generalize (18446744073709551616:Int)^n=P at*;generalize (18446744073709551616:Int)^m=Q at*;have e1:=ar (show((aj a).natAbs:Int)<=P by omega) (show(0:Int)<=((aj b).natAbs:Int) by omega);have e2:=Int.mul_lt_mul_of_pos_left h2 (show 0<P by omega);omega
def MN {n:Nat} {a b:aC} (h:aT n a=true) (g:aT n b=true) (hn:1<=n):aT (n+1) (b8 a b)=true:=by
 have h1:=jI h hn;have h2:=jI g hn;refine q6 ?_;rw [Int.pow_succ];have p:=dR (b:=18446744073709551616) δ n;generalize (18446744073709551616:Int)^n=P at*;omega
def MO {x y:Int} (hx:0<x) (hy:0<y):0<x*y:=Int.mul_pos hx hy
def aio (n:Int):Holds prog false 80 [iv n] (aA (aV n)):=by
 refine bL (c:=UC) func80 rfl rfl fun w F=> ?_
 exact bw uR 9 (aia n)
def uS:ru.Ok prog:=fun⟨n,_⟩ h=>aio n
def aip (a:bB):Holds prog true 124 [bM a] (bv (hO a)):=by
 refine bL (c:=MI) func124 rfl rfl fun w F=> ?_
 cases he:a.2.2.isEmpty with
 |true=>
  have e:hO a=(a.2.1==1):=by unfold hO;rw [show iy a.2=true from he];rfl
  rw [e];exact bw uR 9 (aib a he)
 |false=>
  have e:hO a=false:=by unfold hO;rw [show iy a.2=false from he];rfl
  rw [e];exact bw uR 9 (aic a he)
def MP:G6.Ok prog:=fun⟨a,_⟩ h=>aip a
def aiq (a:bB) (h:ay a.1=true):Holds prog true 63 [bM a] (iv (fk a.1)):=by
 refine bL (c:=UF) func63 rfl rfl fun w F=> ?_
 exact bw uR 9 (aid a h)
def UM:MJ.Ok prog:=fun⟨a,_⟩ h=>aiq a h
def air (a:bB) (h:ay a.1=true):Holds prog false 152 [bM a] (bM (y8 a)):=by
 refine bL (c:=UG) func152 rfl rfl fun w F=> ?_
 exact bw uR 9 (aie a h)
def UN:MK.Ok prog:=fun⟨a,_⟩ h=>air a h
def mT {a b:aC} (h:ay a=true) (g:ay b=true):(ay a&&ay b)=true:=by rw [h,g];rfl
def ais (a b:bB) (h:okQ 20000 a=true) (g:okQ 20000 b=true):Holds prog false 56 [bM a,bM b] (bM (Ib a b)):=by
 obtain⟨h1,h2,h3⟩:=fb.1 h;obtain⟨g1,g2,g3⟩:=fb.1 g;have m:= @a8 20000 100000;have m2:= @a8 (20000+20000) 100000;refine bL (c:=UH) func56 rfl rfl fun w F=> ?_
 exact aU.ret known mixed uR 9 _ (aif a b (mT (m δ h1) (m δ g1)) (mT (m δ h2) (m δ g2))
  (fa.2 ⟨m2 δ (dE h1 g1 δ δ),m2 δ (dE h2 g2 δ δ),by
    have:=MO h3 g3;show aj (a7 a.2 b.2)≠0;rw [de];omega⟩)) fun T H h=>h
def UO:ML.Ok prog:=fun⟨a,b,_⟩ h=>by
 have h:(okQ 20000 a&&okQ 20000 b)=true:=h;rw [ae]at h;exact ais a b h.1 h.2
def ait (a:bB) (h:eO a.2 a.1=true):Holds prog false 125 [bM a] (bM (kf a)):=by
 refine bL (c:=UI) func125 rfl rfl fun w F=> ?_
 exact bw uR 9 (aih a h)
def u4:G7.Ok prog:=fun⟨a,_⟩ h=>ait a h
def aiu {a b:aC} (h:aT 50000 a=true) (g:aT 50000 b=true):(aT 50000 a&&aT 50000 b)=true:=by rw [h,g];rfl
def aiv (a b:bB) (h:okQ 20000 a=true) (g:okQ 20000 b=true):Holds prog true 92 [bM a,bM b] (iv (mS a b)):=by
 obtain⟨h1,h2,h3⟩:=fb.1 h;obtain⟨g1,g2,g3⟩:=fb.1 g;have m:= @a8 20000 100000;have m2:= @a8 (20000+20000) 50000;refine bL (c:=UJ) func92 rfl rfl fun w F=> ?_
 exact aU.ret known mixed uR 9 _ (aii a b (mT (m δ h1) (m δ g2)) (mT (m δ g1) (m δ h2))
  (aiu (m2 δ (dE h1 g2 δ δ)) (m2 δ (dE g1 h2 δ δ)))) fun T H h=>h
def MQ:G8.Ok prog:=fun⟨a,b,_⟩ h=>by
 have h:(okQ 20000 a&&okQ 20000 b)=true:=h;rw [ae]at h;exact aiv a b h.1 h.2
def Id (a:bB) (h:lf a.1 a.2=true):Holds prog false 149 [bM a] (aA (cn a.1 a.2)):=by
 refine bL (c:=UK) func149 rfl rfl fun w F=> ?_
 exact bw uR 9 (aij a h)
def MR:G9.Ok prog:=fun⟨a,_⟩ h=>Id a h
def aiw (n:aC) (h1:n.1=(dH n).1.1) (h2:n.2=(dH n).1.2) (h3:(aV 1).1=(dH n).2.1) (h4:(aV 1).2=(dH n).2.2):
  bh (bc [ru]) (fl UD []) 9 6 [aA n] 1 f79 false (bM (dH n)):=
 wy [af (aF (v:=aA n)),ax h1,ax h2,ax h3,ax h4] 347943211009
def aix:bC prog (bF (bc [ru])):=cK (aP uS dQ)
def aiy (n:aC):Holds prog false 79 [aA n] (bM (dH n)):=by
 refine bL (c:=UD) func79 rfl rfl fun w F=> ?_
 exact bw aix 9 (aiw n rfl rfl rfl rfl)
def DM:Bm.Ok prog:=fun⟨n,_⟩ h=>aiy n
def UQ:bC prog (bF DL):=cK (aP uS (aP DM (aP MP (aP yO (aP hJ (aP DK dQ))))))
def aiz (n:Int):Holds prog false 57 [iv n] (bM (dH (aV n))):=by
 refine bL (c:=UE) func57 rfl rfl fun w F=> ?_
 exact bw UQ 9 (aik n rfl rfl rfl rfl)
def aiA:UL.Ok prog:=fun⟨n,_⟩ h=>aiz n
def aiB (a b:bB) (h:okQ 20000 a=true) (g:okQ 20000 b=true):Holds prog false 58 [bM a,bM b] (bM (zf a b)):=by
 obtain⟨h1,h2,h3⟩:=fb.1 h;obtain⟨g1,g2,g3⟩:=fb.1 g;have hS:=UQ;have m:= @a8 20000 100000;have m2:= @a8 (20000+20000) 100000;have m3:= @a8 (20000+20000+1) 100000;have p1:=mT (m δ h1) (m δ g1);have p2:=mT (m δ h1) (m δ g2);have p3:=mT (m δ g1) (m δ h2);have ec:=mT (m δ h2) (m δ g2);have o1:=dE h1 g2 δ δ;have o2:=dE g1 h2 δ δ;have kU:=mT (m2 δ o1) (m2 δ o2);have pq:eO (b8 (a7 a.1 b.2) (a7 b.1 a.2)) (a7 a.2 b.2)=true:=fa.2 ⟨m3 δ (MN o1 o2 δ),m2 δ (dE h2 g2 δ δ),by
   have:=MO h3 g3;rw [de];omega⟩
 refine bL (c:=G5) func58 rfl rfl fun w F=> ?_
 unfold zf;by_cases hw:hO a=true
 .by_cases lV:hO b=true
  .rw [if_pos (by rw [hw,lV];rfl)];exact bw hS 9 (ail a b hw lV p1 rfl rfl rfl rfl)
  .rw [if_neg (by rw [hw];simpa using lV)];exact bw hS 9 (aim a b hw (by simpa using lV) p2 p3 kU ec pq)
 .rw [if_neg (by simp [hw])];exact bw hS 9 (ain a b (by simpa using hw) p2 p3 kU ec pq)
def UR:MM.Ok prog:=fun⟨a,b,_⟩ h=>by
 have h:(okQ 20000 a&&okQ 20000 b)=true:=h;rw [ae]at h;exact aiB a b h.1 h.2
structure QR (n:Nat) (q:bB) (r:Rat):Prop where
 o1:aT n q.1=true
 o2:aT n q.2=true
 num:aj q.1=r.num
 den:aj q.2=r.den
def QR.ok {n:Nat} {q:bB} {r:Rat} (h:QR n q r):okQ n q=true:=fb.2 ⟨h.o1,h.o2,by rw [h.den];have:=r.den_pos;omega⟩
def QR.mono {n m:Nat} {q:bB} {r:Rat} (h:QR n q r) (hnm:n<=m):QR m q r:=⟨a8 hnm h.o1,a8 hnm h.o2,h.num,h.den⟩
def Bl.qr {n:Nat} {q:bB} {x y:Int} (h:Bl n q x y) (hy:y≠0):QR n q (Rat.divInt x y):=by
 have hd:((Rat.divInt x y).den:Int)≠0:=by have:=(Rat.divInt x y).den_pos;omega
 have e:(Rat.divInt x y).num*y=x*((Rat.divInt x y).den:Int):=(Rat.divInt_eq_divInt_iff hd hy).1 (Rat.num_divInt_den _);have g:Int.gcd (Rat.divInt x y).num ((Rat.divInt x y).den:Int)=1:=(Rat.divInt x y).reduced;have e2:aj q.1*((Rat.divInt x y).den:Int)=(Rat.divInt x y).num*aj q.2:=by
  have h1:=h.val;refine Int.eq_of_mul_eq_mul_right hy ?_;generalize (Rat.divInt x y).num=N at*;generalize ((Rat.divInt x y).den:Int)=D at*;grind
 obtain⟨h1,h2⟩:=UB h.pos ω h.low g e2;exact⟨h.o1,h.o2,h1,h2⟩
def QR.self {n:Nat} {q:bB} {r:Rat} (h:QR n q r):Rat.divInt (aj q.1) (aj q.2)=r:=by
 rw [h.num,h.den];exact Rat.num_divInt_den _
def QR.pos {n:Nat} {q:bB} {r:Rat} (h:QR n q r):0<aj q.2:=(fb.1 h.ok).2.2
section
variable {n:Nat}
def DN {a:aC} (h:aT n a=true):QR n (dH a) (aj a:Rat):=by
 refine⟨h, ?_,rfl,rfl⟩;exact(nH (n:=n) (a:=(1,[])) rfl).trans δ
def US {a:bB} {r:Rat} (h:QR n a r) (hw:hO a=true):r=(aj a.1:Rat):=by
 unfold hO at hw;rw [ae]at hw;have hv:aj a.2=1:=by unfold aj;rw [if_pos (Uz.1 hw.1)];simpa using hw.2
 have hd:=h.den;refine Rat.ext ?_ ?_
 .rw [h.num];rfl
 .show r.den=1;omega
def aiC {a b:bB} {r s:Rat} (h:QR n a r) (g:QR n b s) (hn:1<=n):QR (n+n+1) (zf a b) (r+s):=by
 unfold zf;split
 .rename_i hw;rw [ae]at hw;have:=DN (MN h.o1 g.o1 hn);rw [nI,Rat.intCast_add,<-US h hw.1,<-US g hw.2]at this;exact this.mono ω
 .have p:=MO h.pos g.pos;have:=(y7 (MN (dE h.o1 g.o2 hn hn) (dE g.o1 h.o2 hn hn) ω) (a8 (Nat.le_succ _) (dE h.o2 g.o2 hn hn)) ω (by rw [de];omega)).qr (by rw [de];omega);rw [nI,de,de,de,<-Rat.divInt_add_divInt _ _ (by have:=h.pos;omega) (by have:=g.pos;omega),h.self,g.self]at this;exact this
def ON {a:bB} {r:Rat} (h:QR n a r) (hn:1<=n):QR n (y8 a) (-r):=
 ⟨oo h.o1 hn,h.o2,by show aj (e6 a.1)=_;rw [eK,h.num];rfl,h.den⟩
def aiD {a:bB} {r:Rat} (h:QR n a r) (hn:1<=n) (hr:r≠0):QR n (kf a) r⁻¹ :=by
 have h0:aj a.1≠0:=by rw [h.num];intro e;exact hr (Rat.num_eq_zero.1 e)
 have:=(y7 h.o2 h.o1 hn h0).qr h0;rw [<-Rat.inv_divInt,h.self]at this;exact this
def aiE {a:bB} {r:Rat} (h:QR n a r) (hn:1<=n):aj (cn a.1 a.2)=r.floor:=by
 rw [yY h.o1 h.o2 h.pos,h.num,h.den,Rat.floor_def]
end
def y9 {r:Rat}:r.num<0↔r<0:=by
 rw [<-Int.not_le,<-Rat.not_le,Rat.num_nonneg]
def aiF {n:Nat} {a:bB} {r:Rat} (h:QR n a r):fk a.1=if r<0 then-1 else if r=0 then 0 else 1:=by
 unfold fk jH;rw [h.num];by_cases h1:r<0
 .rw [if_pos h1,if_pos (y9.2 h1)]
 .rw [if_neg h1,if_neg (fun hh=>h1 (y9.1 hh))];by_cases h2:r=0
  .rw [if_pos h2,if_pos (by rw [h2];rfl)]
  .rw [if_neg h2,if_neg (fun hh=>h2 (Rat.num_eq_zero.1 hh))]
def uT:=k_a f175
def za:=bc [ru,wM]
def lX (a o:aC) (k:Int):bD:={n:=23,sl:=[(1,iv k),(2, .ptr 64 0),(4, .ptr 65 0),(5, .ptr 66 0)],bJ:=[(64,eu a),(65,b0),(66,eu o)],next:=67}
def Lk (a:aC) (k:Int) (h1:(aV 1).1=(1)) (h2:(aV 1).2=(wC)):
  cZ za (fl uT []) 2 23 [aA a,iv k] 1 .normal s3 (lX a (1,[]) k):=
 wy [ax h1,ax h2] 2323857407723175936
section
variable (a o:aC) (k j:Int) (h1:k>0) (h2:IntKind.wrap IntKind.i64 (↑(BitVec.toNat (BitVec.ofInt 64 k &&& BitVec.ofInt 64 1)):Int)=1) (h3:(ay o&&ay a)=true)
def aiG (h4:k>1) (h5:(ay a&&ay a)=true) (h6:(Int.fdiv k ((2:Int)^min (Int.toNat 1) 64))=(j)):
  bt za (fl uT wX) (lX a o k) 15 .normal s3 (lX (a7 a a) (a7 o a) j):=
 wy [ah h1,cX h2,af h3,ah h4,af h5,ax h6] 412401807489
def aiH (h4:¬k>1) (h5:(Int.fdiv k ((2:Int)^min (Int.toNat 1) 64))=(j)):
  bt za (fl uT wX) (lX a o k) 11 .normal s3 (lX a (a7 o a) j):=
 wy [ah h1,cX h2,af h3,aJ h4,ax h5] 5369770113
end
def aiI (a o:aC) (k j:Int) (h1:k>0) (h2:¬IntKind.wrap IntKind.i64 (↑(BitVec.toNat (BitVec.ofInt 64 k &&& BitVec.ofInt 64 1)):Int)=1) (h3:k>1) (h4:(ay a&&ay a)=true) (h5:(Int.fdiv k ((2:Int)^min (Int.toNat 1) 64))=(j)):
  bt za (fl uT wX) (lX a o k) 13 .normal s3 (lX (a7 a a) o j):=
 wy [ah h1,yn h2,ah h3,af h4,ax h5] 5369770113
def aiJ (a o:aC) (k:Int) (h1:¬k>0):
  bt za (fl uT wX) (lX a o k) 2 (.exit 0) s3 (lX a o k):=
 wy [aJ h1] 1
def aiK (a o:aC) (k:Int):
  bS za ((fl uT []).drop 3) (lX a o k) 1 f175 false (aA o):=
 wy [] 0
noncomputable def wi (a:aC) (k:Int):Int×List Int:=aY (aj a^k.toNat)
def If (a:aC) (k:Int):Bool:=ay a&&(decide (0<=k)&&decide (1+(a.2.length+1)*k.toNat<=100000))
def UT:=IN 175 [cS, .int .i64] [cS] false (fun d=>If d.1 d.2.1) fun d=>(wi d.1 d.2.1,())
def aiL:bC prog (bF za):=cK (aP uS (aP yO dQ))
def UU {m:Nat} (h:m<=100000):IntKind.i64.wrap ↑(BitVec.ofInt 64 (m:Int) &&& BitVec.ofInt 64 1).toNat=((m%2:Nat):Int):=by
 have e:(BitVec.ofInt 64 (m:Int) &&& BitVec.ofInt 64 1).toNat=m%2:=by
  rw [BitVec.toNat_and,BitVec.toNat_ofInt,BitVec.toNat_ofInt,show((m:Int)%(2^64:Nat)).toNat=m by omega];exact Nat.and_one_is_mod m
 rw [e];rcases Nat.mod_two_eq_zero_or_one m with h|h
 .rw [h];rfl
 .rw [h];rfl
def half (m:Nat):Int.fdiv (m:Int) (2^min (Int.toNat 1) 64)=((m/2:Nat):Int):=by
 have e:(2:Int)^min (Int.toNat 1) 64=2:=rfl;rw [e,Int.fdiv_eq_ediv_of_nonneg _ δ];omega
def sq_pow (a:Int):∀j:Nat,(a*a)^j=a^j*a^j
 |0=>by rw [Int.pow_zero,Int.pow_zero,Int.one_mul]
 |j+1=>by rw [Int.pow_succ,Int.pow_succ,sq_pow a j];grind
def pow_even {a:Int} {m:Nat} (h:m%2=0):(a*a)^(m/2)=a^m:=by
 rw [sq_pow,<-Int.pow_add];congr 1;omega
def pow_odd {a:Int} {m:Nat} (h:m%2=1):a*(a*a)^(m/2)=a^m:=by
 obtain⟨j,rfl⟩:∃j,m=2*j+1:=⟨m/2,by omega⟩;rw [show(2*j+1)/2=j by omega,sq_pow,Int.pow_succ,show 2*j=j+j by omega,Int.pow_add,Int.mul_comm]
def aiM {n:Nat} {a:aC} (h:aT n a=true):aT (a.2.length+1) a=true:=by
 by_cases hs:a.2=[]
 .rw [nH hs]at h ⊢;exact h
 .obtain⟨h1,h2,h3,h4,h5⟩:=(pM hs).1 h;exact(pM hs).2 ⟨h1,h2,h3,h4,by omega⟩
def aiN (a:aC) (k:Nat) (h:ay a=true) (hk:1+(a.2.length+1)*k<=100000):Holds prog false 175 [aA a,iv (k:Int)] (aA (aY (aj a^k))):=by
 have hS:=aiL;refine bL (c:=uT) func175 rfl rfl fun w F=> ?_
 refine cJ hS 2 (Lk a k rfl rfl) ?_;refine aU.loop (ι:={x:(aC×aC)×Nat//x.1.2=aY (aj x.1.2)/\aj x.1.2*aj x.1.1^x.2=aj a^k/\∃p q:Nat,1<=p/\1<=q/\aT p x.1.1=true/\aT q x.1.2=true/\q+p*x.2<=100000}) (id:=0) (b:=cat uT wX) (rest:=(fl uT []).drop 3) (by kernel_rfl) (fun x=>lX x.1.1.1 x.1.1.2 (x.1.2:Int)) (fun x=>x.1.2)
  ⟨((a,(1,[])),k),by
    have v:aj (1,[])=1:=rfl;refine⟨?_, ?_,a.2.length+1,1,by omega,by omega,aiM h, ?_,hk⟩
    .show((1,[]):aC)=aY (aj (1,[]));rw [v];unfold aY;rw [if_pos δ]
    .show aj (1,[])*aj a^k=aj a^k;rw [v,Int.one_mul]
    .exact(nH (n:=1) (a:=(1,[])) rfl).trans δ⟩ (fun _=>rfl) ?_
 rintro⟨⟨⟨x,o⟩,m⟩,ho,hv,p,q,hp,hq,sP,kr,hm⟩;have ho:o=aY (aj o):=ho;have hv:aj o*aj x^m=aj a^k:=hv;have sP:aT p x=true:=sP;have kr:aT q o=true:=kr;have hm:q+p*m<=100000:=hm;have hmp:m<=p*m:=Nat.le_mul_of_pos_left m hp;by_cases hz:m=0
 .subst hz;refine bx (s:=lX x o (0:Nat)) hS (aiJ x o (0:Nat) δ) ?_;refine cy (cF ?_);have e:aj o=aj a^k:=by rw [<-hv];simp
  rw [<-e,<-ho];exact bX (s:=lX x o (0:Nat)) hS (aiK x o _)
 .have sQ:p<=p*m:=Nat.le_mul_of_pos_right p ω;have Bn:=a8 (show p<=100000 by omega) sP;have UW:=a8 (show q<=100000 by omega) kr;have hlt:m/2<m:=by omega
  have hpos:(m:Int)>0:=by omega
  have vm:=de;by_cases UX:m%2=1
  .have hb:IntKind.i64.wrap ↑(BitVec.ofInt 64 (m:Int) &&& BitVec.ofInt 64 1).toNat=1:=by rw [UU ω,UX];rfl
   by_cases h1:m=1
   .subst h1;refine bx (s:=lX x o (1:Nat)) hS (aiH x o (1:Nat) (0:Nat) hpos hb (mT UW Bn) δ (half 1)) ?_;refine⟨⟨((x,a7 o x),0), ?_, ?_,p,q+p,hp,by omega,sP,dE kr sP hq hp,by omega⟩,hlt,rfl,rfl⟩
    .show a7 o x=aY (aj (a7 o x));rw [de];rfl
    .show aj (a7 o x)*aj x^0=_;rw [de,<-hv,Int.pow_zero,Int.mul_one,Int.pow_succ,Int.pow_zero,Int.one_mul]
   .refine bx (s:=lX x o (m:Nat)) hS (aiG x o (m:Nat) (m/2:Nat) hpos hb (mT UW Bn) ω (mT Bn Bn) (half m)) ?_;refine⟨⟨((a7 x x,a7 o x),m/2), ?_, ?_,p+p,q+p,by omega,by omega,dE sP sP hp hp,dE kr sP hq hp, ?_⟩,hlt,rfl,rfl⟩
    .show a7 o x=aY (aj (a7 o x));rw [de];rfl
    .show aj (a7 o x)*aj (a7 x x)^(m/2)=_;rw [de,de,<-hv,<-pow_odd UX,Int.mul_assoc]
    .show q+p+(p+p)*(m/2)<=100000;obtain⟨j,rfl⟩:∃j,m=2*j+1:=⟨m/2,by omega⟩;rw [show(2*j+1)/2=j by omega];have:p*(2*j+1)=(p+p)*j+p:=by grind
     omega
  .have h0:m%2=0:=by omega
   have hb:¬IntKind.i64.wrap ↑(BitVec.ofInt 64 (m:Int) &&& BitVec.ofInt 64 1).toNat=1:=by rw [UU ω,h0];decide
   refine bx (s:=lX x o (m:Nat)) hS (aiI x o (m:Nat) (m/2:Nat) hpos hb ω (mT Bn Bn) (half m)) ?_;refine⟨⟨((a7 x x,o),m/2),ho, ?_,p+p,q,by omega,hq,dE sP sP hp hp,kr, ?_⟩,hlt,rfl,rfl⟩
   .show aj o*aj (a7 x x)^(m/2)=_;rw [de,<-hv,pow_even h0]
   .show q+(p+p)*(m/2)<=100000;obtain⟨j,rfl⟩:∃j,m=2*j:=⟨m/2,by omega⟩;rw [show(2*j)/2=j by omega];have:p*(2*j)=(p+p)*j:=by grind
    omega
def aiO:UT.Ok prog:=fun⟨a,k,_⟩ h=>by
 have h:If a k=true:=h;unfold If at h;simp only [ae,bE]at h;obtain⟨h1,h2,h3⟩:=h;obtain⟨n,rfl⟩:∃n:Nat,k=(n:Int):=⟨k.toNat,(Int.toNat_of_nonneg h2).symm⟩;exact aiN a n h1 h3
def pS (s p:AT):Bool:=Lib.hasPrefix s.data.toList p.data.toList
def ga (s p:AT):AT:=⟨(Lib.trimPrefix s.data.toList p.data.toList).toArray⟩
def Bo (s:AT):Bool:=decide (s.size<=18)&&(Lib.atoi s.data.toList).isSome
def wY (s:AT):Int:=(Lib.atoi s.data.toList).getD 0
def UY:=IN 172 [.str, .str] [.bool] true (fun d=>true) fun d=>(pS d.1 d.2.1,())
def UZ:=IN 173 [.str, .str] [.str] true (fun d=>true) fun d=>(ga d.1 d.2.1,())
noncomputable def MS (args:List aa):aD (Option aa):=match args with |[.raw (.string s)]=> .must (Bo s) (.ret (some (.tuple [iv (wY s), .raw .nilIface])))|_=> .ret none
noncomputable def U0:uy:={f:=174,res:=MS}
--{
def aiP:UY.Ok prog:=fun⟨s,p,_⟩ h w F xs hF cv hd=>by
 cases hd with
 |cons d1 d2=>
  cases d2 with
  |cons d2 d3=>
  cases d3;rw [d1.cg,d2.cg];refine(Tryz.strings_HasPrefix s p w).mono fun e w' ⟨h1,h2⟩=> ?_
  subst h2;exact⟨_,⟨F.at',fun _=>none⟩,h1, .raw _,⟨hF.pE,hF.all,fun b A h=>by cases h⟩,(fun b A h=>by cases h),Below.refl _ _⟩
def aiQ:UZ.Ok prog:=fun⟨s,p,_⟩ h w F xs hF cv hd=>by
 cases hd with
 |cons d1 d2=>
  cases d2 with
  |cons d2 d3=>
  cases d3;rw [d1.cg,d2.cg];refine(Tryz.strings_TrimPrefix s p w).mono fun e w' ⟨h1,h2⟩=> ?_
  subst h2;exact⟨_,⟨F.at',fun _=>none⟩,h1, .raw _,⟨hF.pE,hF.all,fun b A h=>by cases h⟩,(fun b A h=>by cases h),Below.refl _ _⟩
def aiR:U0.Ok prog:=by
 intro args v hv w F xs hF cv hd;change (MS args).gr=_ at hv;unfold MS at hv;split at hv
 .rename_i s;unfold aD.gr at hv;cases ho:Bo s with
  |false=>rw [ho]at hv;cases hv
  |true=>
   rw [ho]at hv;cases hv;unfold Bo at ho;rw [ae,bE]at ho;obtain⟨n,hn⟩:=Option.isSome_iff_exists.1 ho.2;cases hd with
   |cons d1 d2=>
   cases d2;rw [d1.cg];refine(Tryz.strconv_Atoi s n ho.1 hn w).mono ?_;rintro e w' ⟨rfl,t,rfl⟩;refine⟨_,rfl, ?_,Joins.below_bytesWorld _ _ _ _ (aI _)⟩;have e:wY s=n:=by unfold wY;rw [hn];rfl
   rw [e];exact .tuple (.cons (.raw _) (.cons (.raw _) .nil))
 .cases hv
--}
def sa:=k_a f122
def Bp:=Dh [U0] (bc [UY,UZ,ru,UT,wM,uE,yK])
abbrev MT:List Nat:=[1,1,1,1,0,0,0]
def nL (s:AT) (o:aC) (neg:Bool):bD:={n:=41,sl:=[(0,sv s),(2, .ptr 64 0),(3,bv neg),(4, .ptr 65 0)],bJ:=[(64,b0),(65,eu o)],next:=66}
abbrev fq:AT:=⟨#[45]⟩
abbrev s2:Sv.Ren:=[(64,64,none),(65,65,none)]
def aiS (s:AT):
  cZ Bp (fl sa []) 4 41 [sv s] 1 .normal s2 (nL (ga s fq) (0,[]) (pS s fq)):=
 wy [] 0
def aiT (s s':AT) (o o':aC) (neg:Bool) (h1:(s.size:Int)>0) (h2:(Bo (s.extract 0 (if(s.size:Int)<18 then(s.size:Int)else 18).toNat))=true) (h3:(If (aV 10) (if(s.size:Int)<18 then(s.size:Int)else 18))=true) (h4:(ay o&&ay (wi (aV 10) (if(s.size:Int)<18 then(s.size:Int)else 18)))=true) (h5:(ay (a7 o (wi (aV 10) (if(s.size:Int)<18 then(s.size:Int)else 18)))&&ay (aV (wY (s.extract 0 (if(s.size:Int)<18 then(s.size:Int)else 18).toNat))))=true) (h6:(s.extract (if(s.size:Int)<18 then(s.size:Int)else 18).toNat s.size)=(s')) (h7:(b8 (a7 o (wi (aV 10) (if(s.size:Int)<18 then(s.size:Int)else 18))) (aV (wY (s.extract 0 (if(s.size:Int)<18 then(s.size:Int)else 18).toNat)))).1=o'.1) (h8:(b8 (a7 o (wi (aV 10) (if(s.size:Int)<18 then(s.size:Int)else 18))) (aV (wY (s.extract 0 (if(s.size:Int)<18 then(s.size:Int)else 18).toNat)))).2=o'.2):
  bt Bp (fl sa MT) (nL s o neg) 3 .normal s2 (nL s' o' neg):=
 wy [ah h1,ah (by omega:(0:Int)<=if(s.size:Int)<(18:Int)then(s.size:Int)else(18:Int)),ah (by omega:(if(s.size:Int)<(18:Int)then(s.size:Int)else(18:Int)).toNat<=s.size),af h2,af (aF (v:=aA o)),af h3,af h4,af h5,ah (by omega:s.size<=s.size),ax h6,ax h7,ax h8] 4241279421303380490363686664233810978930817
section
variable (s:AT) (o:aC) (neg:Bool)
def aiU (h1:¬(s.size:Int)>0):
  bt Bp (fl sa MT) (nL s o neg) 2 (.exit 0) s2 (nL s o neg):=
 wy [aJ h1] 1
def aiV (h1:(neg)=true) (h2:(ay o)=true):
  bS Bp ((fl sa []).drop 5) (nL s o neg) 3 Tryz.f122 false (aA (e6 o)):=
 wy [af h1,af h2] 129
def aiW (h1:(neg)=false):
  bS Bp ((fl sa []).drop 5) (nL s o neg) 2 Tryz.f122 false (aA o):=
 wy [af h1] 1
end
open Lib in
def sb (e:Nat):∀(l:List UInt8) (a x:Nat),decFrom a l=some x->decFrom (a+e) l=some (x+e*10^l.length)
 |[],a,x,h=>by cases h;simp [decFrom]
 |b::r,a,x,h=>by
  unfold decFrom at h ⊢;cases hd:digitVal b with
  |none=>rw [hd]at h;cases h
  |some d=>
   rw [hd]at h;have ih:=sb (e*10) r _ _ h;show decFrom ((a+e)*10+d) r=_;rw [show(a+e)*10+d=a*10+d+e*10 by omega];rw [ih,List.length_cons,Nat.pow_succ];congr 1;have:e*10*10^r.length=e*(10^r.length*10):=by grind
   omega
open Lib in
def MU:∀(l:List UInt8) (a x:Nat),decFrom a l=some x->a<=x
 |[],a,x,h=>by cases h;omega
 |b::r,a,x,h=>by
  unfold decFrom at h;cases hd:digitVal b with
  |none=>rw [hd]at h;cases h
  |some d=>rw [hd]at h;have:=MU r _ _ h;omega
open Lib in
def ne:∀(C:Nat) (l:List UInt8) (a x:Nat),decFrom a l=some x->C<=l.length->∃v,decFrom 0 (l.take C)=some v/\decFrom (a*10^C+v) (l.drop C)=some x
 |0,l,a,x,h,_=>⟨0,rfl,by simpa using h⟩
 |C+1,[],a,x,h,hc=>by simp at hc
 |C+1,b::r,a,x,h,hc=>by
  unfold decFrom at h;cases hd:digitVal b with
  |none=>rw [hd]at h;cases h
  |some d=>
   rw [hd]at h;obtain⟨v,h1,h2⟩:=ne C r _ x h (by simpa using hc);refine⟨v+d*10^C, ?_, ?_⟩
   .rw [List.take_succ_cons];unfold decFrom;rw [hd];have:=sb d _ _ _ h1;rw [ek,Nat.min_eq_left (by simpa using hc),aw]at this;show decFrom (0*10+d) _=_;rw [Nat.zero_mul,aw];exact this
   .rw [List.drop_succ_cons,<-h2];congr 1;rw [Nat.pow_succ];have:(a*10+d)*10^C=a*(10^C*10)+d*10^C:=by grind
    omega
open Lib in
def OR {l:List UInt8} {v:Nat} (h:decFrom 0 l=some v) (hl:l≠[]):atoi l=some (v:Int):=by
 cases l with
 |nil=>exact absurd rfl hl
 |cons b r=>
  have hb:48<=b.toNat:=by
   unfold decFrom at h;cases hd:digitVal b with
   |none=>rw [hd]at h;cases h
   |some d=>unfold digitVal at hd;split at hd
            .omega
            .cases hd
  have n1:(b==45)=false:=by
   rw [e8];intro e;subst e;exact absurd hb δ
  have n2:(b==43)=false:=by
   rw [e8];intro e;subst e;exact absurd hb δ
  rw [show atoi (b::r)=if(b==45)=true then(decNat r).map (fun(m:Nat)=> -(m:Int))else if(b==43)=true then(decNat r).map (fun(m:Nat)=>(m:Int))else(decNat (b::r)).map (fun(m:Nat)=>(m:Int))from rfl,n1,n2];show(decNat (b::r)).map _=_;unfold decNat;rw [show(b::r).isEmpty=false from rfl];simp [h]
def He {n x y:Nat} (h:aT n (aY (y:Int))=true) (hn:1<=n) (hxy:x<=y):aT n (aY (x:Int))=true:=by
 have h1:=jI h hn;rw [val_mk]at h1;exact(jJ ω).1
def aiX {n:Nat} {x v:Nat} (h:aT n (b8 (aY (x:Int)) (aV v))=true):b8 (aY (x:Int)) (aV v)=aY ((x+v:Nat):Int):=by
 have e:aj (b8 (aY (x:Int)) (aV v))=((x+v:Nat):Int):=by
  rw [nI,val_mk];show(x:Int)+v=_;omega
 have:=Gr h (by rw [e];omega);rw [e]at this;exact this
end
end Go.Proofs.YtibikmmdbdlafaaGreatDoor
