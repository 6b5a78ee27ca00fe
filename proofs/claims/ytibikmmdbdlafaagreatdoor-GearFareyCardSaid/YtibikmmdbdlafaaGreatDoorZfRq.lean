import Derived.Test.YtibikmmdbdlafaaGreatDoorZfA7
set_option linter.defProp false
set_option linter.unusedSimpArgs false
set_option linter.unusedVariables false
set_option maxRecDepth 100000
namespace Go.Proofs.YtibikmmdbdlafaaGreatDoor
open Go.RowKit Sv Go.Proofs.Tryz
noncomputable section
def MR {x y:Int}:kR x y<0↔x<y:=by
 unfold kR;by_cases h:x<y
 .rw [if_pos h];simp [h]
 .rw [if_neg h];by_cases g:y<x
  .rw [if_pos g];simp [h]
  .rw [if_neg g];simp [h]
def ajc:aG 0=[]:=(Az (Int.le_refl 0)).2 rfl
def Un {y:Int} (hy:1<=y/\y<1000000000):(1<=1000000000/(y+1)/\1000000000/(y+1)<=500000000)/\500000000<=y*(1000000000/(y+1))/\(y+1)*(1000000000/(y+1))<=1000000000:=by
 have h:=Int.emod_add_mul_ediv 1000000000 (y+1);have h0:=dM 1000000000 (show y+1≠0 by omega);have h1:=er 1000000000 (show 0<y+1 by omega);have hq:1<=1000000000/(y+1):=Int.le_ediv_of_mul_le ω ω;generalize 1000000000/(y+1)=q at*;generalize 1000000000%(y+1)=r at*;have e:(y+1)*q=y*q+q:=by rw [Int.add_mul,Int.one_mul]
 rw [e]at h ⊢;have h2:1*q<=y*q:=ar hy.1 ω;refine⟨⟨hq,by omega⟩, ?_,by omega⟩;by_cases hq1:q=1
 .rw [hq1]at h ⊢;omega
 .by_cases hy1:y=1
  .rw [hy1]at h h1 ⊢;omega
  .have h3:1*1<=(y-1)*(q-1):=Int.mul_le_mul ω ω δ ω;have h4:(y-1)*(q-1)=y*q-y-q+1:=by
    rw [Int.sub_mul,Int.mul_sub,Int.mul_one,Int.one_mul];omega
   omega
def MS:=IN 131 [.list false (.int .i64), .list false (.int .i64)] [.list false (.int .i64), .list false (.int .i64)] false (fun d=>okA d.1&&(okA d.2.1&&decide (0<ag d.2.1))) fun d=>(aG (ag d.1/ag d.2.1),aG (ag d.1%ag d.2.1),())
section
variable (a b:List Int) (h:okA a=true) (g:okA b=true)
def ajd (hge:ag b<=ag a) (m:Nat) (hn:b.length=m+2) (w:World) (F:Sv.Env):
  aW prog w F 206 ((fl dR []).drop 6) (AZ a b (1000000000/(b.getD (m+1) 0+1))).T (AZ a b (1000000000/(b.getD (m+1) 0+1))).H (Um (aG (ag a/ag b)) (aG (ag a%ag b))):=by
 obtain⟨ha,ta,la⟩:=fk.1 h;obtain⟨hb,tb,lb⟩:=fk.1 g;have hS:=Dt;have Du:=hb.get δ (m+1);have hbz:=tb (m+1) hn;obtain⟨⟨f1,f2⟩,f3,f4⟩:=Un (y:=b.getD (m+1) 0) ω;generalize hf:1000000000/(b.getD (m+1) 0+1)=f at*;have lS:0<=ag a:=gD ha;have Dv:ag a<1000000000^a.length:=fK δ ha;have hP:=dD (b:=1000000000) δ (m+1);have aje:1000000000^(m+1)<=ag b:=yd δ hb tb hn;obtain⟨b1,b2,b3⟩:=GS (d:=b) (n:=m+1) hn (hb.take _);have uA:0<ag b:=by omega
 have ajf:ag [f]=f:=r0 _ _;have iA:0<=ag b*f:=Int.mul_nonneg ω ω;have MT:ag b*f<1000000000^(m+2):=by
  have h1:ag b<1000000000^(m+1)*(b.getD (m+1) 0+1):=by rw [Int.mul_add,Int.mul_one];omega
  have h2:=Int.mul_lt_mul_of_pos_right h1 (show 0<f by omega);have h3:=dZ f4 (cq hP);rw [Int.mul_assoc]at h2;rw [Int.pow_succ];omega
 have auw:ag b<=ag b*f:=by
  have:=dZ f1 (cq uA);omega
 obtain⟨v1,v2,v3⟩:=gx iA;have hvl:(aG (ag b*f)).length=m+2:=by
  have h1:(aG (ag b*f)).length<=m+2:=yo kT iA MT;by_cases hc:m+2<=(aG (ag b*f)).length
  .omega
  .have h2:=fK (b:=1000000000) δ v1;have h3:=iN (b:=1000000000) δ (show(aG (ag b*f)).length<=m+1 by omega);unfold ag at*;omega
 have ajg:500000000<=(aG (ag b*f)).getD (m+2-1) 0:=by
  obtain⟨w1,w2,w3⟩:=GS (d:=aG (ag b*f)) (n:=m+1) hvl (v1.take _);show _<=(aG (ag b*f)).getD (m+1) 0;rw [v3]at w1;have h3:1000000000^(m+1)*(b.getD (m+1) 0*f)<=ag b*f:=by
   rw [<-Int.mul_assoc];exact ar ω ω
  have h4:=dZ f3 (cq hP);have h5:1000000000^(m+1)*500000000<1000000000^(m+1)*((aG (ag b*f)).getD (m+1) 0+1):=by
   rw [Int.mul_add,Int.mul_one];omega
  have:=Int.lt_of_mul_lt_mul_left h5 (cq hP);omega
 have auy:m+2<=a.length:=by
  refine Nat.not_lt.1 fun hh=> ?_
  have:=vW δ ha hb tb ω;unfold ag at hge;omega
 have pS:0<=ag a*f:=Int.mul_nonneg lS ω;have auz:0<ag a*f:=Int.mul_pos ω ω;have ajh:ag a*f<1000000000^(a.length+1):=by
  rw [Int.pow_succ];have h1:=dZ (show f<=1000000000 by omega) lS;have h2:=Int.mul_lt_mul_of_pos_right Dv (show(0:Int)<1000000000 by decide);omega
 obtain⟨u1,u2,u3⟩:=gx pS;have Dl:(aG (ag a*f)).length<=a.length+1:=yo kT pS ajh;have aji:aG (ag a*f)≠[]:=fun e=>by
  have:=(Az pS).1 e;omega
 have Uo:okB [f]=true:=oh.2 ⟨.cons ω .nil,by simp⟩;have key:=aiI a b f (by rw [oh.2 ⟨hb,by omega⟩,Uo];rfl) (by rw [oh.2 ⟨ha,by omega⟩,Uo];rfl);rw [ajf]at key;have hl0:(aG (ag a*f)).length≠0:=fun e=>aji (List.eq_nil_of_length_eq_zero e)
 refine aW.st (s:=AZ a b f) known mixed hS 3 _ (key (by
  cases hz:Nat.beq (aG (ag a*f)).length 0 with
  |false=>rfl
  |true=>exact absurd (ac hz) hl0) ω (by
  obtain⟨k,hk⟩:∃k,(aG (ag a*f)).length=k+1:=⟨(aG (ag a*f)).length-1,by omega⟩;rw [hk];rfl) rfl) (by kernel_rfl) ?_
 clear key;refine aW.loop (ι:={x:List Int//x.length<=a.length+1/\aS 1000000000 x/\ag x=ag a*f}) (id:=0) (b:=cat dR MJ) (rest:=(fl dR []).drop 10) (by kernel_rfl) (fun x=>sD a (aG (ag b*f)) f x.1) (fun x=>a.length+1-x.1.length)
  ⟨aG (ag a*f),Dl,u1,u3⟩ (fun _=>rfl) ?_
 rintro⟨u,hl,iP,MU⟩;by_cases hlt:u.length<a.length+1
 .refine bE (s:=sD a (aG (ag b*f)) f u) hS (aiJ a _ f u ω ω ω (qP _ _) (ug _ _)) ?_;refine⟨⟨u++[0],by rw [cW];simp;omega,iP.app (.cons ⟨Int.le_refl _,by decide⟩ .nil), ?_⟩,by show a.length+1-(u++[0]).length<_;rw [cW];simp;omega,rfl,rfl⟩;rw [<-MU];show vl _ (u++[0])=vl _ u;rw [yc,Int.mul_zero,Int.add_zero]
 .refine bE (s:=sD a (aG (ag b*f)) f u) hS (aiK a _ f u ω ω) ?_;refine cG (cO ?_);have fI:u.length=a.length+1:=by omega
  cases u with
  |nil=>cases fI
  |cons x l=>
   have ajj:l.length=a.length:=by simpa using fI
   have em:((l.length:Int)+1-(aG (ag b*f)).length).toNat=a.length+1-(m+2):=by omega
   have ajk:(((x::l).length:Int)-(aG (ag b*f)).length).toNat=a.length+1-(m+2):=by rw [List.length_cons];omega
   have ajl:((l.length:Int)+1-(aG (ag b*f)).length-1)=((a.length+1-(m+2):Nat):Int)-1:=by omega
   have ajm:(((x::l).length:Int)-(aG (ag b*f)).length-1)=((a.length+1-(m+2):Nat):Int)-1:=by rw [List.length_cons];omega
   have key:=aiL a (aG (ag b*f)) f x l (by rw [List.length_cons];omega) (by rw [List.length_cons];omega);rw [em,ajk,ajl,ajm]at key;refine cX (s:=sD a (aG (ag b*f)) f (x::l)) hS 2 (key ω ω (d8 _).symm rfl (by rw [d8]) rfl (L1 _) (d8 _).symm) ?_;refine ajb iP v1 hvl ω ω ω ω ω v3 uA lS MU ?_ ajg w F;have h1:=r4 1000000000 (x::l) (a.length+1-(m+2)) ω;have h2:=gh (b:=1000000000) δ (iP.take (a.length+1-(m+2)));have Up:=dD (b:=1000000000) δ (a.length+1-(m+2));refine Int.lt_of_mul_lt_mul_left (a:=1000000000^(a.length+1-(m+2))) ?_ (cq Up);have h3:1000000000^(a.length+1-(m+2))*ag ((x::l).drop (a.length+1-(m+2)))<=ag a*f:=by rw [<-MU];unfold ag;omega
   have e1:(1000000000:Int)^a.length=1000000000^(a.length+1-(m+2))*1000000000^(m+1):=by rw [<-Int.pow_add,show a.length+1-(m+2)+(m+1)=a.length by omega]
   have c1:=Int.mul_lt_mul_of_pos_right Dv (show 0<f by omega);have c2:=ar aje (show 0<=f by omega);have c3:=dZ c2 (cq Up);rw [<-Int.mul_assoc,<-e1]at c3;rw [v3];omega
def ajn (hb0:0<ag b):Holds prog false 131 [lv a,lv b] (.tuple [lv (aG (ag a/ag b)),lv (aG (ag a%ag b))]):=by
 obtain⟨ha,ta,la⟩:=fk.1 h;obtain⟨hb,tb,lb⟩:=fk.1 g;have hS:=Dt;have lS:0<=ag a:=gD ha;have hC:(okA a&&okA b)=true:=by rw [h,g];rfl
 refine bL (c:=dR) func131 rfl rfl fun w F=> ?_
 by_cases hlt:ag a<ag b
 .have e1:aG (ag a/ag b)=[]:=by rw [Int.ediv_eq_zero_of_lt lS hlt];exact ajc
  have e2:aG (ag a%ag b)=a:=by rw [Int.emod_eq_of_lt lS hlt];exact F1 ha ta
  rw [e1,e2];exact bg hS 3 (aiE a b hC (MR.2 hlt))
 .have Uq:¬kR (ag a) (ag b)<0:=fun h=>hlt (MR.1 h)
  obtain⟨n,hn⟩:∃n,b.length=n+1:=by
   cases b with
   |nil=>exact absurd hb0 δ
   |cons y r=>exact⟨r.length,rfl⟩
  have Du:=hb.get δ n;have hbz:=tb n hn;cases n with
  |zero=>
   obtain⟨y,rfl⟩:∃y,b=[y]:=List.length_eq_one_iff.1 hn;have hy:y≠0:=hbz;have hy2:0<=y/\y<1000000000:=Du;have zM:ag [y]=y:=r0 _ _;rw [zM];have hm0:=dM (ag a) hy;have pN:=er (ag a) (show 0<y by omega);have et:ei [ag a%y]=aG (ag a%y):=by
    rw [yj (.cons ω .nil)];congr 1;exact r0 _ _
   have key:=aiF a [y] hC Uq τ τ (by
    rw [oh.2 ⟨ha,by omega⟩];rw [ay (show(1:Int)<=List.getD [y] (Int.toNat 0) 0 from show 1<=y by omega),ay (show List.getD [y] (Int.toNat 0) 0<(1000000000:Int)from hy2.2)];rfl) (aJ 1) τ rfl rfl
   rw [<-et];exact bg hS 5 key
  |succ m=>
   have bJ:((b.length:Int)-1).toNat=m+1:=by omega
   have ajo:(0:Int)<=1000000000:=by decide
   have hd:Int.tdiv 1000000000 (b.getD (m+1) 0+1)=1000000000/(b.getD (m+1) 0+1):=Int.tdiv_eq_ediv_of_nonneg ajo;obtain⟨⟨f1,f2⟩,f3,f4⟩:=Un (y:=b.getD (m+1) 0) ω;have key:=aiG a b hC Uq ω ω ω;rw [bJ,hd]at key;refine cP hS 6 (key ω ω ω ω rfl) ?_;refine aW.vV (fun e=> ?_) (i:=64) (s:=8) (e2:=3) (t:= .int .i64) (xs:=[1000000000/(b.getD (m+1) 0+1)]) (cap:=bK 1) (by kernel_rfl) (by kernel_rfl) ?_
   .have:((fl dR []).drop 6).isEmpty=false:=by kernel_rfl
    rw [e]at this;cases this
   refine aW.n7 (fun e=> ?_) (σ:=[]) (s:=AZ a b (1000000000/(b.getD (m+1) 0+1))) (aiH a b _) ?_
   .have:((fl dR []).drop 6).isEmpty=false:=by kernel_rfl
    rw [e]at this;cases this
   exact ajd a b h g ω m hn w F
end
def Ur:MS.Ok prog:=fun⟨a,b,_⟩ h=>by
 have h:(okA a&&(okA b&&decide (0<ag b)))=true:=h;rw [ae,ae]at h;exact ajn a b h.1 h.2.1 (ap h.2.2)
structure A2 (u:List Int) (s:Nat) (d:List Int) (i:Nat):Prop where
 len:d.length=u.length
 dg:aS 18446744073709551616 d
 same:∀j,i<=j->d.getD j 0=u.getD j 0
 val:2^s*ak (d.take i)=ak (u.take i)+u.getD i 0%2^s*18446744073709551616^i
def A2.next {u d:List Int} {s i:Nat} (I:A2 u s d i) (hu:aS 18446744073709551616 u) (hs:s<=63) (hi:i+1<u.length) {x:Int} (hx:0<=x/\x<18446744073709551616) (he:2^s*x=u.getD i 0-u.getD i 0%2^s+u.getD (i+1) 0%2^s*18446744073709551616):
  A2 u s (d.set i x) (i+1):=by
 have hl:=I.len;refine⟨by rw [b9];exact hl,I.dg.set hx,fun j hj=> ?_, ?_⟩
 .rw [ox,if_neg ω];exact I.same j ω
 .have hv:=I.val;unfold ak at hv ⊢;rw [ye ω,kQ u,Int.pow_succ];generalize vl 18446744073709551616 (d.take i)=a at*;generalize vl 18446744073709551616 (u.take i)=b at*;generalize (18446744073709551616:Int)^i=P at*;generalize (2:Int)^s=S at*;generalize u.getD (i+1) 0%S=r1 at*;generalize u.getD i 0%S=ef at*;generalize u.getD i 0=aI at*;have e:P*(S*x)=P*(aI-ef+r1*18446744073709551616):=by rw [he]
  grind
def ajp {x y:Int} {s:Nat} (hs:1<=s/\s<=63) (hx:0<=x/\x<18446744073709551616) (hy:0<=y/\y<18446744073709551616):
  (0<=eS (dp x s) (fq y (64-(s:Int)))/\eS (dp x s) (fq y (64-(s:Int)))<18446744073709551616)/\2^s*eS (dp x s) (fq y (64-(s:Int)))=x-x%2^s+y%2^s*18446744073709551616:=by
 have qZ:(64-(s:Int))=((64-s:Nat):Int):=by omega
 have hp:(0:Int)<2^s:=dD δ _;have hq:(0:Int)<2^(64-s):=dD δ _;have jx:(2:Int)^s*2^(64-s)=18446744073709551616:=by rw [<-Int.pow_add,show s+(64-s)=64 by omega];rfl
 have h1:dp x s=x/2^s:=Mp ω hx.1;have h2:fq y (64-(s:Int))=2^(64-s)*(y%2^s):=by
  rw [qZ,Ua ω hy,show 64-(64-s)=s by omega]
 have hd:=Int.emod_add_mul_ediv x (2^s);have a0:0<=x/2^s:=Int.ediv_nonneg hx.1 (cq hp);have a1:x/2^s<2^(64-s):=Int.ediv_lt_of_lt_mul hp (by rw [Int.mul_comm,jx];exact hx.2);have b0:=dM y (show(2:Int)^s≠0 by omega);have b1:=er y hp;have c0:0<=2^(64-s)*(y%2^s):=Int.mul_nonneg (cq hq) b0;have c1:2^(64-s)*(y%2^s)+2^(64-s)<=18446744073709551616:=by
  have:=dZ (show y%2^s+1<=2^s by omega) (cq hq);rw [Int.mul_add,Int.mul_one,Int.mul_comm (2^(64-s)) (2^s),jx]at this;omega
 have e:eS (dp x s) (fq y (64-(s:Int)))=x/2^s+2^(64-s)*(y%2^s):=by
  rw [h1,h2];exact Mh (s:=64-s) ω ⟨a0,a1⟩ b0 rfl ω
 rw [e];refine⟨by omega, ?_⟩;rw [Int.mul_add,<-Int.mul_assoc,jx];generalize (2:Int)^s*(x/2^s)=X at*;rw [Int.mul_comm (18446744073709551616:Int)];omega
def ajq {u q:List Int} {n s:Nat} {R:Int} (hu:aS 18446744073709551616 u) (ji:aS 18446744073709551616 q) (hs:s<=63) (hn:n<u.length) (nc:1<=n) (fI:u.length<=400000) (hlq:q.length<=400000) (AU:ak u=2^s*R) (hR:0<=R) (hlt:ak u<18446744073709551616^n) (w:World) (F:Sv.Env):
  aW prog w F 137 ((fl fU []).drop 13) (jE n u q s 0).T (jE n u q s 0).H (MI (dK q) (cQ 18446744073709551616 R)):=by
 have hS:=GL;have hp:(0:Int)<2^s:=dD δ _;have jx:(2:Int)^s*2^(64-s)=18446744073709551616:=by rw [<-Int.pow_add,show s+(64-s)=64 by omega];rfl
 have A1:u.getD 0 0%2^s=0:=by
  have h1:=uq (b:=18446744073709551616) (l:=u) (k:=0) ω;rw [List.drop_zero,aw]at h1;have h2:u.getD 0 0=2^s*(R-2^(64-s)*ak (u.drop 1)):=by
   have h3:2^s*(2^(64-s)*ak (u.drop 1))=18446744073709551616*ak (u.drop 1):=by rw [<-Int.mul_assoc,jx]
   rw [Int.mul_sub,h3];unfold ak at AU ⊢;omega
  rw [h2];exact Int.mul_emod_right _ _
 have hun:u.getD n 0=0/\ak (u.take n)=ak u:=by
  have h1:=C1 (b:=18446744073709551616) δ hu hlt;have h2:=dC (b:=18446744073709551616) (l:=u) (k:=n) hn;have h3:=adW (b:=18446744073709551616) δ hu (n+1);have h4:=hu.get δ n;have h5:=dD (b:=18446744073709551616) δ n;refine⟨?_,h1⟩;by_cases hz:u.getD n 0=0
  .exact hz
  .have:=Int.mul_pos h5 (show 0<u.getD n 0 by omega);omega
 refine aW.loop (ι:={x:List Int×Nat//x.2<=n/\A2 u s x.1 x.2}) (id:=4) (b:=cat fU GK) (rest:=(fl fU []).drop 14) (by kernel_rfl) (fun x=>jE n x.1.1 q s x.1.2) (fun x=>n-x.1.2)
  ⟨(u,0),Nat.zero_le _,⟨rfl,hu,fun _ _=>rfl,by show 2^s*vl _ ([]:List Int)=vl _ ([]:List Int)+u.getD 0 0%2^s*_;rw [A1];simp [vl]⟩⟩ (fun _=>rfl) ?_
 rintro⟨⟨d,i⟩,hi,I⟩;have hi:i<=n:=hi;have I:A2 u s d i:=I;have hdl:=I.len;by_cases hlt2:i<n
 .have sy:=hu.get δ i;have ajr:=hu.get δ (i+1);have ho:∀l:List Int,l.length=u.length->∀j,j<u.length->bz 167 aE (some (.own 167 aE l)) j=true:=fun l hl j hj=>by rw [gg];exact ay ω
  have kN:((i:Int)+1).toNat=i+1:=by omega
  have sd:=I.same i (aJ _);have ajs:=I.same (i+1) ω;by_cases hs0:s=0
  .subst hs0;have e1:dp (d.getD i 0) (0:Nat)=d.getD i 0:=by rw [Mp ω (by rw [sd];exact sy.1)];simp
   have N:=I.next hu ω ω (x:=dp (d.getD i 0) (0:Nat)) (by rw [e1,sd];exact sy) (by rw [e1,sd];simp [Int.emod_one]);exact aW.all (s:=jE n d q (0:Nat) i) (s':=jE n (d.set i (dp (d.getD i 0) (0:Nat))) q (0:Nat) (i+1)) known mixed hS _ (aiA n d q _ i ω ω (ho d hdl i ω) ω ω ω (by rw [b9]) rfl) (by kernel_rfl)
    ⟨⟨(_,i+1),by show i+1<=n;omega,N⟩,by show n-(i+1)<n-i;omega,rfl,rfl⟩
  .obtain⟨g1,g2⟩:=ajp (s:=s) ω sy ajr;have e1:(d.set i (dp (d.getD i 0) s)).getD i 0=dp (u.getD i 0) s:=by rw [vX ω,sd]
   have e2:(d.set i (dp (d.getD i 0) s)).getD (i+1) 0=u.getD (i+1) 0:=by rw [ox,if_neg ω,ajs]
   have e3:(d.set i (dp (d.getD i 0) s)).set i (eS (dp (u.getD i 0) s) (fq (u.getD (i+1) 0) (64-(s:Int))))=d.set i (eS (dp (u.getD i 0) s) (fq (u.getD (i+1) 0) (64-(s:Int)))):=List.set_set ..;have N:=I.next hu hs ω g1 g2;have fin:∃j:{x:List Int×Nat//x.2<=n/\A2 u s x.1 x.2},n-j.1.2<n-i/\
     (jE n ((d.set i (dp (d.getD i 0) s)).set i (eS ((d.set i (dp (d.getD i 0) s)).getD i 0) (fq ((d.set i (dp (d.getD i 0) s)).getD (i+1) 0) (64-s)))) q s (i+1)).T=(jE n j.1.1 q s j.1.2).T/\
     (jE n ((d.set i (dp (d.getD i 0) s)).set i (eS ((d.set i (dp (d.getD i 0) s)).getD i 0) (fq ((d.set i (dp (d.getD i 0) s)).getD (i+1) 0) (64-s)))) q s (i+1)).H=(jE n j.1.1 q s j.1.2).H:=by
    rw [e1,e2,e3];exact⟨⟨(_,i+1),by show i+1<=n;omega,N⟩,by show n-(i+1)<n-i;omega,rfl,rfl⟩
   exact bE (s:=jE n d q s i) hS (aiz n d q s i ω ω (ho d hdl i ω) ω ω ω ω (ho _ (by rw [b9];exact hdl) i ω) ω (by rw [kN];exact ho _ (by rw [b9];exact hdl) (i+1) ω) ω ω τ (by rw [kN];rfl)) fin
 .refine bE (s:=jE n d q s i) hS (aiB n d q s i ω) ?_;refine cG (cO ?_);obtain rfl:i=n:=by omega
  have hv:=I.val;rw [hun.1,hun.2,AU,Int.zero_emod,Int.zero_mul,Int.add_zero]at hv;have iM:ak (d.take i)=R:=Int.eq_of_mul_eq_mul_left ω hv;rw [<-iM,<-wg (I.dg.take i)];have bV:(q.drop 0).take q.length=q:=by simp
  have j3:(d.drop 0).take i=d.take i:=by simp
  exact aW.vO (s:=jE i d q s i) known mixed hS _ (aiC i d q s i (Lk rfl) (by rw [bV];omega) ω (by
   rw [gg,ay (show i-1<d.length by omega)];simp) (by rw [j3,eE];omega) (by rw [bV]) (by rw [j3])) fun T H h=>h
def ajt {a v:List Int} {s n m:Nat} {vb:Int} (ha:aS 18446744073709551616 a) (hv:aS 18446744073709551616 v) (hs:s<=63) (MV:v.length=n) (hn:2<=n) (hm:m+n=a.length+1) (pN:1<=m) (hla:a.length<=300000)
  (hV:ak v=vb*2^s) (hb0:0<vb) (iq:18446744073709551616^(n-1)<=vb) (sG:9223372036854775808<=v.getD (n-1) 0) (w:World) (F:Sv.Env):
  aW prog w F 137 ((fl fU []).drop 11) (k5 a v (cE a s) (cD m) s m).T (k5 a v (cE a s) (cD m) s m).H (MI (cQ 18446744073709551616 (ak a/vb)) (cQ 18446744073709551616 (ak a%vb))):=by
 have hS:=GL;have hp:(0:Int)<2^s:=dD δ _;have auA:(2:Int)^s<=2^63:=iN δ hs;have TT:(2:Int)^63=9223372036854775808:=rfl;have iA:0<ak v:=by rw [hV];exact Int.mul_pos hb0 hp
 have sH:ak v<18446744073709551616^n:=by rw [<-MV];exact fK δ hv
 have lS:0<=ak a:=gh δ ha;have Dv:ak a<18446744073709551616^a.length:=fK δ ha;have aju:ak a*2^s<18446744073709551616^(a.length+1):=by
  rw [Int.pow_succ];have h1:=dZ (show(2:Int)^s<=18446744073709551616 by omega) lS;have h2:=Int.mul_lt_mul_of_pos_right Dv (show(0:Int)<18446744073709551616 by decide);omega
 have A1:ak (cE a s)=ak a*2^s:=by
  unfold cE;rw [Int.toNat_natCast];exact C3 δ _ _ (Int.mul_nonneg lS (cq hp)) aju
 have Dl:(cE a s).length=a.length+1:=by unfold cE;exact yf _ _ _
 have Us:aS 18446744073709551616 (cE a s):=by unfold cE;exact C2 δ _ _
 have MO:∀k,(cD m).getD k 0=0:=fun k=>by
  unfold cD;rw [ao,List.getElem?_replicate];split<;>rfl
 refine aW.loop (ι:={x:List Int×List Int×Nat//x.2.2<=m/\x.1.length=a.length+1/\aS 18446744073709551616 x.1/\x.2.1.length=m/\aS 18446744073709551616 x.2.1/\ak (x.1.drop x.2.2)<ak v/\ak x.1+ak v*ak x.2.1=ak a*2^s/\∀j,j<x.2.2->x.2.1.getD j 0=0}) (id:=2) (b:=cat fU GJ) (rest:=(fl fU []).drop 12) (by kernel_rfl) (fun x=>k5 a v x.1.1 x.1.2.1 s x.1.2.2) (fun x=>x.1.2.2)
  ⟨(cE a s,cD m,m),aJ _,Dl,Us,cf _,AF _, ?_, ?_,fun j _=>MO j⟩ (fun _=>rfl) ?_
 .show ak ((cE a s).drop m)<ak v;have h1:=r4 18446744073709551616 (cE a s) m ω;have h2:=gh (b:=18446744073709551616) δ (Us.take m);have h3:18446744073709551616^m*ak ((cE a s).drop m)<=ak a*2^s:=by rw [<-A1];unfold ak;omega
  have h4:ak a*2^s<18446744073709551616^m*ak v:=by
   have e1:(18446744073709551616:Int)^a.length=18446744073709551616^m*18446744073709551616^(n-1):=by rw [<-Int.pow_add,show m+(n-1)=a.length by omega]
   have c1:=Int.mul_lt_mul_of_pos_right Dv hp;have c2:=ar iq (cq hp);have c3:=dZ c2 (cq (dD (b:=18446744073709551616) δ m));rw [<-hV,<-Int.mul_assoc,<-e1]at c3;omega
  exact Int.lt_of_mul_lt_mul_left (show 18446744073709551616^m*ak ((cE a s).drop m)<18446744073709551616^m*ak v by omega) (cq (dD δ m))
 .show ak (cE a s)+ak v*ak (cD m)=_;have:ak (cD m)=0:=CZ _ m;rw [this,A1];omega
 rintro⟨⟨u,q,k⟩,hk,hl,iP,hq,ji,kB,hval,hz⟩;have hk:k<=m:=hk;have hl:u.length=a.length+1:=hl;have iP:aS 18446744073709551616 u:=iP;have hq:q.length=m:=hq;have ji:aS 18446744073709551616 q:=ji;have kB:ak (u.drop k)<ak v:=kB;have hval:ak u+ak v*ak q=ak a*2^s:=hval;have hz:∀j,j<k->q.getD j 0=0:=hz;cases k with
 |zero=>
  refine bE (s:=k5 a v u q s 0) hS (aix a v u q s 0 ω) ?_;refine cG (cO ?_);rw [List.drop_zero]at kB;have pS:0<=ak u:=gh δ iP;obtain⟨g1,g2⟩:=Mk (A:=ak a) (b:=vb) (V:=ak v) (S:=2^s) (U:=ak u) (q:=ak q) hp hb0 hV hval pS kB;rw [g1,<-wg ji];refine cX (s:=k5 a v u q s 0) hS 1 (aiy a v u q s 0) ?_;rw [MV];exact ajq iP ji hs ω ω ω ω g2 (dM _ ω) (Int.lt_trans kB sH) w F
 |succ j=>
  have ej:(((j+1:Nat):Int)-1).toNat=j:=by omega
  have A3:(((j+1:Nat):Int)-1+v.length+1).toNat=j+(n+1):=by omega
  have ed:j+(n+1)-j=n+1:=by omega
  have j3:(((j+1:Nat):Int)-1-1)=(j:Int)-1:=by omega
  obtain⟨w1,w2,w3⟩:=Mj (b:=18446744073709551616) δ iP (j:=j) (n:=n) (V:=ak v) ω (cq sH) kB;have wJ:ak (q4 u j (n+1))<18446744073709551616*ak v:=by unfold q4 ak;rw [<-w1];exact w2
  have hpre:wB u j (n+1) v=true:=by
   unfold wB;rw [hG.2 iP,hG.2 hv,ay (show 2<=v.length by omega),MV,Nat.beq_refl,ay (show n<=1000000 by omega),ay sG,ay wJ];rfl
  obtain⟨n1,n2,n3,sw⟩:=TQ (b:=18446744073709551616) δ iP (j:=j) (n:=n) (V:=ak v) ω iA (cq sH) kB (u':=k4 u j (n+1) v) rfl;have MP:0<=ak (q4 u j (n+1)):=gh δ ((iP.drop j).take _);have wH:0<=jf u j (n+1) v:=Int.ediv_nonneg MP (cq iA);have GI:jf u j (n+1) v<18446744073709551616:=(Int.ediv_lt_iff_lt_mul iA).2 wJ;have fin:∃y:{x:List Int×List Int×Nat//x.2.2<=m/\x.1.length=a.length+1/\aS 18446744073709551616 x.1/\x.2.1.length=m/\aS 18446744073709551616 x.2.1/\ak (x.1.drop x.2.2)<ak v/\ak x.1+ak v*ak x.2.1=ak a*2^s/\∀j,j<x.2.2->x.2.1.getD j 0=0},y.1.2.2<j+1/\
    (AY a v (k4 u j (n+1) v) (q.set j (jf u j (n+1) v)) s (j+1)).T=(k5 a v y.1.1 y.1.2.1 s y.1.2.2).T/\(AY a v (k4 u j (n+1) v) (q.set j (jf u j (n+1) v)) s (j+1)).H=(k5 a v y.1.1 y.1.2.1 s y.1.2.2).H:=by
   refine⟨⟨(k4 u j (n+1) v,q.set j (jf u j (n+1) v),j),by show j<=m;omega,by show(k4 u j (n+1) v).length=_;omega,n2,by show(q.set j _).length=m;rw [b9];exact hq,ji.set ⟨wH,GI⟩,sw, ?_,fun i hi=> ?_⟩,fB _, ?_,rfl⟩
   .show ak (k4 u j (n+1) v)+ak v*ak (q.set j (jf u j (n+1) v))=_;have qL:ak (q.set j (jf u j (n+1) v))=ak q+18446744073709551616^j*jf u j (n+1) v:=by
     unfold ak;rw [qM _ _ _ _ ω,hz j (fB _),Int.sub_zero]
    have MQ:ak (k4 u j (n+1) v)+18446744073709551616^j*jf u j (n+1) v*ak v=ak u:=n3;rw [qL,<-hval,<-MQ];generalize ak (k4 u j (n+1) v)=x1;generalize jf u j (n+1) v=x2;generalize (18446744073709551616:Int)^j=x3;generalize ak q=qJ;generalize ak v=vT;grind
   .have hi:i<j:=hi;show(q.set j _).getD i 0=0;rw [ox,if_neg ω];exact hz i ω
   .show(AY a v _ _ s (j+1)).T=(k5 a v _ _ s j).T;unfold AY k5;rw [j3]
  have hlen':u.length=(k4 u j (n+1) v).length:=by omega
  have hown:∀i l,i<u.length->1<=l->(bz 167 aE (some (.own 167 aE u)) i&&Nat.ble 1 l)=true:=fun i l hi hl=>by rw [gg,ay hi,fA hl];rfl
  have Dw:(((0+1:Nat):Int)-1+v.length+1).toNat=n+1:=by omega
  by_cases hj0:j=0
  .subst hj0;refine bE (s:=k5 a v u q s 1) hS (aiv a v u q s 1 ω ω ω ω (by rw [Dw];omega) rfl (by rw [Dw];exact hown _ _ ω ω) (by rw [Dw];exact hpre) (by rw [ej];omega) ω (by rw [Dw];exact hlen') (by rw [b9]) (by rw [b9])) ?_;rw [Dw,ej];exact fin
  .refine aW.all (s:=k5 a v u q s (j+1)) known mixed hS _ (aiw a v u q s (j+1) ω ω ω ω (by rw [A3];omega) (by
    rw [ej];cases hb:Nat.beq j 0 with
    |false=>rfl
    |true=>exact absurd (ac hb) hj0) (by rw [A3,ej];omega) (by
    rw [A3,ej,ed];exact hown _ _ ω ω) (by rw [A3,ej,ed];exact hpre) (by rw [ej];omega) ω (by rw [A3,ej,ed];exact hlen') (by rw [b9]) (by rw [b9])) (by kernel_rfl) ?_
   rw [A3,ej,ed];exact fin
def ajv (a b:List Int) (h:pT a b=true):Holds prog false 178 [bI a,bI b] (.tuple [bI (e4 a b),bI (cF a b)]):=by
 have hS:=GL;unfold pT mK at h;simp only [ae,bA,hG,qU]at h;obtain⟨⟨⟨ha,ki⟩,⟨hb,GW⟩,hal⟩,ju,hla,hlb⟩:=h;have hC:mK a b=true:=by
  unfold mK;rw [hG.2 ha,qU.2 ki,hG.2 hb,qU.2 GW,ay hal];rfl
 have lS:0<=ak a:=gh δ ha;have uA:0<=ak b:=gh δ hb;refine bL (c:=fU) func178 rfl rfl fun w F=> ?_
 by_cases hlt:ak a<ak b
 .have e1:e4 a b=[]:=by unfold e4;rw [Int.ediv_eq_zero_of_lt lS hlt];exact L3 δ
  have e2:cF a b=a:=by unfold cF;rw [Int.emod_eq_of_lt lS hlt];exact(fp δ ha ki rfl).symm
  rw [e1,e2];exact bg hS 3 (ain a b hC (by unfold kW;rw [if_pos hlt];decide))
 .refine cP hS 4 (aio a b hC (by unfold kW;rw [if_neg hlt];split<;>decide)) ?_;obtain⟨n,hn⟩:∃n,b.length=n+1:=⟨b.length-1,by omega⟩;have Du:=hb.get δ n;have hbz:=GW n hn;cases n with
  |zero=>
   obtain⟨y,rfl⟩:∃y,b=[y]:=List.length_eq_one_iff.1 hn;have hy:y≠0:=hbz;have hy2:0<=y/\y<18446744073709551616:=Du;refine Ug (X:=pE) (o:= .tmp 23) (x:=cat fU Dm) (y:= .skip) (rest:=(fl fU []).drop 5) (by kernel_rfl) (by kernel_rfl) ?_;refine aW.mono (fun e T H hq=> ?_) (aiD ha ω hla w F);obtain⟨rfl,hq⟩:=hq;exact hq
  |succ m=>
   refine cX (s:=sC a b) hS 1 (OR a b ω) ?_;obtain⟨s,hs,TX,TY,TZ⟩:=TS (x:=b.getD (m+1) 0) ω;have bJ:((b.length:Int)-1).toNat=m+1:=by omega
   have hp:(0:Int)<2^s:=dD δ _;have auB:=sA (u:=b) (n:=m+1) hn;have auC:=gh (b:=18446744073709551616) δ (hb.take (m+1));have ajw:=fK (b:=18446744073709551616) δ (hb.take (m+1));rw [eE,Nat.min_eq_left ω]at ajw;have hP:=dD (b:=18446744073709551616) δ (m+1);have iq:18446744073709551616^(m+1)<=ak b:=yd δ hb GW hn
   -- the divisor, shifted up, has as many words
   have ajx:(b.getD (m+1) 0+1)*2^s<=18446744073709551616:=by
    have qZ:(18446744073709551616:Int)=2^(64-s)*2^s:=by rw [<-Int.pow_add,show 64-s+s=64 by omega];rfl
    have h1:b.getD (m+1) 0<2^(64-s):=Int.lt_of_mul_lt_mul_right (show b.getD (m+1) 0*2^s<2^(64-s)*2^s by rw [<-qZ];exact TZ) (cq hp);rw [qZ];exact ar ω (cq hp)
   have MT:ak b*2^s<18446744073709551616^(m+2):=by
    have h1:ak b<18446744073709551616^(m+1)*(b.getD (m+1) 0+1):=by rw [Int.mul_add,Int.mul_one];unfold ak at*;omega
    have h2:=Int.mul_lt_mul_of_pos_right h1 hp;have h3:=dZ ajx (cq hP);rw [Int.mul_assoc]at h2;rw [Int.pow_succ];omega
   have ajy:ak (cE b s)=ak b*2^s:=by
    unfold cE;rw [Int.toNat_natCast];refine C3 δ _ _ (Int.mul_nonneg uA (cq hp)) ?_;have:=iN (b:=18446744073709551616) δ (show m+2<=b.length+1 by omega);omega
   have ajz:aS 18446744073709551616 (cE b s):=by unfold cE;exact C2 δ _ _
   have auD:(cE b s).length=m+3:=by unfold cE;rw [yf];omega
   have hv:=wg ajz;rw [ajy]at hv;have iA:0<=ak b*2^s:=Int.mul_nonneg uA (cq hp);obtain⟨v1,v2,v3⟩:=qN (b:=18446744073709551616) δ iA;have MW:ak (dK (cE b s))=ak b*2^s:=by rw [hv];exact v3
   have hvl:(dK (cE b s)).length=m+2:=by
    have h1:=yo (b:=18446744073709551616) δ iA MT;rw [<-hv]at h1;by_cases hc:m+2<=(dK (cE b s)).length
    .omega
    .have h2:=fK (b:=18446744073709551616) δ v1;rw [<-hv]at h2;have h3:=iN (b:=18446744073709551616) δ (show(dK (cE b s)).length<=m+1 by omega);have h4:=dZ (show(1:Int)<=2^s by omega) uA;unfold ak at MW iq h4;omega
   have Df:aS 18446744073709551616 (dK (cE b s)):=by rw [hv];exact v1
   have sG:9223372036854775808<=(dK (cE b s)).getD (m+2-1) 0:=by
    have h1:=sA (u:=dK (cE b s)) (n:=m+1) hvl;have h2:=fK (b:=18446744073709551616) δ (Df.take (m+1));rw [eE,Nat.min_eq_left ω]at h2;have h3:18446744073709551616^(m+1)*(b.getD (m+1) 0*2^s)<=ak b*2^s:=by
     rw [<-Int.mul_assoc];exact ar (by unfold ak at*;omega) (cq hp)
    have h4:=dZ TY (cq hP);show _<=(dK (cE b s)).getD (m+1) 0;rw [MW]at h1;have h5:18446744073709551616^(m+1)*9223372036854775808<18446744073709551616^(m+1)*((dK (cE b s)).getD (m+1) 0+1):=by
     rw [Int.mul_add,Int.mul_one];unfold ak at*;omega
    have:=Int.lt_of_mul_lt_mul_left h5 (cq hP);omega
   have hge:m+2<=a.length:=by
    refine Nat.not_lt.1 fun hh=> ?_
    exact hlt (vW δ ha hb GW ω)
   have Ut:∀l:List Int,aS 18446744073709551616 l->l.length<=300000->yy l (s:Int)=true:=fun l hl ajj=>by
    unfold yy;rw [hG.2 hl,ay (show l.length<=400000 by omega),ay (show(0:Int)<=(s:Int) by omega),ay (show(s:Int)<64 by omega)];rfl
   have ht:((cE b s).drop 0).take (cE b s).length=cE b s:=by simp
   have hs':dQ (b.getD ((b.length:Int)-1).toNat 0)=(s:Int):=by rw [bJ];exact hs
   refine aW.st (s:=sC a b) known mixed hS 2 _ (ait a b (dK (cE b s)) s ω ω ω (by rw [bJ];exact sj.2 Du) (by rw [hs'];exact Ut b hb hlb) (by
    rw [hs'];have:bz 167 aE (some (.own 167 aE (cE b s))) ((cE b s).length-1)=true:=by rw [gg];exact ay ω
    rw [Bool.or_eq_true];exact .inr this) (by rw [hs',ht];omega) hs' (by rw [hs',ht])) (by kernel_rfl) ?_
   have em:((a.length:Int)-(dK (cE b s)).length+1).toNat=a.length-(m+2)+1:=by omega
   refine cX (s:=MG a (dK (cE b s)) s) hS 4 (aiu a (dK (cE b s)) s (a.length-(m+2)+1) (Ut a ha hla) ω ω ω (by rw [em];omega) rfl (by rw [em,cf]) (by rw [em]) (by rw [cf]) ω (by rw [em];exact ym _) (by rw [cf])) ?_;exact ajt ha Df TX hvl ω ω ω hla MW ω (by rw [show m+2-1=m+1 by omega];exact iq) sG w F
def Uu:MH.Ok prog:=fun⟨a,b,_⟩ h=>ajv a b h
def uB:=k_a f171
def wK:=a8 [Gn,L7,MH,wq,Dd,wu]
abbrev GV:Sv.Ren:=[(64,64,none),(65,65,none),(66,66,none),(67,67,none)]
section
variable (a b:aC)
def uC:bH:={n:=84,sl:=[(2, .ptr 64 0),(3, .ptr 65 0),(4, .ptr 66 0),(5, .ptr 67 0)],bJ:=[(64,eR a),(65,eR b),(66,b0),(67,b0)],next:=68}
def kC:Int×List Int:=aY (ck (bZ a) (e4 (aA a) (aA b)))
def gS:Int×List Int:=aY (ck (bZ a) (cF (aA a) (aA b)))
def ajA (h1:a.2.isEmpty=true) (h2:b.2.isEmpty=true) (h3:¬a.1= -9223372036854775808) (h4:b.1≠0) (h5:i6 (Int.tdiv a.1 b.1)) (h6:Int.tmod a.1 b.1<0) (h7:i6 (Int.tdiv a.1 b.1-1)) (h8:i6 (Int.tmod a.1 b.1+b.1)):
  bf wK (fl uB []) 3 84 [aB a,aB b] 2047 f171 false (.tuple [aB (Int.tdiv a.1 b.1-1,[]),aB (Int.tmod a.1 b.1+b.1,[])]):=
 wy [aa (aL (aL (h1))),aa (aL (h1)),aa (aL (aL (h2))),aa (aL (h2)),aa (gz.mpr h3),aa (aF (v:=iv (a.1))),aa (aF (v:=iv (b.1))),ah h4,yi h5,ah h6,yi h7,yi h8] 251558458034092392577408602166792257
def Uv (h1:a.2.isEmpty=true) (h2:b.2.isEmpty=true) (h3:¬a.1= -9223372036854775808) (h4:b.1≠0) (h5:i6 (Int.tdiv a.1 b.1)) (h6:¬Int.tmod a.1 b.1<0):
  bf wK (fl uB []) 3 84 [aB a,aB b] 1535 f171 false (.tuple [aB (Int.tdiv a.1 b.1,[]),aB (Int.tmod a.1 b.1,[])]):=
 wy [aa (aL (aL (h1))),aa (aL (h1)),aa (aL (aL (h2))),aa (aL (h2)),aa (gz.mpr h3),aa (aF (v:=iv (a.1))),aa (aF (v:=iv (b.1))),ah h4,yi h5,aK h6] 802322401637226796831279157313
def ajB (h1:a.2.isEmpty=false):
  dy wK (fl uB []) 3 84 [aB a,aB b] 512 .normal GV (uC a b):=
 wy [aa (aL (aL (h1))),aa (aL (h1))] 528449
def ajC (h1:a.2.isEmpty=true) (h2:b.2.isEmpty=false):
  dy wK (fl uB []) 3 84 [aB a,aB b] 527 .normal GV (uC a b):=
 wy [aa (aL (aL (h1))),aa (aL (h1)),aa (aL (aL (h2))),aa (aL (h2))] 17801616560193
def ajD (h1:a.2.isEmpty=true) (h2:b.2.isEmpty=true) (h3:a.1= -9223372036854775808):
  dy wK (fl uB []) 3 84 [aB a,aB b] 767 .normal GV (uC a b):=
 wy [aa (aL (aL (h1))),aa (aL (h1)),aa (aL (aL (h2))),aa (aL (h2)),aa (eF.mpr h3)] 1425176500113473
def ajE (h1:(az a)=true) (h2:(az b)=true) (h3:(pT (aA a) (aA b))=true) (h4:(gO (e4 (aA a) (aA b))&&jz (e4 (aA a) (aA b)))=true) (h5:(gO (cF (aA a) (aA b))&&jz (cF (aA a) (aA b)))=true) (h6:(az (aY (ck (bZ a) (cF (aA a) (aA b)))))=true) (h7:gG (aY (ck (bZ a) (cF (aA a) (aA b))))<0) (h8:(az (aY (ck (bZ a) (e4 (aA a) (aA b))))&&az (1,[]))=true) (h9:(az (aY (ck (bZ a) (cF (aA a) (aA b))))&&az b)=true) (h10:(cx (aY (ck (bZ a) (e4 (aA a) (aA b)))) (1,[])).1=(cx (kC a b) (1,[])).1) (h11:(cx (aY (ck (bZ a) (e4 (aA a) (aA b)))) (1,[])).2=(cx (kC a b) (1,[])).2) (h12:(cu (aY (ck (bZ a) (cF (aA a) (aA b)))) b).1=(cu (gS a b) b).1) (dL:(cu (aY (ck (bZ a) (cF (aA a) (aA b)))) b).2=(cu (gS a b) b).2):
  bW wK ((fl uB []).drop 3) (uC a b) 3 f171 false (.tuple [aB (cx (kC a b) (1,[])),aB (cu (gS a b) b)]):=
 wy [aa h1,aa h2,aa h3,aa h4,aa h5,aa h6,ah h7,aa (aF (v:=aB (aY (ck (bZ a) (e4 (aA a) (aA b)))))),aa h8,aa (aF (v:=aB (aY (ck (bZ a) (cF (aA a) (aA b)))))),aa (aF (v:=aB b)),aa h9,aa (aF (v:=aB (cx (aY (ck (bZ a) (e4 (aA a) (aA b)))) ((1:Int),[])))),aa (aF (v:=aB (cu (aY (ck (bZ a) (cF (aA a) (aA b)))) b))),ax h10,ax h11,ax h12,ax dL] 6366022754155619780025161810062091830177921
def ajF (h1:(az a)=true) (h2:(az b)=true) (h3:(pT (aA a) (aA b))=true) (h4:(gO (e4 (aA a) (aA b))&&jz (e4 (aA a) (aA b)))=true) (h5:(gO (cF (aA a) (aA b))&&jz (cF (aA a) (aA b)))=true) (h6:(az (aY (ck (bZ a) (cF (aA a) (aA b)))))=true) (h7:¬gG (aY (ck (bZ a) (cF (aA a) (aA b))))<0) (h8:(aY (ck (bZ a) (e4 (aA a) (aA b)))).1=(kC a b).1) (h9:(aY (ck (bZ a) (e4 (aA a) (aA b)))).2=(kC a b).2) (h10:(aY (ck (bZ a) (cF (aA a) (aA b)))).1=(gS a b).1) (h11:(aY (ck (bZ a) (cF (aA a) (aA b)))).2=(gS a b).2):
  bW wK ((fl uB []).drop 3) (uC a b) 2 f171 false (.tuple [aB (kC a b),aB (gS a b)]):=
 wy [aa h1,aa h2,aa h3,aa h4,aa h5,aa h6,aK h7,aa (aF (v:=aB (aY (ck (bZ a) (e4 (aA a) (aA b)))))),aa (aF (v:=aB (aY (ck (bZ a) (cF (aA a) (aA b)))))),ax h8,ax h9,ax h10,ax h11] 3986500662194803160658049
noncomputable def dW:Int×List Int:=if iz a&&(iz b&& !(a.1== -9223372036854775808))then aY (aj a/aj b)else if aj (gS a b)<0 then cx (kC a b) (1,[])else kC a b
noncomputable def im:Int×List Int:=aY (aj a%aj b)
def nA:Bool:=(az a&&az b)&&decide (0<aj b)
end
def GX:=IN 171 [dF,dF] [dF,dF] false (fun d=>nA d.1 d.2.1) fun d=>(dW d.1 d.2.1,(im d.1 d.2.1,()))
def Uw:bD prog (bF wK):=cM (aP L9 (aP TI (aP Uu (aP yw (aP Gw (aP i8 dV))))))
def Ux {n:Nat} {a b:aC} (h:aV n a=true) (g:aV n b=true) (hb:0<aj b):
  0<=ak (aA a)/ak (aA b)/\0<=ak (aA a)%ak (aA b)/\ak (aA a)%ak (aA b)<aj b/\ak (aA b)=aj b/\
  ((0<=aj a/\aj (kC a b)=aj a/aj b/\aj (gS a b)=aj a%aj b/\¬aj (gS a b)<0)\/
   (aj (gS a b)<0/\aj (kC a b)-1=aj a/aj b/\aj (gS a b)+aj b=aj a%aj b)\/
   (¬aj (gS a b)<0/\aj (kC a b)=aj a/aj b/\aj (gS a b)=aj a%aj b)):=by
 obtain⟨_,_,a3,a4,_⟩:=kr h;obtain⟨_,_,b3,b4,_⟩:=kr g;have eb:ak (aA b)=aj b:=by omega
 have q0:0<=ak (aA a)/ak (aA b):=Int.ediv_nonneg ω ω;have ef:=dM (ak (aA a)) (show ak (aA b)≠0 by omega);have r1:=er (ak (aA a)) (show 0<ak (aA b) by omega);have tT:=Int.emod_add_mul_ediv (ak (aA a)) (ak (aA b));have eQ:aj (kC a b)=ck (bZ a) (e4 (aA a) (aA b)):=val_mk _;have oA:aj (gS a b)=ck (bZ a) (cF (aA a) (aA b)):=val_mk _;have Uy:ak (e4 (aA a) (aA b))=ak (aA a)/ak (aA b):=wz q0;have MX:ak (cF (aA a) (aA b))=ak (aA a)%ak (aA b):=wz ef;refine⟨q0,ef,by omega,eb, ?_⟩;unfold ck at eQ oA;cases hn:bZ a
 .rw [hn]at eQ oA;have eQ:aj (kC a b)=ak (e4 (aA a) (aA b)):=eQ;have oA:aj (gS a b)=ak (cF (aA a) (aA b)):=oA;have ha:¬aj a<0:=fun hh=>by rw [a4.2 hh]at hn;cases hn
  have ea:ak (aA a)=aj a:=by omega
  refine .inl ⟨by omega,by rw [eQ,Uy,ea,eb],by rw [oA,MX,ea,eb],by rw [oA,MX];omega⟩
 .rw [hn]at eQ oA;have eQ:aj (kC a b)= -ak (e4 (aA a) (aA b)):=eQ;have oA:aj (gS a b)= -ak (cF (aA a) (aA b)):=oA;have ha:=a4.1 hn;have ea:ak (aA a)= -aj a:=by omega
  rw [Uy]at eQ;rw [MX]at oA;rw [eb]at eQ oA tT r1 ef q0;generalize ak (aA a)/aj b=q at*;generalize ak (aA a)%aj b=r at*;by_cases hr:r=0
  .obtain⟨k1,k2⟩:=yg (U:=aj a) (V:=aj b) (t:= -q) hb (by rw [Int.neg_mul,Int.mul_comm q];omega) (by rw [Int.neg_mul,Int.mul_comm q];omega);rw [Int.neg_mul,Int.mul_comm q]at k2;exact .inr (.inr ⟨by omega,by omega,by omega⟩)
  .have e:(-q-1)*aj b= -(aj b*q)-aj b:=by rw [Int.sub_mul,Int.one_mul,Int.neg_mul,Int.mul_comm q]
   obtain⟨k1,k2⟩:=yg (U:=aj a) (V:=aj b) (t:= -q-1) hb (by rw [e];omega) (by rw [e];omega);rw [e]at k2;exact .inr (.inl ⟨by omega,by omega,by omega⟩)
def A4 {n:Nat} {a b:aC} (h:aV n a=true) (g:aV n b=true) (hb:0<aj b):aj (dW a b)=aj a/aj b:=by
 obtain⟨_,_,_,_,hv⟩:=Ux h g hb;unfold dW;split
 .exact val_mk _
 .split
  .rename_i hlt;rw [val_sub];have e1:aj (1,[])=1:=rfl;rw [e1];omega
  .omega
def rf (a b:aC):aj (im a b)=aj a%aj b:=val_mk _
def Uz (x:Int) {y:Int} (hy:0<y):(x/y).natAbs<=x.natAbs:=by
 have h1:=Int.emod_add_mul_ediv x y;have h2:=dM x (show y≠0 by omega);have h3:=er x hy;by_cases h0:0<=x
 .have h4:0<=x/y:=Int.ediv_nonneg h0 ω;have:=ar (show 1<=y by omega) h4;omega
 .have h4:x/y<= -1:=by
   have:x/y<0:=(Int.ediv_lt_iff_lt_mul hy).2 ω;omega
  have h5:=dZ (show x/y+1<=0 by omega) (show 0<=y-1 by omega);rw [Int.mul_zero]at h5;have e:(y-1)*(x/y+1)=y*(x/y)+y-x/y-1:=by grind
  omega
def pc {n:Nat} {a b:aC} (h:aV n a=true) (g:aV n b=true) (hb:0<aj b) (hn:1<=n):aV n (dW a b)=true:=by
 have hv:=A4 h g hb;have ha:=jB h hn;have hd:=Uz (aj a) hb;have hk:∀z:Int,z=aj a/aj b->(z.natAbs:Int)<18446744073709551616^n:=fun z hz=>by subst hz;omega
 unfold dW at hv ⊢;split
 .exact(jC (hk _ rfl)).1
 .rename_i hc;rw [if_neg hc]at hv;split
  .rename_i hlt;rw [if_pos hlt,val_sub]at hv;exact uk (by rw [nu];exact hk _ ω)
  .rename_i hlt;rw [if_neg hlt]at hv;unfold kC at hv ⊢;rw [val_mk]at hv;exact(jC (hk _ hv)).1
section
variable {n:Nat} {a b:aC} (g:aV n b=true) (hb:0<aj b) (hn:1<=n)
def UA:((aj a%aj b).natAbs:Int)<18446744073709551616^n:=by
 have h1:=dM (aj a) (show aj b≠0 by omega);have h2:=er (aj a) hb;have h3:=jB g hn;omega
def ajG:aV n (im a b)=true:=(jC (UA g hb hn)).1
end
section
variable (a b:aC) (h:az a=true) (g:az b=true) (hb:0<aj b)
def MY (hc:¬(iz a&&(iz b&& !(a.1== -9223372036854775808)))=true) (w:World) (F:Sv.Env):
  aW prog w F 84 ((fl uB []).drop 3) (uC a b).T (uC a b).H (gZ prog false f171 (.tuple [aB (dW a b),aB (im a b)])):=by
 have hS:=Uw;obtain⟨q0,ef,r1,eb,hv⟩:=Ux h g hb;obtain⟨a1,a2,a3,a4,a5⟩:=kr h;obtain⟨b1,b2,b3,b4,gu⟩:=kr g;have hD:pT (aA a) (aA b)=true:=by
  unfold pT;have hne:1<=(aA b).length:=by
   cases hl:aA b with
   |nil=>rw [hl]at eb;have:ak []=0:=rfl;omega
   |cons _ _=>simp
  rw [show mK (aA a) (aA b)=true from Mc h g,ay hne,ay (show(aA a).length<=300000 by omega),ay (show(aA b).length<=300000 by omega)];rfl
 have UB:=yt q0;have UC:=yt ef;have ha:=jB h δ;have iq:=jB g δ;have auE:ak (aA a)/ak (aA b)<=ak (aA a):=Int.ediv_le_self _ ω;have okQ:az (kC a b)=true:=by
  refine(jC ?_).1;rw [Ma (bZ a) (w:=e4 (aA a) (aA b)) (qN (b:=18446744073709551616) δ q0).1,show ak (e4 (aA a) (aA b))=_ from wz q0];omega
 have MZ:az (gS a b)=true:=by
  refine(jC ?_).1;rw [Ma (bZ a) (w:=cF (aA a) (aA b)) (qN (b:=18446744073709551616) δ ef).1,show ak (cF (aA a) (aA b))=_ from wz ef];omega
 by_cases hlt:aj (gS a b)<0
 .have e1:dW a b=cx (kC a b) (1,[]):=by unfold dW;rw [if_neg hc,if_pos hlt]
  have hval:aj (cu (gS a b) b)=aj a%aj b:=by rw [si];omega
  have e2:cu (gS a b) b=im a b:=by
   have ho:az (cu (gS a b) b)=true:=uk (by rw [<-si,hval];exact UA g hb δ);have:=Gj ho (by rw [hval];have:=dM (aj a) (show aj b≠0 by omega);omega);rw [hval]at this;exact this
  rw [e1,<-e2];have one:az ((1:Int),([]:List Int))=true:=rfl;exact b5 (s:=uC a b) hS (ajE a b h g hD UB UC MZ (by unfold gG;exact Int.lt_of_le_of_lt (Int.le_of_eq (Gk hlt)) δ) (by rw [ae];exact⟨okQ,one⟩) (by rw [ae];exact⟨MZ,g⟩) rfl rfl rfl rfl)
 .have e1:dW a b=kC a b:=by unfold dW;rw [if_neg hc,if_neg hlt]
  have e2:gS a b=im a b:=by
   unfold im;have:aj (gS a b)=aj a%aj b:=by omega
   rw [<-this];unfold gS;rw [val_mk]
  rw [e1,<-e2];exact aW.vO (s:=uC a b) known mixed hS _ (ajF a b h g hD UB UC MZ (by
   show¬j6 (aj (gS a b))<0;unfold j6;rw [if_neg hlt];split<;>decide) rfl rfl rfl rfl) fun T H h=>h
def ajH:Holds prog false 171 [aB a,aB b] (.tuple [aB (dW a b),aB (im a b)]):=by
 have hS:=Uw;refine bL (c:=uB) func171 rfl rfl fun w F=> ?_
 by_cases ha:a.2=[]
 .have Mf:=yu h ha;by_cases lD:b.2=[]
  .have hrb:=yu g lD;by_cases hm:a.1= -9223372036854775808
   .refine cP hS 3 (ajD a b (dh.2 ha) (dh.2 lD) hm) (MY a b h g hb (fun hh=> ?_) w F);simp only [ae,Bool.not_eq_true',eN]at hh;exact hh.2.2 hm
   .have UD:=lN ha;have M0:=lN lD;rw [M0]at hb;have hc:(iz a&&(iz b&& !(a.1== -9223372036854775808)))=true:=by
     rw [dh.2 ha,dh.2 lD,eN.2 hm];rfl
    have tT:=Int.tmod_add_mul_tdiv a.1 b.1;have uy:=dM a.1 (show b.1≠0 by omega);have lH:=er a.1 hb;have T6:=Int.emod_add_mul_ediv a.1 b.1;have GO:=Uz a.1 hb;have ajI:dW a b=(a.1/b.1,[]):=by
     unfold dW;rw [if_pos hc,UD,M0];exact eh ω
    have ajJ:im a b=(a.1%b.1,[]):=by
     unfold im;rw [UD,M0];exact eh ω
    rw [ajI,ajJ];by_cases hneg:0<=a.1
    .have e1:a.1.tdiv b.1=a.1/b.1:=Int.tdiv_eq_ediv_of_nonneg hneg;have e2:a.1.tmod b.1=a.1%b.1:=Int.tmod_eq_emod_of_nonneg hneg;have:=aW.ret (P:=prog) (w0:=w) (F:=F) (X:=pE) known mixed hS 3 _ (Uv a b (dh.2 ha) (dh.2 lD) hm ω (by rw [e1];omega) (by rw [e2];omega)) fun T H h=>h
     rw [e1,e2]at this;exact this
    .have e1:a.1.tdiv b.1= -((-a.1)/b.1):=by
      have:=Int.neg_tdiv (a:= -a.1) (b:=b.1);rw [Int.neg_neg]at this;rw [this,Int.tdiv_eq_ediv_of_nonneg ω]
     have n1:=Int.emod_add_mul_ediv (-a.1) b.1;have n2:=dM (-a.1) (show b.1≠0 by omega);have n3:=er (-a.1) hb;have sw:0<=(-a.1)/b.1:=Int.ediv_nonneg ω ω;have T8:(-a.1)/b.1<= -a.1:=Int.ediv_le_self _ ω;have e2:a.1.tmod b.1= -((-a.1)%b.1):=by
      rw [e1,Int.mul_neg]at tT;omega
     have bV:a.1.tdiv b.1*b.1= -(b.1*(-a.1/b.1)):=by rw [e1,Int.neg_mul,Int.mul_comm]
     by_cases hr:(-a.1)%b.1=0
     .obtain⟨k1,k2⟩:=yg (U:=a.1) (V:=b.1) (t:=a.1.tdiv b.1) hb (by rw [bV];omega) (by rw [bV];omega);have:=aW.ret (P:=prog) (w0:=w) (F:=F) (X:=pE) known mixed hS 3 _ (Uv a b (dh.2 ha) (dh.2 lD) hm ω ω ω) fun T H h=>h
      rw [<-k1,show a.1.tmod b.1=a.1%b.1 by omega]at this;exact this
     .have e3:(a.1.tdiv b.1-1)*b.1= -(b.1*(-a.1/b.1))-b.1:=by rw [Int.sub_mul,Int.one_mul,bV]
      obtain⟨k1,k2⟩:=yg (U:=a.1) (V:=b.1) (t:=a.1.tdiv b.1-1) hb (by rw [e3];omega) (by rw [e3];omega);have:=aW.ret (P:=prog) (w0:=w) (F:=F) (X:=pE) known mixed hS 3 _ (ajA a b (dh.2 ha) (dh.2 lD) hm ω ω ω ω ω) fun T H h=>h
      rw [<-k1,show a.1.tmod b.1+b.1=a.1%b.1 by rw [k2,e3];omega]at this;exact this
  .exact aW.to known mixed hS 3 _ (ajC a b (dh.2 ha) (r9.2 lD)) (by kernel_rfl) (MY a b h g hb (fun hh=>by
    simp only [ae]at hh;exact lD (dh.1 hh.2.1)) w F)
 .exact aW.to known mixed hS 3 _ (ajB a b (r9.2 ha)) (by kernel_rfl) (MY a b h g hb (fun hh=>by
   simp only [ae]at hh;exact ha (dh.1 hh.1)) w F)
end
def A5 {a b:aC}:nA a b=true↔az a=true/\az b=true/\0<aj b:=by
 unfold nA;simp only [ae,bA,and_assoc]
def M3:GX.Ok prog:=fun⟨a,b,_⟩ h=>by
 obtain⟨h1,h2,h3⟩:=A5.1 (show nA a b=true from h);exact ajH a b h1 h2 h3
def yI:=k_a f121
def M4:=k_a f148
def yJ:=k_a f83
def yK:=a8 [TN,wq,GX,yp]
abbrev wL:List Nat:=[1,1,0,0,0]
section
variable (a b:aC)
def sI:bH:={n:=23,sl:=[(2, .ptr 64 0),(3, .ptr 65 0),(4, .ptr 66 0)],bJ:=[(64,eR a),(65,eR b),(66,b0)],next:=67}
def ajK (h1:(az a)=true) (h2:(az b)=true):
  dy yK (fl yI []) 2 23 [aB a,aB b] 1 .normal s3 (sI (sE a) (sE b)):=
 wy [aa (aF (v:=aB a)),aa h1,aa (aF (v:=aB b)),aa h2] 67907713
def ajL (h1:(az b)=true) (h2:¬gG b=0) (h3:(nA a b)=true):
  bB yK (fl yI wL) (sI a b) 3 .normal s3 (sI b (im a b)):=
 wy [aa h1,aa (gz.mpr h2),aa h3,aa (aF (v:=aB b)),aa (aF (v:=aB (im a b)))] 5453656193
def ajM (h1:(az b)=true) (h2:gG b=0):
  bB yK (fl yI wL) (sI a b) 2 (.exit 0) s3 (sI a b):=
 wy [aa h1,aa (eF.mpr h2)] 129
def ajN:
  bW yK ((fl yI []).drop 3) (sI a b) 1 f121 false (aB a):=
 wy [] 0
def ajO (h1:(az b)=true) (h2:gG b<0) (h3:(az a)=true) (h4:(nA (eZ a) (eZ b))=true):
  bf yK (fl M4 []) 9 21 [aB a,aB b] 3 f148 false (aB (dW (eZ a) (eZ b))):=
 wy [aa h1,ah h2,aa (aF (v:=aB a)),aa h3,aa (aF (v:=aB b)),aa h4] 26462452199553
def ajP (h1:(az b)=true) (h2:¬gG b<0) (h3:(nA a b)=true):
  bf yK (fl M4 []) 9 21 [aB a,aB b] 2 f148 false (aB (dW a b)):=
 wy [aa h1,aK h2,aa h3] 12417
def d9:Int×List Int:=aY (Int.gcd (aj a) (aj b))
noncomputable def fx:Int×List Int:=if aj b<0 then dW (eZ a) (eZ b)else dW a b
def fu:Bool:=(az a&&az b)&& !(aj b==0)
end
def GY:=IN 121 [dF,dF] [dF] false (fun d=>az d.1&&az d.2.1) fun d=>(d9 d.1 d.2.1,())
def GZ:=IN 148 [dF,dF] [dF] false (fun d=>fu d.1 d.2.1) fun d=>(fx d.1 d.2.1,())
def UE:bD prog (bF yK):=cM (aP agT (aP yw (aP M3 (aP AJ dV))))
def UF {a:aC}:gG a=0↔aj a=0:=by
 unfold gG j6;split
 .constructor
  .intro h;exact absurd h δ
  .intro h;omega
 .split
  .simp [*]
  .constructor
   .intro h;exact absurd h δ
   .intro h;omega
def G0 {a:aC}:gG a<0↔aj a<0:=by
 unfold gG j6;split
 .simp [*]
 .split
  .simp [*]
  .constructor
   .intro h;exact absurd h δ
   .intro h;omega
def UG {a:aC} (h:az a=true):az (sE a)=true:=by
 have:=jB h δ;exact(jC (by rw [Int.natAbs_natCast];exact this)).1
def UH {x y:Int} (hx:0<=x) (hy:0<y):Int.gcd y (x%y)=Int.gcd x y:=by
 obtain⟨m,rfl⟩:∃m:Nat,x=(m:Int):=⟨x.toNat,by omega⟩;obtain⟨n,rfl⟩:∃n:Nat,y=(n:Int):=⟨y.toNat,by omega⟩;rw [<-Int.natCast_emod];show Nat.gcd n (m%n)=Nat.gcd m n;rw [Nat.gcd_comm n,<-Nat.gcd_rec,Nat.gcd_comm]
def ajQ (a b:aC) (h:az a=true) (g:az b=true):Holds prog false 121 [aB a,aB b] (aB (d9 a b)):=by
 have hS:=UE;refine bL (c:=yI) func121 rfl rfl fun w F=> ?_
 refine cP hS 2 (ajK a b h g) ?_;refine aW.loop (ι:={x:aC×aC//az x.1=true/\az x.2=true/\0<=aj x.1/\0<=aj x.2/\Int.gcd (aj x.1) (aj x.2)=Int.gcd (aj a) (aj b)}) (id:=0) (b:=cat yI wL) (rest:=(fl yI []).drop 3) (by kernel_rfl) (fun x=>sI x.1.1 x.1.2) (fun x=>(aj x.1.2).natAbs)
  ⟨(sE a,sE b),UG h,UG g,by rw [Gv];omega,by rw [Gv];omega,by rw [Gv,Gv];rfl⟩ (fun _=>rfl) ?_
 rintro⟨⟨x,y⟩,hx,hy,hx0,hy0,hg⟩;have hx:az x=true:=hx;have hy:az y=true:=hy;have hx0:0<=aj x:=hx0;have hy0:0<=aj y:=hy0;have hg:Int.gcd (aj x) (aj y)=Int.gcd (aj a) (aj b):=hg;by_cases hz:aj y=0
 .refine bE (s:=sI x y) hS (ajM x y hy (UF.2 hz)) ?_;refine cG (cO ?_);have e:x=d9 a b:=by
   have h1:=Gj hx ω;unfold d9;rw [<-hg,hz];have:((Int.gcd (aj x) 0:Nat):Int)=aj x:=by
    show((Nat.gcd (aj x).natAbs 0:Nat):Int)=_;rw [Nat.gcd_zero_right];omega
   rw [this];exact h1
  rw [<-e];exact b5 (s:=sI x y) hS (ajN x y)
 .have hyp:0<aj y:=by omega
  have hm0:=dM (aj x) hz;have pN:=er (aj x) hyp;refine bE (s:=sI x y) hS (ajL x y hy (fun hh=>hz (UF.1 hh)) (A5.2 ⟨hx,hy,hyp⟩)) ?_;refine⟨⟨(y,im x y),hy,ajG hy hyp δ,hy0,by show 0<=aj (im x y);rw [rf];exact hm0, ?_⟩, ?_,rfl,rfl⟩
  .show Int.gcd (aj y) (aj (im x y))=_;rw [rf,UH hx0 hyp,hg]
  .show(aj (im x y)).natAbs<(aj y).natAbs;rw [rf];omega
def M5:GY.Ok prog:=fun⟨a,b,_⟩ h=>by
 have h:(az a&&az b)=true:=h;rw [ae]at h;exact ajQ a b h.1 h.2
def ajR (a b:aC) (h:az a=true) (g:az b=true) (hb:aj b≠0):Holds prog false 148 [aB a,aB b] (aB (fx a b)):=by
 have hS:=UE;refine bL (c:=M4) func148 rfl rfl fun w F=> ?_
 by_cases hn:aj b<0
 .have e:fx a b=dW (eZ a) (eZ b):=by unfold fx;rw [if_pos hn]
  rw [e];exact bg hS 9 (ajO a b g (G0.2 hn) h (A5.2 ⟨ov h δ,ov g δ,by show 0<aj (eZ b);rw [nu];omega⟩))
 .have e:fx a b=dW a b:=by unfold fx;rw [if_neg hn]
  rw [e];exact bg hS 9 (ajP a b g (fun hh=>hn (G0.1 hh)) (A5.2 ⟨h,g,by show 0<aj b;omega⟩))
def yL {a b:aC}:fu a b=true↔az a=true/\az b=true/\aj b≠0:=by
 unfold fu;simp only [ae,Bool.not_eq_true',eN,and_assoc]
def M6:GZ.Ok prog:=fun⟨a,b,_⟩ h=>by
 obtain⟨h1,h2,h3⟩:=yL.1 (show fu a b=true from h);exact ajR a b h1 h2 h3
section
variable {n:Nat} {a b:aC} (h:aV n a=true) (g:aV n b=true)
def UI (hn:1<=n) (hb:aj b≠0) {c:Int} (hc:aj a=aj b*c):aj (fx a b)=c:=by
 unfold fx;split
 .rw [A4 (ov h hn) (ov g hn) (by rw [nu];omega),nu,nu,hc,<-Int.neg_mul];exact Int.mul_ediv_cancel_left _ ω
 .rw [A4 h g ω,hc];exact Int.mul_ediv_cancel_left _ hb
def M7 (hn:1<=n) (hb:aj b≠0):aV n (fx a b)=true:=by
 unfold fx;split
 .exact pc (ov h hn) (ov g hn) (by rw [nu];omega) hn
 .exact pc h g ω hn
end
def UJ:=k_a f130
def UK:=k_a f69
def G1:=k_a f68
def G2:=k_a f97
def yM:=k_a f76
def oB:=og [C5,TC] (a8 [LJ,TD,LW,MS])
def vZ (a:Bool×List Int):Int:=bn a.1 (ag a.2)
def okZ (a:Bool×List Int):Bool:=okA a.2&&(!a.1|| !(Nat.beq a.2.length 0))
def ajS (n:Bool) (x:List Int) (h1:(okB x)=true):
  bf oB (fl UJ []) 9 9 [rv (n,x)] 1 f130 false (rv (mkR (bn (!n) (ag x)))):=
 wy [aa h1] 1
section
variable (n m:Bool) (x y:List Int)
def ajT (h1:(okB x&&okB y)=true) (h2:(okB (aG (ag x*ag y)))=true):
  bf oB (fl UK []) 9 16 [rv (n,x),rv (m,y)] 1 f69 false (rv (mkR (bn (!(n==m)) (ag (aG (ag x*ag y)))))):=
 wy [aa (aF (v:=af.raw (Value.bool n))),aa (aF (v:=af.raw (Value.bool m))),aa (aF (v:=af.bt false (.int .i64) x)),aa (aF (v:=af.bt false (.int .i64) y)),aa h1,aa h2] 18603807693877377
def ajU (h1:n=m) (h2:(v6 x y)=true) (h3:(okB (aG (ag x+ag y)))=true):
  bf oB (fl G1 []) 3 40 [rv (n,x),rv (m,y)] 3 f68 false (rv (mkR (bn n (ag (aG (ag x+ag y)))))):=
 wy [cT h1,aa (aF (v:=af.raw (Value.bool n))),aa (aF (v:=af.bt false (.int .i64) x)),aa (aF (v:=af.bt false (.int .i64) y)),aa h2,aa h3] 414549291137
def ajV (h1:¬n=m) (h2:(okA x&&okA y)=true) (h3:kR (ag x) (ag y)>=0) (h4:(v6 x y&&decide (ag y<=ag x))=true) (h5:(okB (aG (ag x-ag y)))=true):
  bf oB (fl G1 []) 5 40 [rv (n,x),rv (m,y)] 6 f68 false (rv (mkR (bn n (ag (aG (ag x-ag y)))))):=
 wy [yn h1,aa h2,ah h3,aa (aF (v:=af.raw (Value.bool n))),aa (aF (v:=af.bt false (.int .i64) x)),aa (aF (v:=af.bt false (.int .i64) y)),aa h4,aa h5] 2269879563464833
def ajW (h1:¬n=m) (h2:(okA x&&okA y)=true) (h3:¬kR (ag x) (ag y)>=0) (h4:(v6 y x&&decide (ag x<=ag y))=true) (h5:(okB (aG (ag y-ag x)))=true):
  bf oB (fl G1 []) 9 40 [rv (n,x),rv (m,y)] 4 f68 false (rv (mkR (bn m (ag (aG (ag y-ag x)))))):=
 wy [yn h1,aa h2,aK h3,aa (aF (v:=af.raw (Value.bool m))),aa (aF (v:=af.bt false (.int .i64) y)),aa (aF (v:=af.bt false (.int .i64) x)),aa h4,aa h5] 2269879563464833
end
section
variable (x y:List Int) (h1:(okA x&&(okA y&&decide (0<ag y)))=true)
def ajX (h2:(↑(aG (ag x%ag y)).length:Int)>0) (h3:(v6 (aG (ag x/ag y)) [1])=true) (h4:(okB (aG (ag (aG (ag x/ag y))+ag [1])))=true):
  bf oB (fl G2 []) 9 29 [rv (true,x),rv (false,y)] 63 f97 false (rv (mkR (bn true (ag (aG (ag (aG (ag x/ag y))+ag [1])))))):=
 wy [aa h1,ah h2,aa (show(Nat.ble ((0:Nat)+(1:Nat)*(1:Nat)) (iv (1:Int)::List.append._f [] PUnit.unit (List.flatten._f [] PUnit.unit)).length)=true from(by simp only [aw]<;>exact rfl)),aa h3,aa h4] 1425175375511553
def ajY (h2:¬(↑(aG (ag x%ag y)).length:Int)>0) (h3:(okB (aG (ag x/ag y)))=true):
  bf oB (fl G2 []) 9 29 [rv (true,x),rv (false,y)] 47 f97 false (rv (mkR (bn true (ag (aG (ag x/ag y)))))):=
 wy [aa h1,aK h2,aa h3] 208305913857
def ajZ (h2:(okB (aG (ag x/ag y)))=true):
  bf oB (fl G2 []) 9 29 [rv (false,x),rv (false,y)] 32 f97 false (rv (mkR (bn false (ag (aG (ag x/ag y)))))):=
 wy [aa h1,aa h2] 137438953473
end
def sJ (a b:List Int):bH:={n:=19,sl:=[(0,lv a),(1,lv b)],bJ:=[],next:=64}
abbrev M8:List Nat:=[1,0,0,0]
section
variable (a b:List Int)
def aj0:
  dy oB (fl yM []) 1 19 [lv a,lv b] 1 .normal [] (sJ a b):=
 wy [] 0
def co_go (h1:(b.length:Int)>0) (h2:(okA a&&(okA b&&decide (0<ag b)))=true):
  bB oB (fl yM M8) (sJ a b) 3 .normal [] (sJ b (aG (ag a%ag b))):=
 wy [ah h1,aa h2] 129
def aj1 (h1:¬(b.length:Int)>0):
  bB oB (fl yM M8) (sJ a b) 2 (.exit 0) [] (sJ a b):=
 wy [aK h1] 1
def aj2:
  bW oB ((fl yM []).drop 2) (sJ a b) 1 f76 false (lv a):=
 wy [] 0
end
def UL:=IN 130 [j5] [j5] false (fun d=>okZ d.1) fun d=>(mkR (-vZ d.1),())
def UM:=IN 69 [j5,j5] [j5] false (fun d=>okZ d.1&&okZ d.2.1) fun d=>(mkR (vZ d.1*vZ d.2.1),())
def UN:=IN 68 [j5,j5] [j5] false (fun d=>okZ d.1&&okZ d.2.1) fun d=>(mkR (vZ d.1+vZ d.2.1),())
def UO:=IN 97 [j5,j5] [j5] false (fun d=>okZ d.1&&(okZ d.2.1&&decide (0<vZ d.2.1))) fun d=>(mkR (vZ d.1/vZ d.2.1),())
def M9:=IN 76 [.list false (.int .i64), .list false (.int .i64)] [.list false (.int .i64)] false (fun d=>okA d.1&&okA d.2.1) fun d=>(aG (Int.gcd (ag d.1) (ag d.2.1)),())
def uD:bD prog (bF oB):=uf (fun c hc=>by
 simp only [ek,jO,or_false]at hc;rcases hc with rfl |rfl
 .exact F2
 .exact af4) (cM fun c hc=>by
 simp only [ek,jO,or_false]at hc;rcases hc with rfl |rfl |rfl |rfl
 .exact Tm
 .exact af6
 .exact TE
 .exact Ur)
def eI {a:Bool×List Int}:okZ a=true↔okA a.2=true/\(a.1=true->0<ag a.2):=by
 unfold okZ;rw [ae];constructor
 .rintro⟨h1,h2⟩;refine⟨h1,fun h=> ?_⟩;rw [h,Bool.not_true,Bool.false_or,Bool.not_eq_true']at h2;obtain⟨hd,ht,_⟩:=fk.1 h1;have h0:=gD hd;have hz:=FU kT hd ht;rcases Int.lt_or_le 0 (ag a.2)with h3|h3
  .exact h3
  .have:a.2=[]:=hz.1 (by unfold ag at*;omega);rw [this]at h2;cases h2
 .rintro⟨h1,h2⟩;refine⟨h1, ?_⟩;cases hn:a.1 with
  |false=>rfl
  |true=>
   have:=h2 hn;rw [Bool.not_true,Bool.false_or,Bool.not_eq_true'];cases hb:Nat.beq a.2.length 0 with
   |false=>rfl
   |true=>
    rw [List.eq_nil_of_length_eq_zero (ac hb)]at this;exact absurd this δ
def di (z:Int):vZ (mkR z)=z:=by
 show bn (decide (z<0)) (ag (aG (z.natAbs:Int)))=z;rw [(gx (Int.natCast_nonneg _)).2.2];by_cases h:z<0
 .rw [ay h];show-(z.natAbs:Int)=z;omega
 .rw [ab h];show(z.natAbs:Int)=z;omega
section
variable {z:Int} {k:Nat} (h:0<=z) (hk:z<1000000000^k)
def G3:(aG z).length<=k:=yo kT h hk
def md (hb:k<=300000):okB (aG z)=true:=oh.2 ⟨(gx h).1,c6 (G3 h hk) hb⟩
def Dx (hb:k<=100000):okA (aG z)=true:=fk.2 ⟨(gx h).1,(gx h).2.1,c6 (G3 h hk) hb⟩
end
def hM {z:Int} {k:Nat} (hk:(z.natAbs:Int)<1000000000^k) (hb:k<=100000):okZ (mkR z)=true:=by
 refine eI.2 ⟨Dx (Int.natCast_nonneg _) hk hb,fun h=> ?_⟩;have h:decide (z<0)=true:=h;have h:=ap h;show 0<ag (aG (z.natAbs:Int));rw [(gx (Int.natCast_nonneg _)).2.2];omega
def Na {x:List Int} (h:okA x=true):okB x=true:=by
 obtain⟨h1,_,h2⟩:=fk.1 h;exact oh.2 ⟨h1,by omega⟩
def pe {x:List Int} (h:okA x=true):ag x<1000000000^x.length:=fK δ (fk.1 h).1
def add_lt {x y:Int} {i j:Nat} (hx:x<1000000000^i) (hy:y<1000000000^j):x+y<1000000000^(max i j+1):=by
 have h1:=iN (b:=1000000000) δ (show i<=max i j by omega);have h2:=iN (b:=1000000000) δ (show j<=max i j by omega);have h3:=dD (b:=1000000000) δ (max i j);rw [Int.pow_succ];omega
def UQ {x y:Int} {i j:Nat} (hx0:0<=x) (hy0:0<=y) (hx:x<1000000000^i) (hy:y<1000000000^j):x*y<1000000000^(i+j):=by
 rw [Int.pow_add];have h1:x*y<=x*1000000000^j:=dZ (cq hy) hx0;have h2:x*1000000000^j<1000000000^i*1000000000^j:=Int.mul_lt_mul_of_pos_right hx (dD δ j);omega
def aj3:UL.Ok prog:=fun⟨⟨n,x⟩,_⟩ h=>by
 obtain⟨h1,h2⟩:=eI.1 h;show Holds prog false 130 [rv (n,x)] (rv (mkR (-(bn n (ag x)))));have e: -(bn n (ag x))=bn (!n) (ag x):=by cases n<;>simp [bn]
 rw [e];refine bL (c:=UJ) func130 rfl rfl fun w F=> ?_
 exact bg uD 9 (ajS n x (Na h1))
def aj4:UM.Ok prog:=fun⟨⟨n,x⟩,⟨m,y⟩,_⟩ h=>by
 have h:(okZ (n,x)&&okZ (m,y))=true:=h;rw [ae]at h;obtain⟨h1,h2⟩:=eI.1 h.1;obtain⟨g1,g2⟩:=eI.1 h.2;have l1:=(fk.1 h1).2.2;have l2:=(fk.1 g1).2.2;have hx0:=gD (fk.1 h1).1;have hy0:=gD (fk.1 g1).1;have hp:0<=ag x*ag y:=Int.mul_nonneg hx0 hy0;show Holds prog false 69 [rv (n,x),rv (m,y)] (rv (mkR (bn n (ag x)*bn m (ag y))));have e:bn n (ag x)*bn m (ag y)=bn (!(n==m)) (ag (aG (ag x*ag y))):=by
  rw [(gx hp).2.2];cases n<;>cases m
  .rfl
  .exact Int.mul_neg _ _
  .exact Int.neg_mul _ _
  .exact Int.neg_mul_neg _ _
 rw [e];refine bL (c:=UK) func69 rfl rfl fun w F=> ?_
 have hb:okB (aG (ag x*ag y))=true:=md hp (UQ hx0 hy0 (pe h1) (pe g1)) (by have l1:x.length<=100000:=l1;have l2:y.length<=100000:=l2;omega);exact bg uD 9 (ajT n m x y (by rw [Na h1,Na g1];rfl) hb)
def UR {x y:Int}:kR x y>=0↔y<=x:=by
 have:= @MR x y;omega
def aj5:UN.Ok prog:=fun⟨⟨n,x⟩,⟨m,y⟩,_⟩ h=>by
 have h:(okZ (n,x)&&okZ (m,y))=true:=h;rw [ae]at h;obtain⟨h1,h2⟩:=eI.1 h.1;obtain⟨g1,g2⟩:=eI.1 h.2;have h1:okA x=true:=h1;have g1:okA y=true:=g1;have l1:=(fk.1 h1).2.2;have l2:=(fk.1 g1).2.2;have hx0:=gD (fk.1 h1).1;have hy0:=gD (fk.1 g1).1;have hx1:=pe h1;have hy1:=pe g1;show Holds prog false 68 [rv (n,x),rv (m,y)] (rv (mkR (bn n (ag x)+bn m (ag y))));refine bL (c:=G1) func68 rfl rfl fun w F=> ?_
 by_cases hnm:n=m
 .have e:bn n (ag x)+bn m (ag y)=bn n (ag (aG (ag x+ag y))):=by
   rw [(gx ω).2.2,<-hnm];cases n<;>simp only [bn]<;>omega
  rw [e];exact bg uD 3 (ajU n m x y hnm (ma.2 ⟨h1,g1⟩) (md ω (add_lt hx1 hy1) ω))
 .by_cases hle:ag y<=ag x
  .have e:bn n (ag x)+bn m (ag y)=bn n (ag (aG (ag x-ag y))):=by
    rw [(gx ω).2.2];cases n<;>cases m<;>first |exact absurd rfl hnm|(simp only [bn];omega)
   rw [e];exact bg uD 5 (ajV n m x y hnm (by rw [h1,g1];rfl) (UR.2 hle) (by rw [ma.2 ⟨h1,g1⟩,ay hle];rfl) (md (k:=x.length) ω ω ω))
  .have e:bn n (ag x)+bn m (ag y)=bn m (ag (aG (ag y-ag x))):=by
    rw [(gx ω).2.2];cases n<;>cases m<;>first |exact absurd rfl hnm|(simp only [bn];omega)
   rw [e];exact bg uD 9 (ajW n m x y hnm (by rw [h1,g1];rfl) (fun h=>hle (UR.1 h)) (by rw [ma.2 ⟨g1,h1⟩,ay (show ag x<=ag y by omega)];rfl) (md (k:=y.length) ω ω ω))
def Ly (a b:List Int) (h:okA a=true) (g:okA b=true):Holds prog false 76 [lv a,lv b] (lv (aG (Int.gcd (ag a) (ag b)))):=by
 have hS:=uD;refine bL (c:=yM) func76 rfl rfl fun w F=> ?_
 refine cP hS 1 (aj0 a b) ?_;refine aW.loop (ι:={x:List Int×List Int//okA x.1=true/\okA x.2=true/\Int.gcd (ag x.1) (ag x.2)=Int.gcd (ag a) (ag b)}) (id:=0) (b:=cat yM M8) (rest:=(fl yM []).drop 2) (by kernel_rfl) (fun x=>sJ x.1.1 x.1.2) (fun x=>(ag x.1.2).natAbs) ⟨(a,b),h,g,rfl⟩ (fun _=>rfl) ?_;rintro⟨⟨x,y⟩,hx,hy,hg⟩;have hx:okA x=true:=hx;have hy:okA y=true:=hy;have hg:Int.gcd (ag x) (ag y)=Int.gcd (ag a) (ag b):=hg;obtain⟨G4,tx,lx⟩:=fk.1 hx;obtain⟨A6,ty,ly⟩:=fk.1 hy;have hx0:=gD G4;have hy0:=gD A6;have hz:ag y=0↔y=[]:=FU kT A6 ty;by_cases hlt:0<y.length
 .have hyp:0<ag y:=by
   rcases Int.lt_or_le 0 (ag y)with h|h
   .exact h
   .rw [hz.1 ω]at hlt;cases hlt
  have hm0:=dM (ag x) (show ag y≠0 by omega);have pN:=er (ag x) hyp;have hk:=pe hy;have ev:ag (aG (ag x%ag y))=ag x%ag y:=(gx hm0).2.2;refine bE (s:=sJ x y) hS (co_go x y ω (by rw [hx,hy,ay hyp];rfl)) ?_;refine⟨⟨(y,aG (ag x%ag y)),hy,Dx (k:=y.length) hm0 ω ly, ?_⟩, ?_,rfl,rfl⟩
  .show Int.gcd (ag y) (ag (aG (ag x%ag y)))=_;rw [ev,UH hx0 hyp,hg]
  .show(ag (aG (ag x%ag y))).natAbs<(ag y).natAbs;rw [ev];omega
 .refine bE (s:=sJ x y) hS (aj1 x y ω) ?_;refine cG (cO ?_);have hy2:y=[]:=List.eq_nil_of_length_eq_zero ω;have e:aG ((Int.gcd (ag a) (ag b):Nat):Int)=x:=by
   rw [<-hg,hz.2 hy2,Int.gcd_zero_right,Int.natAbs_of_nonneg hx0];exact F1 G4 tx
  rw [e];exact b5 (s:=sJ x y) hS (aj2 x y)
def US:M9.Ok prog:=fun⟨a,b,_⟩ h=>by
 have h:(okA a&&okA b)=true:=h;rw [ae]at h;exact Ly a b h.1 h.2
def yN:=k_a f98
section
variable (a b:Int)
def sL:bH:={n:=12,sl:=[(0,iv a),(1,iv b)],bJ:=[],next:=64}
def aj6:
  dy (a8 []) (fl yN []) 1 12 [iv a,iv b] 1 .normal [] (sL a b):=
 wy [] 0
def aj7 (h1:b>0) (h2:b≠0):
  bB (a8 []) (fl yN [1,0,0,0]) (sL a b) 3 .normal [] (sL b (Int.tmod a b)):=
 wy [ah h1,ah h2] 129
def aj8 (h1:¬b>0):
  bB (a8 []) (fl yN [1,0,0,0]) (sL a b) 2 (.exit 0) [] (sL a b):=
 wy [aK h1] 1
def aj9:
  bW (a8 []) ((fl yN []).drop 2) (sL a b) 1 f98 true (iv a):=
 wy [] 0
end
def H4 {x y:Int} (hx:0<=x) (hy:0<=y):Int.gcd y (x%y)=Int.gcd x y:=by
 obtain⟨m,rfl⟩:=Int.eq_ofNat_of_zero_le hx;obtain⟨n,rfl⟩:=Int.eq_ofNat_of_zero_le hy;rw [<-Int.natCast_emod];show Nat.gcd n (m%n)=Nat.gcd m n;rw [Nat.gcd_comm n,<-Nat.gcd_rec,Nat.gcd_comm]
def H5 (a b:Int) (ha:0<=a) (hb:0<=b):Holds prog true 98 [iv a,iv b] (iv (Int.gcd a b)):=by
 have hS:=cz;obtain⟨g,hg⟩:∃g:Int,(Int.gcd a b:Int)=g:=⟨_,rfl⟩;rw [hg];refine bL (c:=yN) func98 rfl rfl fun w F=> ?_
 refine cP hS 1 (aj6 a b) ?_;refine aW.loop (ι:={p:Int×Int//0<=p.1/\0<=p.2/\(Int.gcd p.1 p.2:Int)=g}) (id:=0) (b:=cat yN [1,0,0,0]) (rest:=(fl yN []).drop 2) (by kernel_rfl) (fun p=>sL p.1.1 p.1.2) (fun p=>p.1.2.toNat) ⟨(a,b),ha,hb,hg⟩ (fun _=>rfl) ?_;rintro⟨⟨x,y⟩,hx,hy,hxy⟩;have hx:0<=x:=hx;have hy:0<=y:=hy;have hxy:(Int.gcd x y:Int)=g:=hxy;by_cases h0:y>0
 .have hm:=er x h0;have hm2:=dM x (show y≠0 by omega);have e:Int.tmod x y=x%y:=Int.tmod_eq_emod_of_nonneg hx;refine bE (s:=sL x y) hS (aj7 x y h0 ω) ?_;refine⟨⟨(y,Int.tmod x y),hy,by show 0<=Int.tmod x y;omega, ?_⟩, ?_,rfl,rfl⟩
  .show(Int.gcd y (Int.tmod x y):Int)=g;rw [e,<-hxy,H4 hx hy]
  .show(Int.tmod x y).toNat<y.toNat;omega
 .obtain rfl:y=0:=by omega
  refine bE (s:=sL x 0) hS (aj8 x 0 h0) ?_;refine cG (cO ?_);have e:x=g:=by rw [<-hxy,Int.gcd_zero_right];omega
  exact aW.vO (s:=sL x 0) known mixed hS _ (aj9 x 0) fun T H h=>e ▸ h
def Nb:=IN 98 [.int .i64, .int .i64] [.int .i64] true (fun d=>decide (0<=d.1)&&decide (0<=d.2.1)) fun d=>((Int.gcd d.1 d.2.1:Int),())
def UT:Nb.Ok prog:=fun⟨a,b,_⟩ h=>by
 have h:(decide (0<=a)&&decide (0<=b))=true:=h;rw [ae,bA,bA]at h;exact H5 a b h.1 h.2
def wM:=k_a f74
def yO:=k_a f129
section
variable (s:AT)
def pU (k:Nat):bH:={n:=17,sl:=[(0,sv s),(3,iv k)],bJ:=[],next:=64}
def wa (n:Int) (k:Nat):bH:={n:=20,sl:=[(0,sv s),(3,iv n),(4,iv k)],bJ:=[],next:=64}
abbrev aq:List UInt8:=s.data.toList
abbrev cj (k:Nat):UInt8:=(aq s).getD k 0
def aka:
  dy (a8 []) (fl wM []) 2 17 [sv s] 1 .normal [] (pU s 0):=
 wy [] 0
def akb (k:Nat) (h1:(k:Int)<(s.size:Int)) (h2:k<s.size) (h3:(↑(UInt8.toNat (s.data.toList.getD k (0:UInt8))):Int)=47):
  bW (a8 []) (fl wM [1,0,1,0,0]) (pU s k) 7 f74 true (iv k):=
 wy [ah h1,ah h2,cT h3] 794625
def akc (k:Nat) (h1:(k:Int)<(s.size:Int)) (h2:k<s.size) (h3:¬(↑(UInt8.toNat (s.data.toList.getD k (0:UInt8))):Int)=47) (h4:i6 ((k:Int)+1)):
  bB (a8 []) (fl wM [1,0,1,0,0]) (pU s k) 5 .normal [] (pU s (k+1)):=
 wy [ah h1,ah h2,yn h3,yi h4] 67903489
def TO (k:Nat) (h1:¬(k:Int)<(s.size:Int)):
  bB (a8 []) (fl wM [1,0,1,0,0]) (pU s k) 2 (.exit 0) [] (pU s k):=
 wy [aK h1] 1
def akd (k:Nat):
  bW (a8 []) ((fl wM []).drop 3) (pU s k) 1 f74 true (iv s.size):=
 wy [] 0
def ake:
  dy (a8 []) (fl yO []) 3 20 [sv s] 1 .normal [] (wa s 0 0):=
 wy [] 0
def akf (n:Int) (k:Nat) (h1:(k:Int)<(s.size:Int)) (h2:i6 (10*n)) (h3:k<s.size) (h4:i6 (10*n+IntKind.wrap IntKind.i64 (↑(UInt8.toNat (s.data.toList.getD k (0:UInt8))):Int))) (h5:i6 (10*n+IntKind.wrap IntKind.i64 (↑(UInt8.toNat (s.data.toList.getD k (0:UInt8))):Int)-48)) (h6:i6 ((k:Int)+1)):
  bB (a8 []) (fl yO [1,1,0,1,0,0]) (wa s n k) 3 .normal [] (wa s (10*n+IntKind.i64.wrap (cj s k).toNat-48) (k+1)):=
 wy [ah h1,yi h2,ah h3,yi h4,yi h5,yi h6] 417753464961
def akg (n:Int) (k:Nat) (h1:¬(k:Int)<(s.size:Int)):
  bB (a8 []) (fl yO [1,1,0,1,0,0]) (wa s n k) 2 (.exit 0) [] (wa s n k):=
 wy [aK h1] 1
def akh (n:Int) (k:Nat):
  bW (a8 []) ((fl yO []).drop 4) (wa s n k) 1 f129 true (iv n):=
 wy [] 0
end
def bk:List UInt8->Nat
 |[]=>0
 |b::r=>if b.toNat=47 then 0 else bk r+1
def cK (s:AT):s.size=(aq s).length:=by cases s;rfl
section
variable {l:List UInt8} {k:Nat} (h:k<l.length)
def UU:l.getD k 0=l[k]:=by simp [ao,h]
def G5:l.take (k+1)=l.take k++[l.getD k 0]:=by rw [UU h];simp
end
def yP {s:AT} {k:Nat} (h:k<(aq s).length):cj s k=(aq s)[k]:=UU h
def aki (s:AT) (hl:s.size<=1000000000):Holds prog true 74 [sv s] (iv (bk (aq s))):=by
 have hS:=cz;have hz:=cK s;obtain⟨r,hr⟩:∃r,bk (aq s)=r:=⟨_,rfl⟩;rw [hr];refine bL (c:=wM) func74 rfl rfl fun w F=> ?_
 refine cP hS 2 (aka s) ?_;refine aW.loop (ι:={k:Nat//k<=s.size/\bk ((aq s).drop k)+k=r}) (id:=0) (b:=cat wM [1,0,1,0,0]) (rest:=(fl wM []).drop 3) (by kernel_rfl) (fun k=>pU s k.1) (fun k=>s.size-k.1) ⟨0,Nat.zero_le _,hr⟩ (fun _=>rfl) ?_;rintro⟨k,hk,hx⟩;have hx:bk ((aq s).drop k)+k=r:=hx;by_cases hlt:k<s.size
 .have hlt2:k<(aq s).length:=by omega
  rw [List.drop_eq_getElem_cons hlt2,bk,<-yP hlt2]at hx;by_cases c:(cj s k).toNat=47
  .rw [if_pos c,aw]at hx;exact aW.vO (s:=pU s k) known mixed hS _ (akb s k ω ω (by show((cj s k).toNat:Int)=47;omega)) fun T H h=>hx ▸ h
  .rw [if_neg c]at hx;refine bE (s:=pU s k) hS (akc s k ω ω (by show¬((cj s k).toNat:Int)=47;omega) ω) ?_;exact⟨⟨k+1,hlt,by omega⟩,by simp;omega,rfl,rfl⟩
 .refine bE (s:=pU s k) hS (TO s k ω) ?_;refine cG (cO ?_);obtain rfl:k=s.size:=by omega
  rw [List.drop_eq_nil_of_le ω,bk,aw]at hx;exact aW.vO (s:=pU s s.size) known mixed hS _ (akd s _) fun T H h=>hx ▸ h
def bl:List UInt8->Int
 |l=>l.foldl (fun n b=>10*n+((b.toNat:Int)-48)) 0
def b6 (l:List UInt8):Bool:=l.all fun b=>decide (48<=b.toNat)&&decide (b.toNat<=57)
def rh {s:AT} {k:Nat} (h:k<(aq s).length):bl ((aq s).take (k+1))=10*bl ((aq s).take k)+(((cj s k).toNat:Int)-48):=by
 rw [G5 h];unfold bl;rw [List.foldl_append];rfl
def A7 {s:AT} (hd:b6 (aq s)=true):∀k,k<=(aq s).length->0<=bl ((aq s).take k)/\bl ((aq s).take k)<10^k
 |0,_=>by rw [List.take_zero];decide
 |k+1,h=>by
  have ih:=A7 hd k ω;have hb:=List.all_eq_true.1 hd (cj s k) (by rw [yP ω];exact List.getElem_mem _);rw [ae,bA,bA]at hb;rw [rh ω,Int.pow_succ];omega
def UW {k:Nat} (h:k<=18):(10:Int)^k<=1000000000000000000:=by
 have:(10:Nat)^k<=10^18:=Nat.pow_le_pow_right δ h;have h2:((10^k:Nat):Int)<=((10^18:Nat):Int):=Int.ofNat_le.2 this;simpa using h2
def akj (s:AT) (hl:s.size<=17) (hd:b6 (aq s)=true):Holds prog true 129 [sv s] (iv (bl (aq s))):=by
 have hS:=cz;have hz:=cK s;refine bL (c:=yO) func129 rfl rfl fun w F=> ?_
 refine cP hS 3 (ake s) ?_;refine aW.loop (ι:={k:Nat//k<=s.size}) (id:=0) (b:=cat yO [1,1,0,1,0,0]) (rest:=(fl yO []).drop 4) (by kernel_rfl) (fun k=>wa s (bl ((aq s).take k.1)) k.1) (fun k=>s.size-k.1) ⟨0,Nat.zero_le _⟩ (fun _=>rfl) ?_;rintro⟨k,hk⟩;have hin:=A7 hd k ω;have hp:=UW (k:=k) ω;by_cases hlt:k<s.size
 .have hlt2:k<(aq s).length:=by omega
  have hb:=List.all_eq_true.1 hd (cj s k) (by rw [yP hlt2];exact List.getElem_mem _);rw [ae,bA,bA]at hb;have auF:=A7 hd (k+1) ω;have hp2:=UW (k:=k+1) ω;have hn:=rh hlt2;have hw:IntKind.i64.wrap ((cj s k).toNat:Int)=((cj s k).toNat:Int):=IntWalk.i64_in _ ω;have e:10*bl ((aq s).take k)+IntKind.i64.wrap ((cj s k).toNat:Int)-48=bl ((aq s).take (k+1)):=by rw [hw,hn];omega
  refine bE (s:=wa s (bl ((aq s).take k)) k) hS (akf s _ k ω ω ω (by show-9223372036854775808<=10*bl ((aq s).take k)+IntKind.i64.wrap ((cj s k).toNat:Int)/\10*bl ((aq s).take k)+IntKind.i64.wrap ((cj s k).toNat:Int)<=9223372036854775807;rw [hw];omega) (by show-9223372036854775808<=10*bl ((aq s).take k)+IntKind.i64.wrap ((cj s k).toNat:Int)-48/\10*bl ((aq s).take k)+IntKind.i64.wrap ((cj s k).toNat:Int)-48<=9223372036854775807;rw [hw];omega) ω) ?_;rw [e];exact⟨⟨k+1,hlt⟩,by simp;omega,rfl,rfl⟩
 .refine bE (s:=wa s (bl ((aq s).take k)) k) hS (akg s _ k ω) ?_;refine cG (cO ?_);obtain rfl:k=s.size:=by omega
  rw [eT ω];exact b5 (s:=wa s _ s.size) hS (akh s _ _)
def A8:=IN 74 [.str] [.int .i64] true (fun d=>decide (d.1.size<=1000000000)) fun d=>(((bk (aq d.1):Nat):Int),())
def Nc:=IN 129 [.str] [.int .i64] true (fun d=>decide (d.1.size<=17)&&b6 (aq d.1)) fun d=>(bl (aq d.1),())
def Dy:A8.Ok prog:=fun⟨s,_⟩ h=>aki s (ap h)
def LE:Nc.Ok prog:=fun⟨s,_⟩ h=>by
 have h:(decide (s.size<=17)&&b6 (aq s))=true:=h;rw [ae,bA]at h;exact akj s h.1 h.2
def wN:=k_a f99
def me (n m:Int) (s:AT):bH:={n:=25,sl:=[(0,iv n),(1,iv m),(5,sv s)],bJ:=[],next:=64}
abbrev UX:AT:=⟨#[]⟩
abbrev sM:AT:=⟨#[48,49,50,51,52,53,54,55,56,57]⟩
section
variable (n m:Int)
def akk:
  dy (a8 []) (fl wN []) 2 25 [iv n,iv m] 1 .normal [] (me n m UX):=
 wy [] 0
def akl (s:AT) (h1:n>0) (h2:i6 (Int.tmod n 10+1)) (h3:0<=Int.tmod n 10+1) (h4:0<=Int.tmod n 10) (h5:(Int.tmod n 10+1).toNat<=(ByteArray.mk #[48,49,50,51,52,53,54,55,56,57]).size) (h6:((ByteArray.mk #[48,49,50,51,52,53,54,55,56,57]).extract (Int.tmod n 10).toNat (Int.tmod n 10+1).toNat).size+s.size<=9223372036854775807) (h7:i6 (Int.tdiv n 10)):
  bB (a8 []) (fl wN [1,1,0,0,0]) (me n m s) 112 .normal [] (me (Int.tdiv n 10) m (sM.extract (Int.tmod n 10).toNat (Int.tmod n 10+1).toNat++s)):=
 wy [aa (bw (ay h1)),ah h1,yi h2,ah h3,ah h4,ah (by omega:(Int.tmod n (10:Int)).toNat<=(Int.tmod n (10:Int)+(1:Int)).toNat),ah h5,ah h6,yi h7] 11143911710332399131023380545
def akm (s:AT) (h1:¬n>0) (h2:(s.size:Int)<m) (h3:i6 (Int.tmod n 10+1)) (h4:0<=Int.tmod n 10+1) (h5:0<=Int.tmod n 10) (h6:(Int.tmod n 10+1).toNat<=(ByteArray.mk #[48,49,50,51,52,53,54,55,56,57]).size) (h7:((ByteArray.mk #[48,49,50,51,52,53,54,55,56,57]).extract (Int.tmod n 10).toNat (Int.tmod n 10+1).toNat).size+s.size<=9223372036854775807) (h8:i6 (Int.tdiv n 10)):
  bB (a8 []) (fl wN [1,1,0,0,0]) (me n m s) 111 .normal [] (me (Int.tdiv n 10) m (sM.extract (Int.tmod n 10).toNat (Int.tmod n 10+1).toNat++s)):=
 wy [aa (bw (ab h1)),aK h1,ah h2,yi h3,ah h4,ah h5,ah (by omega:(Int.tmod n (10:Int)).toNat<=(Int.tmod n (10:Int)+(1:Int)).toNat),ah h6,ah h7,yi h8] 12382158778397359609013866561
def akn (s:AT) (h1:¬n>0) (h2:¬(s.size:Int)<m):
  bB (a8 []) (fl wN [1,1,0,0,0]) (me n m s) 79 (.exit 0) [] (me n m s):=
 wy [aa (bw (ab h1)),aK h1,aK h2] 3255046209
def ako (s:AT):
  bW (a8 []) ((fl wN []).drop 3) (me n m s) 1 f99 true (sv s):=
 wy [] 0
end
def oC (n:Int):UInt8:=UInt8.ofNat (48+(n%10).toNat)
def co:Nat->Int->Int->List UInt8->List UInt8
 |0,_,_,s=>s
 |f+1,n,m,s=>if n>0\/(s.length:Int)<m then co f (n/10) m (oC n::s)else s
def dq (a b:AT):(a++b).data.toList=a.data.toList++b.data.toList:=by
 rw [ByteArray.data_append,Array.toList_append]
def akp {n:Int} (h:0<=n) (s:AT):(sM.extract (Int.tmod n 10).toNat (Int.tmod n 10+1).toNat++s).data.toList=oC n::s.data.toList:=by
 rw [dq,Int.tmod_eq_emod_of_nonneg h];have h1:=er n (show(0:Int)<10 by decide);have h2:=dM n (show(10:Int)≠0 by decide);unfold oC;generalize n%10=r at*;have:r=0\/r=1\/r=2\/r=3\/r=4\/r=5\/r=6\/r=7\/r=8\/r=9:=by omega
 rcases this with rfl |rfl |rfl |rfl |rfl |rfl |rfl |rfl |rfl |rfl<;>rfl
def akq {n:Int} (h:0<=n):(sM.extract (Int.tmod n 10).toNat (Int.tmod n 10+1).toNat).size<=1:=by
 rw [Int.tmod_eq_emod_of_nonneg h];have h1:=er n (show(0:Int)<10 by decide);have h2:=dM n (show(10:Int)≠0 by decide);generalize n%10=r at*;have:r=0\/r=1\/r=2\/r=3\/r=4\/r=5\/r=6\/r=7\/r=8\/r=9:=by omega
 rcases this with rfl |rfl |rfl |rfl |rfl |rfl |rfl |rfl |rfl |rfl<;>decide
def uE (s:AT):s.size=s.data.toList.length:=by cases s;rfl
def fN {a b:AT} (h:a.data.toList=b.data.toList):a=b:=by
 cases a;cases b;simp at h;rw [h]
structure Nd (r:List UInt8) (m:Int) (f:Nat) (n:Int) (s:AT):Prop where
 n0:0<=n
 nb:n<=9223372036854775807
 n1:n<10^f
 ms:m<=s.size+f
 sz:s.size+f<=40
 eq:co f n m s.data.toList=r
def akr (n m:Int) (hn:0<=n) (hn2:n<=9223372036854775807) (hm:m<=20):Holds prog true 99 [iv n,iv m] (sv ⟨(co 20 n m []).toArray⟩):=by
 have hS:=cz;obtain⟨r,hr⟩:∃r,co 20 n m []=r:=⟨_,rfl⟩;rw [hr];refine bL (c:=wN) func99 rfl rfl fun w F=> ?_
 refine cP hS 2 (akk n m) ?_;refine aW.loop (ι:={p:Nat×Int×AT//Nd r m p.1 p.2.1 p.2.2}) (id:=0) (b:=cat wN [1,1,0,0,0]) (rest:=(fl wN []).drop 3) (by kernel_rfl) (fun p=>me p.1.2.1 m p.1.2.2) (fun p=>p.1.1) ⟨(20,n,UX),⟨hn,hn2,by show n<10^20;omega,by show m<=0+20;omega,by show 0+20<=40;omega,hr⟩⟩ (fun _=>rfl) ?_;rintro⟨⟨f,n,s⟩,hp⟩;have hp:Nd r m f n s:=hp;have hz:=uE s;have q1:=er n (show(0:Int)<10 by decide);have aQ:=dM n (show(10:Int)≠0 by decide);have b8:Int.tmod n 10=n%10:=Int.tmod_eq_emod_of_nonneg hp.n0;have eo:Int.tdiv n 10=n/10:=Int.tdiv_eq_ediv_of_nonneg hp.n0;have qC:=akq hp.n0;have hn0:=hp.n0;have hnb:=hp.nb;have auG:=hp.ms;have hsz:=hp.sz;have eH:(n>0\/(s.size:Int)<m)->∃j:{p:Nat×Int×AT//Nd r m p.1 p.2.1 p.2.2},j.1.1<f/\(me (Int.tdiv n 10) m (sM.extract (Int.tmod n 10).toNat (Int.tmod n 10+1).toNat++s)).T=(me j.1.2.1 m j.1.2.2).T/\(me (Int.tdiv n 10) m (sM.extract (Int.tmod n 10).toNat (Int.tmod n 10+1).toNat++s)).H=(me j.1.2.1 m j.1.2.2).H:=fun hc=>by
  cases f with
  |zero=>
   have:=hp.n1;simp at this;exfalso;omega
  |succ f=>
   have hb:=akp hp.n0 s;have UY:(sM.extract (Int.tmod n 10).toNat (Int.tmod n 10+1).toNat++s).size=s.size+1:=by rw [uE,hb,hz];rfl
   refine⟨⟨(f,Int.tdiv n 10,_),⟨by show 0<=Int.tdiv n 10;rw [eo];omega,by show Int.tdiv n 10<=_;rw [eo];omega, ?_,by show m<=((_:Nat):Int)+((f:Nat):Int);rw [UY];omega,by show _+f<=40;rw [UY];omega, ?_⟩⟩,fB _,rfl,rfl⟩
   .show Int.tdiv n 10<10^f;have:=hp.n1;rw [Int.pow_succ]at this;rw [eo];omega
   .show co f (Int.tdiv n 10) m (sM.extract (Int.tmod n 10).toNat (Int.tmod n 10+1).toNat++s).data.toList=r;have he:=hp.eq;unfold co at he;rw [hb,eo];rw [if_pos (by rw [hz]at hc;exact hc)]at he;exact he
 by_cases h1:n>0
 .refine bE (s:=me n m s) hS (akl n m s h1 ω ω ω (by show _<=(10:Nat);omega) (by show(sM.extract (Int.tmod n 10).toNat (Int.tmod n 10+1).toNat).size+s.size<=_;omega) ω) (eH (.inl h1))
 .by_cases h2:(s.size:Int)<m
  .refine bE (s:=me n m s) hS (akm n m s h1 h2 ω ω ω (by show _<=(10:Nat);omega) (by show(sM.extract (Int.tmod n 10).toNat (Int.tmod n 10+1).toNat).size+s.size<=_;omega) ω) (eH (.inr h2))
  .refine bE (s:=me n m s) hS (akn n m s h1 h2) ?_;refine cG (cO ?_);have e:(⟨r.toArray⟩:AT)=s:=fN (by
    have he:=hp.eq;cases f with
    |zero=>exact he.symm
    |succ f=>
     unfold co at he;rw [if_neg (by rw [hz]at h2;omega)]at he;exact he.symm)
   rw [e];exact b5 (s:=me n m s) hS (ako n m s)
def G6:=IN 99 [.int .i64, .int .i64] [.str] true (fun d=>decide (0<=d.1)&&(decide (d.1<=9223372036854775807)&&decide (d.2.1<=20))) fun d=>(⟨(co 20 d.1 d.2.1 []).toArray⟩,())
def Nf:G6.Ok prog:=fun⟨n,m,_⟩ h=>by
 have h:(decide (0<=n)&&(decide (n<=9223372036854775807)&&decide (m<=20)))=true:=h;simp only [ae,bA]at h;exact akr n m h.1 h.2.1 h.2.2
def Ng:=k_a Tryz.f44
def k6 (s:AT) (i j:Nat) (h:j<=s.size):(s.extract i j).size=j-i:=by
 rw [ByteArray.size_extract];omega
def A9:∀l:List UInt8,bk l<=l.length
 |[]=>aJ _
 |b::r=>by
  unfold bk;have:=A9 r;split
  .exact Nat.zero_le _
  .simp;omega
end
end Go.Proofs.YtibikmmdbdlafaaGreatDoor
