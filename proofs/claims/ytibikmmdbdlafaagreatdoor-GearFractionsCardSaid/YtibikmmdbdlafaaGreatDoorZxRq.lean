/- The reference of chapter 1: divDigits' contract. -/
import Derived.Test.YtibikmmdbdlafaaGreatDoorZxA7
import Derived.Test.YtibikmmdbdlafaaGreatDoorZxSvGive
set_option linter.unusedVariables false
set_option linter.unusedSimpArgs false
set_option maxRecDepth 100000
namespace Go.Proofs.YtibikmmdbdlafaaGreatDoor
open Go.RowKit Sv Go.Proofs.Tryz
noncomputable section
theorem Le {x y:Int}:kK x y<0↔x<y:=by
 unfold kK;by_cases h:x<y
 .rw [if_pos h];simp [h]
 .rw [if_neg h];by_cases g:y<x
  .rw [if_pos g];simp [h]
  .rw [if_neg g];simp [h]
theorem agS:aC 0=[]:=(pd (Int.le_refl 0)).2 rfl
theorem Sj {y:Int} (hy:1<=y/\y<1000000000):(1<=1000000000/(y+1)/\1000000000/(y+1)<=500000000)/\500000000<=y*(1000000000/(y+1))/\(y+1)*(1000000000/(y+1))<=1000000000:=by
 have h:=Int.emod_add_mul_ediv 1000000000 (y+1);have h0:=c6 1000000000 (show y+1≠0 by omega);have h1:=cS 1000000000 (show 0<y+1 by omega);have hq:1<=1000000000/(y+1):=Int.le_ediv_of_mul_le (by omega) (by omega);generalize 1000000000/(y+1)=q at*;generalize 1000000000%(y+1)=r at*;have e:(y+1)*q=y*q+q:=by rw [Int.add_mul,Int.one_mul]
 rw [e]at h ⊢;have h2:1*q<=y*q:=ar hy.1 (by omega);refine⟨⟨hq,by omega⟩, ?_,by omega⟩;by_cases hq1:q=1
 .rw [hq1]at h ⊢;omega
 .by_cases hy1:y=1
  .rw [hy1]at h h1 ⊢;omega
  .have h3:1*1<=(y-1)*(q-1):=Int.mul_le_mul (by omega) (by omega) (by decide) (by omega);have h4:(y-1)*(q-1)=y*q-y-q+1:=by
    rw [Int.sub_mul,Int.mul_sub,Int.mul_one,Int.one_mul];omega
   omega
noncomputable def Lf:bn:={f:=131,ps:=[.list false (.int .i64), .list false (.int .i64)],rs:=[.list false (.int .i64), .list false (.int .i64)],fresh:=false,pre:=fun d=>okA d.1&&(okA d.2.1&&decide (0<ag d.2.1)),fn:=fun d=>(aC (ag d.1/ag d.2.1),aC (ag d.1%ag d.2.1),())}
theorem agT (a b:List Int) (h:okA a=true) (g:okA b=true) (hge:ag b<=ag a) (m:Nat) (hn:b.length=m+2) (w:World) (F:Sv.Env):
  aR prog w F 206 ((fl dQ []).drop 6) (Al a b (1000000000/(b.getD (m+1) 0+1))).T (Al a b (1000000000/(b.getD (m+1) 0+1))).H (Si (aC (ag a/ag b)) (aC (ag a%ag b))):=by
 obtain⟨ha,ta,la⟩:=fc.1 h;obtain⟨hb,tb,lb⟩:=fc.1 g;have hS:=tf;have CP:=hb.get (by decide) (m+1);have hbz:=tb (m+1) hn;obtain⟨⟨f1,f2⟩,f3,f4⟩:=Sj (y:=b.getD (m+1) 0) (by omega);generalize hf:1000000000/(b.getD (m+1) 0+1)=f at*;have lI:0<=ag a:=dC ha;have CQ:ag a<1000000000^a.length:=fC (by decide) ha;have hP:=bc (b:=1000000000) (by decide) (m+1);have agU:1000000000^(m+1)<=ag b:=xL (by decide) hb tb hn;obtain⟨b1,b2,b3⟩:=FI (d:=b) (n:=m+1) hn (hb.take _);have tR:0<ag b:=by omega
 have agV:ag [f]=f:=rj _ _;have ig:0<=ag b*f:=Int.mul_nonneg (by omega) (by omega);have Lg:ag b*f<1000000000^(m+2):=by
  have h1:ag b<1000000000^(m+1)*(b.getD (m+1) 0+1):=by rw [Int.mul_add,Int.mul_one];omega
  have h2:=Int.mul_lt_mul_of_pos_right h1 (show 0<f by omega);have h3:=dU f4 (ck hP);rw [Int.mul_assoc]at h2;rw [Int.pow_succ];omega
 have aq1:ag b<=ag b*f:=by
  have:=dU f1 (ck tR);omega
 obtain⟨v1,v2,v3⟩:=fY ig;have hvl:(aC (ag b*f)).length=m+2:=by
  have h1:(aC (ag b*f)).length<=m+2:=vA kM ig Lg;by_cases hc:m+2<=(aC (ag b*f)).length
  .omega
  .have h2:=fC (b:=1000000000) (by decide) v1;have h3:=iG (b:=1000000000) (by decide) (show(aC (ag b*f)).length<=m+1 by omega);unfold ag at*;omega
 have agW:500000000<=(aC (ag b*f)).getD (m+2-1) 0:=by
  obtain⟨w1,w2,w3⟩:=FI (d:=aC (ag b*f)) (n:=m+1) hvl (v1.take _);show _<=(aC (ag b*f)).getD (m+1) 0;rw [v3]at w1;have h3:1000000000^(m+1)*(b.getD (m+1) 0*f)<=ag b*f:=by
   rw [<-Int.mul_assoc];exact ar (by omega) (by omega)
  have h4:=dU f3 (ck hP);have h5:1000000000^(m+1)*500000000<1000000000^(m+1)*((aC (ag b*f)).getD (m+1) 0+1):=by
   rw [Int.mul_add,Int.mul_one];omega
  have:=Int.lt_of_mul_lt_mul_left h5 (ck hP);omega
 have aq2:m+2<=a.length:=by
  refine Nat.not_lt.1 fun hh=> ?_
  have:=vk (by decide) ha hb tb (by omega);unfold ag at hge;omega
 have pn:0<=ag a*f:=Int.mul_nonneg lI (by omega);have aq3:0<ag a*f:=Int.mul_pos (by omega) (by omega);have agX:ag a*f<1000000000^(a.length+1):=by
  rw [Int.pow_succ];have h1:=dU (show f<=1000000000 by omega) lI;have h2:=Int.mul_lt_mul_of_pos_right CQ (show(0:Int)<1000000000 by decide);omega
 obtain⟨u1,u2,u3⟩:=fY pn;have CI:(aC (ag a*f)).length<=a.length+1:=vA kM pn agX;have agY:aC (ag a*f)≠[]:=fun e=>by
  have:=(pd pn).1 e;omega
 have Sk:okB [f]=true:=n4.2 ⟨.cons (by omega) .nil,by simp⟩;have key:=agp a b f (by rw [n4.2 ⟨hb,by omega⟩,Sk];rfl) (by rw [n4.2 ⟨ha,by omega⟩,Sk];rfl);rw [agV]at key;have hl0:(aC (ag a*f)).length≠0:=fun e=>agY (List.eq_nil_of_length_eq_zero e)
 refine aR.st (s:=Al a b f) known mixed hS 3 _ (key (by
  cases hz:Nat.beq (aC (ag a*f)).length 0 with
  |false=>rfl
  |true=>exact absurd (ac hz) hl0) (by omega) (by
  obtain⟨k,hk⟩:∃k,(aC (ag a*f)).length=k+1:=⟨(aC (ag a*f)).length-1,by omega⟩;rw [hk];rfl) rfl) (by kernel_rfl) ?_
 clear key;refine aR.loop (ι:={x:List Int//x.length<=a.length+1/\aP 1000000000 x/\ag x=ag a*f}) (id:=0) (b:=cat dQ K6) (rest:=(fl dQ []).drop 10) (by kernel_rfl) (fun x=>rJ a (aC (ag b*f)) f x.1) (fun x=>a.length+1-x.1.length)
  ⟨aC (ag a*f),CI,u1,u3⟩ (fun _=>rfl) ?_
 rintro⟨u,hl,iI,Lh⟩;by_cases hlt:u.length<a.length+1
 .refine bp (s:=rJ a (aC (ag b*f)) f u) hS (agq a _ f u (by omega) (by omega) (by omega) (qm _ _) (tE _ _)) ?_;refine⟨⟨u++[0],by rw [cG];simp;omega,iI.app (.cons ⟨Int.le_refl _,by decide⟩ .nil), ?_⟩,by show a.length+1-(u++[0]).length<_;rw [cG];simp;omega,rfl,rfl⟩;rw [<-Lh];show vl _ (u++[0])=vl _ u;rw [xK,Int.mul_zero,Int.add_zero]
 .refine bp (s:=rJ a (aC (ag b*f)) f u) hS (agr a _ f u (by omega) (by omega)) ?_;refine cv (cD ?_);have fB:u.length=a.length+1:=by omega
  cases u with
  |nil=>cases fB
  |cons x l=>
   have agZ:l.length=a.length:=by simpa using fB
   have em:((l.length:Int)+1-(aC (ag b*f)).length).toNat=a.length+1-(m+2):=by omega
   have ag0:(((x::l).length:Int)-(aC (ag b*f)).length).toNat=a.length+1-(m+2):=by rw [List.length_cons];omega
   have ag1:((l.length:Int)+1-(aC (ag b*f)).length-1)=((a.length+1-(m+2):Nat):Int)-1:=by omega
   have ag2:(((x::l).length:Int)-(aC (ag b*f)).length-1)=((a.length+1-(m+2):Nat):Int)-1:=by rw [List.length_cons];omega
   have key:=ags a (aC (ag b*f)) f x l (by rw [List.length_cons];omega) (by rw [List.length_cons];omega);rw [em,ag0,ag1,ag2]at key;refine dZ (s:=rJ a (aC (ag b*f)) f (x::l)) hS 2 (key (by omega) (by omega) (o5 _).symm rfl (by rw [o5]) rfl (Ko _) (o5 _).symm) ?_;refine agR iI v1 hvl (by omega) (by omega) (by omega) (by omega) (by omega) v3 tR lI Lh ?_ agW w F;have h1:=rq 1000000000 (x::l) (a.length+1-(m+2)) (by omega);have h2:=fK (b:=1000000000) (by decide) (iI.take (a.length+1-(m+2)));have Sl:=bc (b:=1000000000) (by decide) (a.length+1-(m+2));refine Int.lt_of_mul_lt_mul_left (a:=1000000000^(a.length+1-(m+2))) ?_ (ck Sl);have h3:1000000000^(a.length+1-(m+2))*ag ((x::l).drop (a.length+1-(m+2)))<=ag a*f:=by rw [<-Lh];unfold ag;omega
   have e1:(1000000000:Int)^a.length=1000000000^(a.length+1-(m+2))*1000000000^(m+1):=by rw [<-Int.pow_add,show a.length+1-(m+2)+(m+1)=a.length by omega]
   have c1:=Int.mul_lt_mul_of_pos_right CQ (show 0<f by omega);have c2:=ar agU (show 0<=f by omega);have c3:=dU c2 (ck Sl);rw [<-Int.mul_assoc,<-e1]at c3;rw [v3];omega
theorem ag3 (a b:List Int) (h:okA a=true) (g:okA b=true) (hb0:0<ag b):Holds prog false 131 [lv a,lv b] (.tuple [lv (aC (ag a/ag b)),lv (aC (ag a%ag b))]):=by
 obtain⟨ha,ta,la⟩:=fc.1 h;obtain⟨hb,tb,lb⟩:=fc.1 g;have hS:=tf;have lI:0<=ag a:=dC ha;have hC:(okA a&&okA b)=true:=by rw [h,g];rfl
 refine bJ (c:=dQ) func131 rfl rfl fun w F=> ?_
 by_cases hlt:ag a<ag b
 .have e1:aC (ag a/ag b)=[]:=by rw [Int.ediv_eq_zero_of_lt lI hlt];exact agS
  have e2:aC (ag a%ag b)=a:=by rw [Int.emod_eq_of_lt lI hlt];exact EU ha ta
  rw [e1,e2];exact bu hS 3 (agl a b hC (Le.2 hlt))
 .have Sm:¬kK (ag a) (ag b)<0:=fun h=>hlt (Le.1 h)
  obtain⟨n,hn⟩:∃n,b.length=n+1:=by
   cases b with
   |nil=>exact absurd hb0 (by decide)
   |cons y r=>exact⟨r.length,rfl⟩
  have CP:=hb.get (by decide) n;have hbz:=tb n hn;cases n with
  |zero=>
   obtain⟨y,rfl⟩:∃y,b=[y]:=List.length_eq_one_iff.1 hn;have hy:y≠0:=hbz;have hy2:0<=y/\y<1000000000:=CP;have ze:ag [y]=y:=rj _ _;rw [ze];have hm0:=c6 (ag a) hy;have o8:=cS (ag a) (show 0<y by omega);have et:ec [ag a%y]=aC (ag a%y):=by
    rw [xQ (.cons (by omega) .nil)];congr 1;exact rj _ _
   have key:=agm a [y] hC Sm (by simp) (by simp) (by
    rw [n4.2 ⟨ha,by omega⟩];rw [az (show(1:Int)<=List.getD [y] (Int.toNat 0) 0 from show 1<=y by omega),az (show List.getD [y] (Int.toNat 0) 0<(1000000000:Int)from hy2.2)];rfl) (aE 1) (by simp) rfl rfl
   rw [<-et];exact bu hS 5 key
  |succ m=>
   have bG:((b.length:Int)-1).toNat=m+1:=by omega
   have ag4:(0:Int)<=1000000000:=by decide
   have hd:Int.tdiv 1000000000 (b.getD (m+1) 0+1)=1000000000/(b.getD (m+1) 0+1):=Int.tdiv_eq_ediv_of_nonneg ag4;obtain⟨⟨f1,f2⟩,f3,f4⟩:=Sj (y:=b.getD (m+1) 0) (by omega);have key:=agn a b hC Sm (by omega) (by omega) (by omega);rw [bG,hd]at key;refine cE hS 6 (key (by omega) (by omega) (by omega) (by omega) rfl) ?_;refine aR.tB (fun e=> ?_) (i:=64) (s:=8) (e2:=3) (t:= .int .i64) (xs:=[1000000000/(b.getD (m+1) 0+1)]) (cap:=bA 1) (by kernel_rfl) (by kernel_rfl) ?_
   .have:((fl dQ []).drop 6).isEmpty=false:=by kernel_rfl
    rw [e]at this;cases this
   refine aR.ng (fun e=> ?_) (σ:=[]) (s:=Al a b (1000000000/(b.getD (m+1) 0+1))) (ago a b _) ?_
   .have:((fl dQ []).drop 6).isEmpty=false:=by kernel_rfl
    rw [e]at this;cases this
   exact agT a b h g (by omega) m hn w F
theorem Sn:Lf.Ok prog:=fun⟨a,b,_⟩ h=>by
 have h:(okA a&&(okA b&&decide (0<ag b)))=true:=h;rw [ae,ae]at h;exact ag3 a b h.1 h.2.1 (ap h.2.2)
end
noncomputable section
structure Ao (u:List Int) (s:Nat) (d:List Int) (i:Nat):Prop where
 len:d.length=u.length
 dg:aP 18446744073709551616 d
 same:∀j,i<=j->d.getD j 0=u.getD j 0
 val:2^s*aj (d.take i)=aj (u.take i)+u.getD i 0%2^s*18446744073709551616^i
theorem Ao.next {u d:List Int} {s i:Nat} (I:Ao u s d i) (hu:aP 18446744073709551616 u) (hs:s<=63) (hi:i+1<u.length) {x:Int} (hx:0<=x/\x<18446744073709551616) (he:2^s*x=u.getD i 0-u.getD i 0%2^s+u.getD (i+1) 0%2^s*18446744073709551616):
  Ao u s (d.set i x) (i+1):=by
 have hl:=I.len;refine⟨by rw [bY];exact hl,I.dg.set hx,fun j hj=> ?_, ?_⟩
 .rw [oa,if_neg (by omega)];exact I.same j (by omega)
 .have hv:=I.val;unfold aj at hv ⊢;rw [xM (by omega),kJ u,Int.pow_succ];generalize vl 18446744073709551616 (d.take i)=a at*;generalize vl 18446744073709551616 (u.take i)=b at*;generalize (18446744073709551616:Int)^i=P at*;generalize (2:Int)^s=S at*;generalize u.getD (i+1) 0%S=r1 at*;generalize u.getD i 0%S=cL at*;generalize u.getD i 0=aG at*;have e:P*(S*x)=P*(aG-cL+r1*18446744073709551616):=by rw [he]
  grind
theorem ag5 {x y:Int} {s:Nat} (hs:1<=s/\s<=63) (hx:0<=x/\x<18446744073709551616) (hy:0<=y/\y<18446744073709551616):
  (0<=eH (dn x s) (ff y (64-(s:Int)))/\eH (dn x s) (ff y (64-(s:Int)))<18446744073709551616)/\2^s*eH (dn x s) (ff y (64-(s:Int)))=x-x%2^s+y%2^s*18446744073709551616:=by
 have qw:(64-(s:Int))=((64-s:Nat):Int):=by omega
 have hp:(0:Int)<2^s:=bc (by decide) _;have hq:(0:Int)<2^(64-s):=bc (by decide) _;have jq:(2:Int)^s*2^(64-s)=18446744073709551616:=by rw [<-Int.pow_add,show s+(64-s)=64 by omega];rfl
 have h1:dn x s=x/2^s:=KN (by omega) hx.1;have h2:ff y (64-(s:Int))=2^(64-s)*(y%2^s):=by
  rw [qw,R5 (by omega) hy,show 64-(64-s)=s by omega]
 have hd:=Int.emod_add_mul_ediv x (2^s);have a0:0<=x/2^s:=Int.ediv_nonneg hx.1 (ck hp);have a1:x/2^s<2^(64-s):=Int.ediv_lt_of_lt_mul hp (by rw [Int.mul_comm,jq];exact hx.2);have b0:=c6 y (show(2:Int)^s≠0 by omega);have b1:=cS y hp;have c0:0<=2^(64-s)*(y%2^s):=Int.mul_nonneg (ck hq) b0;have c1:2^(64-s)*(y%2^s)+2^(64-s)<=18446744073709551616:=by
  have:=dU (show y%2^s+1<=2^s by omega) (ck hq);rw [Int.mul_add,Int.mul_one,Int.mul_comm (2^(64-s)) (2^s),jq]at this;omega
 have e:eH (dn x s) (ff y (64-(s:Int)))=x/2^s+2^(64-s)*(y%2^s):=by
  rw [h1,h2];exact xi (s:=64-s) (by omega) ⟨a0,a1⟩ b0 rfl (by omega)
 rw [e];refine⟨by omega, ?_⟩;rw [Int.mul_add,<-Int.mul_assoc,jq];generalize (2:Int)^s*(x/2^s)=X at*;rw [Int.mul_comm (18446744073709551616:Int)];omega
theorem ag6 {u q:List Int} {n s:Nat} {R:Int} (hu:aP 18446744073709551616 u) (jc:aP 18446744073709551616 q) (hs:s<=63) (hn:n<u.length) (mX:1<=n) (fB:u.length<=400000) (hlq:q.length<=400000) (Ag:aj u=2^s*R) (hR:0<=R) (hlt:aj u<18446744073709551616^n) (w:World) (F:Sv.Env):
  aR prog w F 137 ((fl fN []).drop 13) (jv n u q s 0).T (jv n u q s 0).H (K5 (dJ q) (cM 18446744073709551616 R)):=by
 have hS:=FC;have hp:(0:Int)<2^s:=bc (by decide) _;have jq:(2:Int)^s*2^(64-s)=18446744073709551616:=by rw [<-Int.pow_add,show s+(64-s)=64 by omega];rfl
 have An:u.getD 0 0%2^s=0:=by
  have h1:=tI (b:=18446744073709551616) (l:=u) (k:=0) (by omega);rw [List.drop_zero,aw]at h1;have h2:u.getD 0 0=2^s*(R-2^(64-s)*aj (u.drop 1)):=by
   have h3:2^s*(2^(64-s)*aj (u.drop 1))=18446744073709551616*aj (u.drop 1):=by rw [<-Int.mul_assoc,jq]
   rw [Int.mul_sub,h3];unfold aj at Ag ⊢;omega
  rw [h2];exact Int.mul_emod_right _ _
 have hun:u.getD n 0=0/\aj (u.take n)=aj u:=by
  have h1:=Cp (b:=18446744073709551616) (by decide) hu hlt;have h2:=lC (b:=18446744073709551616) (l:=u) (k:=n) hn;have h3:=abt (b:=18446744073709551616) (by decide) hu (n+1);have h4:=hu.get (by decide) n;have h5:=bc (b:=18446744073709551616) (by decide) n;refine⟨?_,h1⟩;by_cases hz:u.getD n 0=0
  .exact hz
  .have:=Int.mul_pos h5 (show 0<u.getD n 0 by omega);omega
 refine aR.loop (ι:={x:List Int×Nat//x.2<=n/\Ao u s x.1 x.2}) (id:=4) (b:=cat fN FB) (rest:=(fl fN []).drop 14) (by kernel_rfl) (fun x=>jv n x.1.1 q s x.1.2) (fun x=>n-x.1.2)
  ⟨(u,0),Nat.zero_le _,⟨rfl,hu,fun _ _=>rfl,by show 2^s*vl _ ([]:List Int)=vl _ ([]:List Int)+u.getD 0 0%2^s*_;rw [An];simp [vl]⟩⟩ (fun _=>rfl) ?_
 rintro⟨⟨d,i⟩,hi,I⟩;have hi:i<=n:=hi;have I:Ao u s d i:=I;have hdl:=I.len;by_cases hlt2:i<n
 .have rG:=hu.get (by decide) i;have ag7:=hu.get (by decide) (i+1);have ho:∀l:List Int,l.length=u.length->∀j,j<u.length->bt 167 aB (some (.own 167 aB l)) j=true:=fun l hl j hj=>by rw [wV];exact az (by omega)
  have kG:((i:Int)+1).toNat=i+1:=by omega
  have sd:=I.same i (aE _);have ag8:=I.same (i+1) (by omega);by_cases hs0:s=0
  .subst hs0;have e1:dn (d.getD i 0) (0:Nat)=d.getD i 0:=by rw [KN (by omega) (by rw [sd];exact rG.1)];simp
   have N:=I.next hu (by omega) (by omega) (x:=dn (d.getD i 0) (0:Nat)) (by rw [e1,sd];exact rG) (by rw [e1,sd];simp [Int.emod_one]);exact aR.all (s:=jv n d q (0:Nat) i) (s':=jv n (d.set i (dn (d.getD i 0) (0:Nat))) q (0:Nat) (i+1)) known mixed hS _ (agh n d q _ i (by omega) (by omega) (ho d hdl i (by omega)) (by omega) (by omega) (by omega) (by rw [bY]) rfl) (by kernel_rfl)
    ⟨⟨(_,i+1),by show i+1<=n;omega,N⟩,by show n-(i+1)<n-i;omega,rfl,rfl⟩
  .obtain⟨g1,g2⟩:=ag5 (s:=s) (by omega) rG ag7;have e1:(d.set i (dn (d.getD i 0) s)).getD i 0=dn (u.getD i 0) s:=by rw [vn (by omega),sd]
   have e2:(d.set i (dn (d.getD i 0) s)).getD (i+1) 0=u.getD (i+1) 0:=by rw [oa,if_neg (by omega),ag8]
   have e3:(d.set i (dn (d.getD i 0) s)).set i (eH (dn (u.getD i 0) s) (ff (u.getD (i+1) 0) (64-(s:Int))))=d.set i (eH (dn (u.getD i 0) s) (ff (u.getD (i+1) 0) (64-(s:Int)))):=List.set_set ..;have N:=I.next hu hs (by omega) g1 g2;have fin:∃j:{x:List Int×Nat//x.2<=n/\Ao u s x.1 x.2},n-j.1.2<n-i/\
     (jv n ((d.set i (dn (d.getD i 0) s)).set i (eH ((d.set i (dn (d.getD i 0) s)).getD i 0) (ff ((d.set i (dn (d.getD i 0) s)).getD (i+1) 0) (64-s)))) q s (i+1)).T=(jv n j.1.1 q s j.1.2).T/\
     (jv n ((d.set i (dn (d.getD i 0) s)).set i (eH ((d.set i (dn (d.getD i 0) s)).getD i 0) (ff ((d.set i (dn (d.getD i 0) s)).getD (i+1) 0) (64-s)))) q s (i+1)).H=(jv n j.1.1 q s j.1.2).H:=by
    rw [e1,e2,e3];exact⟨⟨(_,i+1),by show i+1<=n;omega,N⟩,by show n-(i+1)<n-i;omega,rfl,rfl⟩
   exact bp (s:=jv n d q s i) hS (agf n d q s i (by omega) (by omega) (ho d hdl i (by omega)) (by omega) (by omega) (by omega) (by omega) (ho _ (by rw [bY];exact hdl) i (by omega)) (by omega) (by rw [kG];exact ho _ (by rw [bY];exact hdl) (i+1) (by omega)) (by omega) (by omega) (by simp) (by rw [kG];rfl)) fin
 .refine bp (s:=jv n d q s i) hS (agi n d q s i (by omega)) ?_;refine cv (cD ?_);obtain rfl:i=n:=by omega
  have hv:=I.val;rw [hun.1,hun.2,Ag,Int.zero_emod,Int.zero_mul,Int.add_zero]at hv;have iF:aj (d.take i)=R:=Int.eq_of_mul_eq_mul_left (by omega) hv;rw [<-iF,<-vt (I.dg.take i)];have bP:(q.drop 0).take q.length=q:=by simp
  have jt:(d.drop 0).take i=d.take i:=by simp
  exact aR.tv (s:=jv i d q s i) known mixed hS _ (agj i d q s i (Sb rfl) (by rw [bP];omega) (by omega) (by
   rw [wV,az (show i-1<d.length by omega)];simp) (by rw [jt,dK];omega) (by rw [bP]) (by rw [jt])) fun T H h=>h
end
noncomputable section
theorem ag9 {a v:List Int} {s n m:Nat} {vb:Int} (ha:aP 18446744073709551616 a) (hv:aP 18446744073709551616 v) (hs:s<=63) (Li:v.length=n) (hn:2<=n) (hm:m+n=a.length+1) (o8:1<=m) (hla:a.length<=300000)
  (hV:aj v=vb*2^s) (hb0:0<vb) (gZ:18446744073709551616^(n-1)<=vb) (rL:9223372036854775808<=v.getD (n-1) 0) (w:World) (F:Sv.Env):
  aR prog w F 137 ((fl fN []).drop 11) (kX a v (cB a s) (co m) s m).T (kX a v (cB a s) (co m) s m).H (K5 (cM 18446744073709551616 (aj a/vb)) (cM 18446744073709551616 (aj a%vb))):=by
 have hS:=FC;have hp:(0:Int)<2^s:=bc (by decide) _;have aq4:(2:Int)^s<=2^63:=iG (by decide) hs;have RP:(2:Int)^63=9223372036854775808:=rfl;have ig:0<aj v:=by rw [hV];exact Int.mul_pos hb0 hp
 have rM:aj v<18446744073709551616^n:=by rw [<-Li];exact fC (by decide) hv
 have lI:0<=aj a:=fK (by decide) ha;have CQ:aj a<18446744073709551616^a.length:=fC (by decide) ha;have aha:aj a*2^s<18446744073709551616^(a.length+1):=by
  rw [Int.pow_succ];have h1:=dU (show(2:Int)^s<=18446744073709551616 by omega) lI;have h2:=Int.mul_lt_mul_of_pos_right CQ (show(0:Int)<18446744073709551616 by decide);omega
 have An:aj (cB a s)=aj a*2^s:=by
  unfold cB;rw [Int.toNat_natCast];exact Cr (by decide) _ _ (Int.mul_nonneg lI (ck hp)) aha
 have CI:(cB a s).length=a.length+1:=by unfold cB;exact xN _ _ _
 have Sq:aP 18446744073709551616 (cB a s):=by unfold cB;exact Cq (by decide) _ _
 have Lb:∀k,(co m).getD k 0=0:=fun k=>by
  unfold co;rw [ao,List.getElem?_replicate];split<;>rfl
 refine aR.loop (ι:={x:List Int×List Int×Nat//x.2.2<=m/\x.1.length=a.length+1/\aP 18446744073709551616 x.1/\x.2.1.length=m/\aP 18446744073709551616 x.2.1/\aj (x.1.drop x.2.2)<aj v/\aj x.1+aj v*aj x.2.1=aj a*2^s/\∀j,j<x.2.2->x.2.1.getD j 0=0}) (id:=2) (b:=cat fN FA) (rest:=(fl fN []).drop 12) (by kernel_rfl) (fun x=>kX a v x.1.1 x.1.2.1 s x.1.2.2) (fun x=>x.1.2.2)
  ⟨(cB a s,co m,m),aE _,CI,Sq,gm _,pf _, ?_, ?_,fun j _=>Lb j⟩ (fun _=>rfl) ?_
 .show aj ((cB a s).drop m)<aj v;have h1:=rq 18446744073709551616 (cB a s) m (by omega);have h2:=fK (b:=18446744073709551616) (by decide) (Sq.take m);have h3:18446744073709551616^m*aj ((cB a s).drop m)<=aj a*2^s:=by rw [<-An];unfold aj;omega
  have h4:aj a*2^s<18446744073709551616^m*aj v:=by
   have e1:(18446744073709551616:Int)^a.length=18446744073709551616^m*18446744073709551616^(n-1):=by rw [<-Int.pow_add,show m+(n-1)=a.length by omega]
   have c1:=Int.mul_lt_mul_of_pos_right CQ hp;have c2:=ar gZ (ck hp);have c3:=dU c2 (ck (bc (b:=18446744073709551616) (by decide) m));rw [<-hV,<-Int.mul_assoc,<-e1]at c3;omega
  exact Int.lt_of_mul_lt_mul_left (show 18446744073709551616^m*aj ((cB a s).drop m)<18446744073709551616^m*aj v by omega) (ck (bc (by decide) m))
 .show aj (cB a s)+aj v*aj (co m)=_;have:aj (co m)=0:=Cn _ m;rw [this,An];omega
 rintro⟨⟨u,q,k⟩,hk,hl,iI,hq,jc,kg,hval,hz⟩;have hk:k<=m:=hk;have hl:u.length=a.length+1:=hl;have iI:aP 18446744073709551616 u:=iI;have hq:q.length=m:=hq;have jc:aP 18446744073709551616 q:=jc;have kg:aj (u.drop k)<aj v:=kg;have hval:aj u+aj v*aj q=aj a*2^s:=hval;have hz:∀j,j<k->q.getD j 0=0:=hz;cases k with
 |zero=>
  refine bp (s:=kX a v u q s 0) hS (agd a v u q s 0 (by omega)) ?_;refine cv (cD ?_);rw [List.drop_zero]at kg;have pn:0<=aj u:=fK (by decide) iI;obtain⟨g1,g2⟩:=KI (A:=aj a) (b:=vb) (V:=aj v) (S:=2^s) (U:=aj u) (q:=aj q) hp hb0 hV hval pn kg;rw [g1,<-vt jc];refine dZ (s:=kX a v u q s 0) hS 1 (age a v u q s 0) ?_;rw [Li];exact ag6 iI jc hs (by omega) (by omega) (by omega) (by omega) g2 (c6 _ (by omega)) (Int.lt_trans kg rM) w F
 |succ j=>
  have ej:(((j+1:Nat):Int)-1).toNat=j:=by omega
  have Ap:(((j+1:Nat):Int)-1+v.length+1).toNat=j+(n+1):=by omega
  have ed:j+(n+1)-j=n+1:=by omega
  have jt:(((j+1:Nat):Int)-1-1)=(j:Int)-1:=by omega
  obtain⟨w1,w2,w3⟩:=KH (b:=18446744073709551616) (by decide) iI (j:=j) (n:=n) (V:=aj v) (by omega) (ck rM) kg;have vP:aj (qy u j (n+1))<18446744073709551616*aj v:=by unfold qy aj;rw [<-w1];exact w2
  have hpre:vH u j (n+1) v=true:=by
   unfold vH;rw [cf.2 iI,cf.2 hv,az (show 2<=v.length by omega),Li,Nat.beq_refl,az (show n<=1000000 by omega),az rL,az vP];rfl
  obtain⟨n1,n2,n3,Ae⟩:=RM (b:=18446744073709551616) (by decide) iI (j:=j) (n:=n) (V:=aj v) (by omega) ig (ck rM) kg (u':=gf u j (n+1) v) rfl;have Lc:0<=aj (qy u j (n+1)):=fK (by decide) ((iI.drop j).take _);have vN:0<=ja u j (n+1) v:=Int.ediv_nonneg Lc (ck ig);have Fz:ja u j (n+1) v<18446744073709551616:=(Int.ediv_lt_iff_lt_mul ig).2 vP;have fin:∃y:{x:List Int×List Int×Nat//x.2.2<=m/\x.1.length=a.length+1/\aP 18446744073709551616 x.1/\x.2.1.length=m/\aP 18446744073709551616 x.2.1/\aj (x.1.drop x.2.2)<aj v/\aj x.1+aj v*aj x.2.1=aj a*2^s/\∀j,j<x.2.2->x.2.1.getD j 0=0},y.1.2.2<j+1/\
    (Ak a v (gf u j (n+1) v) (q.set j (ja u j (n+1) v)) s (j+1)).T=(kX a v y.1.1 y.1.2.1 s y.1.2.2).T/\(Ak a v (gf u j (n+1) v) (q.set j (ja u j (n+1) v)) s (j+1)).H=(kX a v y.1.1 y.1.2.1 s y.1.2.2).H:=by
   refine⟨⟨(gf u j (n+1) v,q.set j (ja u j (n+1) v),j),by show j<=m;omega,by show(gf u j (n+1) v).length=_;omega,n2,by show(q.set j _).length=m;rw [bY];exact hq,jc.set ⟨vN,Fz⟩,Ae, ?_,fun i hi=> ?_⟩,e7 _, ?_,rfl⟩
   .show aj (gf u j (n+1) v)+aj v*aj (q.set j (ja u j (n+1) v))=_;have qi:aj (q.set j (ja u j (n+1) v))=aj q+18446744073709551616^j*ja u j (n+1) v:=by
     unfold aj;rw [qj _ _ _ _ (by omega),hz j (e7 _),Int.sub_zero]
    have Ld:aj (gf u j (n+1) v)+18446744073709551616^j*ja u j (n+1) v*aj v=aj u:=n3;rw [qi,<-hval,<-Ld];generalize aj (gf u j (n+1) v)=x1;generalize ja u j (n+1) v=x2;generalize (18446744073709551616:Int)^j=x3;generalize aj q=qh;generalize aj v=vg;grind
   .have hi:i<j:=hi;show(q.set j _).getD i 0=0;rw [oa,if_neg (by omega)];exact hz i (by omega)
   .show(Ak a v _ _ s (j+1)).T=(kX a v _ _ s j).T;unfold Ak kX;rw [jt]
  have hlen':u.length=(gf u j (n+1) v).length:=by omega
  have hown:∀i l,i<u.length->1<=l->(bt 167 aB (some (.own 167 aB u)) i&&Nat.ble 1 l)=true:=fun i l hi hl=>by rw [wV,az hi,fo hl];rfl
  have CR:(((0+1:Nat):Int)-1+v.length+1).toNat=n+1:=by omega
  by_cases hj0:j=0
  .subst hj0;refine bp (s:=kX a v u q s 1) hS (agb a v u q s 1 (by omega) (by omega) (by omega) (by omega) (by rw [CR];omega) rfl (by rw [CR];exact hown _ _ (by omega) (by omega)) (by rw [CR];exact hpre) (by rw [ej];omega) (by omega) (by rw [CR];exact hlen') (by rw [bY]) (by rw [bY])) ?_;rw [CR,ej];exact fin
  .refine aR.all (s:=kX a v u q s (j+1)) known mixed hS _ (agc a v u q s (j+1) (by omega) (by omega) (by omega) (by omega) (by rw [Ap];omega) (by
    rw [ej];cases hb:Nat.beq j 0 with
    |false=>rfl
    |true=>exact absurd (ac hb) hj0) (by rw [Ap,ej];omega) (by
    rw [Ap,ej,ed];exact hown _ _ (by omega) (by omega)) (by rw [Ap,ej,ed];exact hpre) (by rw [ej];omega) (by omega) (by rw [Ap,ej,ed];exact hlen') (by rw [bY]) (by rw [bY])) (by kernel_rfl) ?_
   rw [Ap,ej,ed];exact fin
theorem ahb (a b:List Int) (h:pq a b=true):Holds prog false 178 [bE a,bE b] (.tuple [bE (eT a b),bE (cC a b)]):=by
 have hS:=FC;unfold pq mH at h;simp only [ae,bz,cf,qq]at h;obtain⟨⟨⟨ha,gM⟩,⟨hb,FL⟩,hal⟩,lp,hla,hlb⟩:=h;have hC:mH a b=true:=by
  unfold mH;rw [cf.2 ha,qq.2 gM,cf.2 hb,qq.2 FL,az hal];rfl
 have lI:0<=aj a:=fK (by decide) ha;have tR:0<=aj b:=fK (by decide) hb;refine bJ (c:=fN) func178 rfl rfl fun w F=> ?_
 by_cases hlt:aj a<aj b
 .have e1:eT a b=[]:=by unfold eT;rw [Int.ediv_eq_zero_of_lt lI hlt];exact Kr (by decide)
  have e2:cC a b=a:=by unfold cC;rw [Int.emod_eq_of_lt lI hlt];exact(d9 (by decide) ha gM rfl).symm
  rw [e1,e2];exact bu hS 3 (af2 a b hC (by unfold kP;rw [if_pos hlt];decide))
 .refine cE hS 4 (af3 a b hC (by unfold kP;rw [if_neg hlt];split<;>decide)) ?_;obtain⟨n,hn⟩:∃n,b.length=n+1:=⟨b.length-1,by omega⟩;have CP:=hb.get (by decide) n;have hbz:=FL n hn;cases n with
  |zero=>
   obtain⟨y,rfl⟩:∃y,b=[y]:=List.length_eq_one_iff.1 hn;have hy:y≠0:=hbz;have hy2:0<=y/\y<18446744073709551616:=CP;refine te (X:=oQ) (o:= .tmp 23) (x:=cat fN CJ) (y:= .skip) (rest:=(fl fN []).drop 5) (by kernel_rfl) (by kernel_rfl) ?_;refine aR.mono (fun e T H hq=> ?_) (agk ha (by omega) hla w F);obtain⟨rfl,hq⟩:=hq;exact hq
  |succ m=>
   refine dZ (s:=rI a b) hS 1 (af8 a b (by omega)) ?_;obtain⟨s,hs,RT,RU,RV⟩:=RO (x:=b.getD (m+1) 0) (by omega);have bG:((b.length:Int)-1).toNat=m+1:=by omega
   have hp:(0:Int)<2^s:=bc (by decide) _;have aq5:=f7 (u:=b) (n:=m+1) hn;have aq6:=fK (b:=18446744073709551616) (by decide) (hb.take (m+1));have ahc:=fC (b:=18446744073709551616) (by decide) (hb.take (m+1));rw [dK,Nat.min_eq_left (by omega)]at ahc;have hP:=bc (b:=18446744073709551616) (by decide) (m+1);have gZ:18446744073709551616^(m+1)<=aj b:=xL (by decide) hb FL hn
   -- the divisor, shifted up, has as many words
   have ahd:(b.getD (m+1) 0+1)*2^s<=18446744073709551616:=by
    have qw:(18446744073709551616:Int)=2^(64-s)*2^s:=by rw [<-Int.pow_add,show 64-s+s=64 by omega];rfl
    have h1:b.getD (m+1) 0<2^(64-s):=Int.lt_of_mul_lt_mul_right (show b.getD (m+1) 0*2^s<2^(64-s)*2^s by rw [<-qw];exact RV) (ck hp);rw [qw];exact ar (by omega) (ck hp)
   have Lg:aj b*2^s<18446744073709551616^(m+2):=by
    have h1:aj b<18446744073709551616^(m+1)*(b.getD (m+1) 0+1):=by rw [Int.mul_add,Int.mul_one];unfold aj at*;omega
    have h2:=Int.mul_lt_mul_of_pos_right h1 hp;have h3:=dU ahd (ck hP);rw [Int.mul_assoc]at h2;rw [Int.pow_succ];omega
   have ahe:aj (cB b s)=aj b*2^s:=by
    unfold cB;rw [Int.toNat_natCast];refine Cr (by decide) _ _ (Int.mul_nonneg tR (ck hp)) ?_;have:=iG (b:=18446744073709551616) (by decide) (show m+2<=b.length+1 by omega);omega
   have ahf:aP 18446744073709551616 (cB b s):=by unfold cB;exact Cq (by decide) _ _
   have aq7:(cB b s).length=m+3:=by unfold cB;rw [xN];omega
   have hv:=vt ahf;rw [ahe]at hv;have ig:0<=aj b*2^s:=Int.mul_nonneg tR (ck hp);obtain⟨v1,v2,v3⟩:=d8 (b:=18446744073709551616) (by decide) ig;have Lj:aj (dJ (cB b s))=aj b*2^s:=by rw [hv];exact v3
   have hvl:(dJ (cB b s)).length=m+2:=by
    have h1:=vA (b:=18446744073709551616) (by decide) ig Lg;rw [<-hv]at h1;by_cases hc:m+2<=(dJ (cB b s)).length
    .omega
    .have h2:=fC (b:=18446744073709551616) (by decide) v1;rw [<-hv]at h2;have h3:=iG (b:=18446744073709551616) (by decide) (show(dJ (cB b s)).length<=m+1 by omega);have h4:=dU (show(1:Int)<=2^s by omega) tR;unfold aj at Lj gZ h4;omega
   have CB:aP 18446744073709551616 (dJ (cB b s)):=by rw [hv];exact v1
   have rL:9223372036854775808<=(dJ (cB b s)).getD (m+2-1) 0:=by
    have h1:=f7 (u:=dJ (cB b s)) (n:=m+1) hvl;have h2:=fC (b:=18446744073709551616) (by decide) (CB.take (m+1));rw [dK,Nat.min_eq_left (by omega)]at h2;have h3:18446744073709551616^(m+1)*(b.getD (m+1) 0*2^s)<=aj b*2^s:=by
     rw [<-Int.mul_assoc];exact ar (by unfold aj at*;omega) (ck hp)
    have h4:=dU RU (ck hP);show _<=(dJ (cB b s)).getD (m+1) 0;rw [Lj]at h1;have h5:18446744073709551616^(m+1)*9223372036854775808<18446744073709551616^(m+1)*((dJ (cB b s)).getD (m+1) 0+1):=by
     rw [Int.mul_add,Int.mul_one];unfold aj at*;omega
    have:=Int.lt_of_mul_lt_mul_left h5 (ck hP);omega
   have hge:m+2<=a.length:=by
    refine Nat.not_lt.1 fun hh=> ?_
    exact hlt (vk (by decide) ha hb FL (by omega))
   have Sr:∀l:List Int,aP 18446744073709551616 l->l.length<=300000->x5 l (s:Int)=true:=fun l hl agZ=>by
    unfold x5;rw [cf.2 hl,az (show l.length<=400000 by omega),az (show(0:Int)<=(s:Int) by omega),az (show(s:Int)<64 by omega)];rfl
   have ht:((cB b s).drop 0).take (cB b s).length=cB b s:=by simp
   have hs':dO (b.getD ((b.length:Int)-1).toNat 0)=(s:Int):=by rw [bG];exact hs
   refine aR.st (s:=rI a b) known mixed hS 2 _ (af9 a b (dJ (cB b s)) s (by omega) (by omega) (by omega) (by rw [bG];exact f6.2 CP) (by rw [hs'];exact Sr b hb hlb) (by
    rw [hs'];have:bt 167 aB (some (.own 167 aB (cB b s))) ((cB b s).length-1)=true:=by rw [wV];exact az (by omega)
    rw [Bool.or_eq_true];exact .inr this) (by rw [hs',ht];omega) hs' (by rw [hs',ht])) (by kernel_rfl) ?_
   have em:((a.length:Int)-(dJ (cB b s)).length+1).toNat=a.length-(m+2)+1:=by omega
   refine dZ (s:=K3 a (dJ (cB b s)) s) hS 4 (aga a (dJ (cB b s)) s (a.length-(m+2)+1) (Sr a ha hla) (by omega) (by omega) (by omega) (by rw [em];omega) rfl (by rw [em,gm]) (by rw [em]) (by rw [gm]) (by omega) (by rw [em];exact xS _) (by rw [gm])) ?_;exact ag9 ha CB RT hvl (by omega) (by omega) (by omega) hla Lj (by omega) (by rw [show m+2-1=m+1 by omega];exact gZ) rL w F
theorem Ss:K4.Ok prog:=fun⟨a,b,_⟩ h=>ahb a b h
end
noncomputable section
noncomputable def tS:Code:=(f171.body).getD .skip
noncomputable def vQ:bF:=a7 [Fe,Kv,K4,vD,Fl,vE]
abbrev FK:Sv.Ren:=[(64,64,none),(65,65,none),(66,66,none),(67,67,none)]
def tT (a b:aM):bC:={n:=84,sl:=[(2, .ptr 64 0),(3, .ptr 65 0),(4, .ptr 66 0),(5, .ptr 67 0)],bG:=[(64,mI a),(65,mI b),(66,b0),(67,b0)],next:=68}
def ki (a b:aM):Int×List Int:=aV (b6 (bV a) (eT (ay a) (ay b)))
def gG (a b:aM):Int×List Int:=aV (b6 (bV a) (cC (ay a) (ay b)))
theorem ahg (a b:aM) (h1:a.2.isEmpty=true) (h2:b.2.isEmpty=true) (h3:¬a.1= -9223372036854775808) (h4:b.1≠0) (h5:i6 (Int.tdiv a.1 b.1)) (h6:Int.tmod a.1 b.1<0) (h7:i6 (Int.tdiv a.1 b.1-1)) (h8:i6 (Int.tmod a.1 b.1+b.1)):
  bq vQ (fl tS []) 3 84 [aH a,aH b] 2047 f171 false (.tuple [aH (Int.tdiv a.1 b.1-1,[]),aH (Int.tmod a.1 b.1+b.1,[])]):=
 wy [af (aQ (aQ (h1))),af (aQ (h1)),af (aQ (aQ (h2))),af (aQ (h2)),af (gJ.mpr h3),af (aW (v:=iv (a.1)) (by kernel_rfl)),af (aW (v:=iv (b.1)) (by kernel_rfl)),ah h4,yi h5,ah h6,yi h7,yi h8] 251558458034092392577408602166792257
theorem St (a b:aM) (h1:a.2.isEmpty=true) (h2:b.2.isEmpty=true) (h3:¬a.1= -9223372036854775808) (h4:b.1≠0) (h5:i6 (Int.tdiv a.1 b.1)) (h6:¬Int.tmod a.1 b.1<0):
  bq vQ (fl tS []) 3 84 [aH a,aH b] 1535 f171 false (.tuple [aH (Int.tdiv a.1 b.1,[]),aH (Int.tmod a.1 b.1,[])]):=
 wy [af (aQ (aQ (h1))),af (aQ (h1)),af (aQ (aQ (h2))),af (aQ (h2)),af (gJ.mpr h3),af (aW (v:=iv (a.1)) (by kernel_rfl)),af (aW (v:=iv (b.1)) (by kernel_rfl)),ah h4,yi h5,aJ h6] 802322401637226796831279157313
theorem ahh (a b:aM) (h1:a.2.isEmpty=false):
  cT vQ (fl tS []) 3 84 [aH a,aH b] 512 .normal FK (tT a b):=
 wy [af (aQ (aQ (h1))),af (aQ (h1))] 528449
theorem ahi (a b:aM) (h1:a.2.isEmpty=true) (h2:b.2.isEmpty=false):
  cT vQ (fl tS []) 3 84 [aH a,aH b] 527 .normal FK (tT a b):=
 wy [af (aQ (aQ (h1))),af (aQ (h1)),af (aQ (aQ (h2))),af (aQ (h2))] 17801616560193
theorem ahj (a b:aM) (h1:a.2.isEmpty=true) (h2:b.2.isEmpty=true) (h3:a.1= -9223372036854775808):
  cT vQ (fl tS []) 3 84 [aH a,aH b] 767 .normal FK (tT a b):=
 wy [af (aQ (aQ (h1))),af (aQ (h1)),af (aQ (aQ (h2))),af (aQ (h2)),af (jA.mpr h3)] 1425176500113473
theorem ahk (a b:aM) (h1:(aD a)=true) (h2:(aD b)=true) (h3:(pq (ay a) (ay b))=true) (h4:(gA (eT (ay a) (ay b))&&ju (eT (ay a) (ay b)))=true) (h5:(gA (cC (ay a) (ay b))&&ju (cC (ay a) (ay b)))=true) (h6:(aD (aV (b6 (bV a) (cC (ay a) (ay b)))))=true) (h7:eY (aV (b6 (bV a) (cC (ay a) (ay b))))<0) (h8:(aD (aV (b6 (bV a) (eT (ay a) (ay b))))&&aD (1,[]))=true) (h9:(aD (aV (b6 (bV a) (cC (ay a) (ay b))))&&aD b)=true) (h10:(j7 (aV (b6 (bV a) (eT (ay a) (ay b)))) (1,[])).1=(j7 (ki a b) (1,[])).1) (h11:(j7 (aV (b6 (bV a) (eT (ay a) (ay b)))) (1,[])).2=(j7 (ki a b) (1,[])).2) (h12:(cF (aV (b6 (bV a) (cC (ay a) (ay b)))) b).1=(cF (gG a b) b).1) (dP:(cF (aV (b6 (bV a) (cC (ay a) (ay b)))) b).2=(cF (gG a b) b).2):
  bQ vQ ((fl tS []).drop 3) (tT a b) 3 f171 false (.tuple [aH (j7 (ki a b) (1,[])),aH (cF (gG a b) b)]):=
 wy [af h1,af h2,af h3,af h4,af h5,af h6,ah h7,af (aW (v:=aH (aV (b6 (bV a) (eT (ay a) (ay b))))) (by kernel_rfl)),af h8,af (aW (v:=aH (aV (b6 (bV a) (cC (ay a) (ay b))))) (by kernel_rfl)),af (aW (v:=aH b) (by kernel_rfl)),af h9,af (aW (v:=aH (j7 (aV (b6 (bV a) (eT (ay a) (ay b)))) ((1:Int),[]))) (by kernel_rfl)),af (aW (v:=aH (cF (aV (b6 (bV a) (cC (ay a) (ay b)))) b)) (by kernel_rfl)),ax h10,ax h11,ax h12,ax dP] 6366022754155619780025161810062091830177921
theorem ahl (a b:aM) (h1:(aD a)=true) (h2:(aD b)=true) (h3:(pq (ay a) (ay b))=true) (h4:(gA (eT (ay a) (ay b))&&ju (eT (ay a) (ay b)))=true) (h5:(gA (cC (ay a) (ay b))&&ju (cC (ay a) (ay b)))=true) (h6:(aD (aV (b6 (bV a) (cC (ay a) (ay b)))))=true) (h7:¬eY (aV (b6 (bV a) (cC (ay a) (ay b))))<0) (h8:(aV (b6 (bV a) (eT (ay a) (ay b)))).1=(ki a b).1) (h9:(aV (b6 (bV a) (eT (ay a) (ay b)))).2=(ki a b).2) (h10:(aV (b6 (bV a) (cC (ay a) (ay b)))).1=(gG a b).1) (h11:(aV (b6 (bV a) (cC (ay a) (ay b)))).2=(gG a b).2):
  bQ vQ ((fl tS []).drop 3) (tT a b) 2 f171 false (.tuple [aH (ki a b),aH (gG a b)]):=
 wy [af h1,af h2,af h3,af h4,af h5,af h6,aJ h7,af (aW (v:=aH (aV (b6 (bV a) (eT (ay a) (ay b))))) (by kernel_rfl)),af (aW (v:=aH (aV (b6 (bV a) (cC (ay a) (ay b))))) (by kernel_rfl)),ax h8,ax h9,ax h10,ax h11] 3986500662194803160658049
noncomputable def cJ (a b:aM):Int×List Int:=if ic a&&(ic b&& !(a.1== -9223372036854775808))then aV (aq a/aq b)else if aq (gG a b)<0 then j7 (ki a b) (1,[])else ki a b
noncomputable def lJ (a b:aM):Int×List Int:=aV (aq a%aq b)
def pv (a b:aM):Bool:=(aD a&&aD b)&&decide (0<aq b)
noncomputable def FM:bn:={f:=171,ps:=[cV,cV],rs:=[cV,cV],fresh:=false,pre:=fun d=>pv d.1 d.2.1,fn:=fun d=>(cJ d.1 d.2.1,(lJ d.1 d.2.1,()))}
theorem Su:bB prog (bD vQ):=cR (aT po (aT RD (aT Ss (aT xY (aT KF (aT xZ dY))))))
theorem Sw {n:Nat} {a b:aM} (h:bH n a=true) (g:bH n b=true) (hb:0<aq b):
  0<=aj (ay a)/aj (ay b)/\0<=aj (ay a)%aj (ay b)/\aj (ay a)%aj (ay b)<aq b/\aj (ay b)=aq b/\
  ((0<=aq a/\aq (ki a b)=aq a/aq b/\aq (gG a b)=aq a%aq b/\¬aq (gG a b)<0)\/
   (aq (gG a b)<0/\aq (ki a b)-1=aq a/aq b/\aq (gG a b)+aq b=aq a%aq b)\/
   (¬aq (gG a b)<0/\aq (ki a b)=aq a/aq b/\aq (gG a b)=aq a%aq b)):=by
 obtain⟨_,_,a3,a4,_⟩:=jQ h;obtain⟨_,_,b3,b4,_⟩:=jQ g;have eb:aj (ay b)=aq b:=by omega
 have q0:0<=aj (ay a)/aj (ay b):=Int.ediv_nonneg (by omega) (by omega);have cL:=c6 (aj (ay a)) (show aj (ay b)≠0 by omega);have r1:=cS (aj (ay a)) (show 0<aj (ay b) by omega);have s7:=Int.emod_add_mul_ediv (aj (ay a)) (aj (ay b));have eQ:aq (ki a b)=b6 (bV a) (eT (ay a) (ay b)):=val_mk _;have qF:aq (gG a b)=b6 (bV a) (cC (ay a) (ay b)):=val_mk _;have Sy:aj (eT (ay a) (ay b))=aj (ay a)/aj (ay b):=vF q0;have Ll:aj (cC (ay a) (ay b))=aj (ay a)%aj (ay b):=vF cL;refine⟨q0,cL,by omega,eb, ?_⟩;unfold b6 at eQ qF;cases hn:bV a
 .rw [hn]at eQ qF;have eQ:aq (ki a b)=aj (eT (ay a) (ay b)):=eQ;have qF:aq (gG a b)=aj (cC (ay a) (ay b)):=qF;have ha:¬aq a<0:=fun hh=>by rw [a4.2 hh]at hn;cases hn
  have ea:aj (ay a)=aq a:=by omega
  refine .inl ⟨by omega,by rw [eQ,Sy,ea,eb],by rw [qF,Ll,ea,eb],by rw [qF,Ll];omega⟩
 .rw [hn]at eQ qF;have eQ:aq (ki a b)= -aj (eT (ay a) (ay b)):=eQ;have qF:aq (gG a b)= -aj (cC (ay a) (ay b)):=qF;have ha:=a4.1 hn;have ea:aj (ay a)= -aq a:=by omega
  rw [Sy]at eQ;rw [Ll]at qF;rw [eb]at eQ qF s7 r1 cL q0;generalize aj (ay a)/aq b=q at*;generalize aj (ay a)%aq b=r at*;by_cases hr:r=0
  .obtain⟨k1,k2⟩:=xO (U:=aq a) (V:=aq b) (t:= -q) hb (by rw [Int.neg_mul,Int.mul_comm q];omega) (by rw [Int.neg_mul,Int.mul_comm q];omega);rw [Int.neg_mul,Int.mul_comm q]at k2;exact .inr (.inr ⟨by omega,by omega,by omega⟩)
  .have e:(-q-1)*aq b= -(aq b*q)-aq b:=by rw [Int.sub_mul,Int.one_mul,Int.neg_mul,Int.mul_comm q]
   obtain⟨k1,k2⟩:=xO (U:=aq a) (V:=aq b) (t:= -q-1) hb (by rw [e];omega) (by rw [e];omega);rw [e]at k2;exact .inr (.inl ⟨by omega,by omega,by omega⟩)
theorem lO {n:Nat} {a b:aM} (h:bH n a=true) (g:bH n b=true) (hb:0<aq b):aq (cJ a b)=aq a/aq b:=by
 obtain⟨_,_,_,_,hv⟩:=Sw h g hb;unfold cJ;split
 .exact val_mk _
 .split
  .rename_i hlt;rw [val_sub];have e1:aq (1,[])=1:=rfl;rw [e1];omega
  .omega
theorem pw (a b:aM):aq (lJ a b)=aq a%aq b:=val_mk _
theorem Sz (x:Int) {y:Int} (hy:0<y):(x/y).natAbs<=x.natAbs:=by
 have h1:=Int.emod_add_mul_ediv x y;have h2:=c6 x (show y≠0 by omega);have h3:=cS x hy;by_cases h0:0<=x
 .have h4:0<=x/y:=Int.ediv_nonneg h0 (by omega);have:=ar (show 1<=y by omega) h4;omega
 .have h4:x/y<= -1:=by
   have:x/y<0:=(Int.ediv_lt_iff_lt_mul hy).2 (by omega);omega
  have h5:=dU (show x/y+1<=0 by omega) (show 0<=y-1 by omega);rw [Int.mul_zero]at h5;have e:(y-1)*(x/y+1)=y*(x/y)+y-x/y-1:=by grind
  omega
theorem tg {n:Nat} {a b:aM} (h:bH n a=true) (g:bH n b=true) (hb:0<aq b) (hn:1<=n):bH n (cJ a b)=true:=by
 have hv:=lO h g hb;have ha:=dp h hn;have hd:=Sz (aq a) hb;have hk:∀z:Int,z=aq a/aq b->(z.natAbs:Int)<18446744073709551616^n:=fun z hz=>by subst hz;omega
 unfold cJ at hv ⊢;split
 .exact(kV (hk _ rfl)).1
 .rename_i hc;rw [if_neg hc]at hv;split
  .rename_i hlt;rw [if_pos hlt,val_sub]at hv;exact xT (by rw [n8];exact hk _ (by omega))
  .rename_i hlt;rw [if_neg hlt]at hv;unfold ki at hv ⊢;rw [val_mk]at hv;exact(kV (hk _ hv)).1
theorem SA {n:Nat} {a b:aM} (g:bH n b=true) (hb:0<aq b) (hn:1<=n):((aq a%aq b).natAbs:Int)<18446744073709551616^n:=by
 have h1:=c6 (aq a) (show aq b≠0 by omega);have h2:=cS (aq a) hb;have h3:=dp g hn;omega
theorem ahm {n:Nat} {a b:aM} (g:bH n b=true) (hb:0<aq b) (hn:1<=n):bH n (lJ a b)=true:=(kV (SA g hb hn)).1
theorem Lm (a b:aM) (h:aD a=true) (g:aD b=true) (hb:0<aq b) (hc:¬(ic a&&(ic b&& !(a.1== -9223372036854775808)))=true) (w:World) (F:Sv.Env):
  aR prog w F 84 ((fl tS []).drop 3) (tT a b).T (tT a b).H (gk prog false f171 (.tuple [aH (cJ a b),aH (lJ a b)])):=by
 have hS:=Su;obtain⟨q0,cL,r1,eb,hv⟩:=Sw h g hb;obtain⟨a1,a2,a3,a4,a5⟩:=jQ h;obtain⟨b1,b2,b3,b4,fW⟩:=jQ g;have hD:pq (ay a) (ay b)=true:=by
  unfold pq;have hne:1<=(ay b).length:=by
   cases hl:ay b with
   |nil=>rw [hl]at eb;have:aj []=0:=rfl;omega
   |cons _ _=>simp
  rw [show mH (ay a) (ay b)=true from KA h g,az hne,az (show(ay a).length<=300000 by omega),az (show(ay b).length<=300000 by omega)];rfl
 have SB:=xW q0;have SC:=xW cL;have ha:=dp h (by decide);have gZ:=dp g (by decide);have aq8:aj (ay a)/aj (ay b)<=aj (ay a):=Int.ediv_le_self _ (by omega);have okQ:aD (ki a b)=true:=by
  refine(kV ?_).1;rw [Ky (bV a) (w:=eT (ay a) (ay b)) (d8 (b:=18446744073709551616) (by decide) q0).1,show aj (eT (ay a) (ay b))=_ from vF q0];omega
 have Ln:aD (gG a b)=true:=by
  refine(kV ?_).1;rw [Ky (bV a) (w:=cC (ay a) (ay b)) (d8 (b:=18446744073709551616) (by decide) cL).1,show aj (cC (ay a) (ay b))=_ from vF cL];omega
 by_cases hlt:aq (gG a b)<0
 .have e1:cJ a b=j7 (ki a b) (1,[]):=by unfold cJ;rw [if_neg hc,if_pos hlt]
  have hval:aq (cF (gG a b) b)=aq a%aq b:=by rw [rB];omega
  have e2:cF (gG a b) b=lJ a b:=by
   have ho:aD (cF (gG a b) b)=true:=xT (by rw [<-rB,hval];exact SA g hb (by decide));have:=Fa ho (by rw [hval];have:=c6 (aq a) (show aq b≠0 by omega);omega);rw [hval]at this;exact this
  rw [e1,<-e2];have one:aD ((1:Int),([]:List Int))=true:=rfl;exact bT (s:=tT a b) hS (ahk a b h g hD SB SC Ln (by unfold eY;exact Int.lt_of_le_of_lt (Int.le_of_eq (Fb hlt)) (by decide)) (by rw [ae];exact⟨okQ,one⟩) (by rw [ae];exact⟨Ln,g⟩) rfl rfl rfl rfl)
 .have e1:cJ a b=ki a b:=by unfold cJ;rw [if_neg hc,if_neg hlt]
  have e2:gG a b=lJ a b:=by
   unfold lJ;have:aq (gG a b)=aq a%aq b:=by omega
   rw [<-this];unfold gG;rw [val_mk]
  rw [e1,<-e2];exact aR.tv (s:=tT a b) known mixed hS _ (ahl a b h g hD SB SC Ln (by
   show¬kU (aq (gG a b))<0;unfold kU;rw [if_neg hlt];split<;>decide) rfl rfl rfl rfl) fun T H h=>h
theorem ahn (a b:aM) (h:aD a=true) (g:aD b=true) (hb:0<aq b):Holds prog false 171 [aH a,aH b] (.tuple [aH (cJ a b),aH (lJ a b)]):=by
 have hS:=Su;refine bJ (c:=tS) func171 rfl rfl fun w F=> ?_
 by_cases ha:a.2=[]
 .have KC:=xX h ha;by_cases lg:b.2=[]
  .have hrb:=xX g lg;by_cases hm:a.1= -9223372036854775808
   .refine cE hS 3 (ahj a b (dc.2 ha) (dc.2 lg) hm) (Lm a b h g hb (fun hh=> ?_) w F);simp only [ae,Bool.not_eq_true',fP]at hh;exact hh.2.2 hm
   .have SD:=lG ha;have Lo:=lG lg;rw [Lo]at hb;have hc:(ic a&&(ic b&& !(a.1== -9223372036854775808)))=true:=by
     rw [dc.2 ha,dc.2 lg,fP.2 hm];rfl
    have s7:=Int.tmod_add_mul_tdiv a.1 b.1;have tO:=c6 a.1 (show b.1≠0 by omega);have lu:=cS a.1 hb;have RZ:=Int.emod_add_mul_ediv a.1 b.1;have FF:=Sz a.1 hb;have aho:cJ a b=(a.1/b.1,[]):=by
     unfold cJ;rw [if_pos hc,SD,Lo];exact rC (by omega)
    have ahp:lJ a b=(a.1%b.1,[]):=by
     unfold lJ;rw [SD,Lo];exact rC (by omega)
    rw [aho,ahp];by_cases hneg:0<=a.1
    .have e1:a.1.tdiv b.1=a.1/b.1:=Int.tdiv_eq_ediv_of_nonneg hneg;have e2:a.1.tmod b.1=a.1%b.1:=Int.tmod_eq_emod_of_nonneg hneg;have:=aR.ret (P:=prog) (w0:=w) (F:=F) (X:=oQ) known mixed hS 3 _ (St a b (dc.2 ha) (dc.2 lg) hm (by omega) (by rw [e1];omega) (by rw [e2];omega)) fun T H h=>h
     rw [e1,e2]at this;exact this
    .have e1:a.1.tdiv b.1= -((-a.1)/b.1):=by
      have:=Int.neg_tdiv (a:= -a.1) (b:=b.1);rw [Int.neg_neg]at this;rw [this,Int.tdiv_eq_ediv_of_nonneg (by omega)]
     have n1:=Int.emod_add_mul_ediv (-a.1) b.1;have n2:=c6 (-a.1) (show b.1≠0 by omega);have n3:=cS (-a.1) hb;have Ae:0<=(-a.1)/b.1:=Int.ediv_nonneg (by omega) (by omega);have R2:(-a.1)/b.1<= -a.1:=Int.ediv_le_self _ (by omega);have e2:a.1.tmod b.1= -((-a.1)%b.1):=by
      rw [e1,Int.mul_neg]at s7;omega
     have bP:a.1.tdiv b.1*b.1= -(b.1*(-a.1/b.1)):=by rw [e1,Int.neg_mul,Int.mul_comm]
     by_cases hr:(-a.1)%b.1=0
     .obtain⟨k1,k2⟩:=xO (U:=a.1) (V:=b.1) (t:=a.1.tdiv b.1) hb (by rw [bP];omega) (by rw [bP];omega);have:=aR.ret (P:=prog) (w0:=w) (F:=F) (X:=oQ) known mixed hS 3 _ (St a b (dc.2 ha) (dc.2 lg) hm (by omega) (by omega) (by omega)) fun T H h=>h
      rw [<-k1,show a.1.tmod b.1=a.1%b.1 by omega]at this;exact this
     .have e3:(a.1.tdiv b.1-1)*b.1= -(b.1*(-a.1/b.1))-b.1:=by rw [Int.sub_mul,Int.one_mul,bP]
      obtain⟨k1,k2⟩:=xO (U:=a.1) (V:=b.1) (t:=a.1.tdiv b.1-1) hb (by rw [e3];omega) (by rw [e3];omega);have:=aR.ret (P:=prog) (w0:=w) (F:=F) (X:=oQ) known mixed hS 3 _ (ahg a b (dc.2 ha) (dc.2 lg) hm (by omega) (by omega) (by omega) (by omega) (by omega)) fun T H h=>h
      rw [<-k1,show a.1.tmod b.1+b.1=a.1%b.1 by rw [k2,e3];omega]at this;exact this
  .exact aR.to known mixed hS 3 _ (ahi a b (dc.2 ha) (f5.2 lg)) (by kernel_rfl) (Lm a b h g hb (fun hh=>by
    simp only [ae]at hh;exact lg (dc.1 hh.2.1)) w F)
 .exact aR.to known mixed hS 3 _ (ahh a b (f5.2 ha)) (by kernel_rfl) (Lm a b h g hb (fun hh=>by
   simp only [ae]at hh;exact ha (dc.1 hh.1)) w F)
theorem CS {a b:aM}:pv a b=true↔aD a=true/\aD b=true/\0<aq b:=by
 unfold pv;simp only [ae,bz,and_assoc]
theorem Lp:FM.Ok prog:=fun⟨a,b,_⟩ h=>by
 obtain⟨h1,h2,h3⟩:=CS.1 (show pv a b=true from h);exact ahn a b h1 h2 h3
end
noncomputable section
noncomputable def ye:Code:=(f121.body).getD .skip
noncomputable def Lq:Code:=(f148.body).getD .skip
noncomputable def ti:Code:=(f83.body).getD .skip
noncomputable def yf:bF:=a7 [RI,vD,FM,xU]
abbrev vR:List Nat:=[1,1,0,0,0]
def rN (a b:aM):bC:={n:=23,sl:=[(2, .ptr 64 0),(3, .ptr 65 0),(4, .ptr 66 0)],bG:=[(64,mI a),(65,mI b),(66,b0)],next:=67}
theorem ahq (a b:aM) (h1:(aD a)=true) (h2:(aD b)=true):
  cT yf (fl ye []) 2 23 [aH a,aH b] 1 .normal s3 (rN (o6 a) (o6 b)):=
 wy [af (aW (v:=aH a) (by kernel_rfl)),af h1,af (aW (v:=aH b) (by kernel_rfl)),af h2] 67907713
theorem ahr (a b:aM) (h1:(aD b)=true) (h2:¬eY b=0) (h3:(pv a b)=true):
  bh yf (fl ye vR) (rN a b) 3 .normal s3 (rN b (lJ a b)):=
 wy [af h1,af (gJ.mpr h2),af h3,af (aW (v:=aH b) (by kernel_rfl)),af (aW (v:=aH (lJ a b)) (by kernel_rfl))] 5453656193
theorem ahs (a b:aM) (h1:(aD b)=true) (h2:eY b=0):
  bh yf (fl ye vR) (rN a b) 2 (.exit 0) s3 (rN a b):=
 wy [af h1,af (jA.mpr h2)] 129
theorem aht (a b:aM):
  bQ yf ((fl ye []).drop 3) (rN a b) 1 f121 false (aH a):=
 wy [] 0
theorem ahu (a b:aM) (h1:(aD b)=true) (h2:eY b<0) (h3:(aD a)=true) (h4:(pv (eS a) (eS b))=true):
  bq yf (fl Lq []) 9 21 [aH a,aH b] 3 f148 false (aH (cJ (eS a) (eS b))):=
 wy [af h1,ah h2,af (aW (v:=aH a) (by kernel_rfl)),af h3,af (aW (v:=aH b) (by kernel_rfl)),af h4] 26462452199553
theorem ahv (a b:aM) (h1:(aD b)=true) (h2:¬eY b<0) (h3:(pv a b)=true):
  bq yf (fl Lq []) 9 21 [aH a,aH b] 2 f148 false (aH (cJ a b)):=
 wy [af h1,aJ h2,af h3] 12417
def ep (a b:aM):Int×List Int:=aV (Int.gcd (aq a) (aq b))
noncomputable def jd (a b:aM):Int×List Int:=if aq b<0 then cJ (eS a) (eS b)else cJ a b
def gQ (a b:aM):Bool:=(aD a&&aD b)&& !(aq b==0)
noncomputable def FN:bn:={f:=121,ps:=[cV,cV],rs:=[cV],fresh:=false,pre:=fun d=>aD d.1&&aD d.2.1,fn:=fun d=>(ep d.1 d.2.1,())}
noncomputable def Lr:bn:={f:=148,ps:=[cV,cV],rs:=[cV],fresh:=false,pre:=fun d=>gQ d.1 d.2.1,fn:=fun d=>(jd d.1 d.2.1,())}
theorem SE:bB prog (bD yf):=cR (aT aeA (aT xY (aT Lp (aT z6 dY))))
theorem SF {a:aM}:eY a=0↔aq a=0:=by
 unfold eY kU;split
 .constructor
  .intro h;exact absurd h (by decide)
  .intro h;omega
 .split
  .simp [*]
  .constructor
   .intro h;exact absurd h (by decide)
   .intro h;omega
theorem FO {a:aM}:eY a<0↔aq a<0:=by
 unfold eY kU;split
 .simp [*]
 .split
  .simp [*]
  .constructor
   .intro h;exact absurd h (by decide)
   .intro h;omega
theorem SG {a:aM} (h:aD a=true):aD (o6 a)=true:=by
 have:=dp h (by decide);exact(kV (by rw [Int.natAbs_natCast];exact this)).1
theorem SH {x y:Int} (hx:0<=x) (hy:0<y):Int.gcd y (x%y)=Int.gcd x y:=by
 obtain⟨m,rfl⟩:∃m:Nat,x=(m:Int):=⟨x.toNat,by omega⟩;obtain⟨n,rfl⟩:∃n:Nat,y=(n:Int):=⟨y.toNat,by omega⟩;rw [<-Int.natCast_emod];show Nat.gcd n (m%n)=Nat.gcd m n;rw [Nat.gcd_comm n,<-Nat.gcd_rec,Nat.gcd_comm]
theorem ahw (a b:aM) (h:aD a=true) (g:aD b=true):Holds prog false 121 [aH a,aH b] (aH (ep a b)):=by
 have hS:=SE;refine bJ (c:=ye) func121 rfl rfl fun w F=> ?_
 refine cE hS 2 (ahq a b h g) ?_;refine aR.loop (ι:={x:aM×aM//aD x.1=true/\aD x.2=true/\0<=aq x.1/\0<=aq x.2/\Int.gcd (aq x.1) (aq x.2)=Int.gcd (aq a) (aq b)}) (id:=0) (b:=cat ye vR) (rest:=(fl ye []).drop 3) (by kernel_rfl) (fun x=>rN x.1.1 x.1.2) (fun x=>(aq x.1.2).natAbs)
  ⟨(o6 a,o6 b),SG h,SG g,by rw [Fm];omega,by rw [Fm];omega,by rw [Fm,Fm];rfl⟩ (fun _=>rfl) ?_
 rintro⟨⟨x,y⟩,hx,hy,hx0,hy0,hg⟩;have hx:aD x=true:=hx;have hy:aD y=true:=hy;have hx0:0<=aq x:=hx0;have hy0:0<=aq y:=hy0;have hg:Int.gcd (aq x) (aq y)=Int.gcd (aq a) (aq b):=hg;by_cases hz:aq y=0
 .refine bp (s:=rN x y) hS (ahs x y hy (SF.2 hz)) ?_;refine cv (cD ?_);have e:x=ep a b:=by
   have h1:=Fa hx (by omega);unfold ep;rw [<-hg,hz];have:((Int.gcd (aq x) 0:Nat):Int)=aq x:=by
    show((Nat.gcd (aq x).natAbs 0:Nat):Int)=_;rw [Nat.gcd_zero_right];omega
   rw [this];exact h1
  rw [<-e];exact bT (s:=rN x y) hS (aht x y)
 .have hyp:0<aq y:=by omega
  have hm0:=c6 (aq x) hz;have o8:=cS (aq x) hyp;refine bp (s:=rN x y) hS (ahr x y hy (fun hh=>hz (SF.1 hh)) (CS.2 ⟨hx,hy,hyp⟩)) ?_;refine⟨⟨(y,lJ x y),hy,ahm hy hyp (by decide),hy0,by show 0<=aq (lJ x y);rw [pw];exact hm0, ?_⟩, ?_,rfl,rfl⟩
  .show Int.gcd (aq y) (aq (lJ x y))=_;rw [pw,SH hx0 hyp,hg]
  .show(aq (lJ x y)).natAbs<(aq y).natAbs;rw [pw];omega
theorem Ls:FN.Ok prog:=fun⟨a,b,_⟩ h=>by
 have h:(aD a&&aD b)=true:=h;rw [ae]at h;exact ahw a b h.1 h.2
theorem ahx (a b:aM) (h:aD a=true) (g:aD b=true) (hb:aq b≠0):Holds prog false 148 [aH a,aH b] (aH (jd a b)):=by
 have hS:=SE;refine bJ (c:=Lq) func148 rfl rfl fun w F=> ?_
 by_cases hn:aq b<0
 .have e:jd a b=cJ (eS a) (eS b):=by unfold jd;rw [if_pos hn]
  rw [e];exact bu hS 9 (ahu a b g (FO.2 hn) h (CS.2 ⟨n7 h (by decide),n7 g (by decide),by show 0<aq (eS b);rw [n8];omega⟩))
 .have e:jd a b=cJ a b:=by unfold jd;rw [if_neg hn]
  rw [e];exact bu hS 9 (ahv a b g (fun hh=>hn (FO.1 hh)) (CS.2 ⟨h,g,by show 0<aq b;omega⟩))
theorem tU {a b:aM}:gQ a b=true↔aD a=true/\aD b=true/\aq b≠0:=by
 unfold gQ;simp only [ae,Bool.not_eq_true',fP,and_assoc]
theorem SI:Lr.Ok prog:=fun⟨a,b,_⟩ h=>by
 obtain⟨h1,h2,h3⟩:=tU.1 (show gQ a b=true from h);exact ahx a b h1 h2 h3
theorem SJ {n:Nat} {a b:aM} (h:bH n a=true) (g:bH n b=true) (hn:1<=n) (hb:aq b≠0) {c:Int} (hc:aq a=aq b*c):aq (jd a b)=c:=by
 unfold jd;split
 .rw [lO (n7 h hn) (n7 g hn) (by rw [n8];omega),n8,n8,hc,<-Int.neg_mul];exact Int.mul_ediv_cancel_left _ (by omega)
 .rw [lO h g (by omega),hc];exact Int.mul_ediv_cancel_left _ hb
theorem SK {n:Nat} {a b:aM} (h:bH n a=true) (g:bH n b=true) (hn:1<=n) (hb:aq b≠0):bH n (jd a b)=true:=by
 unfold jd;split
 .exact tg (n7 h hn) (n7 g hn) (by rw [n8];omega) hn
 .exact tg h g (by omega) hn
end
noncomputable section
noncomputable def SL:Code:=(f130.body).getD .skip
noncomputable def SM:Code:=(f69.body).getD .skip
noncomputable def FP:Code:=(f68.body).getD .skip
noncomputable def FQ:Code:=(f97.body).getD .skip
noncomputable def yg:Code:=(f76.body).getD .skip
noncomputable def oe:bF:=nZ [Ct,Rx] (a7 [J9,Ry,Kj,Lf])
def vZ (a:Bool×List Int):Int:=aZ a.1 (ag a.2)
def okZ (a:Bool×List Int):Bool:=okA a.2&&(!a.1|| !(Nat.beq a.2.length 0))
theorem ahy (n:Bool) (x:List Int) (h1:(okB x)=true):
  bq oe (fl SL []) 9 9 [rv (n,x)] 1 f130 false (rv (mkR (aZ (!n) (ag x)))):=
 wy [af h1] 1
theorem ahz (n m:Bool) (x y:List Int) (h1:(okB x&&okB y)=true) (h2:(okB (aC (ag x*ag y)))=true):
  bq oe (fl SM []) 9 16 [rv (n,x),rv (m,y)] 1 f69 false (rv (mkR (aZ (!(n==m)) (ag (aC (ag x*ag y)))))):=
 wy [af (aW (v:=aa.raw (Value.bool n)) (by kernel_rfl)),af (aW (v:=aa.raw (Value.bool m)) (by kernel_rfl)),af (aW (v:=aa.bk false (.int .i64) x) (by kernel_rfl)),af (aW (v:=aa.bk false (.int .i64) y) (by kernel_rfl)),af h1,af h2] 18603807693877377
theorem ahA (n m:Bool) (x y:List Int) (h1:n=m) (h2:(rA x y)=true) (h3:(okB (aC (ag x+ag y)))=true):
  bq oe (fl FP []) 3 40 [rv (n,x),rv (m,y)] 3 f68 false (rv (mkR (aZ n (ag (aC (ag x+ag y)))))):=
 wy [c8 h1,af (aW (v:=aa.raw (Value.bool n)) (by kernel_rfl)),af (aW (v:=aa.bk false (.int .i64) x) (by kernel_rfl)),af (aW (v:=aa.bk false (.int .i64) y) (by kernel_rfl)),af h2,af h3] 414549291137
theorem ahB (n m:Bool) (x y:List Int) (h1:¬n=m) (h2:(okA x&&okA y)=true) (h3:kK (ag x) (ag y)>=0) (h4:(rA x y&&decide (ag y<=ag x))=true) (h5:(okB (aC (ag x-ag y)))=true):
  bq oe (fl FP []) 5 40 [rv (n,x),rv (m,y)] 6 f68 false (rv (mkR (aZ n (ag (aC (ag x-ag y)))))):=
 wy [yn h1,af h2,ah h3,af (aW (v:=aa.raw (Value.bool n)) (by kernel_rfl)),af (aW (v:=aa.bk false (.int .i64) x) (by kernel_rfl)),af (aW (v:=aa.bk false (.int .i64) y) (by kernel_rfl)),af h4,af h5] 2269879563464833
theorem ahC (n m:Bool) (x y:List Int) (h1:¬n=m) (h2:(okA x&&okA y)=true) (h3:¬kK (ag x) (ag y)>=0) (h4:(rA y x&&decide (ag x<=ag y))=true) (h5:(okB (aC (ag y-ag x)))=true):
  bq oe (fl FP []) 9 40 [rv (n,x),rv (m,y)] 4 f68 false (rv (mkR (aZ m (ag (aC (ag y-ag x)))))):=
 wy [yn h1,af h2,aJ h3,af (aW (v:=aa.raw (Value.bool m)) (by kernel_rfl)),af (aW (v:=aa.bk false (.int .i64) y) (by kernel_rfl)),af (aW (v:=aa.bk false (.int .i64) x) (by kernel_rfl)),af h4,af h5] 2269879563464833
theorem ahD (x y:List Int) (h1:(okA x&&(okA y&&decide (0<ag y)))=true) (h2:(↑(aC (ag x%ag y)).length:Int)>0) (h3:(rA (aC (ag x/ag y)) [1])=true) (h4:(okB (aC (ag (aC (ag x/ag y))+ag [1])))=true):
  bq oe (fl FQ []) 9 29 [rv (true,x),rv (false,y)] 63 f97 false (rv (mkR (aZ true (ag (aC (ag (aC (ag x/ag y))+ag [1])))))):=
 wy [af h1,ah h2,af (show(Nat.ble ((0:Nat)+(1:Nat)*(1:Nat)) (iv (1:Int)::List.append._f [] PUnit.unit (List.flatten._f [] PUnit.unit)).length)=true from(by simp only [aw]<;>exact rfl)),af h3,af h4] 1425175375511553
theorem ahE (x y:List Int) (h1:(okA x&&(okA y&&decide (0<ag y)))=true) (h2:¬(↑(aC (ag x%ag y)).length:Int)>0) (h3:(okB (aC (ag x/ag y)))=true):
  bq oe (fl FQ []) 9 29 [rv (true,x),rv (false,y)] 47 f97 false (rv (mkR (aZ true (ag (aC (ag x/ag y)))))):=
 wy [af h1,aJ h2,af h3] 208305913857
theorem ahF (x y:List Int) (h1:(okA x&&(okA y&&decide (0<ag y)))=true) (h2:(okB (aC (ag x/ag y)))=true):
  bq oe (fl FQ []) 9 29 [rv (false,x),rv (false,y)] 32 f97 false (rv (mkR (aZ false (ag (aC (ag x/ag y)))))):=
 wy [af h1,af h2] 137438953473
def rO (a b:List Int):bC:={n:=19,sl:=[(0,lv a),(1,lv b)],bG:=[],next:=64}
abbrev Lt:List Nat:=[1,0,0,0]
theorem ahG (a b:List Int):
  cT oe (fl yg []) 1 19 [lv a,lv b] 1 .normal [] (rO a b):=
 wy [] 0
theorem co_go (a b:List Int) (h1:(b.length:Int)>0) (h2:(okA a&&(okA b&&decide (0<ag b)))=true):
  bh oe (fl yg Lt) (rO a b) 3 .normal [] (rO b (aC (ag a%ag b))):=
 wy [ah h1,af h2] 129
theorem ahH (a b:List Int) (h1:¬(b.length:Int)>0):
  bh oe (fl yg Lt) (rO a b) 2 (.exit 0) [] (rO a b):=
 wy [aJ h1] 1
theorem ahI (a b:List Int):
  bQ oe ((fl yg []).drop 2) (rO a b) 1 f76 false (lv a):=
 wy [] 0
noncomputable def SN:bn:={f:=130,ps:=[jP],rs:=[jP],fresh:=false,pre:=fun d=>okZ d.1,fn:=fun d=>(mkR (-vZ d.1),())}
noncomputable def SP:bn:={f:=69,ps:=[jP,jP],rs:=[jP],fresh:=false,pre:=fun d=>okZ d.1&&okZ d.2.1,fn:=fun d=>(mkR (vZ d.1*vZ d.2.1),())}
noncomputable def SQ:bn:={f:=68,ps:=[jP,jP],rs:=[jP],fresh:=false,pre:=fun d=>okZ d.1&&okZ d.2.1,fn:=fun d=>(mkR (vZ d.1+vZ d.2.1),())}
noncomputable def SR:bn:={f:=97,ps:=[jP,jP],rs:=[jP],fresh:=false,pre:=fun d=>okZ d.1&&(okZ d.2.1&&decide (0<vZ d.2.1)),fn:=fun d=>(mkR (vZ d.1/vZ d.2.1),())}
noncomputable def Lu:bn:={f:=76,ps:=[.list false (.int .i64), .list false (.int .i64)],rs:=[.list false (.int .i64)],fresh:=false,pre:=fun d=>okA d.1&&okA d.2.1,fn:=fun d=>(aC (Int.gcd (ag d.1) (ag d.2.1)),())}
theorem tV:bB prog (bD oe):=tD (fun c hc=>by
 simp only [dV,jY,or_false]at hc;rcases hc with rfl |rfl
 .exact EV
 .exact adI) (cR fun c hc=>by
 simp only [dV,jY,or_false]at hc;rcases hc with rfl |rfl |rfl |rfl
 .exact Rg
 .exact adK
 .exact Rz
 .exact Sn)
theorem nw {a:Bool×List Int}:okZ a=true↔okA a.2=true/\(a.1=true->0<ag a.2):=by
 unfold okZ;rw [ae];constructor
 .rintro⟨h1,h2⟩;refine⟨h1,fun h=> ?_⟩;rw [h,Bool.not_true,Bool.false_or,Bool.not_eq_true']at h2;obtain⟨hd,ht,_⟩:=fc.1 h1;have h0:=dC hd;have hz:=rp kM hd ht;rcases Int.lt_or_le 0 (ag a.2)with h3|h3
  .exact h3
  .have:a.2=[]:=hz.1 (by unfold ag at*;omega);rw [this]at h2;cases h2
 .rintro⟨h1,h2⟩;refine⟨h1, ?_⟩;cases hn:a.1 with
  |false=>rfl
  |true=>
   have:=h2 hn;rw [Bool.not_true,Bool.false_or,Bool.not_eq_true'];cases hb:Nat.beq a.2.length 0 with
   |false=>rfl
   |true=>
    rw [List.eq_nil_of_length_eq_zero (ac hb)]at this;exact absurd this (by decide)
theorem dr (z:Int):vZ (mkR z)=z:=by
 show aZ (decide (z<0)) (ag (aC (z.natAbs:Int)))=z;rw [(fY (Int.natCast_nonneg _)).2.2];by_cases h:z<0
 .rw [az h];show-(z.natAbs:Int)=z;omega
 .rw [ab h];show(z.natAbs:Int)=z;omega
theorem FR {z:Int} {k:Nat} (h:0<=z) (hk:z<1000000000^k):(aC z).length<=k:=vA kM h hk
theorem vS {z:Int} {k:Nat} (h:0<=z) (hk:z<1000000000^k) (hb:k<=300000):okB (aC z)=true:=n4.2 ⟨(fY h).1,cX (FR h hk) hb⟩
theorem tk {z:Int} {k:Nat} (h:0<=z) (hk:z<1000000000^k) (hb:k<=100000):okA (aC z)=true:=fc.2 ⟨(fY h).1,(fY h).2.1,cX (FR h hk) hb⟩
theorem iq {z:Int} {k:Nat} (hk:(z.natAbs:Int)<1000000000^k) (hb:k<=100000):okZ (mkR z)=true:=by
 refine nw.2 ⟨tk (Int.natCast_nonneg _) hk hb,fun h=> ?_⟩;have h:decide (z<0)=true:=h;have h:=ap h;show 0<ag (aC (z.natAbs:Int));rw [(fY (Int.natCast_nonneg _)).2.2];omega
theorem Lv {x:List Int} (h:okA x=true):okB x=true:=by
 obtain⟨h1,_,h2⟩:=fc.1 h;exact n4.2 ⟨h1,by omega⟩
theorem tW {x:List Int} (h:okA x=true):ag x<1000000000^x.length:=fC (by decide) (fc.1 h).1
theorem add_lt {x y:Int} {i j:Nat} (hx:x<1000000000^i) (hy:y<1000000000^j):x+y<1000000000^(max i j+1):=by
 have h1:=iG (b:=1000000000) (by decide) (show i<=max i j by omega);have h2:=iG (b:=1000000000) (by decide) (show j<=max i j by omega);have h3:=bc (b:=1000000000) (by decide) (max i j);rw [Int.pow_succ];omega
theorem SS {x y:Int} {i j:Nat} (hx0:0<=x) (hy0:0<=y) (hx:x<1000000000^i) (hy:y<1000000000^j):x*y<1000000000^(i+j):=by
 rw [Int.pow_add];have h1:x*y<=x*1000000000^j:=dU (ck hy) hx0;have h2:x*1000000000^j<1000000000^i*1000000000^j:=Int.mul_lt_mul_of_pos_right hx (bc (by decide) j);omega
theorem ahJ:SN.Ok prog:=fun⟨⟨n,x⟩,_⟩ h=>by
 obtain⟨h1,h2⟩:=nw.1 h;show Holds prog false 130 [rv (n,x)] (rv (mkR (-(aZ n (ag x)))));have e: -(aZ n (ag x))=aZ (!n) (ag x):=by cases n<;>simp [aZ]
 rw [e];refine bJ (c:=SL) func130 rfl rfl fun w F=> ?_
 exact bu tV 9 (ahy n x (Lv h1))
theorem ahK:SP.Ok prog:=fun⟨⟨n,x⟩,⟨m,y⟩,_⟩ h=>by
 have h:(okZ (n,x)&&okZ (m,y))=true:=h;rw [ae]at h;obtain⟨h1,h2⟩:=nw.1 h.1;obtain⟨g1,g2⟩:=nw.1 h.2;have l1:=(fc.1 h1).2.2;have l2:=(fc.1 g1).2.2;have hx0:=dC (fc.1 h1).1;have hy0:=dC (fc.1 g1).1;have hp:0<=ag x*ag y:=Int.mul_nonneg hx0 hy0;show Holds prog false 69 [rv (n,x),rv (m,y)] (rv (mkR (aZ n (ag x)*aZ m (ag y))));have e:aZ n (ag x)*aZ m (ag y)=aZ (!(n==m)) (ag (aC (ag x*ag y))):=by
  rw [(fY hp).2.2];cases n<;>cases m
  .rfl
  .exact Int.mul_neg _ _
  .exact Int.neg_mul _ _
  .exact Int.neg_mul_neg _ _
 rw [e];refine bJ (c:=SM) func69 rfl rfl fun w F=> ?_
 have hb:okB (aC (ag x*ag y))=true:=vS hp (SS hx0 hy0 (tW h1) (tW g1)) (by have l1:x.length<=100000:=l1;have l2:y.length<=100000:=l2;omega);exact bu tV 9 (ahz n m x y (by rw [Lv h1,Lv g1];rfl) hb)
theorem SU {x y:Int}:kK x y>=0↔y<=x:=by
 have:= @Le x y;omega
theorem ahL:SQ.Ok prog:=fun⟨⟨n,x⟩,⟨m,y⟩,_⟩ h=>by
 have h:(okZ (n,x)&&okZ (m,y))=true:=h;rw [ae]at h;obtain⟨h1,h2⟩:=nw.1 h.1;obtain⟨g1,g2⟩:=nw.1 h.2;have h1:okA x=true:=h1;have g1:okA y=true:=g1;have l1:=(fc.1 h1).2.2;have l2:=(fc.1 g1).2.2;have hx0:=dC (fc.1 h1).1;have hy0:=dC (fc.1 g1).1;have hx1:=tW h1;have hy1:=tW g1;show Holds prog false 68 [rv (n,x),rv (m,y)] (rv (mkR (aZ n (ag x)+aZ m (ag y))));refine bJ (c:=FP) func68 rfl rfl fun w F=> ?_
 by_cases hnm:n=m
 .have e:aZ n (ag x)+aZ m (ag y)=aZ n (ag (aC (ag x+ag y))):=by
   rw [(fY (by omega)).2.2,<-hnm];cases n<;>simp only [aZ]<;>omega
  rw [e];exact bu tV 3 (ahA n m x y hnm (Cz.2 ⟨h1,g1⟩) (vS (by omega) (add_lt hx1 hy1) (by omega)))
 .by_cases hle:ag y<=ag x
  .have e:aZ n (ag x)+aZ m (ag y)=aZ n (ag (aC (ag x-ag y))):=by
    rw [(fY (by omega)).2.2];cases n<;>cases m<;>first |exact absurd rfl hnm|(simp only [aZ];omega)
   rw [e];exact bu tV 5 (ahB n m x y hnm (by rw [h1,g1];rfl) (SU.2 hle) (by rw [Cz.2 ⟨h1,g1⟩,az hle];rfl) (vS (k:=x.length) (by omega) (by omega) (by omega)))
  .have e:aZ n (ag x)+aZ m (ag y)=aZ m (ag (aC (ag y-ag x))):=by
    rw [(fY (by omega)).2.2];cases n<;>cases m<;>first |exact absurd rfl hnm|(simp only [aZ];omega)
   rw [e];exact bu tV 9 (ahC n m x y hnm (by rw [h1,g1];rfl) (fun h=>hle (SU.1 h)) (by rw [Cz.2 ⟨g1,h1⟩,az (show ag x<=ag y by omega)];rfl) (vS (k:=y.length) (by omega) (by omega) (by omega)))
theorem ahM (a b:List Int) (h:okA a=true) (g:okA b=true):Holds prog false 76 [lv a,lv b] (lv (aC (Int.gcd (ag a) (ag b)))):=by
 have hS:=tV;refine bJ (c:=yg) func76 rfl rfl fun w F=> ?_
 refine cE hS 1 (ahG a b) ?_;refine aR.loop (ι:={x:List Int×List Int//okA x.1=true/\okA x.2=true/\Int.gcd (ag x.1) (ag x.2)=Int.gcd (ag a) (ag b)}) (id:=0) (b:=cat yg Lt) (rest:=(fl yg []).drop 2) (by kernel_rfl) (fun x=>rO x.1.1 x.1.2) (fun x=>(ag x.1.2).natAbs) ⟨(a,b),h,g,rfl⟩ (fun _=>rfl) ?_;rintro⟨⟨x,y⟩,hx,hy,hg⟩;have hx:okA x=true:=hx;have hy:okA y=true:=hy;have hg:Int.gcd (ag x) (ag y)=Int.gcd (ag a) (ag b):=hg;obtain⟨FT,tx,lx⟩:=fc.1 hx;obtain⟨Aq,ty,ly⟩:=fc.1 hy;have hx0:=dC FT;have hy0:=dC Aq;have hz:ag y=0↔y=[]:=rp kM Aq ty;by_cases hlt:0<y.length
 .have hyp:0<ag y:=by
   rcases Int.lt_or_le 0 (ag y)with h|h
   .exact h
   .rw [hz.1 (by omega)]at hlt;cases hlt
  have hm0:=c6 (ag x) (show ag y≠0 by omega);have o8:=cS (ag x) hyp;have hk:=tW hy;have ev:ag (aC (ag x%ag y))=ag x%ag y:=(fY hm0).2.2;refine bp (s:=rO x y) hS (co_go x y (by omega) (by rw [hx,hy,az hyp];rfl)) ?_;refine⟨⟨(y,aC (ag x%ag y)),hy,tk (k:=y.length) hm0 (by omega) ly, ?_⟩, ?_,rfl,rfl⟩
  .show Int.gcd (ag y) (ag (aC (ag x%ag y)))=_;rw [ev,SH hx0 hyp,hg]
  .show(ag (aC (ag x%ag y))).natAbs<(ag y).natAbs;rw [ev];omega
 .refine bp (s:=rO x y) hS (ahH x y (by omega)) ?_;refine cv (cD ?_);have hy2:y=[]:=List.eq_nil_of_length_eq_zero (by omega);have e:aC ((Int.gcd (ag a) (ag b):Nat):Int)=x:=by
   rw [<-hg,hz.2 hy2,Int.gcd_zero_right,Int.natAbs_of_nonneg hx0];exact EU FT tx
  rw [e];exact bT (s:=rO x y) hS (ahI x y)
theorem SV:Lu.Ok prog:=fun⟨a,b,_⟩ h=>by
 have h:(okA a&&okA b)=true:=h;rw [ae]at h;exact ahM a b h.1 h.2
end
noncomputable section
noncomputable def yh:Code:=(f98.body).getD .skip
def rP (a b:Int):bC:={n:=12,sl:=[(0,iv a),(1,iv b)],bG:=[],next:=64}
theorem ahN (a b:Int):
  cT (a7 []) (fl yh []) 1 12 [iv a,iv b] 1 .normal [] (rP a b):=
 wy [] 0
theorem ahO (a b:Int) (h1:b>0) (h2:b≠0):
  bh (a7 []) (fl yh [1,0,0,0]) (rP a b) 3 .normal [] (rP b (Int.tmod a b)):=
 wy [ah h1,ah h2] 129
theorem ahP (a b:Int) (h1:¬b>0):
  bh (a7 []) (fl yh [1,0,0,0]) (rP a b) 2 (.exit 0) [] (rP a b):=
 wy [aJ h1] 1
theorem ahQ (a b:Int):
  bQ (a7 []) ((fl yh []).drop 2) (rP a b) 1 f98 true (iv a):=
 wy [] 0
theorem ahR {x y:Int} (hx:0<=x) (hy:0<=y):Int.gcd y (x%y)=Int.gcd x y:=by
 obtain⟨m,rfl⟩:=Int.eq_ofNat_of_zero_le hx;obtain⟨n,rfl⟩:=Int.eq_ofNat_of_zero_le hy;rw [<-Int.natCast_emod];show Nat.gcd n (m%n)=Nat.gcd m n;rw [Nat.gcd_comm n,<-Nat.gcd_rec,Nat.gcd_comm]
theorem ahS (a b:Int) (ha:0<=a) (hb:0<=b):Holds prog true 98 [iv a,iv b] (iv (Int.gcd a b)):=by
 have hS:=ba;obtain⟨g,hg⟩:∃g:Int,(Int.gcd a b:Int)=g:=⟨_,rfl⟩;rw [hg];refine bJ (c:=yh) func98 rfl rfl fun w F=> ?_
 refine cE hS 1 (ahN a b) ?_;refine aR.loop (ι:={p:Int×Int//0<=p.1/\0<=p.2/\(Int.gcd p.1 p.2:Int)=g}) (id:=0) (b:=cat yh [1,0,0,0]) (rest:=(fl yh []).drop 2) (by kernel_rfl) (fun p=>rP p.1.1 p.1.2) (fun p=>p.1.2.toNat) ⟨(a,b),ha,hb,hg⟩ (fun _=>rfl) ?_;rintro⟨⟨x,y⟩,hx,hy,hxy⟩;have hx:0<=x:=hx;have hy:0<=y:=hy;have hxy:(Int.gcd x y:Int)=g:=hxy;by_cases h0:y>0
 .have hm:=cS x h0;have hm2:=c6 x (show y≠0 by omega);have e:Int.tmod x y=x%y:=Int.tmod_eq_emod_of_nonneg hx;refine bp (s:=rP x y) hS (ahO x y h0 (by omega)) ?_;refine⟨⟨(y,Int.tmod x y),hy,by show 0<=Int.tmod x y;omega, ?_⟩, ?_,rfl,rfl⟩
  .show(Int.gcd y (Int.tmod x y):Int)=g;rw [e,<-hxy,ahR hx hy]
  .show(Int.tmod x y).toNat<y.toNat;omega
 .obtain rfl:y=0:=by omega
  refine bp (s:=rP x 0) hS (ahP x 0 h0) ?_;refine cv (cD ?_);have e:x=g:=by rw [<-hxy,Int.gcd_zero_right];omega
  exact aR.tv (s:=rP x 0) known mixed hS _ (ahQ x 0) fun T H h=>e ▸ h
noncomputable def Lw:bn:={f:=98,ps:=[.int .i64, .int .i64],rs:=[.int .i64],fresh:=true,pre:=fun d=>decide (0<=d.1)&&decide (0<=d.2.1),fn:=fun d=>((Int.gcd d.1 d.2.1:Int),())}
theorem SW:Lw.Ok prog:=fun⟨a,b,_⟩ h=>by
 have h:(decide (0<=a)&&decide (0<=b))=true:=h;rw [ae,bz,bz]at h;exact ahS a b h.1 h.2
end
noncomputable section
noncomputable def vT:Code:=(f74.body).getD .skip
noncomputable def yj:Code:=(f129.body).getD .skip
def pz (s:ByteArray) (k:Nat):bC:={n:=17,sl:=[(0,sv s),(3,iv k)],bG:=[],next:=64}
def rQ (s:ByteArray) (n:Int) (k:Nat):bC:={n:=20,sl:=[(0,sv s),(3,iv n),(4,iv k)],bG:=[],next:=64}
abbrev ak (s:ByteArray):List UInt8:=s.data.toList
abbrev b5 (s:ByteArray) (k:Nat):UInt8:=(ak s).getD k 0
theorem ahT (s:ByteArray):
  cT (a7 []) (fl vT []) 2 17 [sv s] 1 .normal [] (pz s 0):=
 wy [] 0
theorem ahU (s:ByteArray) (k:Nat) (h1:(k:Int)<(s.size:Int)) (h2:k<s.size) (h3:(↑(UInt8.toNat (s.data.toList.getD k (0:UInt8))):Int)=47):
  bQ (a7 []) (fl vT [1,0,1,0,0]) (pz s k) 7 f74 true (iv k):=
 wy [ah h1,ah h2,c8 h3] 794625
theorem ahV (s:ByteArray) (k:Nat) (h1:(k:Int)<(s.size:Int)) (h2:k<s.size) (h3:¬(↑(UInt8.toNat (s.data.toList.getD k (0:UInt8))):Int)=47) (h4:i6 ((k:Int)+1)):
  bh (a7 []) (fl vT [1,0,1,0,0]) (pz s k) 5 .normal [] (pz s (k+1)):=
 wy [ah h1,ah h2,yn h3,yi h4] 67903489
theorem ahW (s:ByteArray) (k:Nat) (h1:¬(k:Int)<(s.size:Int)):
  bh (a7 []) (fl vT [1,0,1,0,0]) (pz s k) 2 (.exit 0) [] (pz s k):=
 wy [aJ h1] 1
theorem ahX (s:ByteArray) (k:Nat):
  bQ (a7 []) ((fl vT []).drop 3) (pz s k) 1 f74 true (iv s.size):=
 wy [] 0
theorem ahY (s:ByteArray):
  cT (a7 []) (fl yj []) 3 20 [sv s] 1 .normal [] (rQ s 0 0):=
 wy [] 0
theorem ahZ (s:ByteArray) (n:Int) (k:Nat) (h1:(k:Int)<(s.size:Int)) (h2:i6 (10*n)) (h3:k<s.size) (h4:i6 (10*n+IntKind.wrap IntKind.i64 (↑(UInt8.toNat (s.data.toList.getD k (0:UInt8))):Int))) (h5:i6 (10*n+IntKind.wrap IntKind.i64 (↑(UInt8.toNat (s.data.toList.getD k (0:UInt8))):Int)-48)) (h6:i6 ((k:Int)+1)):
  bh (a7 []) (fl yj [1,1,0,1,0,0]) (rQ s n k) 3 .normal [] (rQ s (10*n+IntKind.i64.wrap (b5 s k).toNat-48) (k+1)):=
 wy [ah h1,yi h2,ah h3,yi h4,yi h5,yi h6] 417753464961
theorem ah0 (s:ByteArray) (n:Int) (k:Nat) (h1:¬(k:Int)<(s.size:Int)):
  bh (a7 []) (fl yj [1,1,0,1,0,0]) (rQ s n k) 2 (.exit 0) [] (rQ s n k):=
 wy [aJ h1] 1
theorem ah1 (s:ByteArray) (n:Int) (k:Nat):
  bQ (a7 []) ((fl yj []).drop 4) (rQ s n k) 1 f129 true (iv n):=
 wy [] 0
def aY:List UInt8->Nat
 |[]=>0
 |b::r=>if b.toNat=47 then 0 else aY r+1
theorem bd (s:ByteArray):s.size=(ak s).length:=by cases s;rfl
theorem SX {l:List UInt8} {k:Nat} (h:k<l.length):l.getD k 0=l[k]:=by simp [ao,h]
theorem FU {l:List UInt8} {k:Nat} (h:k<l.length):l.take (k+1)=l.take k++[l.getD k 0]:=by rw [SX h];simp
theorem yl {s:ByteArray} {k:Nat} (h:k<(ak s).length):b5 s k=(ak s)[k]:=SX h
theorem ah2 (s:ByteArray) (hl:s.size<=1000000000):Holds prog true 74 [sv s] (iv (aY (ak s))):=by
 have hS:=ba;have hz:=bd s;obtain⟨r,hr⟩:∃r,aY (ak s)=r:=⟨_,rfl⟩;rw [hr];refine bJ (c:=vT) func74 rfl rfl fun w F=> ?_
 refine cE hS 2 (ahT s) ?_;refine aR.loop (ι:={k:Nat//k<=s.size/\aY ((ak s).drop k)+k=r}) (id:=0) (b:=cat vT [1,0,1,0,0]) (rest:=(fl vT []).drop 3) (by kernel_rfl) (fun k=>pz s k.1) (fun k=>s.size-k.1) ⟨0,Nat.zero_le _,hr⟩ (fun _=>rfl) ?_;rintro⟨k,hk,hx⟩;have hx:aY ((ak s).drop k)+k=r:=hx;by_cases hlt:k<s.size
 .have hlt2:k<(ak s).length:=by omega
  rw [List.drop_eq_getElem_cons hlt2,aY,<-yl hlt2]at hx;by_cases c:(b5 s k).toNat=47
  .rw [if_pos c,aw]at hx;exact aR.tv (s:=pz s k) known mixed hS _ (ahU s k (by omega) (by omega) (by show((b5 s k).toNat:Int)=47;omega)) fun T H h=>hx ▸ h
  .rw [if_neg c]at hx;refine bp (s:=pz s k) hS (ahV s k (by omega) (by omega) (by show¬((b5 s k).toNat:Int)=47;omega) (by omega)) ?_;exact⟨⟨k+1,hlt,by omega⟩,by simp;omega,rfl,rfl⟩
 .refine bp (s:=pz s k) hS (ahW s k (by omega)) ?_;refine cv (cD ?_);obtain rfl:k=s.size:=by omega
  rw [List.drop_eq_nil_of_le (by omega),aY,aw]at hx;exact aR.tv (s:=pz s s.size) known mixed hS _ (ahX s _) fun T H h=>hx ▸ h
def bg:List UInt8->Int
 |l=>l.foldl (fun n b=>10*n+((b.toNat:Int)-48)) 0
def bW (l:List UInt8):Bool:=l.all fun b=>decide (48<=b.toNat)&&decide (b.toNat<=57)
theorem px {s:ByteArray} {k:Nat} (h:k<(ak s).length):bg ((ak s).take (k+1))=10*bg ((ak s).take k)+(((b5 s k).toNat:Int)-48):=by
 rw [FU h];unfold bg;rw [List.foldl_append];rfl
theorem lP {s:ByteArray} (hd:bW (ak s)=true):∀k,k<=(ak s).length->0<=bg ((ak s).take k)/\bg ((ak s).take k)<10^k
 |0,_=>by rw [List.take_zero];decide
 |k+1,h=>by
  have ih:=lP hd k (by omega);have hb:=List.all_eq_true.1 hd (b5 s k) (by rw [yl (by omega)];exact List.getElem_mem _);rw [ae,bz,bz]at hb;rw [px (by omega),Int.pow_succ];omega
theorem SY {k:Nat} (h:k<=18):(10:Int)^k<=1000000000000000000:=by
 have:(10:Nat)^k<=10^18:=Nat.pow_le_pow_right (by decide) h;have h2:((10^k:Nat):Int)<=((10^18:Nat):Int):=Int.ofNat_le.2 this;simpa using h2
theorem ah3 (s:ByteArray) (hl:s.size<=17) (hd:bW (ak s)=true):Holds prog true 129 [sv s] (iv (bg (ak s))):=by
 have hS:=ba;have hz:=bd s;refine bJ (c:=yj) func129 rfl rfl fun w F=> ?_
 refine cE hS 3 (ahY s) ?_;refine aR.loop (ι:={k:Nat//k<=s.size}) (id:=0) (b:=cat yj [1,1,0,1,0,0]) (rest:=(fl yj []).drop 4) (by kernel_rfl) (fun k=>rQ s (bg ((ak s).take k.1)) k.1) (fun k=>s.size-k.1) ⟨0,Nat.zero_le _⟩ (fun _=>rfl) ?_;rintro⟨k,hk⟩;have hin:=lP hd k (by omega);have hp:=SY (k:=k) (by omega);by_cases hlt:k<s.size
 .have hlt2:k<(ak s).length:=by omega
  have hb:=List.all_eq_true.1 hd (b5 s k) (by rw [yl hlt2];exact List.getElem_mem _);rw [ae,bz,bz]at hb;have aq9:=lP hd (k+1) (by omega);have hp2:=SY (k:=k+1) (by omega);have hn:=px hlt2;have hw:IntKind.i64.wrap ((b5 s k).toNat:Int)=((b5 s k).toNat:Int):=IntWalk.i64_in _ (by omega);have e:10*bg ((ak s).take k)+IntKind.i64.wrap ((b5 s k).toNat:Int)-48=bg ((ak s).take (k+1)):=by rw [hw,hn];omega
  refine bp (s:=rQ s (bg ((ak s).take k)) k) hS (ahZ s _ k (by omega) (by omega) (by omega) (by show-9223372036854775808<=10*bg ((ak s).take k)+IntKind.i64.wrap ((b5 s k).toNat:Int)/\10*bg ((ak s).take k)+IntKind.i64.wrap ((b5 s k).toNat:Int)<=9223372036854775807;rw [hw];omega) (by show-9223372036854775808<=10*bg ((ak s).take k)+IntKind.i64.wrap ((b5 s k).toNat:Int)-48/\10*bg ((ak s).take k)+IntKind.i64.wrap ((b5 s k).toNat:Int)-48<=9223372036854775807;rw [hw];omega) (by omega)) ?_;rw [e];exact⟨⟨k+1,hlt⟩,by simp;omega,rfl,rfl⟩
 .refine bp (s:=rQ s (bg ((ak s).take k)) k) hS (ah0 s _ k (by omega)) ?_;refine cv (cD ?_);obtain rfl:k=s.size:=by omega
  rw [ef (by omega)];exact bT (s:=rQ s _ s.size) hS (ah1 s _ _)
noncomputable def Ar:bn:={f:=74,ps:=[.str],rs:=[.int .i64],fresh:=true,pre:=fun d=>decide (d.1.size<=1000000000),fn:=fun d=>(((aY (ak d.1):Nat):Int),())}
noncomputable def Lx:bn:={f:=129,ps:=[.str],rs:=[.int .i64],fresh:=true,pre:=fun d=>decide (d.1.size<=17)&&bW (ak d.1),fn:=fun d=>(bg (ak d.1),())}
theorem tl:Ar.Ok prog:=fun⟨s,_⟩ h=>ah2 s (ap h)
theorem SZ:Lx.Ok prog:=fun⟨s,_⟩ h=>by
 have h:(decide (s.size<=17)&&bW (ak s))=true:=h;rw [ae,bz]at h;exact ah3 s h.1 h.2
end
noncomputable section
noncomputable def vU:Code:=(f99.body).getD .skip
def kY (n m:Int) (s:ByteArray):bC:={n:=25,sl:=[(0,iv n),(1,iv m),(5,sv s)],bG:=[],next:=64}
abbrev S0:ByteArray:=⟨#[]⟩
abbrev rR:ByteArray:=⟨#[48,49,50,51,52,53,54,55,56,57]⟩
theorem ah4 (n m:Int):
  cT (a7 []) (fl vU []) 2 25 [iv n,iv m] 1 .normal [] (kY n m S0):=
 wy [] 0
theorem ah5 (n m:Int) (s:ByteArray) (h1:n>0) (h2:i6 (Int.tmod n 10+1)) (h3:0<=Int.tmod n 10+1) (h4:0<=Int.tmod n 10) (h5:(Int.tmod n 10+1).toNat<=(ByteArray.mk #[(48:UInt8),(49:UInt8),(50:UInt8),(51:UInt8),(52:UInt8),(53:UInt8),(54:UInt8),(55:UInt8),(56:UInt8),(57:UInt8)]).size) (h6:((ByteArray.mk #[(48:UInt8),(49:UInt8),(50:UInt8),(51:UInt8),(52:UInt8),(53:UInt8),(54:UInt8),(55:UInt8),(56:UInt8),(57:UInt8)]).extract (Int.tmod n 10).toNat (Int.tmod n 10+1).toNat).size+s.size<=9223372036854775807) (h7:i6 (Int.tdiv n 10)):
  bh (a7 []) (fl vU [1,1,0,0,0]) (kY n m s) 112 .normal [] (kY (Int.tdiv n 10) m (rR.extract (Int.tmod n 10).toNat (Int.tmod n 10+1).toNat++s)):=
 wy [af (bx (az h1)),ah h1,yi h2,ah h3,ah h4,ah (by omega:(Int.tmod n (10:Int)).toNat<=(Int.tmod n (10:Int)+(1:Int)).toNat),ah h5,ah h6,yi h7] 11143911710332399131023380545
theorem ah6 (n m:Int) (s:ByteArray) (h1:¬n>0) (h2:(s.size:Int)<m) (h3:i6 (Int.tmod n 10+1)) (h4:0<=Int.tmod n 10+1) (h5:0<=Int.tmod n 10) (h6:(Int.tmod n 10+1).toNat<=(ByteArray.mk #[(48:UInt8),(49:UInt8),(50:UInt8),(51:UInt8),(52:UInt8),(53:UInt8),(54:UInt8),(55:UInt8),(56:UInt8),(57:UInt8)]).size) (h7:((ByteArray.mk #[(48:UInt8),(49:UInt8),(50:UInt8),(51:UInt8),(52:UInt8),(53:UInt8),(54:UInt8),(55:UInt8),(56:UInt8),(57:UInt8)]).extract (Int.tmod n 10).toNat (Int.tmod n 10+1).toNat).size+s.size<=9223372036854775807) (h8:i6 (Int.tdiv n 10)):
  bh (a7 []) (fl vU [1,1,0,0,0]) (kY n m s) 111 .normal [] (kY (Int.tdiv n 10) m (rR.extract (Int.tmod n 10).toNat (Int.tmod n 10+1).toNat++s)):=
 wy [af (bx (ab h1)),aJ h1,ah h2,yi h3,ah h4,ah h5,ah (by omega:(Int.tmod n (10:Int)).toNat<=(Int.tmod n (10:Int)+(1:Int)).toNat),ah h6,ah h7,yi h8] 12382158778397359609013866561
theorem ah7 (n m:Int) (s:ByteArray) (h1:¬n>0) (h2:¬(s.size:Int)<m):
  bh (a7 []) (fl vU [1,1,0,0,0]) (kY n m s) 79 (.exit 0) [] (kY n m s):=
 wy [af (bx (ab h1)),aJ h1,aJ h2] 3255046209
theorem ah8 (n m:Int) (s:ByteArray):
  bQ (a7 []) ((fl vU []).drop 3) (kY n m s) 1 f99 true (sv s):=
 wy [] 0
def og (n:Int):UInt8:=UInt8.ofNat (48+(n%10).toNat)
def cr:Nat->Int->Int->List UInt8->List UInt8
 |0,_,_,s=>s
 |f+1,n,m,s=>if n>0\/(s.length:Int)<m then cr f (n/10) m (og n::s)else s
theorem iJ (a b:ByteArray):(a++b).data.toList=a.data.toList++b.data.toList:=by
 rw [ByteArray.data_append,Array.toList_append]
theorem ah9 {n:Int} (h:0<=n) (s:ByteArray):(rR.extract (Int.tmod n 10).toNat (Int.tmod n 10+1).toNat++s).data.toList=og n::s.data.toList:=by
 rw [iJ,Int.tmod_eq_emod_of_nonneg h];have h1:=cS n (show(0:Int)<10 by decide);have h2:=c6 n (show(10:Int)≠0 by decide);unfold og;generalize n%10=r at*;have:r=0\/r=1\/r=2\/r=3\/r=4\/r=5\/r=6\/r=7\/r=8\/r=9:=by omega
 rcases this with rfl |rfl |rfl |rfl |rfl |rfl |rfl |rfl |rfl |rfl<;>rfl
theorem aia {n:Int} (h:0<=n):(rR.extract (Int.tmod n 10).toNat (Int.tmod n 10+1).toNat).size<=1:=by
 rw [Int.tmod_eq_emod_of_nonneg h];have h1:=cS n (show(0:Int)<10 by decide);have h2:=c6 n (show(10:Int)≠0 by decide);generalize n%10=r at*;have:r=0\/r=1\/r=2\/r=3\/r=4\/r=5\/r=6\/r=7\/r=8\/r=9:=by omega
 rcases this with rfl |rfl |rfl |rfl |rfl |rfl |rfl |rfl |rfl |rfl<;>decide
theorem tX (s:ByteArray):s.size=s.data.toList.length:=by cases s;rfl
theorem gR {a b:ByteArray} (h:a.data.toList=b.data.toList):a=b:=by
 cases a;cases b;simp at h;rw [h]
structure Lz (r:List UInt8) (m:Int) (f:Nat) (n:Int) (s:ByteArray):Prop where
 n0:0<=n
 nb:n<=9223372036854775807
 n1:n<10^f
 ms:m<=s.size+f
 sz:s.size+f<=40
 eq:cr f n m s.data.toList=r
theorem aib (n m:Int) (hn:0<=n) (hn2:n<=9223372036854775807) (hm:m<=20):Holds prog true 99 [iv n,iv m] (sv ⟨(cr 20 n m []).toArray⟩):=by
 have hS:=ba;obtain⟨r,hr⟩:∃r,cr 20 n m []=r:=⟨_,rfl⟩;rw [hr];refine bJ (c:=vU) func99 rfl rfl fun w F=> ?_
 refine cE hS 2 (ah4 n m) ?_;refine aR.loop (ι:={p:Nat×Int×ByteArray//Lz r m p.1 p.2.1 p.2.2}) (id:=0) (b:=cat vU [1,1,0,0,0]) (rest:=(fl vU []).drop 3) (by kernel_rfl) (fun p=>kY p.1.2.1 m p.1.2.2) (fun p=>p.1.1) ⟨(20,n,S0),⟨hn,hn2,by show n<10^20;omega,by show m<=0+20;omega,by show 0+20<=40;omega,hr⟩⟩ (fun _=>rfl) ?_;rintro⟨⟨f,n,s⟩,hp⟩;have hp:Lz r m f n s:=hp;have hz:=tX s;have q1:=cS n (show(0:Int)<10 by decide);have aO:=c6 n (show(10:Int)≠0 by decide);have bZ:Int.tmod n 10=n%10:=Int.tmod_eq_emod_of_nonneg hp.n0;have ei:Int.tdiv n 10=n/10:=Int.tdiv_eq_ediv_of_nonneg hp.n0;have p9:=aia hp.n0;have hn0:=hp.n0;have hnb:=hp.nb;have ara:=hp.ms;have hsz:=hp.sz;have eC:(n>0\/(s.size:Int)<m)->∃j:{p:Nat×Int×ByteArray//Lz r m p.1 p.2.1 p.2.2},j.1.1<f/\(kY (Int.tdiv n 10) m (rR.extract (Int.tmod n 10).toNat (Int.tmod n 10+1).toNat++s)).T=(kY j.1.2.1 m j.1.2.2).T/\(kY (Int.tdiv n 10) m (rR.extract (Int.tmod n 10).toNat (Int.tmod n 10+1).toNat++s)).H=(kY j.1.2.1 m j.1.2.2).H:=fun hc=>by
  cases f with
  |zero=>
   have:=hp.n1;simp at this;exfalso;omega
  |succ f=>
   have hb:=ah9 hp.n0 s;have S1:(rR.extract (Int.tmod n 10).toNat (Int.tmod n 10+1).toNat++s).size=s.size+1:=by rw [tX,hb,hz];rfl
   refine⟨⟨(f,Int.tdiv n 10,_),⟨by show 0<=Int.tdiv n 10;rw [ei];omega,by show Int.tdiv n 10<=_;rw [ei];omega, ?_,by show m<=((_:Nat):Int)+((f:Nat):Int);rw [S1];omega,by show _+f<=40;rw [S1];omega, ?_⟩⟩,e7 _,rfl,rfl⟩
   .show Int.tdiv n 10<10^f;have:=hp.n1;rw [Int.pow_succ]at this;rw [ei];omega
   .show cr f (Int.tdiv n 10) m (rR.extract (Int.tmod n 10).toNat (Int.tmod n 10+1).toNat++s).data.toList=r;have he:=hp.eq;unfold cr at he;rw [hb,ei];rw [if_pos (by rw [hz]at hc;exact hc)]at he;exact he
 by_cases h1:n>0
 .refine bp (s:=kY n m s) hS (ah5 n m s h1 (by omega) (by omega) (by omega) (by show _<=(10:Nat);omega) (by show(rR.extract (Int.tmod n 10).toNat (Int.tmod n 10+1).toNat).size+s.size<=_;omega) (by omega)) (eC (.inl h1))
 .by_cases h2:(s.size:Int)<m
  .refine bp (s:=kY n m s) hS (ah6 n m s h1 h2 (by omega) (by omega) (by omega) (by show _<=(10:Nat);omega) (by show(rR.extract (Int.tmod n 10).toNat (Int.tmod n 10+1).toNat).size+s.size<=_;omega) (by omega)) (eC (.inr h2))
  .refine bp (s:=kY n m s) hS (ah7 n m s h1 h2) ?_;refine cv (cD ?_);have e:(⟨r.toArray⟩:ByteArray)=s:=gR (by
    have he:=hp.eq;cases f with
    |zero=>exact he.symm
    |succ f=>
     unfold cr at he;rw [if_neg (by rw [hz]at h2;omega)]at he;exact he.symm)
   rw [e];exact bT (s:=kY n m s) hS (ah8 n m s)
noncomputable def FV:bn:={f:=99,ps:=[.int .i64, .int .i64],rs:=[.str],fresh:=true,pre:=fun d=>decide (0<=d.1)&&(decide (d.1<=9223372036854775807)&&decide (d.2.1<=20)),fn:=fun d=>(⟨(cr 20 d.1 d.2.1 []).toArray⟩,())}
theorem LA:FV.Ok prog:=fun⟨n,m,_⟩ h=>by
 have h:(decide (0<=n)&&(decide (n<=9223372036854775807)&&decide (m<=20)))=true:=h;simp only [ae,bz]at h;exact aib n m h.1 h.2.1 h.2.2
end
noncomputable section
noncomputable def LB:Code:=(Tryz.f44.body).getD .skip
theorem kZ (s:ByteArray) (i j:Nat) (h:j<=s.size):(s.extract i j).size=j-i:=by
 rw [ByteArray.size_extract];omega
theorem Au:∀l:List UInt8,aY l<=l.length
 |[]=>aE _
 |b::r=>by
  unfold aY;have:=Au r;split
  .exact Nat.zero_le _
  .simp;omega
end
end Go.Proofs.YtibikmmdbdlafaaGreatDoor
