import Derived.Test.YtibikmmdbdlafaaGreatDoorZnA7
set_option linter.defProp false
set_option linter.unusedSimpArgs false
set_option linter.unusedVariables false
set_option maxRecDepth 100000
namespace Go.Proofs.YtibikmmdbdlafaaGreatDoor
open Go.RowKit Sv Go.Proofs.Tryz
noncomputable section
def MH {x y:Int}:md x y<0↔x<y:=by
 unfold md;by_cases h:x<y
 .rw [if_pos h];simp [h]
 .rw [if_neg h];by_cases g:y<x
  .rw [if_pos g];simp [h]
  .rw [if_neg g];simp [h]
def ai5:aH 0=[]:=(Ay (Int.le_refl 0)).2 rfl
def Ud {y:Int} (hy:1<=y/\y<1000000000):(1<=1000000000/(y+1)/\1000000000/(y+1)<=500000000)/\500000000<=y*(1000000000/(y+1))/\(y+1)*(1000000000/(y+1))<=1000000000:=by
 have h:=Int.emod_add_mul_ediv 1000000000 (y+1);have h0:=ec 1000000000 (show y+1≠0 by omega);have h1:=eL 1000000000 (show 0<y+1 by omega);have hq:1<=1000000000/(y+1):=Int.le_ediv_of_mul_le (by omega) (by omega);generalize 1000000000/(y+1)=q at*;generalize 1000000000%(y+1)=r at*;have e:(y+1)*q=y*q+q:=by rw [Int.add_mul,Int.one_mul]
 rw [e]at h ⊢;have h2:1*q<=y*q:=ar hy.1 (by omega);refine⟨⟨hq,by omega⟩, ?_,by omega⟩;by_cases hq1:q=1
 .rw [hq1]at h ⊢;omega
 .by_cases hy1:y=1
  .rw [hy1]at h h1 ⊢;omega
  .have h3:1*1<=(y-1)*(q-1):=Int.mul_le_mul (by omega) (by omega) (by decide) (by omega);have h4:(y-1)*(q-1)=y*q-y-q+1:=by
    rw [Int.sub_mul,Int.mul_sub,Int.mul_one,Int.one_mul];omega
   omega
def MI:=IN 131 [.list false (.int .i64), .list false (.int .i64)] [.list false (.int .i64), .list false (.int .i64)] false (fun d=>okA d.1&&(okA d.2.1&&decide (0<ag d.2.1))) fun d=>(aH (ag d.1/ag d.2.1),aH (ag d.1%ag d.2.1),())
section
variable (a b:List Int) (h:okA a=true) (g:okA b=true)
def ai6 (hge:ag b<=ag a) (m:Nat) (hn:b.length=m+2) (w:World) (F:Sv.Env):
  aW prog w F 206 ((fl dT []).drop 6) (AW a b (1000000000/(b.getD (m+1) 0+1))).T (AW a b (1000000000/(b.getD (m+1) 0+1))).H (Uc (aH (ag a/ag b)) (aH (ag a%ag b))):=by
 obtain⟨ha,ta,la⟩:=fD.1 h;obtain⟨hb,tb,lb⟩:=fD.1 g;have hS:=Ds;have Dt:=hb.get (by decide) (m+1);have hbz:=tb (m+1) hn;obtain⟨⟨f1,f2⟩,f3,f4⟩:=Ud (y:=b.getD (m+1) 0) (by omega);generalize hf:1000000000/(b.getD (m+1) 0+1)=f at*;have l5:0<=ag a:=gN ha;have Du:ag a<1000000000^a.length:=dC (by decide) ha;have hP:=dK (b:=1000000000) (by decide) (m+1);have ai7:1000000000^(m+1)<=ag b:=ya (by decide) hb tb hn;obtain⟨b1,b2,b3⟩:=tc (d:=b) (n:=m+1) hn (hb.take _);have uB:0<ag b:=by omega
 have AZ:ag [f]=f:=rZ _ _;have iG:0<=ag b*f:=Int.mul_nonneg (by omega) (by omega);have MJ:ag b*f<1000000000^(m+2):=by
  have h1:ag b<1000000000^(m+1)*(b.getD (m+1) 0+1):=by rw [Int.mul_add,Int.mul_one];omega
  have h2:=Int.mul_lt_mul_of_pos_right h1 (show 0<f by omega);have h3:=eu f4 (ct hP);rw [Int.mul_assoc]at h2;rw [Int.pow_succ];omega
 have auI:ag b<=ag b*f:=by
  have:=eu f1 (ct uB);omega
 obtain⟨v1,v2,v3⟩:=gI iG;have hvl:(aH (ag b*f)).length=m+2:=by
  have h1:(aH (ag b*f)).length<=m+2:=yj k4 iG MJ;by_cases hc:m+2<=(aH (ag b*f)).length
  .omega
  .have h2:=dC (b:=1000000000) (by decide) v1;have h3:=iW (b:=1000000000) (by decide) (show(aH (ag b*f)).length<=m+1 by omega);unfold ag at*;omega
 have ai8:500000000<=(aH (ag b*f)).getD (m+2-1) 0:=by
  obtain⟨w1,w2,w3⟩:=tc (d:=aH (ag b*f)) (n:=m+1) hvl (v1.take _);show _<=(aH (ag b*f)).getD (m+1) 0;rw [v3]at w1;have h3:1000000000^(m+1)*(b.getD (m+1) 0*f)<=ag b*f:=by
   rw [<-Int.mul_assoc];exact ar (by omega) (by omega)
  have h4:=eu f3 (ct hP);have h5:1000000000^(m+1)*500000000<1000000000^(m+1)*((aH (ag b*f)).getD (m+1) 0+1):=by
   rw [Int.mul_add,Int.mul_one];omega
  have:=Int.lt_of_mul_lt_mul_left h5 (ct hP);omega
 have auJ:m+2<=a.length:=by
  refine Nat.not_lt.1 fun hh=> ?_
  have:=ib (by decide) ha hb tb (by omega);unfold ag at hge;omega
 have pW:0<=ag a*f:=Int.mul_nonneg l5 (by omega);have auK:0<ag a*f:=Int.mul_pos (by omega) (by omega);have ai9:ag a*f<1000000000^(a.length+1):=by
  rw [Int.pow_succ];have h1:=eu (show f<=1000000000 by omega) l5;have h2:=Int.mul_lt_mul_of_pos_right Du (show(0:Int)<1000000000 by decide);omega
 obtain⟨u1,u2,u3⟩:=gI pW;have Dl:(aH (ag a*f)).length<=a.length+1:=yj k4 pW ai9;have aja:aH (ag a*f)≠[]:=fun e=>by
  have:=(Ay pW).1 e;omega
 have Ue:okB [f]=true:=ow.2 ⟨.cons (by omega) .nil,by simp⟩;have key:=aiB a b f (by rw [ow.2 ⟨hb,by omega⟩,Ue];rfl) (by rw [ow.2 ⟨ha,by omega⟩,Ue];rfl);rw [AZ]at key;have hl0:(aH (ag a*f)).length≠0:=fun e=>aja (List.eq_nil_of_length_eq_zero e)
 refine aW.st (s:=AW a b f) known mixed hS 3 _ (key (by
  cases hz:Nat.beq (aH (ag a*f)).length 0 with
  |false=>rfl
  |true=>exact absurd (ac hz) hl0) (by omega) (by
  obtain⟨k,hk⟩:∃k,(aH (ag a*f)).length=k+1:=⟨(aH (ag a*f)).length-1,by omega⟩;rw [hk];rfl) rfl) (by kernel_rfl) ?_
 clear key;refine aW.loop (ι:={x:List Int//x.length<=a.length+1/\aS 1000000000 x/\ag x=ag a*f}) (id:=0) (b:=cat dT My) (rest:=(fl dT []).drop 10) (by kernel_rfl) (fun x=>sC a (aH (ag b*f)) f x.1) (fun x=>a.length+1-x.1.length)
  ⟨aH (ag a*f),Dl,u1,u3⟩ (fun _=>rfl) ?_
 rintro⟨u,hl,iZ,MK⟩;by_cases hlt:u.length<a.length+1
 .refine bC (s:=sC a (aH (ag b*f)) f u) hS (aiC a _ f u (by omega) (by omega) (by omega) (mf _ _) (uk _ _)) ?_;refine⟨⟨u++[0],by rw [dy];simp;omega,iZ.app (.cons ⟨Int.le_refl _,by decide⟩ .nil), ?_⟩,by show a.length+1-(u++[0]).length<_;rw [dy];simp;omega,rfl,rfl⟩;rw [<-MK];show vl _ (u++[0])=vl _ u;rw [x9,Int.mul_zero,Int.add_zero]
 .refine bC (s:=sC a (aH (ag b*f)) f u) hS (aiD a _ f u (by omega) (by omega)) ?_;refine cI (cQ ?_);have fQ:u.length=a.length+1:=by omega
  cases u with
  |nil=>cases fQ
  |cons x l=>
   have ajb:l.length=a.length:=by simpa using fQ
   have em:((l.length:Int)+1-(aH (ag b*f)).length).toNat=a.length+1-(m+2):=by omega
   have ajc:(((x::l).length:Int)-(aH (ag b*f)).length).toNat=a.length+1-(m+2):=by rw [List.length_cons];omega
   have ajd:((l.length:Int)+1-(aH (ag b*f)).length-1)=((a.length+1-(m+2):Nat):Int)-1:=by omega
   have aje:(((x::l).length:Int)-(aH (ag b*f)).length-1)=((a.length+1-(m+2):Nat):Int)-1:=by rw [List.length_cons];omega
   have key:=aiE a (aH (ag b*f)) f x l (by rw [List.length_cons];omega) (by rw [List.length_cons];omega);rw [em,ajc,ajd,aje]at key;refine dP (s:=sC a (aH (ag b*f)) f (x::l)) hS 2 (key (by omega) (by omega) (eI _).symm rfl (by rw [eI]) rfl (LV _) (eI _).symm) ?_;refine ai4 iZ v1 hvl (by omega) (by omega) (by omega) (by omega) (by omega) v3 uB l5 MK ?_ ai8 w F;have h1:=r0 1000000000 (x::l) (a.length+1-(m+2)) (by omega);have h2:=gv (b:=1000000000) (by decide) (iZ.take (a.length+1-(m+2)));have Uf:=dK (b:=1000000000) (by decide) (a.length+1-(m+2));refine Int.lt_of_mul_lt_mul_left (a:=1000000000^(a.length+1-(m+2))) ?_ (ct Uf);have h3:1000000000^(a.length+1-(m+2))*ag ((x::l).drop (a.length+1-(m+2)))<=ag a*f:=by rw [<-MK];unfold ag;omega
   have e1:(1000000000:Int)^a.length=1000000000^(a.length+1-(m+2))*1000000000^(m+1):=by rw [<-Int.pow_add,show a.length+1-(m+2)+(m+1)=a.length by omega]
   have c1:=Int.mul_lt_mul_of_pos_right Du (show 0<f by omega);have c2:=ar ai7 (show 0<=f by omega);have c3:=eu c2 (ct Uf);rw [<-Int.mul_assoc,<-e1]at c3;rw [v3];omega
def ajf (hb0:0<ag b):Holds prog false 131 [lv a,lv b] (.tuple [lv (aH (ag a/ag b)),lv (aH (ag a%ag b))]):=by
 obtain⟨ha,ta,la⟩:=fD.1 h;obtain⟨hb,tb,lb⟩:=fD.1 g;have hS:=Ds;have l5:0<=ag a:=gN ha;have hC:(okA a&&okA b)=true:=by rw [h,g];rfl
 refine bL (c:=dT) func131 rfl rfl fun w F=> ?_
 by_cases hlt:ag a<ag b
 .have e1:aH (ag a/ag b)=[]:=by rw [Int.ediv_eq_zero_of_lt l5 hlt];exact ai5
  have e2:aH (ag a%ag b)=a:=by rw [Int.emod_eq_of_lt l5 hlt];exact F1 ha ta
  rw [e1,e2];exact aY hS 3 (aix a b hC (MH.2 hlt))
 .have Ug:¬md (ag a) (ag b)<0:=fun h=>hlt (MH.1 h)
  obtain⟨n,hn⟩:∃n,b.length=n+1:=by
   cases b with
   |nil=>exact absurd hb0 (by decide)
   |cons y r=>exact⟨r.length,rfl⟩
  have Dt:=hb.get (by decide) n;have hbz:=tb n hn;cases n with
  |zero=>
   obtain⟨y,rfl⟩:∃y,b=[y]:=List.length_eq_one_iff.1 hn;have hy:y≠0:=hbz;have hy2:0<=y/\y<1000000000:=Dt;have zM:ag [y]=y:=rZ _ _;rw [zM];have hm0:=ec (ag a) hy;have pR:=eL (ag a) (show 0<y by omega);have et:er [ag a%y]=aH (ag a%y):=by
    rw [yf (.cons (by omega) .nil)];congr 1;exact rZ _ _
   have key:=aiy a [y] hC Ug (by simp) (by simp) (by
    rw [ow.2 ⟨ha,by omega⟩];rw [az (show(1:Int)<=List.getD [y] (Int.toNat 0) 0 from show 1<=y by omega),az (show List.getD [y] (Int.toNat 0) 0<(1000000000:Int)from hy2.2)];rfl) (aK 1) (by simp) rfl rfl
   rw [<-et];exact aY hS 5 key
  |succ m=>
   have bH:((b.length:Int)-1).toNat=m+1:=by omega
   have ajg:(0:Int)<=1000000000:=by decide
   have hd:Int.tdiv 1000000000 (b.getD (m+1) 0+1)=1000000000/(b.getD (m+1) 0+1):=Int.tdiv_eq_ediv_of_nonneg ajg;obtain⟨⟨f1,f2⟩,f3,f4⟩:=Ud (y:=b.getD (m+1) 0) (by omega);have key:=aiz a b hC Ug (by omega) (by omega) (by omega);rw [bH,hd]at key;refine cR hS 6 (key (by omega) (by omega) (by omega) (by omega) rfl) ?_;refine aW.vU (fun e=> ?_) (i:=64) (s:=8) (e2:=3) (t:= .int .i64) (xs:=[1000000000/(b.getD (m+1) 0+1)]) (cap:=bM 1) (by kernel_rfl) (by kernel_rfl) ?_
   .have:((fl dT []).drop 6).isEmpty=false:=by kernel_rfl
    rw [e]at this;cases this
   refine aW.od (fun e=> ?_) (σ:=[]) (s:=AW a b (1000000000/(b.getD (m+1) 0+1))) (aiA a b _) ?_
   .have:((fl dT []).drop 6).isEmpty=false:=by kernel_rfl
    rw [e]at this;cases this
   exact ai6 a b h g (by omega) m hn w F
end
def Uh:MI.Ok prog:=fun⟨a,b,_⟩ h=>by
 have h:(okA a&&(okA b&&decide (0<ag b)))=true:=h;rw [ae,ae]at h;exact ajf a b h.1 h.2.1 (ap h.2.2)
structure A0 (u:List Int) (s:Nat) (d:List Int) (i:Nat):Prop where
 len:d.length=u.length
 dg:aS 18446744073709551616 d
 same:∀j,i<=j->d.getD j 0=u.getD j 0
 val:2^s*ak (d.take i)=ak (u.take i)+u.getD i 0%2^s*18446744073709551616^i
def A0.next {u d:List Int} {s i:Nat} (I:A0 u s d i) (hu:aS 18446744073709551616 u) (hs:s<=63) (hi:i+1<u.length) {x:Int} (hx:0<=x/\x<18446744073709551616) (he:2^s*x=u.getD i 0-u.getD i 0%2^s+u.getD (i+1) 0%2^s*18446744073709551616):
  A0 u s (d.set i x) (i+1):=by
 have hl:=I.len;refine⟨by rw [b9];exact hl,I.dg.set hx,fun j hj=> ?_, ?_⟩
 .rw [fg,if_neg (by omega)];exact I.same j (by omega)
 .have hv:=I.val;unfold ak at hv ⊢;rw [yb (by omega),k3 u,Int.pow_succ];generalize vl 18446744073709551616 (d.take i)=a at*;generalize vl 18446744073709551616 (u.take i)=b at*;generalize (18446744073709551616:Int)^i=P at*;generalize (2:Int)^s=S at*;generalize u.getD (i+1) 0%S=r1 at*;generalize u.getD i 0%S=eo at*;generalize u.getD i 0=aJ at*;have e:P*(S*x)=P*(aJ-eo+r1*18446744073709551616):=by rw [he]
  grind
def H4 {x y:Int} {s:Nat} (hs:1<=s/\s<=63) (hx:0<=x/\x<18446744073709551616) (hy:0<=y/\y<18446744073709551616):
  (0<=eX (dD x s) (fF y (64-(s:Int)))/\eX (dD x s) (fF y (64-(s:Int)))<18446744073709551616)/\2^s*eX (dD x s) (fF y (64-(s:Int)))=x-x%2^s+y%2^s*18446744073709551616:=by
 have qW:(64-(s:Int))=((64-s:Nat):Int):=by omega
 have hp:(0:Int)<2^s:=dK (by decide) _;have hq:(0:Int)<2^(64-s):=dK (by decide) _;have jE:(2:Int)^s*2^(64-s)=18446744073709551616:=by rw [<-Int.pow_add,show s+(64-s)=64 by omega];rfl
 have h1:dD x s=x/2^s:=Me (by omega) hx.1;have h2:fF y (64-(s:Int))=2^(64-s)*(y%2^s):=by
  rw [qW,TW (by omega) hy,show 64-(64-s)=s by omega]
 have hd:=Int.emod_add_mul_ediv x (2^s);have a0:0<=x/2^s:=Int.ediv_nonneg hx.1 (ct hp);have a1:x/2^s<2^(64-s):=Int.ediv_lt_of_lt_mul hp (by rw [Int.mul_comm,jE];exact hx.2);have b0:=ec y (show(2:Int)^s≠0 by omega);have b1:=eL y hp;have c0:0<=2^(64-s)*(y%2^s):=Int.mul_nonneg (ct hq) b0;have c1:2^(64-s)*(y%2^s)+2^(64-s)<=18446744073709551616:=by
  have:=eu (show y%2^s+1<=2^s by omega) (ct hq);rw [Int.mul_add,Int.mul_one,Int.mul_comm (2^(64-s)) (2^s),jE]at this;omega
 have e:eX (dD x s) (fF y (64-(s:Int)))=x/2^s+2^(64-s)*(y%2^s):=by
  rw [h1,h2];exact L7 (s:=64-s) (by omega) ⟨a0,a1⟩ b0 rfl (by omega)
 rw [e];refine⟨by omega, ?_⟩;rw [Int.mul_add,<-Int.mul_assoc,jE];generalize (2:Int)^s*(x/2^s)=X at*;rw [Int.mul_comm (18446744073709551616:Int)];omega
def ajh {u q:List Int} {n s:Nat} {R:Int} (hu:aS 18446744073709551616 u) (jt:aS 18446744073709551616 q) (hs:s<=63) (hn:n<u.length) (nw:1<=n) (fQ:u.length<=400000) (hlq:q.length<=400000) (AP:ak u=2^s*R) (hR:0<=R) (hlt:ak u<18446744073709551616^n) (w:World) (F:Sv.Env):
  aW prog w F 137 ((fl ge []).drop 13) (jL n u q s 0).T (jL n u q s 0).H (Mx (dQ q) (cV 18446744073709551616 R)):=by
 have hS:=GJ;have hp:(0:Int)<2^s:=dK (by decide) _;have jE:(2:Int)^s*2^(64-s)=18446744073709551616:=by rw [<-Int.pow_add,show s+(64-s)=64 by omega];rfl
 have AY:u.getD 0 0%2^s=0:=by
  have h1:=uu (b:=18446744073709551616) (l:=u) (k:=0) (by omega);rw [List.drop_zero,aw]at h1;have h2:u.getD 0 0=2^s*(R-2^(64-s)*ak (u.drop 1)):=by
   have h3:2^s*(2^(64-s)*ak (u.drop 1))=18446744073709551616*ak (u.drop 1):=by rw [<-Int.mul_assoc,jE]
   rw [Int.mul_sub,h3];unfold ak at AP ⊢;omega
  rw [h2];exact Int.mul_emod_right _ _
 have hun:u.getD n 0=0/\ak (u.take n)=ak u:=by
  have h1:=CZ (b:=18446744073709551616) (by decide) hu hlt;have h2:=lU (b:=18446744073709551616) (l:=u) (k:=n) hn;have h3:=adP (b:=18446744073709551616) (by decide) hu (n+1);have h4:=hu.get (by decide) n;have h5:=dK (b:=18446744073709551616) (by decide) n;refine⟨?_,h1⟩;by_cases hz:u.getD n 0=0
  .exact hz
  .have:=Int.mul_pos h5 (show 0<u.getD n 0 by omega);omega
 refine aW.loop (ι:={x:List Int×Nat//x.2<=n/\A0 u s x.1 x.2}) (id:=4) (b:=cat ge GI) (rest:=(fl ge []).drop 14) (by kernel_rfl) (fun x=>jL n x.1.1 q s x.1.2) (fun x=>n-x.1.2)
  ⟨(u,0),Nat.zero_le _,⟨rfl,hu,fun _ _=>rfl,by show 2^s*vl _ ([]:List Int)=vl _ ([]:List Int)+u.getD 0 0%2^s*_;rw [AY];simp [vl]⟩⟩ (fun _=>rfl) ?_
 rintro⟨⟨d,i⟩,hi,I⟩;have hi:i<=n:=hi;have I:A0 u s d i:=I;have hdl:=I.len;by_cases hlt2:i<n
 .have sx:=hu.get (by decide) i;have aji:=hu.get (by decide) (i+1);have ho:∀l:List Int,l.length=u.length->∀j,j<u.length->bA 167 aG (some (.own 167 aG l)) j=true:=fun l hl j hj=>by rw [zK];exact az (by omega)
  have kW:((i:Int)+1).toNat=i+1:=by omega
  have sd:=I.same i (aK _);have ajj:=I.same (i+1) (by omega);by_cases hs0:s=0
  .subst hs0;have e1:dD (d.getD i 0) (0:Nat)=d.getD i 0:=by rw [Me (by omega) (by rw [sd];exact sx.1)];simp
   have N:=I.next hu (by omega) (by omega) (x:=dD (d.getD i 0) (0:Nat)) (by rw [e1,sd];exact sx) (by rw [e1,sd];simp [Int.emod_one]);exact aW.all (s:=jL n d q (0:Nat) i) (s':=jL n (d.set i (dD (d.getD i 0) (0:Nat))) q (0:Nat) (i+1)) known mixed hS _ (ait n d q _ i (by omega) (by omega) (ho d hdl i (by omega)) (by omega) (by omega) (by omega) (by rw [b9]) rfl) (by kernel_rfl)
    ⟨⟨(_,i+1),by show i+1<=n;omega,N⟩,by show n-(i+1)<n-i;omega,rfl,rfl⟩
  .obtain⟨g1,g2⟩:=H4 (s:=s) (by omega) sx aji;have e1:(d.set i (dD (d.getD i 0) s)).getD i 0=dD (u.getD i 0) s:=by rw [mc (by omega),sd]
   have e2:(d.set i (dD (d.getD i 0) s)).getD (i+1) 0=u.getD (i+1) 0:=by rw [fg,if_neg (by omega),ajj]
   have e3:(d.set i (dD (d.getD i 0) s)).set i (eX (dD (u.getD i 0) s) (fF (u.getD (i+1) 0) (64-(s:Int))))=d.set i (eX (dD (u.getD i 0) s) (fF (u.getD (i+1) 0) (64-(s:Int)))):=List.set_set ..;have N:=I.next hu hs (by omega) g1 g2;have fin:∃j:{x:List Int×Nat//x.2<=n/\A0 u s x.1 x.2},n-j.1.2<n-i/\
     (jL n ((d.set i (dD (d.getD i 0) s)).set i (eX ((d.set i (dD (d.getD i 0) s)).getD i 0) (fF ((d.set i (dD (d.getD i 0) s)).getD (i+1) 0) (64-s)))) q s (i+1)).T=(jL n j.1.1 q s j.1.2).T/\
     (jL n ((d.set i (dD (d.getD i 0) s)).set i (eX ((d.set i (dD (d.getD i 0) s)).getD i 0) (fF ((d.set i (dD (d.getD i 0) s)).getD (i+1) 0) (64-s)))) q s (i+1)).H=(jL n j.1.1 q s j.1.2).H:=by
    rw [e1,e2,e3];exact⟨⟨(_,i+1),by show i+1<=n;omega,N⟩,by show n-(i+1)<n-i;omega,rfl,rfl⟩
   exact bC (s:=jL n d q s i) hS (ais n d q s i (by omega) (by omega) (ho d hdl i (by omega)) (by omega) (by omega) (by omega) (by omega) (ho _ (by rw [b9];exact hdl) i (by omega)) (by omega) (by rw [kW];exact ho _ (by rw [b9];exact hdl) (i+1) (by omega)) (by omega) (by omega) (by simp) (by rw [kW];rfl)) fin
 .refine bC (s:=jL n d q s i) hS (aiu n d q s i (by omega)) ?_;refine cI (cQ ?_);obtain rfl:i=n:=by omega
  have hv:=I.val;rw [hun.1,hun.2,AP,Int.zero_emod,Int.zero_mul,Int.add_zero]at hv;have iV:ak (d.take i)=R:=Int.eq_of_mul_eq_mul_left (by omega) hv;rw [<-iV,<-mi (I.dg.take i)];have bW:(q.drop 0).take q.length=q:=by simp
  have j6:(d.drop 0).take i=d.take i:=by simp
  exact aW.rX (s:=jL i d q s i) known mixed hS _ (aiv i d q s i (T6 rfl) (by rw [bW];omega) (by omega) (by
   rw [zK,az (show i-1<d.length by omega)];simp) (by rw [j6,eM];omega) (by rw [bW]) (by rw [j6])) fun T H h=>h
def ajk {a v:List Int} {s n m:Nat} {vb:Int} (ha:aS 18446744073709551616 a) (hv:aS 18446744073709551616 v) (hs:s<=63) (ML:v.length=n) (hn:2<=n) (hm:m+n=a.length+1) (pR:1<=m) (hla:a.length<=300000)
  (hV:ak v=vb*2^s) (hb0:0<vb) (iA:18446744073709551616^(n-1)<=vb) (sF:9223372036854775808<=v.getD (n-1) 0) (w:World) (F:Sv.Env):
  aW prog w F 137 ((fl ge []).drop 11) (lf a v (cK a s) (cJ m) s m).T (lf a v (cK a s) (cJ m) s m).H (Mx (cV 18446744073709551616 (ak a/vb)) (cV 18446744073709551616 (ak a%vb))):=by
 have hS:=GJ;have hp:(0:Int)<2^s:=dK (by decide) _;have auL:(2:Int)^s<=2^63:=iW (by decide) hs;have TG:(2:Int)^63=9223372036854775808:=rfl;have iG:0<ak v:=by rw [hV];exact Int.mul_pos hb0 hp
 have sG:ak v<18446744073709551616^n:=by rw [<-ML];exact dC (by decide) hv
 have l5:0<=ak a:=gv (by decide) ha;have Du:ak a<18446744073709551616^a.length:=dC (by decide) ha;have ajl:ak a*2^s<18446744073709551616^(a.length+1):=by
  rw [Int.pow_succ];have h1:=eu (show(2:Int)^s<=18446744073709551616 by omega) l5;have h2:=Int.mul_lt_mul_of_pos_right Du (show(0:Int)<18446744073709551616 by decide);omega
 have AY:ak (cK a s)=ak a*2^s:=by
  unfold cK;rw [Int.toNat_natCast];exact C1 (by decide) _ _ (Int.mul_nonneg l5 (ct hp)) ajl
 have Dl:(cK a s).length=a.length+1:=by unfold cK;exact yc _ _ _
 have Ui:aS 18446744073709551616 (cK a s):=by unfold cK;exact C0 (by decide) _ _
 have ME:∀k,(cJ m).getD k 0=0:=fun k=>by
  unfold cJ;rw [ao,List.getElem?_replicate];split<;>rfl
 refine aW.loop (ι:={x:List Int×List Int×Nat//x.2.2<=m/\x.1.length=a.length+1/\aS 18446744073709551616 x.1/\x.2.1.length=m/\aS 18446744073709551616 x.2.1/\ak (x.1.drop x.2.2)<ak v/\ak x.1+ak v*ak x.2.1=ak a*2^s/\∀j,j<x.2.2->x.2.1.getD j 0=0}) (id:=2) (b:=cat ge GH) (rest:=(fl ge []).drop 12) (by kernel_rfl) (fun x=>lf a v x.1.1 x.1.2.1 s x.1.2.2) (fun x=>x.1.2.2)
  ⟨(cK a s,cJ m,m),aK _,Dl,Ui,gO _,qS _, ?_, ?_,fun j _=>ME j⟩ (fun _=>rfl) ?_
 .show ak ((cK a s).drop m)<ak v;have h1:=r0 18446744073709551616 (cK a s) m (by omega);have h2:=gv (b:=18446744073709551616) (by decide) (Ui.take m);have h3:18446744073709551616^m*ak ((cK a s).drop m)<=ak a*2^s:=by rw [<-AY];unfold ak;omega
  have h4:ak a*2^s<18446744073709551616^m*ak v:=by
   have e1:(18446744073709551616:Int)^a.length=18446744073709551616^m*18446744073709551616^(n-1):=by rw [<-Int.pow_add,show m+(n-1)=a.length by omega]
   have c1:=Int.mul_lt_mul_of_pos_right Du hp;have c2:=ar iA (ct hp);have c3:=eu c2 (ct (dK (b:=18446744073709551616) (by decide) m));rw [<-hV,<-Int.mul_assoc,<-e1]at c3;omega
  exact Int.lt_of_mul_lt_mul_left (show 18446744073709551616^m*ak ((cK a s).drop m)<18446744073709551616^m*ak v by omega) (ct (dK (by decide) m))
 .show ak (cK a s)+ak v*ak (cJ m)=_;have:ak (cJ m)=0:=CX _ m;rw [this,AY];omega
 rintro⟨⟨u,q,k⟩,hk,hl,iZ,hq,jt,kI,hval,hz⟩;have hk:k<=m:=hk;have hl:u.length=a.length+1:=hl;have iZ:aS 18446744073709551616 u:=iZ;have hq:q.length=m:=hq;have jt:aS 18446744073709551616 q:=jt;have kI:ak (u.drop k)<ak v:=kI;have hval:ak u+ak v*ak q=ak a*2^s:=hval;have hz:∀j,j<k->q.getD j 0=0:=hz;cases k with
 |zero=>
  refine bC (s:=lf a v u q s 0) hS (aiq a v u q s 0 (by omega)) ?_;refine cI (cQ ?_);rw [List.drop_zero]at kI;have pW:0<=ak u:=gv (by decide) iZ;obtain⟨g1,g2⟩:=L9 (A:=ak a) (b:=vb) (V:=ak v) (S:=2^s) (U:=ak u) (q:=ak q) hp hb0 hV hval pW kI;rw [g1,<-mi jt];refine dP (s:=lf a v u q s 0) hS 1 (air a v u q s 0) ?_;rw [ML];exact ajh iZ jt hs (by omega) (by omega) (by omega) (by omega) g2 (ec _ (by omega)) (Int.lt_trans kI sG) w F
 |succ j=>
  have ej:(((j+1:Nat):Int)-1).toNat=j:=by omega
  have A1:(((j+1:Nat):Int)-1+v.length+1).toNat=j+(n+1):=by omega
  have ed:j+(n+1)-j=n+1:=by omega
  have j6:(((j+1:Nat):Int)-1-1)=(j:Int)-1:=by omega
  obtain⟨w1,w2,w3⟩:=L8 (b:=18446744073709551616) (by decide) iZ (j:=j) (n:=n) (V:=ak v) (by omega) (ct sG) kI;have wA:ak (qZ u j (n+1))<18446744073709551616*ak v:=by unfold qZ ak;rw [<-w1];exact w2
  have hpre:se u j (n+1) v=true:=by
   unfold se;rw [ij.2 iZ,ij.2 hv,az (show 2<=v.length by omega),ML,Nat.beq_refl,az (show n<=1000000 by omega),az sF,az wA];rfl
  obtain⟨n1,n2,n3,su⟩:=TD (b:=18446744073709551616) (by decide) iZ (j:=j) (n:=n) (V:=ak v) (by omega) iG (ct sG) kI (u':=ik u j (n+1) v) rfl;have MF:0<=ak (qZ u j (n+1)):=gv (by decide) ((iZ.drop j).take _);have wu:0<=jr u j (n+1) v:=Int.ediv_nonneg MF (ct iG);have GG:jr u j (n+1) v<18446744073709551616:=(Int.ediv_lt_iff_lt_mul iG).2 wA;have fin:∃y:{x:List Int×List Int×Nat//x.2.2<=m/\x.1.length=a.length+1/\aS 18446744073709551616 x.1/\x.2.1.length=m/\aS 18446744073709551616 x.2.1/\ak (x.1.drop x.2.2)<ak v/\ak x.1+ak v*ak x.2.1=ak a*2^s/\∀j,j<x.2.2->x.2.1.getD j 0=0},y.1.2.2<j+1/\
    (AV a v (ik u j (n+1) v) (q.set j (jr u j (n+1) v)) s (j+1)).T=(lf a v y.1.1 y.1.2.1 s y.1.2.2).T/\(AV a v (ik u j (n+1) v) (q.set j (jr u j (n+1) v)) s (j+1)).H=(lf a v y.1.1 y.1.2.1 s y.1.2.2).H:=by
   refine⟨⟨(ik u j (n+1) v,q.set j (jr u j (n+1) v),j),by show j<=m;omega,by show(ik u j (n+1) v).length=_;omega,n2,by show(q.set j _).length=m;rw [b9];exact hq,jt.set ⟨wu,GG⟩,su, ?_,fun i hi=> ?_⟩,fL _, ?_,rfl⟩
   .show ak (ik u j (n+1) v)+ak v*ak (q.set j (jr u j (n+1) v))=_;have qK:ak (q.set j (jr u j (n+1) v))=ak q+18446744073709551616^j*jr u j (n+1) v:=by
     unfold ak;rw [qL _ _ _ _ (by omega),hz j (fL _),Int.sub_zero]
    have MG:ak (ik u j (n+1) v)+18446744073709551616^j*jr u j (n+1) v*ak v=ak u:=n3;rw [qK,<-hval,<-MG];generalize ak (ik u j (n+1) v)=x1;generalize jr u j (n+1) v=x2;generalize (18446744073709551616:Int)^j=x3;generalize ak q=qI;generalize ak v=vS;grind
   .have hi:i<j:=hi;show(q.set j _).getD i 0=0;rw [fg,if_neg (by omega)];exact hz i (by omega)
   .show(AV a v _ _ s (j+1)).T=(lf a v _ _ s j).T;unfold AV lf;rw [j6]
  have hlen':u.length=(ik u j (n+1) v).length:=by omega
  have hown:∀i l,i<u.length->1<=l->(bA 167 aG (some (.own 167 aG u)) i&&Nat.ble 1 l)=true:=fun i l hi hl=>by rw [zK,az hi,fK hl];rfl
  have Dv:(((0+1:Nat):Int)-1+v.length+1).toNat=n+1:=by omega
  by_cases hj0:j=0
  .subst hj0;refine bC (s:=lf a v u q s 1) hS (aio a v u q s 1 (by omega) (by omega) (by omega) (by omega) (by rw [Dv];omega) rfl (by rw [Dv];exact hown _ _ (by omega) (by omega)) (by rw [Dv];exact hpre) (by rw [ej];omega) (by omega) (by rw [Dv];exact hlen') (by rw [b9]) (by rw [b9])) ?_;rw [Dv,ej];exact fin
  .refine aW.all (s:=lf a v u q s (j+1)) known mixed hS _ (aip a v u q s (j+1) (by omega) (by omega) (by omega) (by omega) (by rw [A1];omega) (by
    rw [ej];cases hb:Nat.beq j 0 with
    |false=>rfl
    |true=>exact absurd (ac hb) hj0) (by rw [A1,ej];omega) (by
    rw [A1,ej,ed];exact hown _ _ (by omega) (by omega)) (by rw [A1,ej,ed];exact hpre) (by rw [ej];omega) (by omega) (by rw [A1,ej,ed];exact hlen') (by rw [b9]) (by rw [b9])) (by kernel_rfl) ?_
   rw [A1,ej,ed];exact fin
def H5 (a b:List Int) (h:pX a b=true):Holds prog false 178 [bJ a,bJ b] (.tuple [bJ (e9 a b),bJ (cL a b)]):=by
 have hS:=GJ;unfold pX mU at h;simp only [ae,bE,ij,gd]at h;obtain⟨⟨⟨ha,kr⟩,⟨hb,GR⟩,hal⟩,kq,hla,hlb⟩:=h;have hC:mU a b=true:=by
  unfold mU;rw [ij.2 ha,gd.2 kr,ij.2 hb,gd.2 GR,az hal];rfl
 have l5:0<=ak a:=gv (by decide) ha;have uB:0<=ak b:=gv (by decide) hb;refine bL (c:=ge) func178 rfl rfl fun w F=> ?_
 by_cases hlt:ak a<ak b
 .have e1:e9 a b=[]:=by unfold e9;rw [Int.ediv_eq_zero_of_lt l5 hlt];exact LX (by decide)
  have e2:cL a b=a:=by unfold cL;rw [Int.emod_eq_of_lt l5 hlt];exact(r4 (by decide) ha kr rfl).symm
  rw [e1,e2];exact aY hS 3 (aie a b hC (by unfold k7;rw [if_pos hlt];decide))
 .refine cR hS 4 (aif a b hC (by unfold k7;rw [if_neg hlt];split<;>decide)) ?_;obtain⟨n,hn⟩:∃n,b.length=n+1:=⟨b.length-1,by omega⟩;have Dt:=hb.get (by decide) n;have hbz:=GR n hn;cases n with
  |zero=>
   obtain⟨y,rfl⟩:∃y,b=[y]:=List.length_eq_one_iff.1 hn;have hy:y≠0:=hbz;have hy2:0<=y/\y<18446744073709551616:=Dt;refine T5 (X:=pI) (o:= .tmp 23) (x:=cat ge Dm) (y:= .skip) (rest:=(fl ge []).drop 5) (by kernel_rfl) (by kernel_rfl) ?_;refine aW.mono (fun e T H hq=> ?_) (aiw ha (by omega) hla w F);obtain⟨rfl,hq⟩:=hq;exact hq
  |succ m=>
   refine dP (s:=sB a b) hS 1 (ail a b (by omega)) ?_;obtain⟨s,hs,TK,TL,TM⟩:=TF (x:=b.getD (m+1) 0) (by omega);have bH:((b.length:Int)-1).toNat=m+1:=by omega
   have hp:(0:Int)<2^s:=dK (by decide) _;have auM:=sy (u:=b) (n:=m+1) hn;have auN:=gv (b:=18446744073709551616) (by decide) (hb.take (m+1));have ajm:=dC (b:=18446744073709551616) (by decide) (hb.take (m+1));rw [eM,Nat.min_eq_left (by omega)]at ajm;have hP:=dK (b:=18446744073709551616) (by decide) (m+1);have iA:18446744073709551616^(m+1)<=ak b:=ya (by decide) hb GR hn
   -- the divisor, shifted up, has as many words
   have ajn:(b.getD (m+1) 0+1)*2^s<=18446744073709551616:=by
    have qW:(18446744073709551616:Int)=2^(64-s)*2^s:=by rw [<-Int.pow_add,show 64-s+s=64 by omega];rfl
    have h1:b.getD (m+1) 0<2^(64-s):=Int.lt_of_mul_lt_mul_right (show b.getD (m+1) 0*2^s<2^(64-s)*2^s by rw [<-qW];exact TM) (ct hp);rw [qW];exact ar (by omega) (ct hp)
   have MJ:ak b*2^s<18446744073709551616^(m+2):=by
    have h1:ak b<18446744073709551616^(m+1)*(b.getD (m+1) 0+1):=by rw [Int.mul_add,Int.mul_one];unfold ak at*;omega
    have h2:=Int.mul_lt_mul_of_pos_right h1 hp;have h3:=eu ajn (ct hP);rw [Int.mul_assoc]at h2;rw [Int.pow_succ];omega
   have ajo:ak (cK b s)=ak b*2^s:=by
    unfold cK;rw [Int.toNat_natCast];refine C1 (by decide) _ _ (Int.mul_nonneg uB (ct hp)) ?_;have:=iW (b:=18446744073709551616) (by decide) (show m+2<=b.length+1 by omega);omega
   have ajp:aS 18446744073709551616 (cK b s):=by unfold cK;exact C0 (by decide) _ _
   have auO:(cK b s).length=m+3:=by unfold cK;rw [yc];omega
   have hv:=mi ajp;rw [ajo]at hv;have iG:0<=ak b*2^s:=Int.mul_nonneg uB (ct hp);obtain⟨v1,v2,v3⟩:=qM (b:=18446744073709551616) (by decide) iG;have MM:ak (dQ (cK b s))=ak b*2^s:=by rw [hv];exact v3
   have hvl:(dQ (cK b s)).length=m+2:=by
    have h1:=yj (b:=18446744073709551616) (by decide) iG MJ;rw [<-hv]at h1;by_cases hc:m+2<=(dQ (cK b s)).length
    .omega
    .have h2:=dC (b:=18446744073709551616) (by decide) v1;rw [<-hv]at h2;have h3:=iW (b:=18446744073709551616) (by decide) (show(dQ (cK b s)).length<=m+1 by omega);have h4:=eu (show(1:Int)<=2^s by omega) uB;unfold ak at MM iA h4;omega
   have Df:aS 18446744073709551616 (dQ (cK b s)):=by rw [hv];exact v1
   have sF:9223372036854775808<=(dQ (cK b s)).getD (m+2-1) 0:=by
    have h1:=sy (u:=dQ (cK b s)) (n:=m+1) hvl;have h2:=dC (b:=18446744073709551616) (by decide) (Df.take (m+1));rw [eM,Nat.min_eq_left (by omega)]at h2;have h3:18446744073709551616^(m+1)*(b.getD (m+1) 0*2^s)<=ak b*2^s:=by
     rw [<-Int.mul_assoc];exact ar (by unfold ak at*;omega) (ct hp)
    have h4:=eu TL (ct hP);show _<=(dQ (cK b s)).getD (m+1) 0;rw [MM]at h1;have h5:18446744073709551616^(m+1)*9223372036854775808<18446744073709551616^(m+1)*((dQ (cK b s)).getD (m+1) 0+1):=by
     rw [Int.mul_add,Int.mul_one];unfold ak at*;omega
    have:=Int.lt_of_mul_lt_mul_left h5 (ct hP);omega
   have hge:m+2<=a.length:=by
    refine Nat.not_lt.1 fun hh=> ?_
    exact hlt (ib (by decide) ha hb GR (by omega))
   have Uj:∀l:List Int,aS 18446744073709551616 l->l.length<=300000->yw l (s:Int)=true:=fun l hl ajb=>by
    unfold yw;rw [ij.2 hl,az (show l.length<=400000 by omega),az (show(0:Int)<=(s:Int) by omega),az (show(s:Int)<64 by omega)];rfl
   have ht:((cK b s).drop 0).take (cK b s).length=cK b s:=by simp
   have hs':dY (b.getD ((b.length:Int)-1).toNat 0)=(s:Int):=by rw [bH];exact hs
   refine aW.st (s:=sB a b) known mixed hS 2 _ (aim a b (dQ (cK b s)) s (by omega) (by omega) (by omega) (by rw [bH];exact si.2 Dt) (by rw [hs'];exact Uj b hb hlb) (by
    rw [hs'];have:bA 167 aG (some (.own 167 aG (cK b s))) ((cK b s).length-1)=true:=by rw [zK];exact az (by omega)
    rw [Bool.or_eq_true];exact .inr this) (by rw [hs',ht];omega) hs' (by rw [hs',ht])) (by kernel_rfl) ?_
   have em:((a.length:Int)-(dQ (cK b s)).length+1).toNat=a.length-(m+2)+1:=by omega
   refine dP (s:=Mv a (dQ (cK b s)) s) hS 4 (ain a (dQ (cK b s)) s (a.length-(m+2)+1) (Uj a ha hla) (by omega) (by omega) (by omega) (by rw [em];omega) rfl (by rw [em,gO]) (by rw [em]) (by rw [gO]) (by omega) (by rw [em];exact yh _) (by rw [gO])) ?_;exact ajk ha Df TK hvl (by omega) (by omega) (by omega) hla MM (by omega) (by rw [show m+2-1=m+1 by omega];exact iA) sF w F
def Uk:Mw.Ok prog:=fun⟨a,b,_⟩ h=>H5 a b h
def uC:=k_a f171
def wB:=a7 [Gn,L1,Mw,we,Dc,wg]
abbrev GQ:Sv.Ren:=[(64,64,none),(65,65,none),(66,66,none),(67,67,none)]
section
variable (a b:aC)
def uD:bI:={n:=84,sl:=[(2, .ptr 64 0),(3, .ptr 65 0),(4, .ptr 66 0),(5, .ptr 67 0)],bH:=[(64,eW a),(65,eW b),(66,b0),(67,b0)],next:=68}
def kJ:Int×List Int:=bf (cl (b5 a) (e9 (aA a) (aA b)))
def hM:Int×List Int:=bf (cl (b5 a) (cL (aA a) (aA b)))
def ajq (h1:a.2.isEmpty=true) (h2:b.2.isEmpty=true) (h3:¬a.1= -9223372036854775808) (h4:b.1≠0) (h5:i6 (Int.tdiv a.1 b.1)) (h6:Int.tmod a.1 b.1<0) (h7:i6 (Int.tdiv a.1 b.1-1)) (h8:i6 (Int.tmod a.1 b.1+b.1)):
  aV wB (fl uC []) 3 84 [aB a,aB b] 2047 f171 false (.tuple [aB (Int.tdiv a.1 b.1-1,[]),aB (Int.tmod a.1 b.1+b.1,[])]):=
 wy [aa (aL (aL (h1))),aa (aL (h1)),aa (aL (aL (h2))),aa (aL (h2)),aa (fA.mpr h3),aa (aD (v:=iv (a.1))),aa (aD (v:=iv (b.1))),ah h4,yi h5,ah h6,yi h7,yi h8] 251558458034092392577408602166792257
def Ul (h1:a.2.isEmpty=true) (h2:b.2.isEmpty=true) (h3:¬a.1= -9223372036854775808) (h4:b.1≠0) (h5:i6 (Int.tdiv a.1 b.1)) (h6:¬Int.tmod a.1 b.1<0):
  aV wB (fl uC []) 3 84 [aB a,aB b] 1535 f171 false (.tuple [aB (Int.tdiv a.1 b.1,[]),aB (Int.tmod a.1 b.1,[])]):=
 wy [aa (aL (aL (h1))),aa (aL (h1)),aa (aL (aL (h2))),aa (aL (h2)),aa (fA.mpr h3),aa (aD (v:=iv (a.1))),aa (aD (v:=iv (b.1))),ah h4,yi h5,aF h6] 802322401637226796831279157313
def ajr (h1:a.2.isEmpty=false):
  c7 wB (fl uC []) 3 84 [aB a,aB b] 512 .normal GQ (uD a b):=
 wy [aa (aL (aL (h1))),aa (aL (h1))] 528449
def ajs (h1:a.2.isEmpty=true) (h2:b.2.isEmpty=false):
  c7 wB (fl uC []) 3 84 [aB a,aB b] 527 .normal GQ (uD a b):=
 wy [aa (aL (aL (h1))),aa (aL (h1)),aa (aL (aL (h2))),aa (aL (h2))] 17801616560193
def ajt (h1:a.2.isEmpty=true) (h2:b.2.isEmpty=true) (h3:a.1= -9223372036854775808):
  c7 wB (fl uC []) 3 84 [aB a,aB b] 767 .normal GQ (uD a b):=
 wy [aa (aL (aL (h1))),aa (aL (h1)),aa (aL (aL (h2))),aa (aL (h2)),aa (ef.mpr h3)] 1425176500113473
def aju (h1:(ay a)=true) (h2:(ay b)=true) (h3:(pX (aA a) (aA b))=true) (h4:(gY (e9 (aA a) (aA b))&&jG (e9 (aA a) (aA b)))=true) (h5:(gY (cL (aA a) (aA b))&&jG (cL (aA a) (aA b)))=true) (h6:(ay (bf (cl (b5 a) (cL (aA a) (aA b)))))=true) (h7:gP (bf (cl (b5 a) (cL (aA a) (aA b))))<0) (h8:(ay (bf (cl (b5 a) (e9 (aA a) (aA b))))&&ay (1,[]))=true) (h9:(ay (bf (cl (b5 a) (cL (aA a) (aA b))))&&ay b)=true) (h10:(cA (bf (cl (b5 a) (e9 (aA a) (aA b)))) (1,[])).1=(cA (kJ a b) (1,[])).1) (h11:(cA (bf (cl (b5 a) (e9 (aA a) (aA b)))) (1,[])).2=(cA (kJ a b) (1,[])).2) (h12:(cw (bf (cl (b5 a) (cL (aA a) (aA b)))) b).1=(cw (hM a b) b).1) (dZ:(cw (bf (cl (b5 a) (cL (aA a) (aA b)))) b).2=(cw (hM a b) b).2):
  bS wB ((fl uC []).drop 3) (uD a b) 3 f171 false (.tuple [aB (cA (kJ a b) (1,[])),aB (cw (hM a b) b)]):=
 wy [aa h1,aa h2,aa h3,aa h4,aa h5,aa h6,ah h7,aa (aD (v:=aB (bf (cl (b5 a) (e9 (aA a) (aA b)))))),aa h8,aa (aD (v:=aB (bf (cl (b5 a) (cL (aA a) (aA b)))))),aa (aD (v:=aB b)),aa h9,aa (aD (v:=aB (cA (bf (cl (b5 a) (e9 (aA a) (aA b)))) ((1:Int),[])))),aa (aD (v:=aB (cw (bf (cl (b5 a) (cL (aA a) (aA b)))) b))),ax h10,ax h11,ax h12,ax dZ] 6366022754155619780025161810062091830177921
def ajv (h1:(ay a)=true) (h2:(ay b)=true) (h3:(pX (aA a) (aA b))=true) (h4:(gY (e9 (aA a) (aA b))&&jG (e9 (aA a) (aA b)))=true) (h5:(gY (cL (aA a) (aA b))&&jG (cL (aA a) (aA b)))=true) (h6:(ay (bf (cl (b5 a) (cL (aA a) (aA b)))))=true) (h7:¬gP (bf (cl (b5 a) (cL (aA a) (aA b))))<0) (h8:(bf (cl (b5 a) (e9 (aA a) (aA b)))).1=(kJ a b).1) (h9:(bf (cl (b5 a) (e9 (aA a) (aA b)))).2=(kJ a b).2) (h10:(bf (cl (b5 a) (cL (aA a) (aA b)))).1=(hM a b).1) (h11:(bf (cl (b5 a) (cL (aA a) (aA b)))).2=(hM a b).2):
  bS wB ((fl uC []).drop 3) (uD a b) 2 f171 false (.tuple [aB (kJ a b),aB (hM a b)]):=
 wy [aa h1,aa h2,aa h3,aa h4,aa h5,aa h6,aF h7,aa (aD (v:=aB (bf (cl (b5 a) (e9 (aA a) (aA b)))))),aa (aD (v:=aB (bf (cl (b5 a) (cL (aA a) (aA b)))))),ax h8,ax h9,ax h10,ax h11] 3986500662194803160658049
noncomputable def ei:Int×List Int:=if iF a&&(iF b&& !(a.1== -9223372036854775808))then bf (aj a/aj b)else if aj (hM a b)<0 then cA (kJ a b) (1,[])else kJ a b
noncomputable def l6:Int×List Int:=bf (aj a%aj b)
def pj:Bool:=(ay a&&ay b)&&decide (0<aj b)
end
def GS:=IN 171 [dL,dL] [dL,dL] false (fun d=>pj d.1 d.2.1) fun d=>(ei d.1 d.2.1,(l6 d.1 d.2.1,()))
def Um:bD prog (bF wB):=cN (aQ rf (aQ Tw (aQ Uk (aQ yq (aQ pf (aQ yt dW))))))
def Un {n:Nat} {a b:aC} (h:aZ n a=true) (g:aZ n b=true) (hb:0<aj b):
  0<=ak (aA a)/ak (aA b)/\0<=ak (aA a)%ak (aA b)/\ak (aA a)%ak (aA b)<aj b/\ak (aA b)=aj b/\
  ((0<=aj a/\aj (kJ a b)=aj a/aj b/\aj (hM a b)=aj a%aj b/\¬aj (hM a b)<0)\/
   (aj (hM a b)<0/\aj (kJ a b)-1=aj a/aj b/\aj (hM a b)+aj b=aj a%aj b)\/
   (¬aj (hM a b)<0/\aj (kJ a b)=aj a/aj b/\aj (hM a b)=aj a%aj b)):=by
 obtain⟨_,_,a3,a4,_⟩:=kC h;obtain⟨_,_,b3,b4,_⟩:=kC g;have eb:ak (aA b)=aj b:=by omega
 have q0:0<=ak (aA a)/ak (aA b):=Int.ediv_nonneg (by omega) (by omega);have eo:=ec (ak (aA a)) (show ak (aA b)≠0 by omega);have r1:=eL (ak (aA a)) (show 0<ak (aA b) by omega);have tV:=Int.emod_add_mul_ediv (ak (aA a)) (ak (aA b));have eQ:aj (kJ a b)=cl (b5 a) (e9 (aA a) (aA b)):=val_mk _;have oH:aj (hM a b)=cl (b5 a) (cL (aA a) (aA b)):=val_mk _;have Uo:ak (e9 (aA a) (aA b))=ak (aA a)/ak (aA b):=mn q0;have MN:ak (cL (aA a) (aA b))=ak (aA a)%ak (aA b):=mn eo;refine⟨q0,eo,by omega,eb, ?_⟩;unfold cl at eQ oH;cases hn:b5 a
 .rw [hn]at eQ oH;have eQ:aj (kJ a b)=ak (e9 (aA a) (aA b)):=eQ;have oH:aj (hM a b)=ak (cL (aA a) (aA b)):=oH;have ha:¬aj a<0:=fun hh=>by rw [a4.2 hh]at hn;cases hn
  have ea:ak (aA a)=aj a:=by omega
  refine .inl ⟨by omega,by rw [eQ,Uo,ea,eb],by rw [oH,MN,ea,eb],by rw [oH,MN];omega⟩
 .rw [hn]at eQ oH;have eQ:aj (kJ a b)= -ak (e9 (aA a) (aA b)):=eQ;have oH:aj (hM a b)= -ak (cL (aA a) (aA b)):=oH;have ha:=a4.1 hn;have ea:ak (aA a)= -aj a:=by omega
  rw [Uo]at eQ;rw [MN]at oH;rw [eb]at eQ oH tV r1 eo q0;generalize ak (aA a)/aj b=q at*;generalize ak (aA a)%aj b=r at*;by_cases hr:r=0
  .obtain⟨k1,k2⟩:=yd (U:=aj a) (V:=aj b) (t:= -q) hb (by rw [Int.neg_mul,Int.mul_comm q];omega) (by rw [Int.neg_mul,Int.mul_comm q];omega);rw [Int.neg_mul,Int.mul_comm q]at k2;exact .inr (.inr ⟨by omega,by omega,by omega⟩)
  .have e:(-q-1)*aj b= -(aj b*q)-aj b:=by rw [Int.sub_mul,Int.one_mul,Int.neg_mul,Int.mul_comm q]
   obtain⟨k1,k2⟩:=yd (U:=aj a) (V:=aj b) (t:= -q-1) hb (by rw [e];omega) (by rw [e];omega);rw [e]at k2;exact .inr (.inl ⟨by omega,by omega,by omega⟩)
def A2 {n:Nat} {a b:aC} (h:aZ n a=true) (g:aZ n b=true) (hb:0<aj b):aj (ei a b)=aj a/aj b:=by
 obtain⟨_,_,_,_,hv⟩:=Un h g hb;unfold ei;split
 .exact val_mk _
 .split
  .rename_i hlt;rw [val_sub];have e1:aj (1,[])=1:=rfl;rw [e1];omega
  .omega
def rn (a b:aC):aj (l6 a b)=aj a%aj b:=val_mk _
def Up (x:Int) {y:Int} (hy:0<y):(x/y).natAbs<=x.natAbs:=by
 have h1:=Int.emod_add_mul_ediv x y;have h2:=ec x (show y≠0 by omega);have h3:=eL x hy;by_cases h0:0<=x
 .have h4:0<=x/y:=Int.ediv_nonneg h0 (by omega);have:=ar (show 1<=y by omega) h4;omega
 .have h4:x/y<= -1:=by
   have:x/y<0:=(Int.ediv_lt_iff_lt_mul hy).2 (by omega);omega
  have h5:=eu (show x/y+1<=0 by omega) (show 0<=y-1 by omega);rw [Int.mul_zero]at h5;have e:(y-1)*(x/y+1)=y*(x/y)+y-x/y-1:=by grind
  omega
def pk {n:Nat} {a b:aC} (h:aZ n a=true) (g:aZ n b=true) (hb:0<aj b) (hn:1<=n):aZ n (ei a b)=true:=by
 have hv:=A2 h g hb;have ha:=iY h hn;have hd:=Up (aj a) hb;have hk:∀z:Int,z=aj a/aj b->(z.natAbs:Int)<18446744073709551616^n:=fun z hz=>by subst hz;omega
 unfold ei at hv ⊢;split
 .exact(jJ (hk _ rfl)).1
 .rename_i hc;rw [if_neg hc]at hv;split
  .rename_i hlt;rw [if_pos hlt,val_sub]at hv;exact uq (by rw [nG];exact hk _ (by omega))
  .rename_i hlt;rw [if_neg hlt]at hv;unfold kJ at hv ⊢;rw [val_mk]at hv;exact(jJ (hk _ hv)).1
section
variable {n:Nat} {a b:aC} (g:aZ n b=true) (hb:0<aj b) (hn:1<=n)
def Uq:((aj a%aj b).natAbs:Int)<18446744073709551616^n:=by
 have h1:=ec (aj a) (show aj b≠0 by omega);have h2:=eL (aj a) hb;have h3:=iY g hn;omega
def Ly:aZ n (l6 a b)=true:=(jJ (Uq g hb hn)).1
end
section
variable (a b:aC) (h:ay a=true) (g:ay b=true) (hb:0<aj b)
def MO (hc:¬(iF a&&(iF b&& !(a.1== -9223372036854775808)))=true) (w:World) (F:Sv.Env):
  aW prog w F 84 ((fl uC []).drop 3) (uD a b).T (uD a b).H (hJ prog false f171 (.tuple [aB (ei a b),aB (l6 a b)])):=by
 have hS:=Um;obtain⟨q0,eo,r1,eb,hv⟩:=Un h g hb;obtain⟨a1,a2,a3,a4,a5⟩:=kC h;obtain⟨b1,b2,b3,b4,gF⟩:=kC g;have hD:pX (aA a) (aA b)=true:=by
  unfold pX;have hne:1<=(aA b).length:=by
   cases hl:aA b with
   |nil=>rw [hl]at eb;have:ak []=0:=rfl;omega
   |cons _ _=>simp
  rw [show mU (aA a) (aA b)=true from L3 h g,az hne,az (show(aA a).length<=300000 by omega),az (show(aA b).length<=300000 by omega)];rfl
 have Ur:=yo q0;have Us:=yo eo;have ha:=iY h (by decide);have iA:=iY g (by decide);have auP:ak (aA a)/ak (aA b)<=ak (aA a):=Int.ediv_le_self _ (by omega);have okQ:ay (kJ a b)=true:=by
  refine(jJ ?_).1;rw [rh (b5 a) (w:=e9 (aA a) (aA b)) (qM (b:=18446744073709551616) (by decide) q0).1,show ak (e9 (aA a) (aA b))=_ from mn q0];omega
 have MP:ay (hM a b)=true:=by
  refine(jJ ?_).1;rw [rh (b5 a) (w:=cL (aA a) (aA b)) (qM (b:=18446744073709551616) (by decide) eo).1,show ak (cL (aA a) (aA b))=_ from mn eo];omega
 by_cases hlt:aj (hM a b)<0
 .have e1:ei a b=cA (kJ a b) (1,[]):=by unfold ei;rw [if_neg hc,if_pos hlt]
  have hval:aj (cw (hM a b) b)=aj a%aj b:=by rw [sg];omega
  have e2:cw (hM a b) b=l6 a b:=by
   have ho:ay (cw (hM a b) b)=true:=uq (by rw [<-sg,hval];exact Uq g hb (by decide));have:=Gj ho (by rw [hval];have:=ec (aj a) (show aj b≠0 by omega);omega);rw [hval]at this;exact this
  rw [e1,<-e2];have one:ay ((1:Int),([]:List Int))=true:=rfl;exact bY (s:=uD a b) hS (aju a b h g hD Ur Us MP (by unfold gP;exact Int.lt_of_le_of_lt (Int.le_of_eq (Gk hlt)) (by decide)) (by rw [ae];exact⟨okQ,one⟩) (by rw [ae];exact⟨MP,g⟩) rfl rfl rfl rfl)
 .have e1:ei a b=kJ a b:=by unfold ei;rw [if_neg hc,if_neg hlt]
  have e2:hM a b=l6 a b:=by
   unfold l6;have:aj (hM a b)=aj a%aj b:=by omega
   rw [<-this];unfold hM;rw [val_mk]
  rw [e1,<-e2];exact aW.rX (s:=uD a b) known mixed hS _ (ajv a b h g hD Ur Us MP (by
   show¬jI (aj (hM a b))<0;unfold jI;rw [if_neg hlt];split<;>decide) rfl rfl rfl rfl) fun T H h=>h
def ajw:Holds prog false 171 [aB a,aB b] (.tuple [aB (ei a b),aB (l6 a b)]):=by
 have hS:=Um;refine bL (c:=uC) func171 rfl rfl fun w F=> ?_
 by_cases ha:a.2=[]
 .have L5:=yp h ha;by_cases lK:b.2=[]
  .have hrb:=yp g lK;by_cases hm:a.1= -9223372036854775808
   .refine cR hS 3 (ajt a b (dr.2 ha) (dr.2 lK) hm) (MO a b h g hb (fun hh=> ?_) w F);simp only [ae,Bool.not_eq_true',eB]at hh;exact hh.2.2 hm
   .have Ut:=lX ha;have MQ:=lX lK;rw [MQ]at hb;have hc:(iF a&&(iF b&& !(a.1== -9223372036854775808)))=true:=by
     rw [dr.2 ha,dr.2 lK,eB.2 hm];rfl
    have tV:=Int.tmod_add_mul_tdiv a.1 b.1;have uz:=ec a.1 (show b.1≠0 by omega);have lQ:=eL a.1 hb;have TR:=Int.emod_add_mul_ediv a.1 b.1;have GM:=Up a.1 hb;have ajx:ei a b=(a.1/b.1,[]):=by
     unfold ei;rw [if_pos hc,Ut,MQ];exact eK (by omega)
    have ajy:l6 a b=(a.1%b.1,[]):=by
     unfold l6;rw [Ut,MQ];exact eK (by omega)
    rw [ajx,ajy];by_cases hneg:0<=a.1
    .have e1:a.1.tdiv b.1=a.1/b.1:=Int.tdiv_eq_ediv_of_nonneg hneg;have e2:a.1.tmod b.1=a.1%b.1:=Int.tmod_eq_emod_of_nonneg hneg;have:=aW.ret (P:=prog) (w0:=w) (F:=F) (X:=pI) known mixed hS 3 _ (Ul a b (dr.2 ha) (dr.2 lK) hm (by omega) (by rw [e1];omega) (by rw [e2];omega)) fun T H h=>h
     rw [e1,e2]at this;exact this
    .have e1:a.1.tdiv b.1= -((-a.1)/b.1):=by
      have:=Int.neg_tdiv (a:= -a.1) (b:=b.1);rw [Int.neg_neg]at this;rw [this,Int.tdiv_eq_ediv_of_nonneg (by omega)]
     have n1:=Int.emod_add_mul_ediv (-a.1) b.1;have n2:=ec (-a.1) (show b.1≠0 by omega);have n3:=eL (-a.1) hb;have su:0<=(-a.1)/b.1:=Int.ediv_nonneg (by omega) (by omega);have TT:(-a.1)/b.1<= -a.1:=Int.ediv_le_self _ (by omega);have e2:a.1.tmod b.1= -((-a.1)%b.1):=by
      rw [e1,Int.mul_neg]at tV;omega
     have bW:a.1.tdiv b.1*b.1= -(b.1*(-a.1/b.1)):=by rw [e1,Int.neg_mul,Int.mul_comm]
     by_cases hr:(-a.1)%b.1=0
     .obtain⟨k1,k2⟩:=yd (U:=a.1) (V:=b.1) (t:=a.1.tdiv b.1) hb (by rw [bW];omega) (by rw [bW];omega);have:=aW.ret (P:=prog) (w0:=w) (F:=F) (X:=pI) known mixed hS 3 _ (Ul a b (dr.2 ha) (dr.2 lK) hm (by omega) (by omega) (by omega)) fun T H h=>h
      rw [<-k1,show a.1.tmod b.1=a.1%b.1 by omega]at this;exact this
     .have e3:(a.1.tdiv b.1-1)*b.1= -(b.1*(-a.1/b.1))-b.1:=by rw [Int.sub_mul,Int.one_mul,bW]
      obtain⟨k1,k2⟩:=yd (U:=a.1) (V:=b.1) (t:=a.1.tdiv b.1-1) hb (by rw [e3];omega) (by rw [e3];omega);have:=aW.ret (P:=prog) (w0:=w) (F:=F) (X:=pI) known mixed hS 3 _ (ajq a b (dr.2 ha) (dr.2 lK) hm (by omega) (by omega) (by omega) (by omega) (by omega)) fun T H h=>h
      rw [<-k1,show a.1.tmod b.1+b.1=a.1%b.1 by rw [k2,e3];omega]at this;exact this
  .exact aW.to known mixed hS 3 _ (ajs a b (dr.2 ha) (r8.2 lK)) (by kernel_rfl) (MO a b h g hb (fun hh=>by
    simp only [ae]at hh;exact lK (dr.1 hh.2.1)) w F)
 .exact aW.to known mixed hS 3 _ (ajr a b (r8.2 ha)) (by kernel_rfl) (MO a b h g hb (fun hh=>by
   simp only [ae]at hh;exact ha (dr.1 hh.1)) w F)
end
def A3 {a b:aC}:pj a b=true↔ay a=true/\ay b=true/\0<aj b:=by
 unfold pj;simp only [ae,bE,and_assoc]
def MR:GS.Ok prog:=fun⟨a,b,_⟩ h=>by
 obtain⟨h1,h2,h3⟩:=A3.1 (show pj a b=true from h);exact ajw a b h1 h2 h3
def yG:=k_a f121
def MS:=k_a f148
def va:=k_a f83
def yH:=a7 [TB,we,GS,yl]
abbrev wC:List Nat:=[1,1,0,0,0]
section
variable (a b:aC)
def sH:bI:={n:=23,sl:=[(2, .ptr 64 0),(3, .ptr 65 0),(4, .ptr 66 0)],bH:=[(64,eW a),(65,eW b),(66,b0)],next:=67}
def ajz (h1:(ay a)=true) (h2:(ay b)=true):
  c7 yH (fl yG []) 2 23 [aB a,aB b] 1 .normal s3 (sH (pQ a) (pQ b)):=
 wy [aa (aD (v:=aB a)),aa h1,aa (aD (v:=aB b)),aa h2] 67907713
def ajA (h1:(ay b)=true) (h2:¬gP b=0) (h3:(pj a b)=true):
  bz yH (fl yG wC) (sH a b) 3 .normal s3 (sH b (l6 a b)):=
 wy [aa h1,aa (fA.mpr h2),aa h3,aa (aD (v:=aB b)),aa (aD (v:=aB (l6 a b)))] 5453656193
def ajB (h1:(ay b)=true) (h2:gP b=0):
  bz yH (fl yG wC) (sH a b) 2 (.exit 0) s3 (sH a b):=
 wy [aa h1,aa (ef.mpr h2)] 129
def ajC:
  bS yH ((fl yG []).drop 3) (sH a b) 1 f121 false (aB a):=
 wy [] 0
def ajD (h1:(ay b)=true) (h2:gP b<0) (h3:(ay a)=true) (h4:(pj (e8 a) (e8 b))=true):
  aV yH (fl MS []) 9 21 [aB a,aB b] 3 f148 false (aB (ei (e8 a) (e8 b))):=
 wy [aa h1,ah h2,aa (aD (v:=aB a)),aa h3,aa (aD (v:=aB b)),aa h4] 26462452199553
def ajE (h1:(ay b)=true) (h2:¬gP b<0) (h3:(pj a b)=true):
  aV yH (fl MS []) 9 21 [aB a,aB b] 2 f148 false (aB (ei a b)):=
 wy [aa h1,aF h2,aa h3] 12417
def eJ:Int×List Int:=bf (Int.gcd (aj a) (aj b))
noncomputable def fH:Int×List Int:=if aj b<0 then ei (e8 a) (e8 b)else ei a b
def fI:Bool:=(ay a&&ay b)&& !(aj b==0)
end
def GU:=IN 121 [dL,dL] [dL] false (fun d=>ay d.1&&ay d.2.1) fun d=>(eJ d.1 d.2.1,())
def GV:=IN 148 [dL,dL] [dL] false (fun d=>fI d.1 d.2.1) fun d=>(fH d.1 d.2.1,())
def Uu:bD prog (bF yH):=cN (aQ agM (aQ yq (aQ MR (aQ AH dW))))
def Uv {a:aC}:gP a=0↔aj a=0:=by
 unfold gP jI;split
 .constructor
  .intro h;exact absurd h (by decide)
  .intro h;omega
 .split
  .simp [*]
  .constructor
   .intro h;exact absurd h (by decide)
   .intro h;omega
def GW {a:aC}:gP a<0↔aj a<0:=by
 unfold gP jI;split
 .simp [*]
 .split
  .simp [*]
  .constructor
   .intro h;exact absurd h (by decide)
   .intro h;omega
def Uw {a:aC} (h:ay a=true):ay (pQ a)=true:=by
 have:=iY h (by decide);exact(jJ (by rw [Int.natAbs_natCast];exact this)).1
def BT {x y:Int} (hx:0<=x) (hy:0<y):Int.gcd y (x%y)=Int.gcd x y:=by
 obtain⟨m,rfl⟩:∃m:Nat,x=(m:Int):=⟨x.toNat,by omega⟩;obtain⟨n,rfl⟩:∃n:Nat,y=(n:Int):=⟨y.toNat,by omega⟩;rw [<-Int.natCast_emod];show Nat.gcd n (m%n)=Nat.gcd m n;rw [Nat.gcd_comm n,<-Nat.gcd_rec,Nat.gcd_comm]
def ajF (a b:aC) (h:ay a=true) (g:ay b=true):Holds prog false 121 [aB a,aB b] (aB (eJ a b)):=by
 have hS:=Uu;refine bL (c:=yG) func121 rfl rfl fun w F=> ?_
 refine cR hS 2 (ajz a b h g) ?_;refine aW.loop (ι:={x:aC×aC//ay x.1=true/\ay x.2=true/\0<=aj x.1/\0<=aj x.2/\Int.gcd (aj x.1) (aj x.2)=Int.gcd (aj a) (aj b)}) (id:=0) (b:=cat yG wC) (rest:=(fl yG []).drop 3) (by kernel_rfl) (fun x=>sH x.1.1 x.1.2) (fun x=>(aj x.1.2).natAbs)
  ⟨(pQ a,pQ b),Uw h,Uw g,by rw [Gu];omega,by rw [Gu];omega,by rw [Gu,Gu];rfl⟩ (fun _=>rfl) ?_
 rintro⟨⟨x,y⟩,hx,hy,hx0,hy0,hg⟩;have hx:ay x=true:=hx;have hy:ay y=true:=hy;have hx0:0<=aj x:=hx0;have hy0:0<=aj y:=hy0;have hg:Int.gcd (aj x) (aj y)=Int.gcd (aj a) (aj b):=hg;by_cases hz:aj y=0
 .refine bC (s:=sH x y) hS (ajB x y hy (Uv.2 hz)) ?_;refine cI (cQ ?_);have e:x=eJ a b:=by
   have h1:=Gj hx (by omega);unfold eJ;rw [<-hg,hz];have:((Int.gcd (aj x) 0:Nat):Int)=aj x:=by
    show((Nat.gcd (aj x).natAbs 0:Nat):Int)=_;rw [Nat.gcd_zero_right];omega
   rw [this];exact h1
  rw [<-e];exact bY (s:=sH x y) hS (ajC x y)
 .have hyp:0<aj y:=by omega
  have hm0:=ec (aj x) hz;have pR:=eL (aj x) hyp;refine bC (s:=sH x y) hS (ajA x y hy (fun hh=>hz (Uv.1 hh)) (A3.2 ⟨hx,hy,hyp⟩)) ?_;refine⟨⟨(y,l6 x y),hy,Ly hy hyp (by decide),hy0,by show 0<=aj (l6 x y);rw [rn];exact hm0, ?_⟩, ?_,rfl,rfl⟩
  .show Int.gcd (aj y) (aj (l6 x y))=_;rw [rn,BT hx0 hyp,hg]
  .show(aj (l6 x y)).natAbs<(aj y).natAbs;rw [rn];omega
def zp:GU.Ok prog:=fun⟨a,b,_⟩ h=>by
 have h:(ay a&&ay b)=true:=h;rw [ae]at h;exact ajF a b h.1 h.2
def ajG (a b:aC) (h:ay a=true) (g:ay b=true) (hb:aj b≠0):Holds prog false 148 [aB a,aB b] (aB (fH a b)):=by
 have hS:=Uu;refine bL (c:=MS) func148 rfl rfl fun w F=> ?_
 by_cases hn:aj b<0
 .have e:fH a b=ei (e8 a) (e8 b):=by unfold fH;rw [if_pos hn]
  rw [e];exact aY hS 9 (ajD a b g (GW.2 hn) h (A3.2 ⟨oC h (by decide),oC g (by decide),by show 0<aj (e8 b);rw [nG];omega⟩))
 .have e:fH a b=ei a b:=by unfold fH;rw [if_neg hn]
  rw [e];exact aY hS 9 (ajE a b g (fun hh=>hn (GW.1 hh)) (A3.2 ⟨h,g,by show 0<aj b;omega⟩))
def yI {a b:aC}:fI a b=true↔ay a=true/\ay b=true/\aj b≠0:=by
 unfold fI;simp only [ae,Bool.not_eq_true',eB,and_assoc]
def MT:GV.Ok prog:=fun⟨a,b,_⟩ h=>by
 obtain⟨h1,h2,h3⟩:=yI.1 (show fI a b=true from h);exact ajG a b h1 h2 h3
section
variable {n:Nat} {a b:aC} (h:aZ n a=true) (g:aZ n b=true)
def Ux (hn:1<=n) (hb:aj b≠0) {c:Int} (hc:aj a=aj b*c):aj (fH a b)=c:=by
 unfold fH;split
 .rw [A2 (oC h hn) (oC g hn) (by rw [nG];omega),nG,nG,hc,<-Int.neg_mul];exact Int.mul_ediv_cancel_left _ (by omega)
 .rw [A2 h g (by omega),hc];exact Int.mul_ediv_cancel_left _ hb
def zr (hn:1<=n) (hb:aj b≠0):aZ n (fH a b)=true:=by
 unfold fH;split
 .exact pk (oC h hn) (oC g hn) (by rw [nG];omega) hn
 .exact pk h g (by omega) hn
end
def Uy:=k_a f130
def Uz:=k_a f69
def GX:=k_a f68
def GY:=k_a f97
def yJ:=k_a f76
def oI:=ov [C3,Tq] (a7 [LC,Tr,LP,MI])
def vZ (a:Bool×List Int):Int:=bp a.1 (ag a.2)
def okZ (a:Bool×List Int):Bool:=okA a.2&&(!a.1|| !(Nat.beq a.2.length 0))
def ajH (n:Bool) (x:List Int) (h1:(okB x)=true):
  aV oI (fl Uy []) 9 9 [rv (n,x)] 1 f130 false (rv (mkR (bp (!n) (ag x)))):=
 wy [aa h1] 1
section
variable (n m:Bool) (x y:List Int)
def ajI (h1:(okB x&&okB y)=true) (h2:(okB (aH (ag x*ag y)))=true):
  aV oI (fl Uz []) 9 16 [rv (n,x),rv (m,y)] 1 f69 false (rv (mkR (bp (!(n==m)) (ag (aH (ag x*ag y)))))):=
 wy [aa (aD (v:=af.raw (Value.bool n))),aa (aD (v:=af.raw (Value.bool m))),aa (aD (v:=af.bu false (.int .i64) x)),aa (aD (v:=af.bu false (.int .i64) y)),aa h1,aa h2] 18603807693877377
def ajJ (h1:n=m) (h2:(r7 x y)=true) (h3:(okB (aH (ag x+ag y)))=true):
  aV oI (fl GX []) 3 40 [rv (n,x),rv (m,y)] 3 f68 false (rv (mkR (bp n (ag (aH (ag x+ag y)))))):=
 wy [cM h1,aa (aD (v:=af.raw (Value.bool n))),aa (aD (v:=af.bu false (.int .i64) x)),aa (aD (v:=af.bu false (.int .i64) y)),aa h2,aa h3] 414549291137
def ajK (h1:¬n=m) (h2:(okA x&&okA y)=true) (h3:md (ag x) (ag y)>=0) (h4:(r7 x y&&decide (ag y<=ag x))=true) (h5:(okB (aH (ag x-ag y)))=true):
  aV oI (fl GX []) 5 40 [rv (n,x),rv (m,y)] 6 f68 false (rv (mkR (bp n (ag (aH (ag x-ag y)))))):=
 wy [yn h1,aa h2,ah h3,aa (aD (v:=af.raw (Value.bool n))),aa (aD (v:=af.bu false (.int .i64) x)),aa (aD (v:=af.bu false (.int .i64) y)),aa h4,aa h5] 2269879563464833
def ajL (h1:¬n=m) (h2:(okA x&&okA y)=true) (h3:¬md (ag x) (ag y)>=0) (h4:(r7 y x&&decide (ag x<=ag y))=true) (h5:(okB (aH (ag y-ag x)))=true):
  aV oI (fl GX []) 9 40 [rv (n,x),rv (m,y)] 4 f68 false (rv (mkR (bp m (ag (aH (ag y-ag x)))))):=
 wy [yn h1,aa h2,aF h3,aa (aD (v:=af.raw (Value.bool m))),aa (aD (v:=af.bu false (.int .i64) y)),aa (aD (v:=af.bu false (.int .i64) x)),aa h4,aa h5] 2269879563464833
end
section
variable (x y:List Int) (h1:(okA x&&(okA y&&decide (0<ag y)))=true)
def ajM (h2:(↑(aH (ag x%ag y)).length:Int)>0) (h3:(r7 (aH (ag x/ag y)) [1])=true) (h4:(okB (aH (ag (aH (ag x/ag y))+ag [1])))=true):
  aV oI (fl GY []) 9 29 [rv (true,x),rv (false,y)] 63 f97 false (rv (mkR (bp true (ag (aH (ag (aH (ag x/ag y))+ag [1])))))):=
 wy [aa h1,ah h2,aa (show(Nat.ble ((0:Nat)+(1:Nat)*(1:Nat)) (iv (1:Int)::List.append._f [] PUnit.unit (List.flatten._f [] PUnit.unit)).length)=true from(by simp only [aw]<;>exact rfl)),aa h3,aa h4] 1425175375511553
def ajN (h2:¬(↑(aH (ag x%ag y)).length:Int)>0) (h3:(okB (aH (ag x/ag y)))=true):
  aV oI (fl GY []) 9 29 [rv (true,x),rv (false,y)] 47 f97 false (rv (mkR (bp true (ag (aH (ag x/ag y)))))):=
 wy [aa h1,aF h2,aa h3] 208305913857
def ajO (h2:(okB (aH (ag x/ag y)))=true):
  aV oI (fl GY []) 9 29 [rv (false,x),rv (false,y)] 32 f97 false (rv (mkR (bp false (ag (aH (ag x/ag y)))))):=
 wy [aa h1,aa h2] 137438953473
end
def sI (a b:List Int):bI:={n:=19,sl:=[(0,lv a),(1,lv b)],bH:=[],next:=64}
abbrev MU:List Nat:=[1,0,0,0]
section
variable (a b:List Int)
def ajP:
  c7 oI (fl yJ []) 1 19 [lv a,lv b] 1 .normal [] (sI a b):=
 wy [] 0
def co_go (h1:(b.length:Int)>0) (h2:(okA a&&(okA b&&decide (0<ag b)))=true):
  bz oI (fl yJ MU) (sI a b) 3 .normal [] (sI b (aH (ag a%ag b))):=
 wy [ah h1,aa h2] 129
def TO (h1:¬(b.length:Int)>0):
  bz oI (fl yJ MU) (sI a b) 2 (.exit 0) [] (sI a b):=
 wy [aF h1] 1
def ajQ:
  bS oI ((fl yJ []).drop 2) (sI a b) 1 f76 false (lv a):=
 wy [] 0
end
def UA:=IN 130 [j8] [j8] false (fun d=>okZ d.1) fun d=>(mkR (-vZ d.1),())
def UB:=IN 69 [j8,j8] [j8] false (fun d=>okZ d.1&&okZ d.2.1) fun d=>(mkR (vZ d.1*vZ d.2.1),())
def UC:=IN 68 [j8,j8] [j8] false (fun d=>okZ d.1&&okZ d.2.1) fun d=>(mkR (vZ d.1+vZ d.2.1),())
def UD:=IN 97 [j8,j8] [j8] false (fun d=>okZ d.1&&(okZ d.2.1&&decide (0<vZ d.2.1))) fun d=>(mkR (vZ d.1/vZ d.2.1),())
def MV:=IN 76 [.list false (.int .i64), .list false (.int .i64)] [.list false (.int .i64)] false (fun d=>okA d.1&&okA d.2.1) fun d=>(aH (Int.gcd (ag d.1) (ag d.2.1)),())
def uE:bD prog (bF oI):=uj (fun c hc=>by
 simp only [ew,jU,or_false]at hc;rcases hc with rfl |rfl
 .exact F2
 .exact afY) (cN fun c hc=>by
 simp only [ew,jU,or_false]at hc;rcases hc with rfl |rfl |rfl |rfl
 .exact S9
 .exact af0
 .exact Ts
 .exact Uh)
def nK {a:Bool×List Int}:okZ a=true↔okA a.2=true/\(a.1=true->0<ag a.2):=by
 unfold okZ;rw [ae];constructor
 .rintro⟨h1,h2⟩;refine⟨h1,fun h=> ?_⟩;rw [h,Bool.not_true,Bool.false_or,Bool.not_eq_true']at h2;obtain⟨hd,ht,_⟩:=fD.1 h1;have h0:=gN hd;have hz:=FU k4 hd ht;rcases Int.lt_or_le 0 (ag a.2)with h3|h3
  .exact h3
  .have:a.2=[]:=hz.1 (by unfold ag at*;omega);rw [this]at h2;cases h2
 .rintro⟨h1,h2⟩;refine⟨h1, ?_⟩;cases hn:a.1 with
  |false=>rfl
  |true=>
   have:=h2 hn;rw [Bool.not_true,Bool.false_or,Bool.not_eq_true'];cases hb:Nat.beq a.2.length 0 with
   |false=>rfl
   |true=>
    rw [List.eq_nil_of_length_eq_zero (ac hb)]at this;exact absurd this (by decide)
def dw (z:Int):vZ (mkR z)=z:=by
 show bp (decide (z<0)) (ag (aH (z.natAbs:Int)))=z;rw [(gI (Int.natCast_nonneg _)).2.2];by_cases h:z<0
 .rw [az h];show-(z.natAbs:Int)=z;omega
 .rw [ab h];show(z.natAbs:Int)=z;omega
section
variable {z:Int} {k:Nat} (h:0<=z) (hk:z<1000000000^k)
def zt:(aH z).length<=k:=yj k4 h hk
def mr (hb:k<=300000):okB (aH z)=true:=ow.2 ⟨(gI h).1,dc (zt h hk) hb⟩
def vf (hb:k<=100000):okA (aH z)=true:=fD.2 ⟨(gI h).1,(gI h).2.1,dc (zt h hk) hb⟩
end
def iq {z:Int} {k:Nat} (hk:(z.natAbs:Int)<1000000000^k) (hb:k<=100000):okZ (mkR z)=true:=by
 refine nK.2 ⟨vf (Int.natCast_nonneg _) hk hb,fun h=> ?_⟩;have h:decide (z<0)=true:=h;have h:=ap h;show 0<ag (aH (z.natAbs:Int));rw [(gI (Int.natCast_nonneg _)).2.2];omega
def MW {x:List Int} (h:okA x=true):okB x=true:=by
 obtain⟨h1,_,h2⟩:=fD.1 h;exact ow.2 ⟨h1,by omega⟩
def pl {x:List Int} (h:okA x=true):ag x<1000000000^x.length:=dC (by decide) (fD.1 h).1
def add_lt {x y:Int} {i j:Nat} (hx:x<1000000000^i) (hy:y<1000000000^j):x+y<1000000000^(max i j+1):=by
 have h1:=iW (b:=1000000000) (by decide) (show i<=max i j by omega);have h2:=iW (b:=1000000000) (by decide) (show j<=max i j by omega);have h3:=dK (b:=1000000000) (by decide) (max i j);rw [Int.pow_succ];omega
def UE {x y:Int} {i j:Nat} (hx0:0<=x) (hy0:0<=y) (hx:x<1000000000^i) (hy:y<1000000000^j):x*y<1000000000^(i+j):=by
 rw [Int.pow_add];have h1:x*y<=x*1000000000^j:=eu (ct hy) hx0;have h2:x*1000000000^j<1000000000^i*1000000000^j:=Int.mul_lt_mul_of_pos_right hx (dK (by decide) j);omega
def ajR:UA.Ok prog:=fun⟨⟨n,x⟩,_⟩ h=>by
 obtain⟨h1,h2⟩:=nK.1 h;show Holds prog false 130 [rv (n,x)] (rv (mkR (-(bp n (ag x)))));have e: -(bp n (ag x))=bp (!n) (ag x):=by cases n<;>simp [bp]
 rw [e];refine bL (c:=Uy) func130 rfl rfl fun w F=> ?_
 exact aY uE 9 (ajH n x (MW h1))
def ajS:UB.Ok prog:=fun⟨⟨n,x⟩,⟨m,y⟩,_⟩ h=>by
 have h:(okZ (n,x)&&okZ (m,y))=true:=h;rw [ae]at h;obtain⟨h1,h2⟩:=nK.1 h.1;obtain⟨g1,g2⟩:=nK.1 h.2;have l1:=(fD.1 h1).2.2;have l2:=(fD.1 g1).2.2;have hx0:=gN (fD.1 h1).1;have hy0:=gN (fD.1 g1).1;have hp:0<=ag x*ag y:=Int.mul_nonneg hx0 hy0;show Holds prog false 69 [rv (n,x),rv (m,y)] (rv (mkR (bp n (ag x)*bp m (ag y))));have e:bp n (ag x)*bp m (ag y)=bp (!(n==m)) (ag (aH (ag x*ag y))):=by
  rw [(gI hp).2.2];cases n<;>cases m
  .rfl
  .exact Int.mul_neg _ _
  .exact Int.neg_mul _ _
  .exact Int.neg_mul_neg _ _
 rw [e];refine bL (c:=Uz) func69 rfl rfl fun w F=> ?_
 have hb:okB (aH (ag x*ag y))=true:=mr hp (UE hx0 hy0 (pl h1) (pl g1)) (by have l1:x.length<=100000:=l1;have l2:y.length<=100000:=l2;omega);exact aY uE 9 (ajI n m x y (by rw [MW h1,MW g1];rfl) hb)
def LE {x y:Int}:md x y>=0↔y<=x:=by
 have:= @MH x y;omega
def ajT:UC.Ok prog:=fun⟨⟨n,x⟩,⟨m,y⟩,_⟩ h=>by
 have h:(okZ (n,x)&&okZ (m,y))=true:=h;rw [ae]at h;obtain⟨h1,h2⟩:=nK.1 h.1;obtain⟨g1,g2⟩:=nK.1 h.2;have h1:okA x=true:=h1;have g1:okA y=true:=g1;have l1:=(fD.1 h1).2.2;have l2:=(fD.1 g1).2.2;have hx0:=gN (fD.1 h1).1;have hy0:=gN (fD.1 g1).1;have hx1:=pl h1;have hy1:=pl g1;show Holds prog false 68 [rv (n,x),rv (m,y)] (rv (mkR (bp n (ag x)+bp m (ag y))));refine bL (c:=GX) func68 rfl rfl fun w F=> ?_
 by_cases hnm:n=m
 .have e:bp n (ag x)+bp m (ag y)=bp n (ag (aH (ag x+ag y))):=by
   rw [(gI (by omega)).2.2,<-hnm];cases n<;>simp only [bp]<;>omega
  rw [e];exact aY uE 3 (ajJ n m x y hnm (Db.2 ⟨h1,g1⟩) (mr (by omega) (add_lt hx1 hy1) (by omega)))
 .by_cases hle:ag y<=ag x
  .have e:bp n (ag x)+bp m (ag y)=bp n (ag (aH (ag x-ag y))):=by
    rw [(gI (by omega)).2.2];cases n<;>cases m<;>first |exact absurd rfl hnm|(simp only [bp];omega)
   rw [e];exact aY uE 5 (ajK n m x y hnm (by rw [h1,g1];rfl) (LE.2 hle) (by rw [Db.2 ⟨h1,g1⟩,az hle];rfl) (mr (k:=x.length) (by omega) (by omega) (by omega)))
  .have e:bp n (ag x)+bp m (ag y)=bp m (ag (aH (ag y-ag x))):=by
    rw [(gI (by omega)).2.2];cases n<;>cases m<;>first |exact absurd rfl hnm|(simp only [bp];omega)
   rw [e];exact aY uE 9 (ajL n m x y hnm (by rw [h1,g1];rfl) (fun h=>hle (LE.1 h)) (by rw [Db.2 ⟨g1,h1⟩,az (show ag x<=ag y by omega)];rfl) (mr (k:=y.length) (by omega) (by omega) (by omega)))
def ajU (a b:List Int) (h:okA a=true) (g:okA b=true):Holds prog false 76 [lv a,lv b] (lv (aH (Int.gcd (ag a) (ag b)))):=by
 have hS:=uE;refine bL (c:=yJ) func76 rfl rfl fun w F=> ?_
 refine cR hS 1 (ajP a b) ?_;refine aW.loop (ι:={x:List Int×List Int//okA x.1=true/\okA x.2=true/\Int.gcd (ag x.1) (ag x.2)=Int.gcd (ag a) (ag b)}) (id:=0) (b:=cat yJ MU) (rest:=(fl yJ []).drop 2) (by kernel_rfl) (fun x=>sI x.1.1 x.1.2) (fun x=>(ag x.1.2).natAbs) ⟨(a,b),h,g,rfl⟩ (fun _=>rfl) ?_;rintro⟨⟨x,y⟩,hx,hy,hg⟩;have hx:okA x=true:=hx;have hy:okA y=true:=hy;have hg:Int.gcd (ag x) (ag y)=Int.gcd (ag a) (ag b):=hg;obtain⟨yK,tx,lx⟩:=fD.1 hx;obtain⟨uF,ty,ly⟩:=fD.1 hy;have hx0:=gN yK;have hy0:=gN uF;have hz:ag y=0↔y=[]:=FU k4 uF ty;by_cases hlt:0<y.length
 .have hyp:0<ag y:=by
   rcases Int.lt_or_le 0 (ag y)with h|h
   .exact h
   .rw [hz.1 (by omega)]at hlt;cases hlt
  have hm0:=ec (ag x) (show ag y≠0 by omega);have pR:=eL (ag x) hyp;have hk:=pl hy;have ev:ag (aH (ag x%ag y))=ag x%ag y:=(gI hm0).2.2;refine bC (s:=sI x y) hS (co_go x y (by omega) (by rw [hx,hy,az hyp];rfl)) ?_;refine⟨⟨(y,aH (ag x%ag y)),hy,vf (k:=y.length) hm0 (by omega) ly, ?_⟩, ?_,rfl,rfl⟩
  .show Int.gcd (ag y) (ag (aH (ag x%ag y)))=_;rw [ev,BT hx0 hyp,hg]
  .show(ag (aH (ag x%ag y))).natAbs<(ag y).natAbs;rw [ev];omega
 .refine bC (s:=sI x y) hS (TO x y (by omega)) ?_;refine cI (cQ ?_);have hy2:y=[]:=List.eq_nil_of_length_eq_zero (by omega);have e:aH ((Int.gcd (ag a) (ag b):Nat):Int)=x:=by
   rw [<-hg,hz.2 hy2,Int.gcd_zero_right,Int.natAbs_of_nonneg hx0];exact F1 yK tx
  rw [e];exact bY (s:=sI x y) hS (ajQ x y)
def FSz:MV.Ok prog:=fun⟨a,b,_⟩ h=>by
 have h:(okA a&&okA b)=true:=h;rw [ae]at h;exact ajU a b h.1 h.2
def yL:=k_a f98
section
variable (a b:Int)
def sJ:bI:={n:=12,sl:=[(0,iv a),(1,iv b)],bH:=[],next:=64}
def ajV:
  c7 (a7 []) (fl yL []) 1 12 [iv a,iv b] 1 .normal [] (sJ a b):=
 wy [] 0
def ajW (h1:b>0) (h2:b≠0):
  bz (a7 []) (fl yL [1,0,0,0]) (sJ a b) 3 .normal [] (sJ b (Int.tmod a b)):=
 wy [ah h1,ah h2] 129
def ajX (h1:¬b>0):
  bz (a7 []) (fl yL [1,0,0,0]) (sJ a b) 2 (.exit 0) [] (sJ a b):=
 wy [aF h1] 1
def ajY:
  bS (a7 []) ((fl yL []).drop 2) (sJ a b) 1 f98 true (iv a):=
 wy [] 0
end
def ajZ {x y:Int} (hx:0<=x) (hy:0<=y):Int.gcd y (x%y)=Int.gcd x y:=by
 obtain⟨m,rfl⟩:=Int.eq_ofNat_of_zero_le hx;obtain⟨n,rfl⟩:=Int.eq_ofNat_of_zero_le hy;rw [<-Int.natCast_emod];show Nat.gcd n (m%n)=Nat.gcd m n;rw [Nat.gcd_comm n,<-Nat.gcd_rec,Nat.gcd_comm]
def aj0 (a b:Int) (ha:0<=a) (hb:0<=b):Holds prog true 98 [iv a,iv b] (iv (Int.gcd a b)):=by
 have hS:=cC;obtain⟨g,hg⟩:∃g:Int,(Int.gcd a b:Int)=g:=⟨_,rfl⟩;rw [hg];refine bL (c:=yL) func98 rfl rfl fun w F=> ?_
 refine cR hS 1 (ajV a b) ?_;refine aW.loop (ι:={p:Int×Int//0<=p.1/\0<=p.2/\(Int.gcd p.1 p.2:Int)=g}) (id:=0) (b:=cat yL [1,0,0,0]) (rest:=(fl yL []).drop 2) (by kernel_rfl) (fun p=>sJ p.1.1 p.1.2) (fun p=>p.1.2.toNat) ⟨(a,b),ha,hb,hg⟩ (fun _=>rfl) ?_;rintro⟨⟨x,y⟩,hx,hy,hxy⟩;have hx:0<=x:=hx;have hy:0<=y:=hy;have hxy:(Int.gcd x y:Int)=g:=hxy;by_cases h0:y>0
 .have hm:=eL x h0;have hm2:=ec x (show y≠0 by omega);have e:Int.tmod x y=x%y:=Int.tmod_eq_emod_of_nonneg hx;refine bC (s:=sJ x y) hS (ajW x y h0 (by omega)) ?_;refine⟨⟨(y,Int.tmod x y),hy,by show 0<=Int.tmod x y;omega, ?_⟩, ?_,rfl,rfl⟩
  .show(Int.gcd y (Int.tmod x y):Int)=g;rw [e,<-hxy,ajZ hx hy]
  .show(Int.tmod x y).toNat<y.toNat;omega
 .obtain rfl:y=0:=by omega
  refine bC (s:=sJ x 0) hS (ajX x 0 h0) ?_;refine cI (cQ ?_);have e:x=g:=by rw [<-hxy,Int.gcd_zero_right];omega
  exact aW.rX (s:=sJ x 0) known mixed hS _ (ajY x 0) fun T H h=>e ▸ h
def MX:=IN 98 [.int .i64, .int .i64] [.int .i64] true (fun d=>decide (0<=d.1)&&decide (0<=d.2.1)) fun d=>((Int.gcd d.1 d.2.1:Int),())
def UF:MX.Ok prog:=fun⟨a,b,_⟩ h=>by
 have h:(decide (0<=a)&&decide (0<=b))=true:=h;rw [ae,bE,bE]at h;exact aj0 a b h.1 h.2
def wD:=k_a f74
def yM:=k_a f129
section
variable (s:AT)
def pY (k:Nat):bI:={n:=17,sl:=[(0,sv s),(3,iv k)],bH:=[],next:=64}
def wi (n:Int) (k:Nat):bI:={n:=20,sl:=[(0,sv s),(3,iv n),(4,iv k)],bH:=[],next:=64}
abbrev aq:List UInt8:=s.data.toList
abbrev ck (k:Nat):UInt8:=(aq s).getD k 0
def aj1:
  c7 (a7 []) (fl wD []) 2 17 [sv s] 1 .normal [] (pY s 0):=
 wy [] 0
def aj2 (k:Nat) (h1:(k:Int)<(s.size:Int)) (h2:k<s.size) (h3:(↑(UInt8.toNat (s.data.toList.getD k (0:UInt8))):Int)=47):
  bS (a7 []) (fl wD [1,0,1,0,0]) (pY s k) 7 f74 true (iv k):=
 wy [ah h1,ah h2,cM h3] 794625
def aj3 (k:Nat) (h1:(k:Int)<(s.size:Int)) (h2:k<s.size) (h3:¬(↑(UInt8.toNat (s.data.toList.getD k (0:UInt8))):Int)=47) (h4:i6 ((k:Int)+1)):
  bz (a7 []) (fl wD [1,0,1,0,0]) (pY s k) 5 .normal [] (pY s (k+1)):=
 wy [ah h1,ah h2,yn h3,yi h4] 67903489
def aj4 (k:Nat) (h1:¬(k:Int)<(s.size:Int)):
  bz (a7 []) (fl wD [1,0,1,0,0]) (pY s k) 2 (.exit 0) [] (pY s k):=
 wy [aF h1] 1
def aj5 (k:Nat):
  bS (a7 []) ((fl wD []).drop 3) (pY s k) 1 f74 true (iv s.size):=
 wy [] 0
def aj6:
  c7 (a7 []) (fl yM []) 3 20 [sv s] 1 .normal [] (wi s 0 0):=
 wy [] 0
def aj7 (n:Int) (k:Nat) (h1:(k:Int)<(s.size:Int)) (h2:i6 (10*n)) (h3:k<s.size) (h4:i6 (10*n+IntKind.wrap IntKind.i64 (↑(UInt8.toNat (s.data.toList.getD k (0:UInt8))):Int))) (h5:i6 (10*n+IntKind.wrap IntKind.i64 (↑(UInt8.toNat (s.data.toList.getD k (0:UInt8))):Int)-48)) (h6:i6 ((k:Int)+1)):
  bz (a7 []) (fl yM [1,1,0,1,0,0]) (wi s n k) 3 .normal [] (wi s (10*n+IntKind.i64.wrap (ck s k).toNat-48) (k+1)):=
 wy [ah h1,yi h2,ah h3,yi h4,yi h5,yi h6] 417753464961
def aj8 (n:Int) (k:Nat) (h1:¬(k:Int)<(s.size:Int)):
  bz (a7 []) (fl yM [1,1,0,1,0,0]) (wi s n k) 2 (.exit 0) [] (wi s n k):=
 wy [aF h1] 1
def aj9 (n:Int) (k:Nat):
  bS (a7 []) ((fl yM []).drop 4) (wi s n k) 1 f129 true (iv n):=
 wy [] 0
end
def bl:List UInt8->Nat
 |[]=>0
 |b::r=>if b.toNat=47 then 0 else bl r+1
def c6 (s:AT):s.size=(aq s).length:=by cases s;rfl
section
variable {l:List UInt8} {k:Nat} (h:k<l.length)
def UG:l.getD k 0=l[k]:=by simp [ao,h]
def GZ:l.take (k+1)=l.take k++[l.getD k 0]:=by rw [UG h];simp
end
def yN {s:AT} {k:Nat} (h:k<(aq s).length):ck s k=(aq s)[k]:=UG h
def aka (s:AT) (hl:s.size<=1000000000):Holds prog true 74 [sv s] (iv (bl (aq s))):=by
 have hS:=cC;have hz:=c6 s;obtain⟨r,hr⟩:∃r,bl (aq s)=r:=⟨_,rfl⟩;rw [hr];refine bL (c:=wD) func74 rfl rfl fun w F=> ?_
 refine cR hS 2 (aj1 s) ?_;refine aW.loop (ι:={k:Nat//k<=s.size/\bl ((aq s).drop k)+k=r}) (id:=0) (b:=cat wD [1,0,1,0,0]) (rest:=(fl wD []).drop 3) (by kernel_rfl) (fun k=>pY s k.1) (fun k=>s.size-k.1) ⟨0,Nat.zero_le _,hr⟩ (fun _=>rfl) ?_;rintro⟨k,hk,hx⟩;have hx:bl ((aq s).drop k)+k=r:=hx;by_cases hlt:k<s.size
 .have hlt2:k<(aq s).length:=by omega
  rw [List.drop_eq_getElem_cons hlt2,bl,<-yN hlt2]at hx;by_cases c:(ck s k).toNat=47
  .rw [if_pos c,aw]at hx;exact aW.rX (s:=pY s k) known mixed hS _ (aj2 s k (by omega) (by omega) (by show((ck s k).toNat:Int)=47;omega)) fun T H h=>hx ▸ h
  .rw [if_neg c]at hx;refine bC (s:=pY s k) hS (aj3 s k (by omega) (by omega) (by show¬((ck s k).toNat:Int)=47;omega) (by omega)) ?_;exact⟨⟨k+1,hlt,by omega⟩,by simp;omega,rfl,rfl⟩
 .refine bC (s:=pY s k) hS (aj4 s k (by omega)) ?_;refine cI (cQ ?_);obtain rfl:k=s.size:=by omega
  rw [List.drop_eq_nil_of_le (by omega),bl,aw]at hx;exact aW.rX (s:=pY s s.size) known mixed hS _ (aj5 s _) fun T H h=>hx ▸ h
def bt:List UInt8->Int
 |l=>l.foldl (fun n b=>10*n+((b.toNat:Int)-48)) 0
def b6 (l:List UInt8):Bool:=l.all fun b=>decide (48<=b.toNat)&&decide (b.toNat<=57)
def rp {s:AT} {k:Nat} (h:k<(aq s).length):bt ((aq s).take (k+1))=10*bt ((aq s).take k)+(((ck s k).toNat:Int)-48):=by
 rw [GZ h];unfold bt;rw [List.foldl_append];rfl
def A4 {s:AT} (hd:b6 (aq s)=true):∀k,k<=(aq s).length->0<=bt ((aq s).take k)/\bt ((aq s).take k)<10^k
 |0,_=>by rw [List.take_zero];decide
 |k+1,h=>by
  have ih:=A4 hd k (by omega);have hb:=List.all_eq_true.1 hd (ck s k) (by rw [yN (by omega)];exact List.getElem_mem _);rw [ae,bE,bE]at hb;rw [rp (by omega),Int.pow_succ];omega
def UH {k:Nat} (h:k<=18):(10:Int)^k<=1000000000000000000:=by
 have:(10:Nat)^k<=10^18:=Nat.pow_le_pow_right (by decide) h;have h2:((10^k:Nat):Int)<=((10^18:Nat):Int):=Int.ofNat_le.2 this;simpa using h2
def akb (s:AT) (hl:s.size<=17) (hd:b6 (aq s)=true):Holds prog true 129 [sv s] (iv (bt (aq s))):=by
 have hS:=cC;have hz:=c6 s;refine bL (c:=yM) func129 rfl rfl fun w F=> ?_
 refine cR hS 3 (aj6 s) ?_;refine aW.loop (ι:={k:Nat//k<=s.size}) (id:=0) (b:=cat yM [1,1,0,1,0,0]) (rest:=(fl yM []).drop 4) (by kernel_rfl) (fun k=>wi s (bt ((aq s).take k.1)) k.1) (fun k=>s.size-k.1) ⟨0,Nat.zero_le _⟩ (fun _=>rfl) ?_;rintro⟨k,hk⟩;have hin:=A4 hd k (by omega);have hp:=UH (k:=k) (by omega);by_cases hlt:k<s.size
 .have hlt2:k<(aq s).length:=by omega
  have hb:=List.all_eq_true.1 hd (ck s k) (by rw [yN hlt2];exact List.getElem_mem _);rw [ae,bE,bE]at hb;have auQ:=A4 hd (k+1) (by omega);have hp2:=UH (k:=k+1) (by omega);have hn:=rp hlt2;have hw:IntKind.i64.wrap ((ck s k).toNat:Int)=((ck s k).toNat:Int):=IntWalk.i64_in _ (by omega);have e:10*bt ((aq s).take k)+IntKind.i64.wrap ((ck s k).toNat:Int)-48=bt ((aq s).take (k+1)):=by rw [hw,hn];omega
  refine bC (s:=wi s (bt ((aq s).take k)) k) hS (aj7 s _ k (by omega) (by omega) (by omega) (by show-9223372036854775808<=10*bt ((aq s).take k)+IntKind.i64.wrap ((ck s k).toNat:Int)/\10*bt ((aq s).take k)+IntKind.i64.wrap ((ck s k).toNat:Int)<=9223372036854775807;rw [hw];omega) (by show-9223372036854775808<=10*bt ((aq s).take k)+IntKind.i64.wrap ((ck s k).toNat:Int)-48/\10*bt ((aq s).take k)+IntKind.i64.wrap ((ck s k).toNat:Int)-48<=9223372036854775807;rw [hw];omega) (by omega)) ?_;rw [e];exact⟨⟨k+1,hlt⟩,by simp;omega,rfl,rfl⟩
 .refine bC (s:=wi s (bt ((aq s).take k)) k) hS (aj8 s _ k (by omega)) ?_;refine cI (cQ ?_);obtain rfl:k=s.size:=by omega
  rw [eZ (by omega)];exact bY (s:=wi s _ s.size) hS (aj9 s _ _)
def A5:=IN 74 [.str] [.int .i64] true (fun d=>decide (d.1.size<=1000000000)) fun d=>(((bl (aq d.1):Nat):Int),())
def MY:=IN 129 [.str] [.int .i64] true (fun d=>decide (d.1.size<=17)&&b6 (aq d.1)) fun d=>(bt (aq d.1),())
def Dw:A5.Ok prog:=fun⟨s,_⟩ h=>aka s (ap h)
def UI:MY.Ok prog:=fun⟨s,_⟩ h=>by
 have h:(decide (s.size<=17)&&b6 (aq s))=true:=h;rw [ae,bE]at h;exact akb s h.1 h.2
def BY:=k_a f99
def mu (n m:Int) (s:AT):bI:={n:=25,sl:=[(0,iv n),(1,iv m),(5,sv s)],bH:=[],next:=64}
abbrev UJ:AT:=⟨#[]⟩
abbrev sK:AT:=⟨#[48,49,50,51,52,53,54,55,56,57]⟩
section
variable (n m:Int)
def akc:
  c7 (a7 []) (fl BY []) 2 25 [iv n,iv m] 1 .normal [] (mu n m UJ):=
 wy [] 0
def akd (s:AT) (h1:n>0) (h2:i6 (Int.tmod n 10+1)) (h3:0<=Int.tmod n 10+1) (h4:0<=Int.tmod n 10) (h5:(Int.tmod n 10+1).toNat<=(ByteArray.mk #[48,49,50,51,52,53,54,55,56,57]).size) (h6:((ByteArray.mk #[48,49,50,51,52,53,54,55,56,57]).extract (Int.tmod n 10).toNat (Int.tmod n 10+1).toNat).size+s.size<=9223372036854775807) (h7:i6 (Int.tdiv n 10)):
  bz (a7 []) (fl BY [1,1,0,0,0]) (mu n m s) 112 .normal [] (mu (Int.tdiv n 10) m (sK.extract (Int.tmod n 10).toNat (Int.tmod n 10+1).toNat++s)):=
 wy [aa (bg (az h1)),ah h1,yi h2,ah h3,ah h4,ah (by omega:(Int.tmod n (10:Int)).toNat<=(Int.tmod n (10:Int)+(1:Int)).toNat),ah h5,ah h6,yi h7] 11143911710332399131023380545
def ake (s:AT) (h1:¬n>0) (h2:(s.size:Int)<m) (h3:i6 (Int.tmod n 10+1)) (h4:0<=Int.tmod n 10+1) (h5:0<=Int.tmod n 10) (h6:(Int.tmod n 10+1).toNat<=(ByteArray.mk #[48,49,50,51,52,53,54,55,56,57]).size) (h7:((ByteArray.mk #[48,49,50,51,52,53,54,55,56,57]).extract (Int.tmod n 10).toNat (Int.tmod n 10+1).toNat).size+s.size<=9223372036854775807) (h8:i6 (Int.tdiv n 10)):
  bz (a7 []) (fl BY [1,1,0,0,0]) (mu n m s) 111 .normal [] (mu (Int.tdiv n 10) m (sK.extract (Int.tmod n 10).toNat (Int.tmod n 10+1).toNat++s)):=
 wy [aa (bg (ab h1)),aF h1,ah h2,yi h3,ah h4,ah h5,ah (by omega:(Int.tmod n (10:Int)).toNat<=(Int.tmod n (10:Int)+(1:Int)).toNat),ah h6,ah h7,yi h8] 12382158778397359609013866561
def akf (s:AT) (h1:¬n>0) (h2:¬(s.size:Int)<m):
  bz (a7 []) (fl BY [1,1,0,0,0]) (mu n m s) 79 (.exit 0) [] (mu n m s):=
 wy [aa (bg (ab h1)),aF h1,aF h2] 3255046209
def akg (s:AT):
  bS (a7 []) ((fl BY []).drop 3) (mu n m s) 1 f99 true (sv s):=
 wy [] 0
end
def oJ (n:Int):UInt8:=UInt8.ofNat (48+(n%10).toNat)
def cy:Nat->Int->Int->List UInt8->List UInt8
 |0,_,_,s=>s
 |f+1,n,m,s=>if n>0\/(s.length:Int)<m then cy f (n/10) m (oJ n::s)else s
def ja (a b:AT):(a++b).data.toList=a.data.toList++b.data.toList:=by
 rw [ByteArray.data_append,Array.toList_append]
def akh {n:Int} (h:0<=n) (s:AT):(sK.extract (Int.tmod n 10).toNat (Int.tmod n 10+1).toNat++s).data.toList=oJ n::s.data.toList:=by
 rw [ja,Int.tmod_eq_emod_of_nonneg h];have h1:=eL n (show(0:Int)<10 by decide);have h2:=ec n (show(10:Int)≠0 by decide);unfold oJ;generalize n%10=r at*;have:r=0\/r=1\/r=2\/r=3\/r=4\/r=5\/r=6\/r=7\/r=8\/r=9:=by omega
 rcases this with rfl |rfl |rfl |rfl |rfl |rfl |rfl |rfl |rfl |rfl<;>rfl
def aki {n:Int} (h:0<=n):(sK.extract (Int.tmod n 10).toNat (Int.tmod n 10+1).toNat).size<=1:=by
 rw [Int.tmod_eq_emod_of_nonneg h];have h1:=eL n (show(0:Int)<10 by decide);have h2:=ec n (show(10:Int)≠0 by decide);generalize n%10=r at*;have:r=0\/r=1\/r=2\/r=3\/r=4\/r=5\/r=6\/r=7\/r=8\/r=9:=by omega
 rcases this with rfl |rfl |rfl |rfl |rfl |rfl |rfl |rfl |rfl |rfl<;>decide
def uG (s:AT):s.size=s.data.toList.length:=by cases s;rfl
def gy {a b:AT} (h:a.data.toList=b.data.toList):a=b:=by
 cases a;cases b;simp at h;rw [h]
structure MZ (r:List UInt8) (m:Int) (f:Nat) (n:Int) (s:AT):Prop where
 n0:0<=n
 nb:n<=9223372036854775807
 n1:n<10^f
 ms:m<=s.size+f
 sz:s.size+f<=40
 eq:cy f n m s.data.toList=r
def LO (n m:Int) (hn:0<=n) (hn2:n<=9223372036854775807) (hm:m<=20):Holds prog true 99 [iv n,iv m] (sv ⟨(cy 20 n m []).toArray⟩):=by
 have hS:=cC;obtain⟨r,hr⟩:∃r,cy 20 n m []=r:=⟨_,rfl⟩;rw [hr];refine bL (c:=BY) func99 rfl rfl fun w F=> ?_
 refine cR hS 2 (akc n m) ?_;refine aW.loop (ι:={p:Nat×Int×AT//MZ r m p.1 p.2.1 p.2.2}) (id:=0) (b:=cat BY [1,1,0,0,0]) (rest:=(fl BY []).drop 3) (by kernel_rfl) (fun p=>mu p.1.2.1 m p.1.2.2) (fun p=>p.1.1) ⟨(20,n,UJ),⟨hn,hn2,by show n<10^20;omega,by show m<=0+20;omega,by show 0+20<=40;omega,hr⟩⟩ (fun _=>rfl) ?_;rintro⟨⟨f,n,s⟩,hp⟩;have hp:MZ r m f n s:=hp;have hz:=uG s;have q1:=eL n (show(0:Int)<10 by decide);have aP:=ec n (show(10:Int)≠0 by decide);have b8:Int.tmod n 10=n%10:=Int.tmod_eq_emod_of_nonneg hp.n0;have ez:Int.tdiv n 10=n/10:=Int.tdiv_eq_ediv_of_nonneg hp.n0;have qA:=aki hp.n0;have hn0:=hp.n0;have hnb:=hp.nb;have auR:=hp.ms;have hsz:=hp.sz;have eO:(n>0\/(s.size:Int)<m)->∃j:{p:Nat×Int×AT//MZ r m p.1 p.2.1 p.2.2},j.1.1<f/\(mu (Int.tdiv n 10) m (sK.extract (Int.tmod n 10).toNat (Int.tmod n 10+1).toNat++s)).T=(mu j.1.2.1 m j.1.2.2).T/\(mu (Int.tdiv n 10) m (sK.extract (Int.tmod n 10).toNat (Int.tmod n 10+1).toNat++s)).H=(mu j.1.2.1 m j.1.2.2).H:=fun hc=>by
  cases f with
  |zero=>
   have:=hp.n1;simp at this;exfalso;omega
  |succ f=>
   have hb:=akh hp.n0 s;have UK:(sK.extract (Int.tmod n 10).toNat (Int.tmod n 10+1).toNat++s).size=s.size+1:=by rw [uG,hb,hz];rfl
   refine⟨⟨(f,Int.tdiv n 10,_),⟨by show 0<=Int.tdiv n 10;rw [ez];omega,by show Int.tdiv n 10<=_;rw [ez];omega, ?_,by show m<=((_:Nat):Int)+((f:Nat):Int);rw [UK];omega,by show _+f<=40;rw [UK];omega, ?_⟩⟩,fL _,rfl,rfl⟩
   .show Int.tdiv n 10<10^f;have:=hp.n1;rw [Int.pow_succ]at this;rw [ez];omega
   .show cy f (Int.tdiv n 10) m (sK.extract (Int.tmod n 10).toNat (Int.tmod n 10+1).toNat++s).data.toList=r;have he:=hp.eq;unfold cy at he;rw [hb,ez];rw [if_pos (by rw [hz]at hc;exact hc)]at he;exact he
 by_cases h1:n>0
 .refine bC (s:=mu n m s) hS (akd n m s h1 (by omega) (by omega) (by omega) (by show _<=(10:Nat);omega) (by show(sK.extract (Int.tmod n 10).toNat (Int.tmod n 10+1).toNat).size+s.size<=_;omega) (by omega)) (eO (.inl h1))
 .by_cases h2:(s.size:Int)<m
  .refine bC (s:=mu n m s) hS (ake n m s h1 h2 (by omega) (by omega) (by omega) (by show _<=(10:Nat);omega) (by show(sK.extract (Int.tmod n 10).toNat (Int.tmod n 10+1).toNat).size+s.size<=_;omega) (by omega)) (eO (.inr h2))
  .refine bC (s:=mu n m s) hS (akf n m s h1 h2) ?_;refine cI (cQ ?_);have e:(⟨r.toArray⟩:AT)=s:=gy (by
    have he:=hp.eq;cases f with
    |zero=>exact he.symm
    |succ f=>
     unfold cy at he;rw [if_neg (by rw [hz]at h2;omega)]at he;exact he.symm)
   rw [e];exact bY (s:=mu n m s) hS (akg n m s)
def G0:=IN 99 [.int .i64, .int .i64] [.str] true (fun d=>decide (0<=d.1)&&(decide (d.1<=9223372036854775807)&&decide (d.2.1<=20))) fun d=>(⟨(cy 20 d.1 d.2.1 []).toArray⟩,())
def M0:G0.Ok prog:=fun⟨n,m,_⟩ h=>by
 have h:(decide (0<=n)&&(decide (n<=9223372036854775807)&&decide (m<=20)))=true:=h;simp only [ae,bE]at h;exact LO n m h.1 h.2.1 h.2.2
def M3:=k_a Tryz.f44
def lg (s:AT) (i j:Nat) (h:j<=s.size):(s.extract i j).size=j-i:=by
 rw [ByteArray.size_extract];omega
def A6:∀l:List UInt8,bl l<=l.length
 |[]=>aK _
 |b::r=>by
  unfold bl;have:=A6 r;split
  .exact Nat.zero_le _
  .simp;omega
end
end Go.Proofs.YtibikmmdbdlafaaGreatDoor
