/- Trains in plain words: ratios, normal forms and lost motions as rational numbers. -/
import Derived.Test.YtccmlbinkgbpgaaGreatDoorZtGNo
import Derived.Test.YtccmlbinkgbpgaaGreatDoorZtDig
import Derived.Test.YtccmlbinkgbpgaaGreatDoorZtVBas
import Derived.Test.YtccmlbinkgbpgaaGreatDoorZtVSh
import Derived.Test.YtccmlbinkgbpgaaGreatDoorZtSvGive
import Derived.Test.YtccmlbinkgbpgaaGreatDoorZtVNi
import Derived.Test.YtccmlbinkgbpgaaGreatDoorZtVNg
import Derived.Test.YtccmlbinkgbpgaaGreatDoorZtGAw1
namespace Go.Proofs.YtccmlbinkgbpgaaGreatDoor
open Go.RowKit Sv
set_option linter.unusedVariables false
def rR:List (Int×Int)→Rat
 |[]=>1
 |p::t=>Rat.divInt p.1 p.2*rR t
theorem rR_app:∀a b:List (Int×Int),rR (a++b)=rR a*rR b
 |[],b=>by show rR b=1*rR b;rw [Rat.one_mul]
 |p::t,b=>by show Rat.divInt p.1 p.2*rR (t++b)=Rat.divInt p.1 p.2*rR t*rR b;rw [rR_app t b,Rat.mul_assoc]
theorem ratR_take (t:List (Int×Int)):∀k,k≤t.length→ratR t k=rR (t.take k)
 |0,_=>by rw [List.take_zero];rfl
 |k+1,hk=>by
  have e:t.take (k+1)=t.take k++[g0 t k]:=by rw [List.take_succ_eq_append_getElem (by omega),g0_get (by omega)]
  rw [e,rR_app,←ratR_take t k (by omega)]
  show ratR t k*Rat.divInt _ _=ratR t k*(Rat.divInt _ _*1)
  rw [Rat.mul_one]
theorem ratR_rR (t:List (Int×Int)):ratR t t.length=rR t:=by rw [ratR_take t _ (Nat.le_refl _),List.take_length]
def goodT (t:List (Int×Int)):Prop:=∀p∈t,(1≤p.1∧p.1≤400)∧1≤p.2∧p.2≤400
theorem goodT_app {a b:List (Int×Int)} (h:goodT a) (g:goodT b):goodT (a++b):=fun p hp=>(List.mem_append.1 hp).elim (h p) (g p)
theorem goodT_at {t:List (Int×Int)}:goodT t↔ ∀k,k<t.length→(1≤(g0 t k).1∧(g0 t k).1≤400)∧1≤(g0 t k).2∧(g0 t k).2≤400:=by
 constructor
 ·intro h k hk
  rw [g0_get hk];exact h _ (List.getElem_mem hk)
 ·intro h p hp
  obtain⟨k,hk,rfl⟩:=List.getElem_of_mem hp
  have:=h k hk
  rwa [g0_get hk]at this
def swp (t:List (Int×Int)):List (Int×Int):=t.map fun p=>(p.2,p.1)
theorem goodT_swp {t:List (Int×Int)} (h:goodT t):goodT (swp t):=fun p hp=>by
 obtain⟨q,hq,rfl⟩:=List.mem_map.1 hp
 exact⟨(h q hq).2,(h q hq).1⟩
theorem div_swap {a b:Int} (ha:1≤a) (hb:1≤b):Rat.divInt a b*Rat.divInt b a=1:=by
 rw [Rat.divInt_mul_divInt,Int.mul_comm b a]
 have hne:a*b≠0:=Int.mul_ne_zero (by omega) (by omega)
 exact((Rat.divInt_eq_divInt_iff hne (by decide:(1:Int)≠0)).2 (by rw [Int.mul_one,Int.one_mul])).trans (by decide:Rat.divInt 1 1=1)
theorem rR_swp:∀{t:List (Int×Int)},goodT t→rR t*rR (swp t)=1
 |[],_=>by show(1:Rat)*1=1;rw [Rat.one_mul]
 |p::t,h=>by
  have hp:=h p (List.mem_cons_self ..)
  have ih:=rR_swp (t:=t) fun q hq=>h q (List.mem_cons_of_mem _ hq)
  have d:=div_swap hp.1.1 hp.2.1
  show Rat.divInt p.1 p.2*rR t*(Rat.divInt p.2 p.1*rR (swp t))=1
  generalize Rat.divInt p.1 p.2=x at*
  generalize Rat.divInt p.2 p.1=y at*
  generalize rR t=u at*
  generalize rR (swp t)=v at*
  calc x*u*(y*v)=(x*y)*(u*v):=by grind
   _=1:=by rw [d,ih,Rat.one_mul]
def prL:List Int→Int
 |[]=>1
 |x::l=>x*prL l
theorem prL_perm {a b:List Int} (h:List.Perm a b):prL a=prL b:=by
 induction h with
 |nil=>rfl
 |cons x _ ih=>show x*_=x*_;rw [ih]
 |swap x y l=>show y*(x*prL l)=x*(y*prL l);grind
 |trans _ _ h1 h2=>rw [h1,h2]
theorem prL_pos:∀{l:List Int},(∀x∈l,1≤x)→1≤prL l
 |[],_=>Int.le_refl 1
 |x::l,h=>by
  have h1:=h x (List.mem_cons_self ..)
  have h2:=prL_pos (l:=l) fun y hy=>h y (List.mem_cons_of_mem _ hy)
  have:(1:Int)*1≤x*prL l:=Int.mul_le_mul h1 h2 (by decide) (by omega)
  exact this
theorem rR_prod:∀(t:List (Int×Int)),rR t=Rat.divInt (prL (t.map Prod.fst)) (prL (t.map Prod.snd))
 |[]=>by show(1:Rat)=Rat.divInt 1 1;decide
 |p::t=>by show Rat.divInt p.1 p.2*rR t=Rat.divInt (p.1*prL (t.map Prod.fst)) (p.2*prL (t.map Prod.snd));rw [rR_prod t,Rat.divInt_mul_divInt]
theorem cancel_prod:∀ds ns:List Int,prL (cancel ds ns).1*prL ns=prL ds*prL (cancel ds ns).2
 |[],ns=>rfl
 |d::r,ns=>by
  unfold cancel
  split
  ·rename_i h
   have ih:=cancel_prod r (ns.erase d)
   have e:prL ns=d*prL (ns.erase d):=prL_perm (List.perm_cons_erase h)
   show _=d*prL r*_
   rw [e]
   generalize prL (cancel r (ns.erase d)).1=x at*
   generalize prL (cancel r (ns.erase d)).2=y at*
   generalize prL (ns.erase d)=u at*
   generalize prL r=v at*
   calc x*(d*u)=d*(x*u):=by grind
    _=d*v*y:=by rw [ih,Int.mul_assoc]
  ·have ih:=cancel_prod r ns
   show d*prL (cancel r ns).1*prL ns=d*prL r*prL (cancel r ns).2
   rw [Int.mul_assoc,ih,Int.mul_assoc]
theorem sortJ_perm (l:List Int):List.Perm (sortJ l) l:=List.mergeSort_perm l _
theorem nrm_len (t:List (Int×Int)):(sortJ (cancel (t.map Prod.fst) (t.map Prod.snd)).1).length=(sortJ (cancel (t.map Prod.fst) (t.map Prod.snd)).2).length:=by
 have:=cancel_len (t.map Prod.fst) (t.map Prod.snd)
 rw [sortJ_len,sortJ_len]
 simp at this;omega
theorem goodT_nrm {t:List (Int×Int)} (h:goodT t):goodT (nrmG t):=fun p hp=>by
 have hp:p∈List.zip _ _:=hp
 obtain⟨a,b⟩:=p
 have ha:=(sortJ_perm _).mem_iff.1 (List.of_mem_zip hp).1
 have hb:=(sortJ_perm _).mem_iff.1 (List.of_mem_zip hp).2
 have ha:=(cancel_sub _ _).1.subset ha
 have hb:=(cancel_sub _ _).2.subset hb
 obtain⟨q,hq,e1⟩:=List.mem_map.1 ha
 obtain⟨r,hr,e2⟩:=List.mem_map.1 hb
 have e1:q.1=a:=e1
 have e2:r.2=b:=e2
 rw [←e1,←e2]
 exact⟨(h q hq).1,(h r hr).2⟩
theorem len_nrm (t:List (Int×Int)):(nrmG t).length≤t.length:=by
 have h1:=(cancel_sub (t.map Prod.fst) (t.map Prod.snd)).1.length_le
 show(List.zip _ _).length≤_
 rw [List.length_zip,sortJ_len]
 simp at h1;omega
theorem rR_nrm {t:List (Int×Int)} (h:goodT t):rR (nrmG t)=rR t:=by
 have hp:1≤prL (t.map Prod.snd):=prL_pos fun x hx=>by
  obtain⟨q,hq,rfl⟩:=List.mem_map.1 hx
  exact(h q hq).2.1
 have hc:1≤prL (cancel (t.map Prod.fst) (t.map Prod.snd)).2:=prL_pos fun x hx=>by
  obtain⟨q,hq,rfl⟩:=List.mem_map.1 ((cancel_sub _ _).2.subset hx)
  exact(h q hq).2.1
 rw [rR_prod (nrmG t),rR_prod t]
 have z1:(nrmG t).map Prod.fst=sortJ (cancel (t.map Prod.fst) (t.map Prod.snd)).1:=List.map_fst_zip (Nat.le_of_eq (nrm_len t))
 have z2:(nrmG t).map Prod.snd=sortJ (cancel (t.map Prod.fst) (t.map Prod.snd)).2:=List.map_snd_zip (Nat.le_of_eq (nrm_len t).symm)
 rw [z1,z2,prL_perm (sortJ_perm _),prL_perm (sortJ_perm _)]
 exact(Rat.divInt_eq_divInt_iff (by omega) (by omega)).2 (cancel_prod _ _)
def losR:List (Int×Int)→List Rat→Rat
 |_::t,x::l=>x*rR t+losR t l
 |_,_=>0
theorem losR_app:∀(a:List (Int×Int)) (la:List Rat) (b:List (Int×Int)) (lb:List Rat),a.length=la.length→losR (a++b) (la++lb)=losR a la*rR b+losR b lb
 |[],[],b,lb,_=>by show losR b lb=0*rR b+losR b lb;rw [Rat.zero_mul,Rat.zero_add]
 |[],_::_,_,_,h=>by cases h
 |_::_,[],_,_,h=>by cases h
 |p::t,x::l,b,lb,h=>by
  have ih:=losR_app t l b lb (by simpa using h)
  show x*rR (t++b)+losR (t++b) (l++lb)=(x*rR t+losR t l)*rR b+losR b lb
  rw [ih,rR_app]
  grind
def smQ (r:Rat):Prop:=r.num.natAbs<1000000000000000000∧r.den<1000000000000000000
theorem smQ_div {a b:Int} (hb:1≤b) (h1:a.natAbs<1000000000000000000) (h2:b<1000000000000000000):smQ (Rat.divInt a b):=by
 have hg:0<Int.gcd a b:=Int.gcd_pos_of_ne_zero_right _ (by omega)
 have e:Rat.divInt a b=Rat.divInt (a/(Int.gcd a b:Int)) (b/(Int.gcd a b:Int)):=by
  have e1:=Int.ediv_mul_cancel (show(Int.gcd a b:Int)∣a from Int.gcd_dvd_left ..)
  have e2:=Int.ediv_mul_cancel (show(Int.gcd a b:Int)∣b from Int.gcd_dvd_right ..)
  have e3:Rat.divInt a b=Rat.divInt (a/(Int.gcd a b:Int)*(Int.gcd a b:Int)) (b/(Int.gcd a b:Int)*(Int.gcd a b:Int)):=by rw [e1,e2]
  rw [e3]
  exact Rat.divInt_mul_right (show(Int.gcd a b:Int)≠0 by omega)
 have hb1:1≤b/(Int.gcd a b:Int):=by
  have hm:=Int.ediv_mul_cancel (show(Int.gcd a b:Int)∣b from Int.gcd_dvd_right ..)
  have h0:0≤b/(Int.gcd a b:Int):=Int.ediv_nonneg (by omega) (by omega)
  rcases Int.lt_or_le 0 (b/(Int.gcd a b:Int))with h|h
  ·omega
  ·exfalso
   have e0:b/(Int.gcd a b:Int)=0:=by omega
   rw [e0,Int.zero_mul]at hm
   omega
 have hc:=Int.gcd_ediv_gcd_ediv_gcd hg
 obtain⟨n1,n2⟩:=cop_num hb1 hc
 rw [e]
 unfold smQ
 have l1:(a/(Int.gcd a b:Int)).natAbs≤a.natAbs:=by
  rw [Int.natAbs_ediv_of_dvd (Int.gcd_dvd_left ..)]
  exact Nat.div_le_self _ _
 have l2:b/(Int.gcd a b:Int)≤b:=Int.ediv_le_self _ (by omega)
 rw [n1]
 refine⟨by omega,by omega⟩
end Go.Proofs.YtccmlbinkgbpgaaGreatDoor
/- The reference of chapter 1: lists of digits to the base 10^9: trim, signed, whole, compareDigits, digit. -/
namespace Go.Proofs.YtccmlbinkgbpgaaGreatDoor
open Go.RowKit Sv
set_option maxRecDepth 100000
set_option linter.unusedVariables false
set_option linter.unusedSimpArgs false
noncomputable section
def vr (l:List Int):Int:=vl 1000000000 l
def dgR (l:List Int):Bool:=l.all fun x=>decide (0≤x)&&decide (x<1000000000)
def trA (l:List Int):List Int:=trimL l l.length
def tmR (l:List Int):Bool:=Nat.beq (trA l).length l.length
noncomputable def dnR (z:Int):List Int:=dgN 1000000000 z
def okA (l:List Int):Bool:=dgR l&&(tmR l&&decide (l.length≤100000))
noncomputable def mkR (z:Int):Bool×List Int:=(decide (z<0),dnR (z.natAbs:Int))
def sgV (neg:Bool) (v:Int):Int:=match neg with |true=> -v|false=>v
theorem r9:(1:Int)<1000000000:=by decide
theorem dn_spec {z:Int} (h:0≤z):Dg 1000000000 (dnR z)∧Tm (dnR z)∧vr (dnR z)=z:=dgN_spec r9 h
theorem vr_nn {l:List Int} (h:Dg 1000000000 l):0≤vr l:=vl_nn (by decide) h
end
end Go.Proofs.YtccmlbinkgbpgaaGreatDoor
/- The reference of chapter 1: sums, differences and products of digits. -/
namespace Go.Proofs.YtccmlbinkgbpgaaGreatDoor
open Go.RowKit Sv
set_option maxRecDepth 100000
set_option linter.unusedVariables false
set_option linter.unusedSimpArgs false
noncomputable section
--{
theorem tm_ge {b:Int} (hb:1<b) {l:List Int} (h:Dg b l) (hg:∀k,l.length=k+1→b^k≤vl b l):Tm l:=fun k hk h0=>by
 have h1:=hg k hk
 have h2:vl b l=vl b (l.take k):=by
  have:=vl_take (b:=b) (show k<l.length by omega)
  rw [List.take_of_length_le (by omega),h0]at this
  simpa using this
 have h3:=vl_lt (show 0<b by omega) (h.take k)
 rw [List.length_take,show min k l.length=k by omega]at h3
 omega
structure AdI (a b out:List Int) (c:Int) (k:Nat):Prop where
 dg:Dg 1000000000 out
 len:out.length=k
 cr:c=0∨c=1
 val:vr out+1000000000^k*c=vr (a.take k)+vr (b.take k)
 top:k≤max a.length b.length∨(k=max a.length b.length+1∧1000000000^max a.length b.length≤vr a+vr b)
theorem vr_take (l:List Int) (k:Nat):vr (l.take (k+1))=vr (l.take k)+1000000000^k*l.getD k 0:=vl_take' l k
theorem vr_all {l:List Int} {k:Nat} (h:l.length≤k):vr (l.take k)=vr l:=by rw [List.take_of_length_le h]
theorem sum_lt {a b:List Int} (ha:Dg 1000000000 a) (hb:Dg 1000000000 b):vr a+vr b<1000000000^(max a.length b.length+1):=by
 have h1:=vl_lt (show(0:Int)<1000000000 by decide) ha
 have h2:=vl_lt (show(0:Int)<1000000000 by decide) hb
 have h3:=pow_le_pow' (b:=1000000000) (by decide) (show a.length≤max a.length b.length by omega)
 have h4:=pow_le_pow' (b:=1000000000) (by decide) (show b.length≤max a.length b.length by omega)
 have h5:=pow_pos' (show(0:Int)<1000000000 by decide) (max a.length b.length)
 rw [Int.pow_succ]
 unfold vr
 omega
theorem AdI.next {a b out:List Int} {c:Int} {k:Nat} (h:AdI a b out c k) (ha:Dg 1000000000 a) (hb:Dg 1000000000 b) (hc:k<a.length∨k<b.length∨c>0):AdI a b (out++[(a.getD k 0+b.getD k 0+c)%1000000000]) ((a.getD k 0+b.getD k 0+c)/1000000000) (k+1)∧k≤max a.length b.length:=by
 have g1:=ha.get (by decide) k
 have g2:=hb.get (by decide) k
 have hcr:=h.cr
 obtain⟨s,hs⟩:∃s,a.getD k 0+b.getD k 0+c=s:=⟨_,rfl⟩
 rw [hs]
 have hk:k≤max a.length b.length:=by
  rcases h.top with h1|⟨h1,h2⟩
  ·exact h1
  ·have h3:c>0:=by omega
   have h4:c=1:=by omega
   have h5:=h.val
   rw [h4,vr_all (show a.length≤k by omega),vr_all (show b.length≤k by omega),h1]at h5
   have h6:=sum_lt ha hb
   have h7:=vr_nn h.dg
   omega
 refine⟨⟨h.dg.app (.cons (by omega) .nil),by simp [h.len],by omega, ?_, ?_⟩,hk⟩
 ·have e:vr (out++[s%1000000000])=vr out+1000000000^k*(s%1000000000):=by rw [←h.len];exact vl_snoc _ _ _
  rw [e,vr_take,vr_take,Int.pow_succ]
  exact add_next (by omega) h.val
 ·by_cases hm:k<max a.length b.length
  ·exact .inl (by omega)
  ·refine .inr ⟨by omega, ?_⟩
   have h4:c=1:=by omega
   have h5:=h.val
   rw [h4,vr_all (show a.length≤k by omega),vr_all (show b.length≤k by omega)]at h5
   have h7:=vr_nn h.dg
   have h8:k=max a.length b.length:=by omega
   rw [←h8]
   omega
theorem AdI.fin {a b out:List Int} {c:Int} {k:Nat} (h:AdI a b out c k) (ha:Dg 1000000000 a) (hb:Dg 1000000000 b) (ta:Tm a) (tb:Tm b) (h1:a.length≤k) (h2:b.length≤k) (h3:¬c>0):out=dnR (vr a+vr b):=by
 have hc:c=0:=by have:=h.cr;omega
 have hv:vr out=vr a+vr b:=by
  have:=h.val
  rw [hc,vr_all h1,vr_all h2]at this
  simpa using this
 have na:=vr_nn ha
 have nb:=vr_nn hb
 refine dgN_uniq r9 h.dg (tm_ge r9 h.dg fun j hj=> ?_) hv
 show _≤vr out
 rw [hv]
 have hl:=h.len
 rcases h.top with h4|⟨h4,h5⟩
 ·by_cases hla:a.length=j+1
  ·have h6:(1000000000:Int)^j≤vr a:=vl_ge (by decide) ha ta hla
   omega
  ·have h6:(1000000000:Int)^j≤vr b:=vl_ge (by decide) hb tb (by omega)
   omega
 ·have e:j=max a.length b.length:=by omega
  rw [e];exact h5
--}
end
end Go.Proofs.YtccmlbinkgbpgaaGreatDoor
/- The reference of chapter 1: long division: the plain laws of a guess and of a window. -/
namespace Go.Proofs.YtccmlbinkgbpgaaGreatDoor
open Go.RowKit Sv
set_option maxRecDepth 100000
set_option linter.unusedVariables false
structure SbW (d0 v:List Int) (t:Int) (n:Nat) (d:List Int) (bo:Int) (i:Nat):Prop where
 len:d.length=n+1
 dg:Dg 1000000000 (d.take n)
 top:d.getD n 0=d0.getD n 0
 cr:0≤bo∧bo≤1000000000
 val:vr d-1000000000^i*bo=vr d0-t*vr (v.take i)
theorem take_get {d:List Int} {n i:Nat} (h:i<n):(d.take n).getD i 0=d.getD i 0:=by
 simp only [List.getD_eq_getElem?_getD,List.getElem?_take,if_pos h]
theorem SbW.step {d0 v:List Int} {t:Int} {n:Nat} {d:List Int} {bo:Int} {i:Nat} (I:SbW d0 v t n d bo i) (hi:i<n) {x bo':Int} (hx:0≤x∧x<1000000000) (hb:0≤bo'∧bo'≤1000000000) (he:x-1000000000*bo'=d.getD i 0-(t*v.getD i 0+bo)):SbW d0 v t n (d.set i x) bo' (i+1):=by
 have hl:=I.len
 refine⟨by rw [List.length_set];exact hl,by rw [List.take_set];exact I.dg.set hx,by rw [set_get,if_neg (by omega)];exact I.top,hb, ?_⟩
 have hv:=I.val
 unfold vr at hv ⊢
 rw [vl_set _ _ _ _ (by omega),vl_take' v,Int.pow_succ]
 generalize vl 1000000000 d=z1 at*
 generalize vl 1000000000 d0=z2 at*
 generalize vl 1000000000 (v.take i)=z3 at*
 generalize (1000000000:Int)^i=P at*
 generalize d.getD i 0=y at*
 generalize v.getD i 0=w at*
 have e:P*(x-1000000000*bo')=P*(y-(t*w+bo)):=by rw [he]
 grind
structure AdW (d0 v:List Int) (n:Nat) (d:List Int) (cy:Int) (i:Nat):Prop where
 len:d.length=n+1
 dg:Dg 1000000000 (d.take n)
 top:d.getD n 0=d0.getD n 0
 cr:0≤cy∧cy≤1
 val:vr d+1000000000^i*cy=vr d0+vr (v.take i)
theorem AdW.step {d0 v:List Int} {n:Nat} {d:List Int} {cy:Int} {i:Nat} (I:AdW d0 v n d cy i) (hi:i<n) {x cy':Int} (hx:0≤x∧x<1000000000) (hb:0≤cy'∧cy'≤1) (he:x+1000000000*cy'=d.getD i 0+v.getD i 0+cy):AdW d0 v n (d.set i x) cy' (i+1):=by
 have hl:=I.len
 refine⟨by rw [List.length_set];exact hl,by rw [List.take_set];exact I.dg.set hx,by rw [set_get,if_neg (by omega)];exact I.top,hb, ?_⟩
 have hv:=I.val
 unfold vr at hv ⊢
 rw [vl_set _ _ _ _ (by omega),vl_take' v,Int.pow_succ]
 generalize vl 1000000000 d=z1 at*
 generalize vl 1000000000 d0=z2 at*
 generalize vl 1000000000 (v.take i)=z3 at*
 generalize (1000000000:Int)^i=P at*
 generalize d.getD i 0=y at*
 generalize v.getD i 0=w at*
 have e:P*(x+1000000000*cy')=P*(y+w+cy):=by rw [he]
 grind
end Go.Proofs.YtccmlbinkgbpgaaGreatDoor
/- The reference of chapter 1: integers: minus, times, plus, floorDiv, common. -/
namespace Go.Proofs.YtccmlbinkgbpgaaGreatDoor
open Go.RowKit Sv
set_option maxRecDepth 100000
set_option linter.unusedVariables false
set_option linter.unusedSimpArgs false
noncomputable section
def vZ (a:Bool×List Int):Int:=sgV a.1 (vr a.2)
def okZ (a:Bool×List Int):Bool:=okA a.2&&(!a.1|| !(Nat.beq a.2.length 0))
--{
theorem dn_len {z:Int} {k:Nat} (h:0≤z) (hk:z<1000000000^k):(dnR z).length≤k:=dgN_len r9 h hk
--}
end
end Go.Proofs.YtccmlbinkgbpgaaGreatDoor
/- Package num: what is written is what is read. -/
namespace Go.Proofs.YtccmlbinkgbpgaaGreatDoor
open Go.RowKit Sv
set_option maxRecDepth 100000
set_option linter.unusedVariables false
noncomputable section
theorem itoaS_list (n:Int):(itoaS n).data.toList=Lib.itoa n:=by unfold itoaS;simp
theorem itoa_neg {n:Int} (h:n<0):Lib.itoa n=45::Lib.decDigits n.natAbs:=by
 unfold Lib.itoa;rw [if_pos h]
theorem itoa_pos {n:Int} (h:¬n<0):Lib.itoa n=Lib.decDigits n.natAbs:=by
 unfold Lib.itoa;rw [if_neg h,show n.toNat=n.natAbs by omega]
theorem hasPre_itoa (n:Int):hasPre (itoaS n) mns=decide (n<0):=by
 unfold hasPre
 rw [itoaS_list,show(mns:ByteArray).data.toList=[45]from rfl]
 by_cases h:n<0
 ·rw [itoa_neg h,decide_eq_true h];simp [Lib.hasPrefix]
 ·rw [itoa_pos h,decide_eq_false h];exact Dec.no_prefix _ (Dec.digits_all _)
theorem trim_itoa (n:Int):(trimPre (itoaS n) mns).data.toList=Lib.decDigits n.natAbs:=by
 have hp:=hasPre_itoa n
 unfold hasPre at hp
 unfold trimPre Lib.trimPrefix
 rw [hp,itoaS_list,show(mns:ByteArray).data.toList=[45]from rfl]
 by_cases h:n<0
 ·rw [itoa_neg h,decide_eq_true h];simp
 ·rw [itoa_pos h,decide_eq_false h];simp
theorem readN_itoa (n:Int):readN (itoaS n)=n.natAbs:=by
 unfold readN
 rw [trim_itoa,Dec.decFrom_digits]
theorem readZ_itoa (n:Int):readZ (itoaS n)=n:=by
 unfold readZ
 rw [hasPre_itoa,readN_itoa]
 by_cases h:n<0
 ·rw [decide_eq_true h,if_pos rfl];omega
 ·rw [decide_eq_false h,if_neg (by decide)];omega
theorem iRead_itoa (n:Int):iRead (itoaS n)=mkI n:=by unfold iRead;rw [readZ_itoa]
theorem okRead_itoa {n:Int} (h:okI (mkI (n.natAbs:Int))=true):okRead (itoaS n)=true:=by
 unfold okRead
 rw [trim_itoa,Dec.decFrom_digits,readN_itoa,h];rfl
end
end Go.Proofs.YtccmlbinkgbpgaaGreatDoor
/- The reference of chapter 1: an integer's text. -/
namespace Go.Proofs.YtccmlbinkgbpgaaGreatDoor
open Go.RowKit Sv
set_option maxRecDepth 100000
set_option linter.unusedVariables false
set_option linter.unusedSimpArgs false
noncomputable section
theorem dd_len9 {w:List Int} (hw:Dg 1000000000 w):(Lib.decDigits (vr w).toNat).length≤9*w.length+1:=by
 refine Nat.le_trans (Dec.digits_len (9*w.length) _ ?_) (by omega)
 have h1:=vl_lt (b:=1000000000) (by decide) hw
 have h0:=vr_nn hw
 have e:(1000000000:Int)^w.length=((10^(9*w.length):Nat):Int):=by
  rw [Nat.pow_mul,Int.natCast_pow];rfl
 have h2:vr w<((10^(9*w.length):Nat):Int):=by rw [←e];exact h1
 have h3:10^(9*w.length)≤10^(9*w.length+1):=Nat.pow_le_pow_right (by decide) (by omega)
 omega
end
end Go.Proofs.YtccmlbinkgbpgaaGreatDoor
/- The reference of chapter 1: an integer out of its decimal notation. -/
namespace Go.Proofs.YtccmlbinkgbpgaaGreatDoor
open Go.RowKit Sv
set_option maxRecDepth 100000
set_option linter.unusedVariables false
set_option linter.unusedSimpArgs false
noncomputable section
def psN (s:ByteArray):Bool:=decide (0<s.size)&&decide ((sb0 s 0).toNat=45)
def psT (s:ByteArray):ByteArray:=match psN s with |true=>s.extract 1 s.size|false=>s
def valP (s:ByteArray):Int:=sgV (psN s) (valD (bsL (psT s)))
--{
theorem valD_cat (a b:List UInt8):valD (a++b)=valD a*10^b.length+valD b:=by
 show(a++b).foldl _ 0=_
 rw [valD_app,valD_from];rfl
theorem digB_app {a b:List UInt8}:digB (a++b)=true↔digB a=true∧digB b=true:=by
 unfold digB
 rw [List.all_append,Bool.and_eq_true]
theorem valD_bd {s:ByteArray} (h:digB (bsL s)=true):0≤valD (bsL s)∧valD (bsL s)<10^s.size:=by
 have:=valD_in h (bsL s).length (Nat.le_refl _)
 rw [List.take_length]at this
 rw [size_bs]
 exact this
--}
end
end Go.Proofs.YtccmlbinkgbpgaaGreatDoor
/- Package num: a fraction's notation, read. -/
namespace Go.Proofs.YtccmlbinkgbpgaaGreatDoor
open Go.RowKit Sv
set_option maxRecDepth 100000
set_option linter.unusedVariables false
noncomputable section
theorem slash_none' (l:List UInt8) (h:∀b∈l,b≠47):Lib.index l [47]= -1:=by
 induction l with
 |nil=>rfl
 |cons b r ih=>
  have hb:(47==b)=false:=by
   rw [beq_eq_false_iff_ne];intro e;exact h b (by simp) e.symm
  have:=ih (fun c hc=>h c (by simp [hc]))
  simp [Lib.index,List.isPrefixOf,hb,this]
theorem slash_at (l r:List UInt8) (h:∀b∈l,b≠47):Lib.index (l++47::r) [47]=(l.length:Int):=by
 induction l with
 |nil=>simp [Lib.index,List.isPrefixOf]
 |cons b t ih=>
  have hb:(47==b)=false:=by
   rw [beq_eq_false_iff_ne];intro e;exact h b (by simp) e.symm
  have:=ih (fun c hc=>h c (by simp [hc]))
  rw [List.cons_append]
  unfold Lib.index
  rw [this]
  simp only [List.isPrefixOf,hb,Bool.false_and,Bool.false_eq_true,if_false,List.length_cons]
  rw [if_neg (by simp)]
  omega
theorem itoa_no47 (n:Int):∀b∈Lib.itoa n,b≠47:=by
 have hd:∀b∈Lib.decDigits n.natAbs,b≠47:=fun b hb e=>by
  have:=Dec.digits_all _ b hb
  subst e
  exact absurd this.1 (by decide)
 by_cases h:n<0
 ·rw [itoa_neg h]
  intro b hb
  rcases List.mem_cons.1 hb with rfl |hb
  ·decide
  ·exact hd b hb
 ·rw [itoa_pos h];exact hd
theorem cut_none {l:List UInt8} (h:∀b∈l,b≠47):Lib.cut l [47]=(l,[],false):=by
 unfold Lib.cut;rw [slash_none' l h];rfl
theorem cut_at {l r:List UInt8} (h:∀b∈l,b≠47):Lib.cut (l++47::r) [47]=(l,r,true):=by
 unfold Lib.cut
 rw [slash_at l r h]
 simp
def textQ (r:Rat):ByteArray:=if r.den=1 then itoaS r.num else⟨(Lib.itoa r.num++47::Lib.itoa r.den).toArray⟩
theorem from_text {n:Nat} {r:Rat} (hn:1≤n) (hn2:n≤100000) (h1:okN n (mkI (r.num.natAbs:Int))=true) (h2:okN n (mkI (r.den:Int))=true) (hs:(textQ r).size<4294967281):
  okFrom (textQ r)=true∧QR n (qFrom (textQ r)) r:=by
 have o1:okN n (mkI r.num)=true:=by
  have:=val_lt h1 hn
  rw [val_mk]at this
  exact(mkI_law (by omega)).1
 have hc:okCut (textQ r)=true:=by unfold okCut;rw [decide_eq_true hs]
 have hsl:(slsh:ByteArray).data.toList=[47]:=rfl
 have ra:okRead (itoaS r.num)=true:=okRead_itoa (okN_mono hn2 h1)
 by_cases hd:r.den=1
 ·have ht:textQ r=itoaS r.num:=by unfold textQ;rw [if_pos hd]
  have hcut:Lib.cut (itoaS r.num).data.toList (slsh:ByteArray).data.toList=(Lib.itoa r.num,[],false):=by rw [itoaS_list,hsl,cut_none (itoa_no47 _)]
  have cA:cutA (itoaS r.num) slsh=itoaS r.num:=by unfold cutA;rw [hcut];rfl
  have cI:cutIs (itoaS r.num) slsh=false:=by unfold cutIs;rw [hcut]
  rw [ht]at hc ⊢
  refine⟨?_, ?_⟩
  ·unfold okFrom
   rw [hc,cA,ra,cI];rfl
  ·unfold qFrom
   rw [cI,if_neg (by decide),cA,iRead_itoa]
   have:=qOf_qr o1
   rw [val_mk]at this
   have e:(r.num:Rat)=r:=Rat.ext rfl hd.symm
   rw [e]at this;exact this
 ·have ht:textQ r=⟨(Lib.itoa r.num++47::Lib.itoa r.den).toArray⟩:=by unfold textQ;rw [if_neg hd]
  have hcut:Lib.cut (textQ r).data.toList (slsh:ByteArray).data.toList=(Lib.itoa r.num,Lib.itoa r.den,true):=by
   rw [ht,hsl,←cut_at (itoa_no47 r.num)]
  have cA:cutA (textQ r) slsh=itoaS r.num:=by unfold cutA;rw [hcut];rfl
  have cB:cutB (textQ r) slsh=itoaS r.den:=by unfold cutB;rw [hcut];rfl
  have cI:cutIs (textQ r) slsh=true:=by unfold cutIs;rw [hcut]
  have rb:okRead (itoaS r.den)=true:=okRead_itoa (okN_mono hn2 (by rw [Int.natAbs_natCast];exact h2))
  refine⟨?_, ?_⟩
  ·unfold okFrom
   rw [hc,cA,cB,ra,rb,cI];rfl
  ·unfold qFrom
   rw [cI,if_pos rfl,cA,cB,iRead_itoa,iRead_itoa]
   exact⟨o1,h2,val_mk _,val_mk _⟩
end
end Go.Proofs.YtccmlbinkgbpgaaGreatDoor
/- The reference of chapter 1: parts, fraction. -/
namespace Go.Proofs.YtccmlbinkgbpgaaGreatDoor
open Go.RowKit Sv
set_option maxRecDepth 100000
set_option linter.unusedVariables false
set_option linter.unusedSimpArgs false
noncomputable section
abbrev b47:ByteArray:=⟨#[47]⟩
def ptN (s:ByteArray):Int:=valP (s.extract 0 (slAt (bsL s)))
def ptD (s:ByteArray):Int:=if slAt (bsL s)<s.size then valP (s.extract (slAt (bsL s)+1) s.size)else 1
def okPt (s:ByteArray):Bool:=decide (s.size≤800000)&&(digB (bsL (psT (s.extract 0 (slAt (bsL s)))))&&digB (bsL (psT (s.extract (slAt (bsL s)+1) s.size))))
end
end Go.Proofs.YtccmlbinkgbpgaaGreatDoor
/- The reference of chapter 1: quick, Of. -/
namespace Go.Proofs.YtccmlbinkgbpgaaGreatDoor
open Go.RowKit Sv
set_option maxRecDepth 100000
set_option linter.unusedVariables false
set_option linter.unusedSimpArgs false
noncomputable section
def qK (s:ByteArray):Nat:=slAt (bsL (psT s))
def qNn (s:ByteArray):Int:=valD (bsL ((psT s).extract 0 (qK s)))
def qDd (s:ByteArray):Int:=if qK s<(psT s).size then valD (bsL ((psT s).extract (qK s+1) (psT s).size))else 1
def qB (s:ByteArray):Bool:=decide (s.size≤20)&&(decide (qK s≤9)&&decide ((psT s).size-qK s≤10))
def okQs (s:ByteArray):Bool:=(decide (0<s.size)&&decide (s.size≤800000))&&(digB (bsL ((psT s).extract 0 (qK s)))&&digB (bsL ((psT s).extract (qK s+1) (psT s).size)))
def qkA (s:ByteArray):Int:=if qB s then sgV (psN s) (qNn s)else 0
def qkE (s:ByteArray):Int:=if qB s then qDd s else 0
end
end Go.Proofs.YtccmlbinkgbpgaaGreatDoor
/- The reference of chapter 1: what the parts of a number's text are; Mul, Add, Reciprocal, FromInt. -/
namespace Go.Proofs.YtccmlbinkgbpgaaGreatDoor
open Go.RowKit Sv
set_option maxRecDepth 100000
set_option linter.unusedVariables false
set_option linter.unusedSimpArgs false
noncomputable section
--{
theorem dd_dig (u:Nat):digB (Lib.decDigits u)=true:=by
 unfold digB
 rw [List.all_eq_true]
 intro b hb
 obtain⟨h1,h2⟩:=Dec.digits_all u b hb
 rw [decide_eq_true h1,decide_eq_true h2];rfl
theorem dd_val (u:Nat):valD (Lib.decDigits u)=(u:Int):=by
 induction u using Nat.strongRecOn with
 |_ u ih=>
  by_cases h:u<10
  ·rw [dd_small h,valD_cons,Dec.digit_byte u h]
   show(((48+u:Nat):Int)-48)*10^0+0=_
   rw [Int.pow_zero];omega
  ·rw [dd_big h,valD_cat,ih _ (by omega),valD_cons,Dec.digit_byte _ (by omega)]
   show((u/10:Nat):Int)*10^1+((((48+u%10:Nat):Int)-48)*10^0+0)=_
   rw [Int.pow_zero,Int.pow_succ,Int.pow_zero];omega
theorem dd_ne (u:Nat):Lib.decDigits u≠[]:=fun e=>by
 have:=Dec.digits_pos u
 rw [e]at this;cases this
theorem dd_len {u k:Nat} (h:(u:Int)<1000000000^k):(Lib.decDigits u).length≤9*k+1:=by
 have:=dd_len9 (dn_spec (Int.natCast_nonneg u)).1
 rw [(dn_spec (Int.natCast_nonneg u)).2.2,Int.toNat_natCast]at this
 have h2:=dn_len (Int.natCast_nonneg u) h
 omega
theorem dd_few {u:Nat} (h:(Lib.decDigits u).length≤9):(u:Int)<1000000000:=by
 have h1:=valD_in (s:=⟨(Lib.decDigits u).toArray⟩) (by rw [show bsL ⟨(Lib.decDigits u).toArray⟩=Lib.decDigits u from rfl];exact dd_dig u) (Lib.decDigits u).length (Nat.le_refl _)
 rw [show bsL ⟨(Lib.decDigits u).toArray⟩=Lib.decDigits u from rfl,List.take_length,dd_val]at h1
 have h2:(10:Int)^(Lib.decDigits u).length≤10^9:=pow_le_pow' (by decide) h
 have:(10:Int)^9=1000000000:=rfl
 omega
theorem dd_head {L R:List UInt8} (hL:L≠[]) (hd:digB L=true):L++R≠[]∧((L++R).getD 0 0).toNat≠45:=by
 cases L with
 |nil=>exact absurd rfl hL
 |cons b l=>
  rw [digB_cons,Bool.and_eq_true,Bool.and_eq_true,decide_eq_true_eq,decide_eq_true_eq]at hd
  refine⟨by simp, ?_⟩
  show b.toNat≠45
  omega
theorem ps_law {s:ByteArray} {neg:Bool} {M:List UInt8} (hM:M≠[]∧(M.getD 0 0).toNat≠45) (hs:bsL s=if neg then 45::M else M):psN s=neg∧bsL (psT s)=M∧0<s.size:=by
 have hl:0<M.length:=List.length_pos_iff.2 hM.1
 cases neg with
 |true=>
  have hs:bsL s=45::M:=hs
  have hz:s.size=M.length+1:=by rw [size_bs,hs];rfl
  have h45:(sb0 s 0).toNat=45:=by show((bsL s).getD 0 0).toNat=45;rw [hs];rfl
  have e1:psN s=true:=by unfold psN;rw [decide_eq_true (by omega),decide_eq_true h45];rfl
  refine⟨e1, ?_,by omega⟩
  unfold psT
  rw [e1]
  show bsL (s.extract 1 s.size)=M
  rw [bs_ext,hs,hz,List.take_of_length_le (by simp)];rfl
 |false=>
  have hs:bsL s=M:=hs
  have hz:s.size=M.length:=by rw [size_bs,hs]
  have h45:¬(sb0 s 0).toNat=45:=by show¬((bsL s).getD 0 0).toNat=45;rw [hs];exact hM.2
  have e1:psN s=false:=by unfold psN;rw [decide_eq_false h45,Bool.and_false]
  refine⟨e1, ?_,by omega⟩
  unfold psT
  rw [e1]
  exact hs
theorem slAt_skip {neg:Bool} {M:List UInt8}:slAt (if neg then 45::M else M)=slAt M+(if neg then 1 else 0):=by
 cases neg with
 |true=>
  show(if(45:UInt8).toNat=47 then 0 else slAt M+1)=slAt M+1
  rw [if_neg (by decide)]
 |false=>rfl
theorem itoa_sg (n:Int):Lib.itoa n=if decide (n<0)then 45::Lib.decDigits n.natAbs else Lib.decDigits n.natAbs:=by
 by_cases h:n<0
 ·rw [itoa_neg h,decide_eq_true h];rfl
 ·rw [itoa_pos h,decide_eq_false h];rfl
theorem valP_itoa {s:ByteArray} {n:Int} (h:bsL s=Lib.itoa n):valP s=n∧digB (bsL (psT s))=true:=by
 have h0:=dd_head (R:=[]) (dd_ne n.natAbs) (dd_dig n.natAbs)
 rw [List.append_nil]at h0
 obtain⟨h1,h2,h3⟩:=ps_law (neg:=decide (n<0)) h0 (by rw [h];exact itoa_sg n)
 unfold valP
 rw [h1,h2,dd_val]
 refine⟨?_,dd_dig _⟩
 by_cases hn:n<0
 ·rw [decide_eq_true hn];show-(n.natAbs:Int)=n;omega
 ·rw [decide_eq_false hn];show(n.natAbs:Int)=n;omega
def inQ (k:Nat) (r:Rat):Prop:=(r.num.natAbs:Int)<1000000000^k∧(r.den:Int)<1000000000^k
structure TqF (s:ByteArray) (r:Rat):Prop where
 qs:okQs s=true
 pt:okPt s=true
 n:ptN s=r.num
 d:ptD s=r.den
 q:qB s=true→qkA s=r.num∧qkE s=r.den∧(r.num.natAbs:Int)<1000000000∧(r.den:Int)<1000000000
theorem tq_fact {r:Rat} {k:Nat} (hk:k≤10000) (h:inQ k r):TqF (textQ r) r:=by
 obtain⟨hN,hD⟩:=h
 have hdp:0<r.den:=r.den_pos
 obtain⟨T,hT⟩:∃T:List UInt8,T=if r.den=1 then []else 47::Lib.decDigits r.den:=⟨_,rfl⟩
 have hM:=dd_head (R:=T) (dd_ne r.num.natAbs) (dd_dig r.num.natAbs)
 have hb:bsL (textQ r)=if decide (r.num<0)then 45::(Lib.decDigits r.num.natAbs++T)else Lib.decDigits r.num.natAbs++T:=by
  have e:bsL (textQ r)=Lib.itoa r.num++T:=by
   rw [hT]
   unfold textQ
   by_cases h1:r.den=1
   ·rw [if_pos h1,if_pos h1,List.append_nil];exact itoaS_list _
   ·rw [if_neg h1,if_neg h1,←Dec.itoa_nat]
  rw [e,itoa_sg]
  by_cases hn:r.num<0
  ·rw [decide_eq_true hn];rfl
  ·rw [decide_eq_false hn];rfl
 obtain⟨p1,p2,p3⟩:=ps_law hM hb
 have lN:=dd_len hN
 have lD:=dd_len hD
 have lT:T.length≤9*k+2:=by rw [hT];split<;>simp;omega
 have hsl:slAt (Lib.decDigits r.num.natAbs++T)=(Lib.decDigits r.num.natAbs).length:=by
  rw [hT]
  split
  ·rw [List.append_nil];exact slAt_dig _ (dd_dig _)
  ·exact slAt_two _ _ (dd_dig _)
 have hsz:(textQ r).size=(if decide (r.num<0)then 1 else 0)+((Lib.decDigits r.num.natAbs).length+T.length):=by
  rw [size_bs,hb]
  by_cases hn:r.num<0
  ·rw [decide_eq_true hn];simp;omega
  ·rw [decide_eq_false hn];simp
 have hsle:(textQ r).size≤800000:=by rw [hsz];split<;>omega
 -- the text without its sign
 have hu:(psT (textQ r)).size=(Lib.decDigits r.num.natAbs).length+T.length:=by rw [size_bs,p2,List.length_append]
 have hqk:qK (textQ r)=(Lib.decDigits r.num.natAbs).length:=by unfold qK;rw [p2,hsl]
 have x1:bsL ((psT (textQ r)).extract 0 (Lib.decDigits r.num.natAbs).length)=Lib.decDigits r.num.natAbs:=by rw [bs_ext,p2,List.drop_zero,List.take_left'];rfl
 have x2:bsL ((psT (textQ r)).extract ((Lib.decDigits r.num.natAbs).length+1) (psT (textQ r)).size)=T.drop 1:=by
  rw [bs_ext,p2,hu,←List.length_append,List.take_length,←List.drop_drop,List.drop_left'];rfl
 have hT1:digB (T.drop 1)=true:=by
  rw [hT];split
  ·rfl
  ·exact dd_dig _
 have hqs:okQs (textQ r)=true:=by
  unfold okQs
  rw [hqk,x1,x2,hT1,dd_dig,decide_eq_true p3,decide_eq_true hsle];rfl
 -- the text with its sign
 have hsl2:slAt (bsL (textQ r))=(if decide (r.num<0)then 1 else 0)+(Lib.decDigits r.num.natAbs).length:=by
  rw [hb,slAt_skip,hsl];omega
 have y1:bsL ((textQ r).extract 0 (slAt (bsL (textQ r))))=Lib.itoa r.num:=by
  rw [bs_ext,List.drop_zero,hsl2,hb,itoa_sg]
  by_cases hn:r.num<0
  ·rw [decide_eq_true hn]
   show List.take (1+_) (45::_)=45::_
   rw [Nat.add_comm,List.take_succ_cons,List.take_left'];rfl
  ·rw [decide_eq_false hn]
   show List.take (0+_) (Lib.decDigits r.num.natAbs++T)=Lib.decDigits r.num.natAbs
   rw [Nat.zero_add,List.take_left'];rfl
 have y2:bsL ((textQ r).extract (slAt (bsL (textQ r))+1) (textQ r).size)=T.drop 1:=by
  have ez:(textQ r).size=(bsL (textQ r)).length:=size_bs _
  rw [bs_ext,hsl2,ez,List.take_length,hb]
  by_cases hn:r.num<0
  ·rw [decide_eq_true hn]
   show List.drop (1+_+1) (45::_)=_
   rw [Nat.add_right_comm,Nat.add_comm 1,Nat.add_assoc,Nat.add_comm,List.drop_succ_cons,Nat.add_comm,←List.drop_drop,List.drop_left'];rfl
  ·rw [decide_eq_false hn]
   show List.drop (0+_+1) (Lib.decDigits r.num.natAbs++T)=_
   rw [Nat.zero_add,←List.drop_drop,List.drop_left'];rfl
 obtain⟨v1,v2⟩:=valP_itoa y1
 have hden:r.den≠1→valP ((textQ r).extract (slAt (bsL (textQ r))+1) (textQ r).size)=r.den∧digB (bsL (psT ((textQ r).extract (slAt (bsL (textQ r))+1) (textQ r).size)))=true:=fun h1=>valP_itoa (n:=(r.den:Int)) (by rw [y2,hT,if_neg h1,Dec.itoa_nat];rfl)
 have hd2:digB (bsL (psT ((textQ r).extract (slAt (bsL (textQ r))+1) (textQ r).size)))=true:=by
  by_cases h1:r.den=1
  ·have e0:bsL ((textQ r).extract (slAt (bsL (textQ r))+1) (textQ r).size)=[]:=by rw [y2,hT,if_pos h1];rfl
   have e1:psN ((textQ r).extract (slAt (bsL (textQ r))+1) (textQ r).size)=false:=by
    unfold psN
    rw [decide_eq_false (by rw [size_bs,e0];decide)];rfl
   unfold psT
   rw [e1]
   show digB (bsL _)=true
   rw [e0];rfl
  ·exact(hden h1).2
 refine⟨hqs, ?_,v1, ?_,fun hq=> ?_⟩
 ·unfold okPt
  rw [decide_eq_true hsle,v2,hd2];rfl
 ·unfold ptD
  by_cases h1:r.den=1
  ·rw [if_neg (by rw [hsl2,hsz,hT,if_pos h1];simp),h1];rfl
  ·rw [if_pos (by rw [hsl2,hsz,hT,if_neg h1];simp)]
   exact(hden h1).1
 ·have hq0:=hq
  unfold qB at hq
  rw [hqk,hu,Bool.and_eq_true,Bool.and_eq_true,decide_eq_true_eq,decide_eq_true_eq,decide_eq_true_eq]at hq
  unfold qkA qkE qNn qDd
  rw [hq0,hqk,p1,x1,x2,hu,dd_val]
  refine⟨?_, ?_,dd_few hq.2.1, ?_⟩
  ·show sgV _ _=_
   by_cases hn:r.num<0
   ·rw [decide_eq_true hn];show-(r.num.natAbs:Int)=_;omega
   ·rw [decide_eq_false hn];show(r.num.natAbs:Int)=_;omega
  ·rw [if_pos rfl]
   by_cases h1:r.den=1
   ·rw [if_neg (by rw [hT,if_pos h1];simp),h1];rfl
   ·rw [if_pos (by rw [hT,if_neg h1];simp),hT,if_neg h1]
    exact dd_val _
  ·by_cases h1:r.den=1
   ·omega
   ·refine dd_few ?_
    have h3:=hq.2.2
    rw [hT,if_neg h1]at h3
    simp at h3
    omega
--}
end
end Go.Proofs.YtccmlbinkgbpgaaGreatDoor
/- The reference of chapter 1: Mul, Add, Reciprocal, FromInt, as known functions. -/
namespace Go.Proofs.YtccmlbinkgbpgaaGreatDoor
open Go.RowKit Sv
set_option maxRecDepth 100000
set_option linter.unusedVariables false
set_option linter.unusedSimpArgs false
noncomputable section
def toQ (s:ByteArray):Rat:=Rat.divInt (ptN s) (ptD s)
--{
theorem toQ_of {s:ByteArray} {r:Rat} (F:TqF s r):toQ s=r:=by
 unfold toQ
 rw [F.n,F.d]
 exact Rat.num_divInt_den r
theorem toQ_text {r:Rat} {k:Nat} (hk:k≤10000) (h:inQ k r):toQ (textQ r)=r:=toQ_of (tq_fact hk h)
theorem and2 {a b:Bool} (h:a=true) (g:b=true):(a&&b)=true:=by rw [h,g];rfl
attribute [local irreducible] mkR vZ okZ textQ okPt okQs qB ptN ptD okA
--}
end
end Go.Proofs.YtccmlbinkgbpgaaGreatDoor
/- The reference of chapter 1: Div, Digits, decimalForm. -/
namespace Go.Proofs.YtccmlbinkgbpgaaGreatDoor
open Go.RowKit Sv
set_option maxRecDepth 100000
set_option linter.unusedVariables false
set_option linter.unusedSimpArgs false
noncomputable section
def dfB (s:ByteArray):Bool:=decide (0<s.size)&&((decide (s.size≤1)|| !(decide ((sb0 s 0).toNat=48)))&&digB (bsL s))
--{
--}
end
end Go.Proofs.YtccmlbinkgbpgaaGreatDoor
/- The reference of chapter 1: Check, as a known function. -/
namespace Go.Proofs.YtccmlbinkgbpgaaGreatDoor
open Go.RowKit Sv
set_option maxRecDepth 100000
set_option linter.unusedVariables false
set_option linter.unusedSimpArgs false
noncomputable section
def ckU (neg:Bool) (u:ByteArray) (k:Nat):Int:=
 if dfB (u.extract 0 k)=false then 1
 else if neg=true∧bsL (u.extract 0 k)=[48]then 1
 else if k<u.size∧(dfB (u.extract (k+1) u.size)=false∨bsL (u.extract (k+1) u.size)=[48]∨bsL (u.extract (k+1) u.size)=[49])then 1
 else if 600<k∨601+k<u.size then 4
 else if k<u.size∧Int.gcd (valD (bsL (u.extract 0 k))) (valD (bsL (u.extract (k+1) u.size)))≠1 then 1
 else 0
def ckR (s:ByteArray):Int:=ckU (psN s) (psT s) (slAt (bsL (psT s)))
--{
theorem dfB_dig {t:ByteArray} (h:dfB t=true):digB (bsL t)=true∧0<t.size:=by
 unfold dfB at h
 rw [Bool.and_eq_true,Bool.and_eq_true,decide_eq_true_eq]at h
 exact⟨h.2.2,h.1⟩
attribute [local irreducible] ckR
--}
end
end Go.Proofs.YtccmlbinkgbpgaaGreatDoor
/- Numbers of few digits: their texts are read, written and accepted; what is lost in a train is such a number. -/
namespace Go.Proofs.YtccmlbinkgbpgaaGreatDoor
open Go.RowKit Sv
set_option maxRecDepth 100000
set_option linter.unusedVariables false
theorem smQ_ok {r:Rat} (h:smQ r):okN 1 (mkI (r.num.natAbs:Int))=true∧okN 1 (mkI (r.den:Int))=true:=
 ⟨(mkI_law (n:=1) (by have:=h.1;omega)).1,(mkI_law (n:=1) (by have:=h.2;omega)).1⟩
theorem dd_len18 {u:Nat} (h:u<1000000000000000000):(Lib.decDigits u).length≤19:=by
 have:=dd_len (u:=u) (k:=2) (by show(u:Int)<1000000000000000000;omega)
 omega
theorem textQ_bytes (r:Rat):bsL (textQ r)=Lib.itoa r.num++if r.den=1 then []else 47::Lib.decDigits r.den:=by
 unfold textQ
 by_cases h1:r.den=1
 ·rw [if_pos h1,if_pos h1,List.append_nil];exact itoaS_list _
 ·rw [if_neg h1,if_neg h1,←Dec.itoa_nat]
theorem itoa_len18 {n:Int} (h:n.natAbs<1000000000000000000):(Lib.itoa n).length≤20:=by
 have:=dd_len18 h
 rw [itoa_sg]
 split
 ·simp;omega
 ·omega
theorem smQ_size {r:Rat} (h:smQ r):(textQ r).size≤60:=by
 rw [size_bs,textQ_bytes,List.length_append]
 have h1:=itoa_len18 h.1
 have h2:=dd_len18 h.2
 split
 ·simp;omega
 ·simp;omega
theorem smQ_from {r:Rat} (h:smQ r):okFrom (textQ r)=true∧QR 1 (qFrom (textQ r)) r:=by
 have:=smQ_size h
 exact from_text (by decide) (by decide) (smQ_ok h).1 (smQ_ok h).2 (by omega)
theorem qr_sm {n:Nat} {q:NQ} {r:Rat} (h:QR n q r) (s:smQ r):q=((r.num,[]),((r.den:Int),[])):=by
 obtain⟨a,b⟩:=q
 have s1:=s.1
 have s2:=s.2
 have e1:=sm_val h.o1 h.num (by omega) (by omega)
 have e2:=sm_val h.o2 h.den (by omega) (by omega)
 have e1:a=(r.num,[]):=e1
 have e2:b=((r.den:Int),[]):=e2
 rw [e1,e2]
theorem qr_tx {n:Nat} {q:NQ} {r:Rat} (h:QR n q r) (s:smQ r):okTx q=true∧txS q=textQ r:=by
 have e:=qr_sm h s
 have s1:=s.1
 have s2:=s.2
 subst e
 have l1:=itoa_len18 s1
 have l2:=itoa_len18 (n:=(r.den:Int)) (by omega)
 have z1:(itoaS r.num).size=(Lib.itoa r.num).length:=by rw [size_bs];exact congrArg _ (itoaS_list _)
 have z2:(itoaS (r.den:Int)).size=(Lib.itoa (r.den:Int)).length:=by rw [size_bs];exact congrArg _ (itoaS_list _)
 refine⟨?_, ?_⟩
 ·unfold okTx
  rw [Bool.and_eq_true,Bool.and_eq_true,Bool.and_eq_true,Bool.and_eq_true,Bool.and_eq_true]
  refine⟨⟨⟨rfl, ?_⟩,rfl, ?_⟩,decide_eq_true (by show(itoaS r.num).size≤100;omega),decide_eq_true (by show(itoaS (r.den:Int)).size≤100;omega)⟩
  ·exact i64B_iff.2 (show-9223372036854775808≤r.num∧r.num≤9223372036854775807 by omega)
  ·exact i64B_iff.2 (show-9223372036854775808≤(r.den:Int)∧(r.den:Int)≤9223372036854775807 by omega)
 ·unfold txS isW smI
  by_cases hd:r.den=1
  ·have e:textQ r=itoaS r.num:=by unfold textQ;rw [if_pos hd]
   rw [e]
   show(if((true&&decide (((r.den:Nat):Int)=1))=true)then itoaS r.num else _)=_
   rw [if_pos (by rw [hd];rfl)]
  ·apply ba_ext
   have e:=textQ_bytes r
   rw [if_neg hd]at e
   show bsL (if((true&&decide (((r.den:Nat):Int)=1))=true)then itoaS r.num else itoaS r.num++ByteArray.mk #[47]++itoaS (r.den:Int))=bsL (textQ r)
   rw [if_neg (by rw [Bool.true_and,decide_eq_true_eq];omega),e]
   show(itoaS r.num++ByteArray.mk #[47]++itoaS (r.den:Int)).data.toList=_
   rw [bs_app,bs_app]
   show((itoaS r.num).data.toList++[47])++(itoaS (r.den:Int)).data.toList=_
   rw [itoaS_list,itoaS_list,Dec.itoa_nat,List.append_assoc];rfl
theorem dd_first:∀(u:Nat),0<u→((Lib.decDigits u).getD 0 0).toNat≠48:=fun u=>by
 induction u using Nat.strongRecOn with
 |_ u ih=>
  intro hu
  by_cases h:u<10
  ·rw [dd_small h]
   show(UInt8.ofNat (48+u)).toNat≠48
   rw [Dec.digit_byte u h];omega
  ·rw [dd_big h]
   have:=ih (u/10) (by omega) (by omega)
   have hl:=Dec.digits_pos (u/10)
   rw [List.getD_eq_getElem?_getD,List.getElem?_append_left (by omega),←List.getD_eq_getElem?_getD]
   exact this
theorem dfB_dd {u:ByteArray} {n:Nat} (h:bsL u=Lib.decDigits n):dfB u=true:=by
 have hp:=Dec.digits_pos n
 have hz:u.size=(Lib.decDigits n).length:=by rw [size_bs,h]
 unfold dfB
 rw [h,dd_dig,decide_eq_true (by omega),Bool.and_true,Bool.true_and,Bool.or_eq_true]
 rcases Nat.eq_zero_or_pos n with h0|h0
 ·left
  refine decide_eq_true ?_
  rw [hz,h0,dd_small (by decide)];decide
 ·right
  rw [Bool.not_eq_true',decide_eq_false_iff_not]
  show¬((bsL u).getD 0 0).toNat=48
  rw [h];exact dd_first n h0
theorem smQ_ck {r:Rat} (h:smQ r):ckR (textQ r)=0:=by
 have hdp:0<r.den:=r.den_pos
 obtain⟨T,hT⟩:∃T:List UInt8,T=if r.den=1 then []else 47::Lib.decDigits r.den:=⟨_,rfl⟩
 have hM:=dd_head (R:=T) (dd_ne r.num.natAbs) (dd_dig r.num.natAbs)
 have hb:bsL (textQ r)=if decide (r.num<0)then 45::(Lib.decDigits r.num.natAbs++T)else Lib.decDigits r.num.natAbs++T:=by
  rw [textQ_bytes,←hT,itoa_sg]
  by_cases hn:r.num<0
  ·rw [decide_eq_true hn];rfl
  ·rw [decide_eq_false hn];rfl
 obtain⟨p1,p2,p3⟩:=ps_law hM hb
 have lN:=dd_len18 h.1
 have lD:=dd_len18 h.2
 have hsl:slAt (Lib.decDigits r.num.natAbs++T)=(Lib.decDigits r.num.natAbs).length:=by
  rw [hT]
  split
  ·rw [List.append_nil];exact slAt_dig _ (dd_dig _)
  ·exact slAt_two _ _ (dd_dig _)
 have hu:(psT (textQ r)).size=(Lib.decDigits r.num.natAbs).length+T.length:=by rw [size_bs,p2,List.length_append]
 have x1:bsL ((psT (textQ r)).extract 0 (Lib.decDigits r.num.natAbs).length)=Lib.decDigits r.num.natAbs:=by rw [bs_ext,p2,List.drop_zero,List.take_left'];rfl
 have x2:bsL ((psT (textQ r)).extract ((Lib.decDigits r.num.natAbs).length+1) (psT (textQ r)).size)=T.drop 1:=by
  rw [bs_ext,p2,hu,←List.length_append,List.take_length,←List.drop_drop,List.drop_left'];rfl
 unfold ckR
 rw [p2,hsl,p1]
 unfold ckU
 rw [x1,x2,dd_val]
 rw [if_neg (by rw [dfB_dd x1];decide)]
 rw [if_neg (fun hc=>by
  have h1:=of_decide_eq_true hc.1
  have h2:=congrArg valD hc.2
  rw [dd_val]at h2
  have h3:valD [48]=0:=by decide
  omega)]
 by_cases hd:r.den=1
 ·have e:T=[]:=by rw [hT,if_pos hd]
  have hlt:¬(Lib.decDigits r.num.natAbs).length<(psT (textQ r)).size:=by rw [hu,e];simp
  rw [if_neg (fun hc=>hlt hc.1),if_neg (by rw [hu,e];simp;omega),if_neg (fun hc=>hlt hc.1)]
 ·have e:T=47::Lib.decDigits r.den:=by rw [hT,if_neg hd]
  have x3:bsL ((psT (textQ r)).extract ((Lib.decDigits r.num.natAbs).length+1) (psT (textQ r)).size)=Lib.decDigits r.den:=by rw [x2,e];rfl
  rw [if_neg (fun hc=>by
   rcases hc.2 with h1|h1|h1
   ·rw [dfB_dd x3]at h1;cases h1
   ·have h2:=congrArg valD h1
    rw [e]at h2
    have h2:valD (Lib.decDigits r.den)=valD [48]:=h2
    rw [dd_val]at h2
    have h3:valD [48]=0:=by decide
    omega
   ·have h2:=congrArg valD h1
    rw [e]at h2
    have h2:valD (Lib.decDigits r.den)=valD [49]:=h2
    rw [dd_val]at h2
    have h3:valD [49]=1:=by decide
    omega)]
  rw [if_neg (by rw [hu,e];simp;omega)]
  rw [if_neg (fun hc=>hc.2 (by
   rw [e]
   show Int.gcd _ (valD (Lib.decDigits r.den))=1
   rw [dd_val]
   have hg:Int.gcd r.num ((r.den:Nat):Int)=1:=r.reduced
   rw [←hg]
   simp [Int.gcd]))]
def lsR (ks:List Int):List Rat:=ks.map fun k=>Rat.divInt k 360
def lsOk (ks:List Int):Prop:=∀k∈ks,0≤k∧k≤255
theorem prL_le:∀{l:List Int},(∀x∈l,1≤x∧x≤400)→prL l≤400^l.length
 |[],_=>Int.le_refl 1
 |x::l,h=>by
  have h1:=h x (List.mem_cons_self ..)
  have h2:=prL_le (l:=l) fun y hy=>h y (List.mem_cons_of_mem _ hy)
  have h3:=prL_pos (l:=l) fun y hy=>(h y (List.mem_cons_of_mem _ hy)).1
  show x*prL l≤400^(l.length+1)
  rw [Int.pow_succ,Int.mul_comm (400^l.length)]
  exact Int.mul_le_mul h1.2 h2 (by omega) (by decide)
theorem good_fst {t:List (Int×Int)} (h:goodT t):∀x∈t.map Prod.fst,1≤x∧x≤400:=fun x hx=>by
 obtain⟨q,hq,rfl⟩:=List.mem_map.1 hx
 exact(h q hq).1
theorem good_snd {t:List (Int×Int)} (h:goodT t):∀x∈t.map Prod.snd,1≤x∧x≤400:=fun x hx=>by
 obtain⟨q,hq,rfl⟩:=List.mem_map.1 hx
 exact(h q hq).2
theorem div_same {a b c:Int} (hc:c≠0):Rat.divInt a c+Rat.divInt b c=Rat.divInt (a+b) c:=by
 rw [Rat.divInt_add_divInt _ _ hc hc,←Int.add_mul,Rat.divInt_mul_right hc]
theorem losR_frac:∀(t:List (Int×Int)) (ks:List Int),goodT t→lsOk ks→t.length=ks.length→
  ∃A:Int,losR t (lsR ks)=Rat.divInt A (360*prL (t.map Prod.snd))∧0≤A∧A≤255*t.length*400^t.length
 |[],[],_,_,_=>⟨0,by show(0:Rat)=Rat.divInt 0 360;rw [Rat.zero_divInt],by decide,by decide⟩
 |[],_::_,_,_,h=>by cases h
 |_::_,[],_,_,h=>by cases h
 |p::t,k::ks,hg,hk,hl=>by
  have hp:=hg p (List.mem_cons_self ..)
  have hk0:=hk k (List.mem_cons_self ..)
  have hg':goodT t:=fun q hq=>hg q (List.mem_cons_of_mem _ hq)
  obtain⟨A,e,a0,a1⟩:=losR_frac t ks hg' (fun q hq=>hk q (List.mem_cons_of_mem _ hq)) (by simpa using hl)
  have q0:=prL_pos fun x hx=>(good_snd hg' x hx).1
  have f0:=prL_pos fun x hx=>(good_fst hg' x hx).1
  have f1:=prL_le (good_fst hg')
  rw [List.length_map]at f1
  refine⟨(k*prL (t.map Prod.fst)+A)*p.2, ?_, ?_, ?_⟩
  ·show Rat.divInt k 360*rR t+losR t (lsR ks)=Rat.divInt _ (360*(p.2*prL (t.map Prod.snd)))
   have hq:(360*prL (t.map Prod.snd):Int)≠0:=by omega
   rw [e,rR_prod,Rat.divInt_mul_divInt,div_same hq,show(360*(p.2*prL (t.map Prod.snd)):Int)=360*prL (t.map Prod.snd)*p.2 by rw [Int.mul_comm p.2,Int.mul_assoc],Rat.divInt_mul_right (by omega)]
  ·exact Int.mul_nonneg (Int.add_nonneg (Int.mul_nonneg hk0.1 (by omega)) a0) (by omega)
  ·have h1:k*prL (t.map Prod.fst)≤255*400^t.length:=Int.mul_le_mul hk0.2 f1 (by omega) (by decide)
   have hpw:(0:Int)≤400^t.length:=by omega
   have h2:(k*prL (t.map Prod.fst)+A)*p.2≤(255*400^t.length+255*t.length*400^t.length)*400:=
    Int.mul_le_mul (Int.add_le_add h1 a1) hp.2.2 (by omega) (Int.add_nonneg (by omega) (Int.mul_nonneg (by omega) hpw))
   refine Int.le_trans h2 (Int.le_of_eq ?_)
   show _=255*((t.length+1:Nat):Int)*400^(t.length+1)
   rw [Int.pow_succ,Int.natCast_add]
   generalize (400:Int)^t.length=x
   grind
theorem pow4 {n:Nat} (h:n≤4):(400:Int)^n≤25600000000:=by
 have:n=0∨n=1∨n=2∨n=3∨n=4:=by omega
 rcases this with e|e|e|e|e<;>rw [e]<;>decide
theorem smQ_los {t:List (Int×Int)} {ks:List Int} (hg:goodT t) (hk:lsOk ks) (hl:t.length=ks.length) (h4:t.length≤4):smQ (losR t (lsR ks))∧0≤losR t (lsR ks):=by
 obtain⟨A,e,a0,a1⟩:=losR_frac t ks hg hk hl
 have q0:=prL_pos fun x hx=>(good_snd hg x hx).1
 have q1:=prL_le (good_snd hg)
 rw [List.length_map]at q1
 have hp:=pow4 h4
 have h2:255*(t.length:Int)*400^t.length≤1020*25600000000:=Int.mul_le_mul (by omega) hp (by omega) (by decide)
 rw [e]
 refine⟨smQ_div (by omega) (by omega) (by omega), ?_⟩
 exact Rat.divInt_nonneg a0 (by omega)
theorem smQ_rR {t:List (Int×Int)} (hg:goodT t) (h4:t.length≤4):smQ (rR t):=by
 have q0:=prL_pos fun x hx=>(good_snd hg x hx).1
 have q1:=prL_le (good_snd hg)
 have f0:=prL_pos fun x hx=>(good_fst hg x hx).1
 have f1:=prL_le (good_fst hg)
 rw [List.length_map]at q1 f1
 have hp:=pow4 h4
 rw [rR_prod]
 exact smQ_div (by omega) (by omega) (by omega)
theorem smQ_prod {t:List (Int×Int)} {ks:List Int} {u:List (Int×Int)} (hg:goodT t) (hk:lsOk ks) (hl:t.length=ks.length) (h2:t.length≤2) (hu:goodT u) (hu2:u.length≤2):smQ (losR t (lsR ks)*rR u):=by
 obtain⟨A,e,a0,a1⟩:=losR_frac t ks hg hk hl
 have pw:∀{n:Nat},n≤2→(400:Int)^n≤160000:=fun {n} h=>by
  have:n=0∨n=1∨n=2:=by omega
  rcases this with e|e|e<;>rw [e]<;>decide
 have q0:=prL_pos fun x hx=>(good_snd hg x hx).1
 have q1:=prL_le (good_snd hg)
 have r0:=prL_pos fun x hx=>(good_snd hu x hx).1
 have r1:=prL_le (good_snd hu)
 have f0:=prL_pos fun x hx=>(good_fst hu x hx).1
 have f1:=prL_le (good_fst hu)
 rw [List.length_map]at q1 f1 r1
 have p1:=pw h2
 have p2:=pw hu2
 have a2:255*(t.length:Int)*400^t.length≤510*160000:=Int.mul_le_mul (by omega) p1 (by omega) (by decide)
 have n1:A*prL (u.map Prod.fst)≤81600000*160000:=Int.mul_le_mul (by omega) (by omega) (by omega) (by decide)
 have n0:0≤A*prL (u.map Prod.fst):=Int.mul_nonneg a0 (by omega)
 have d1:360*prL (t.map Prod.snd)*prL (u.map Prod.snd)≤57600000*160000:=Int.mul_le_mul (by omega) (by omega) (by omega) (by decide)
 have d0:(1:Int)*1≤360*prL (t.map Prod.snd)*prL (u.map Prod.snd):=Int.mul_le_mul (by omega) r0 (by decide) (by omega)
 rw [e,rR_prod,Rat.divInt_mul_divInt]
 generalize A*prL (u.map Prod.fst)=x at*
 generalize 360*prL (t.map Prod.snd)*prL (u.map Prod.snd)=y at*
 exact smQ_div (by omega) (by omega) (by omega)
end Go.Proofs.YtccmlbinkgbpgaaGreatDoor
/- Package exact: digits, whole; the reference's CheckRow: steps. -/
namespace Go.Proofs.YtccmlbinkgbpgaaGreatDoor
open Go.RowKit Sv
set_option maxRecDepth 100000
set_option linter.unusedVariables false
set_option linter.unusedSimpArgs false
noncomputable section
noncomputable def BEdg:Code:=(Tryz.f126.body).getD .skip
noncomputable def BEwh:Code:=(Tryz.f67.body).getD .skip
def SEdg (s:ByteArray) (k:Nat):St:={n:=22,sl:=[(0,sv s),(5,iv s.size),(6,iv k)],en:=[],next:=64}
abbrev edgL:List Nat:=[1,0,1,0,0]
theorem edg_start (s:ByteArray):
  Tst.path (vrun0 Tryz.prog (ctrs []) (fl BEdg []) 2 22 [sv s]) [] (toSt Tryz.prog 22 .normal [] (SEdg s 0)):=
 mp (an (rr s) (an (rr ((↑s.size:Int))) (an (rr ((0:Int))) trivial)))
theorem edg_lo (s:ByteArray) (k:Nat) (h1:(↑k:Int)<(↑s.size:Int)) (h2:k<s.size) (h3:(↑(UInt8.toNat (List.getD (Array.toList (ByteArray.data s)) k (0:UInt8))):Int)<48):
  Tst.path (vall Tryz.prog (ctrs []) (fl BEdg edgL) (SEdg s k)) [true,false,false,false,false,true,true] (toRet Tryz.prog Tryz.f126 true (bv false)):=
 mp (an (decide_eq_true h1) (an (show(decide ((0:Int)≤(↑k:Int)))=true from decide_eq_true (by omega)) (an (decide_eq_true h2) (an (bF (decide_eq_true h3)) (an (bF (decide_eq_true h3)) (an (bF (decide_eq_true h3)) (an (bF (decide_eq_true h3)) (an (decide_eq_true h3) (an rt rf)))))))))
theorem edg_hi (s:ByteArray) (k:Nat) (h1:(↑k:Int)<(↑s.size:Int)) (h2:k<s.size) (h3:¬(↑(UInt8.toNat (List.getD (Array.toList (ByteArray.data s)) k (0:UInt8))):Int)<48) (h4:(↑(UInt8.toNat (List.getD (Array.toList (ByteArray.data s)) k (0:UInt8))):Int)>57):
  Tst.path (vall Tryz.prog (ctrs []) (fl BEdg edgL) (SEdg s k)) [true,true,true,true,true,false,true] (toRet Tryz.prog Tryz.f126 true (bv false)):=
 mp (an (decide_eq_true h1) (an (show(decide ((0:Int)≤(↑k:Int)))=true from decide_eq_true (by omega)) (an (decide_eq_true h2) (an (bF (decide_eq_false h3)) (an (bF (decide_eq_false h3)) (an (bF (decide_eq_false h3)) (an (show(decide ((0:Int)≤(↑k:Int)))=true from decide_eq_true (by omega)) (an (decide_eq_true h2) (an (bF (decide_eq_false h3)) (an (decide_eq_false h3) (an (decide_eq_true h4) rf)))))))))))
theorem edg_go (s:ByteArray) (k:Nat) (h1:(↑k:Int)<(↑s.size:Int)) (h2:k<s.size) (h3:¬(↑(UInt8.toNat (List.getD (Array.toList (ByteArray.data s)) k (0:UInt8))):Int)<48) (h4:¬(↑(UInt8.toNat (List.getD (Array.toList (ByteArray.data s)) k (0:UInt8))):Int)>57) (h5: -9223372036854775808≤(↑k:Int)+1∧(↑k:Int)+1≤9223372036854775807):
  Tst.path (vall Tryz.prog (ctrs []) (fl BEdg edgL) (SEdg s k)) [true,true,true,true,true,false,false] (toSt Tryz.prog 22 .normal [] (SEdg s (k+1))):=
 mp (an (decide_eq_true h1) (an (show(decide ((0:Int)≤(↑k:Int)))=true from decide_eq_true (by omega)) (an (decide_eq_true h2) (an (bF (decide_eq_false h3)) (an (bF (decide_eq_false h3)) (an (bF (decide_eq_false h3)) (an (show(decide ((0:Int)≤(↑k:Int)))=true from decide_eq_true (by omega)) (an (decide_eq_true h2) (an (bF (decide_eq_false h3)) (an (decide_eq_false h3) (an (decide_eq_false h4) (an (fits_i64 h5) (an (rr s) (an (rr ((↑s.size:Int))) (an (show((↑k:Int)+1)=((↑(k+(1:Nat)):Int))from(by omega)) trivial)))))))))))))))
theorem edg_end (s:ByteArray) (k:Nat) (h1:¬(↑k:Int)<(↑s.size:Int)):
  Tst.path (vall Tryz.prog (ctrs []) (fl BEdg edgL) (SEdg s k)) [false] (toSt Tryz.prog 22 (.exit 0) [] (SEdg s k)):=
 mp (an (decide_eq_false h1) (an (rr s) (an (rr ((↑s.size:Int))) (an (rr ((↑k:Int))) trivial))))
theorem edg_ret (s:ByteArray) (k:Nat):
  Tst.path (vall Tryz.prog (ctrs []) (List.drop 3 (fl BEdg [])) (SEdg s k)) [] (toRet Tryz.prog Tryz.f126 true (bv (!(decide (bsL s=[]))))):=
 mp (rr (!decide (Array.toList (ByteArray.data s)=Array.toList (ByteArray.data (ByteArray.mk (#[]))))))
noncomputable def cEdg:Ctr:={f:=126,ps:=[.str],rs:=[.bool],fresh:=true,pre:=fun d=>decide (ByteArray.size d.1≤1000000000),fn:=fun d=>(digB (bsL d.1)&&decide (0<ByteArray.size d.1),())}
noncomputable def ewhCs:VCaller:=ctrs [cEdg]
theorem ewh_no (s:ByteArray) (h1:s.size≤(1000000000:Nat)) (h2:(digB (Array.toList (ByteArray.data s))&&decide ((0:Nat)<s.size))=false):
  Tst.path (vrun0 Tryz.prog ewhCs (fl BEwh []) 9 14 [sv s]) [false,false,false,false,false] (toRet Tryz.prog Tryz.f67 true (bv false)):=
 mp (an (decide_eq_true h1) (an (bT h2) (an (bT h2) (an (bT h2) (an (bT h2) (an h2 rf))))))
theorem ewh_z (s:ByteArray) (h1:s.size≤(1000000000:Nat)) (h2:(digB (Array.toList (ByteArray.data s))&&decide ((0:Nat)<s.size))=true) (h3:Array.toList (ByteArray.data s)=Array.toList (ByteArray.data (ByteArray.mk (#[(48:UInt8)])))):
  Tst.path (vrun0 Tryz.prog ewhCs (fl BEwh []) 9 14 [sv s]) [true,true,true,false,false,false,true,true,true] (toRet Tryz.prog Tryz.f67 true (bv true)):=
 mp (an (decide_eq_true h1) (an (bT h2) (an (bT h2) (an (bT h2) (an (bF (decide_eq_true h3)) (an (bF (decide_eq_true h3)) (an (bF (decide_eq_true h3)) (an (bT h2) (an (decide_eq_true h3) (an h2 rt))))))))))
theorem ewh_d (s:ByteArray) (h1:s.size≤(1000000000:Nat)) (h2:(digB (Array.toList (ByteArray.data s))&&decide ((0:Nat)<s.size))=true) (h3:¬Array.toList (ByteArray.data s)=Array.toList (ByteArray.data (ByteArray.mk (#[(48:UInt8)])))) (h4:Int.toNat (0:Int)<s.size) (h5:((↑(UInt8.toNat (List.getD (Array.toList (ByteArray.data s)) (Int.toNat (0:Int)) (0:UInt8))):Int) != 48)=(!decide ((↑(UInt8.toNat (List.getD (Array.toList (ByteArray.data s)) (0:Nat) (0:UInt8))):Int)=48))):
  Tst.path (vrun0 Tryz.prog ewhCs (fl BEwh []) 9 14 [sv s]) [true,true,true,true,true,true,true,false,true] (toRet Tryz.prog Tryz.f67 true (bv (!(decide (((sb0 s 0).toNat:Int)=48))))):=
 mp (an (decide_eq_true h1) (an (bT h2) (an (bT h2) (an (bT h2) (an (bF (decide_eq_false h3)) (an (bF (decide_eq_false h3)) (an rt (an (decide_eq_true h4) (an (bF (decide_eq_false h3)) (an (bT h2) (an (decide_eq_false h3) (an h2 h5))))))))))))
noncomputable def cEwh:Ctr:={f:=67,ps:=[.str],rs:=[.bool],fresh:=true,pre:=fun d=>decide (ByteArray.size d.1≤1000000000),fn:=fun d=>(dfB d.1,())}
theorem edg_holds (s:ByteArray) (hl:s.size≤1000000000):Holds Tryz.prog true 126 [sv s] (bv (digB (bsL s)&&decide (0<s.size))):=by
 have hS:=none_ok
 have hz:=size_bs s
 refine holds_fl (c:=BEdg) Tryz.func126 rfl rfl fun w F=> ?_
 refine GoalL.to known mixed hS 2 _ (edg_start s) (by kernel_rfl) ?_
 refine GoalL.loop (ι:={k:Nat//k≤s.size∧digB ((bsL s).take k)=true}) (id:=0) (b:=cat BEdg edgL) (rest:=List.drop 3 (fl BEdg [])) (by kernel_rfl) (fun k=>SEdg s k.1) (fun k=>s.size-k.1) ⟨0,Nat.zero_le _,by rw [List.take_zero];rfl⟩ (fun _=>rfl) ?_
 rintro⟨k,hk,hd⟩
 by_cases hlt:k<s.size
 ·have hmem:sb0 s k∈bsL s:=by rw [sb0_get (by omega)];exact List.getElem_mem _
  have hno:¬(48≤(sb0 s k).toNat∧(sb0 s k).toNat≤57)→digB (bsL s)=false:=fun hn=>by
   rw [Bool.eq_false_iff]
   intro h
   have:=List.all_eq_true.1 h _ hmem
   rw [Bool.and_eq_true,decide_eq_true_eq,decide_eq_true_eq]at this
   exact hn this
  by_cases h1:(sb0 s k).toNat<48
  ·rw [hno (by omega)]
   exact GoalL.allRet (s:=SEdg s k) known mixed hS _ (edg_lo s k (by omega) hlt (by show((sb0 s k).toNat:Int)<48;omega)) fun T H h=>h
  ·by_cases h2:57<(sb0 s k).toNat
   ·rw [hno (by omega)]
    exact GoalL.allRet (s:=SEdg s k) known mixed hS _ (edg_hi s k (by omega) hlt (by show¬((sb0 s k).toNat:Int)<48;omega) (by show((sb0 s k).toNat:Int)>57;omega)) fun T H h=>h
   ·refine GoalL.all (s:=SEdg s k) known mixed hS _ (edg_go s k (by omega) hlt (by show¬((sb0 s k).toNat:Int)<48;omega) (by show¬((sb0 s k).toNat:Int)>57;omega) (by omega)) (by kernel_rfl) ?_
    refine⟨⟨k+1,hlt, ?_⟩,by show s.size-(k+1)<s.size-k;omega,rfl,rfl⟩
    rw [take_u (by omega),digB_app]
    refine⟨hd, ?_⟩
    show digB [sb0 s k]=true
    rw [digB_cons,decide_eq_true (by omega),decide_eq_true (by omega)];rfl
 ·refine GoalL.all (s:=SEdg s k) known mixed hS _ (edg_end s k (by omega)) (by kernel_rfl) ?_
  refine onN_exit (inB_exit ?_)
  rw [List.take_of_length_le (by omega)]at hd
  have e:(digB (bsL s)&&decide (0<s.size))= !(decide (bsL s=[])):=by
   rw [hd,Bool.true_and]
   by_cases h0:bsL s=[]
   ·rw [decide_eq_true h0,decide_eq_false (by rw [size_bs,h0];decide)];rfl
   ·rw [decide_eq_false h0,decide_eq_true (by rw [size_bs];exact List.length_pos_iff.2 h0)];rfl
  rw [e]
  exact GoalL.allRet (s:=SEdg s k) known mixed hS _ (edg_ret s k) fun T H h=>h
theorem cEdg_ok:cEdg.Ok Tryz.prog:=fun⟨s,_⟩ h=>edg_holds s (of_decide_eq_true h)
theorem ewhCs_ok:CallOk Tryz.prog (gS ewhCs):=ctrs_ok fun c hc=>by
 simp only [List.mem_cons,List.not_mem_nil,or_false]at hc
 obtain rfl:=hc
 exact cEdg_ok
theorem ewh_holds (s:ByteArray) (hl:s.size≤1000000000):Holds Tryz.prog true 67 [sv s] (bv (dfB s)):=by
 have hS:=ewhCs_ok
 refine holds_fl (c:=BEwh) Tryz.func67 rfl rfl fun w F=> ?_
 cases hd:digB (bsL s)&&decide (0<s.size)with
 |false=>
  have e:dfB s=false:=by
   rw [Bool.eq_false_iff]
   intro h
   obtain⟨h1,h2⟩:=dfB_dig h
   rw [h1,decide_eq_true h2]at hd
   cases hd
  rw [e]
  exact GoalL.ret known mixed hS 9 _ (ewh_no s hl hd) fun T H h=>h
 |true=>
  have hd2:=hd
  rw [Bool.and_eq_true,decide_eq_true_eq]at hd2
  by_cases hz:bsL s=[48]
  ·have e:dfB s=true:=by
    unfold dfB
    have h1:s.size=1:=by rw [size_bs,hz];rfl
    rw [hd2.1,decide_eq_true hd2.2,decide_eq_true (show s.size≤1 by omega)];rfl
   rw [e]
   exact GoalL.ret known mixed hS 9 _ (ewh_z s hl hd hz) fun T H h=>h
  ·have e:dfB s= !(decide (((sb0 s 0).toNat:Int)=48)):=by
    unfold dfB
    rw [hd2.1,decide_eq_true hd2.2,Bool.true_and,Bool.and_true]
    by_cases h1:s.size≤1
    ·rw [decide_eq_true h1,Bool.true_or]
     have h48:¬((sb0 s 0).toNat:Int)=48:=fun h=>hz (by
      obtain⟨b,hb⟩:∃b,bsL s=[b]:=List.length_eq_one_iff.1 (by rw [←size_bs];omega)
      have h2:(b.toNat:Int)=48:=by
       have h3:(((bsL s).getD 0 0).toNat:Int)=48:=h
       rw [hb]at h3;exact h3
      rw [hb]
      congr 1
      exact UInt8.toNat_inj.1 (by show b.toNat=48;omega))
     rw [decide_eq_false h48];rfl
    ·rw [decide_eq_false h1,Bool.false_or]
     congr 1
     by_cases h4:(sb0 s 0).toNat=48
     ·rw [decide_eq_true h4,decide_eq_true (by omega)]
     ·rw [decide_eq_false h4,decide_eq_false (by omega)]
   rw [e]
   exact GoalL.ret known mixed hS 9 _ (ewh_d s hl hd hz (by show 0<s.size;exact hd2.2) rfl) fun T H h=>h
theorem cEwh_ok:cEwh.Ok Tryz.prog:=fun⟨s,_⟩ h=>ewh_holds s (of_decide_eq_true h)
attribute [local irreducible] ckR
end
end Go.Proofs.YtccmlbinkgbpgaaGreatDoor
/- Package exact: Check: the sign is cut off; the steps. -/
namespace Go.Proofs.YtccmlbinkgbpgaaGreatDoor
open Go.RowKit Sv
set_option maxRecDepth 100000
set_option linter.unusedVariables false
set_option linter.unusedSimpArgs false
noncomputable section
noncomputable def BHp:Code:=(Tryz.f176.body).getD .skip
noncomputable def BCp:Code:=(Tryz.f125.body).getD .skip
noncomputable def BCp2:Code:=(Tryz.f66.body).getD .skip
theorem hpx_no (s:ByteArray) (h1:¬(↑s.size:Int)≥(↑(ByteArray.mk (#[(45:UInt8)])).size:Int)):
  Tst.path (vrun0 Tryz.prog (ctrs []) (fl BHp []) 9 18 [sv s,sv mns]) [false,false,false,false,false,false,false] (toRet Tryz.prog Tryz.f176 true (bv false)):=
 mp (an (bT (decide_eq_false h1)) (an (bT (decide_eq_false h1)) (an (bT (decide_eq_false h1)) (an (bT (decide_eq_false h1)) (an (bT (decide_eq_false h1)) (an (bT (decide_eq_false h1)) (an (decide_eq_false h1) rf)))))))
theorem hpx_yes (s:ByteArray) (h1:(↑s.size:Int)≥(↑(ByteArray.mk (#[(45:UInt8)])).size:Int)) (h2:(ByteArray.mk (#[(45:UInt8)])).size≤s.size) (h3:(decide (Array.toList (ByteArray.data (ByteArray.extract s (0:Nat) (ByteArray.mk (#[(45:UInt8)])).size))=Array.toList (ByteArray.data (ByteArray.mk (#[(45:UInt8)])))))=(psN s)):
  Tst.path (vrun0 Tryz.prog (ctrs []) (fl BHp []) 9 18 [sv s,sv mns]) [true,true,true,true,true,true,true] (toRet Tryz.prog Tryz.f176 true (bv (psN s))):=
 mp (an (bT (decide_eq_true h1)) (an (bT (decide_eq_true h1)) (an (bT (decide_eq_true h1)) (an (bT (decide_eq_true h1)) (an rt (an rt (an (decide_eq_true h2) (an (bT (decide_eq_true h1)) (an (bT (decide_eq_true h1)) (an (decide_eq_true h1) h3))))))))))
noncomputable def cHpx:Ctr:={f:=176,ps:=[.str, .str],rs:=[.bool],fresh:=true,pre:=fun d=>decide (d.2.1=mns),fn:=fun d=>(psN d.1,())}
noncomputable def cCpx:Ctr:={f:=125,ps:=[.str, .str],rs:=[.str, .bool],fresh:=true,pre:=fun d=>decide (d.2.1=mns),fn:=fun d=>(psT d.1,psN d.1,())}
noncomputable def cCpy:Ctr:={f:=66,ps:=[.str, .str],rs:=[.str, .bool],fresh:=true,pre:=fun d=>decide (d.2.1=mns),fn:=fun d=>(psT d.1,psN d.1,())}
theorem cpx_no (s:ByteArray) (h1:(ByteArray.mk (#[(45:UInt8)]))=(ByteArray.mk (#[(45:UInt8)]))) (h2:(psN s)=false):
  Tst.path (vrun0 Tryz.prog (ctrs [cHpx]) (fl BCp []) 9 15 [sv s,sv mns]) [true] (toRet Tryz.prog Tryz.f125 true (.tuple [sv s,bv false])):=
 mp (an (decide_eq_true h1) (an (bN h2) (an (rr s) (an rf trivial))))
theorem cpx_yes (s:ByteArray) (h1:(ByteArray.mk (#[(45:UInt8)]))=(ByteArray.mk (#[(45:UInt8)]))) (h2:(psN s)=true) (h3:(ByteArray.mk (#[(45:UInt8)])).size≤s.size) (h4:(ByteArray.extract s (ByteArray.mk (#[(45:UInt8)])).size s.size)=(ByteArray.extract s (1:Nat) s.size)):
  Tst.path (vrun0 Tryz.prog (ctrs [cHpx]) (fl BCp []) 9 15 [sv s,sv mns]) [false] (toRet Tryz.prog Tryz.f125 true (.tuple [sv (s.extract 1 s.size),bv true])):=
 mp (an (decide_eq_true h1) (an (bN h2) (an rt (an (decide_eq_true h3) (an (show(decide (s.size≤s.size))=true from decide_eq_true (by omega)) (an h4 (an rt trivial)))))))
theorem cpy_all (s:ByteArray) (h1:(ByteArray.mk (#[(45:UInt8)]))=(ByteArray.mk (#[(45:UInt8)]))):
  Tst.path (vrun0 Tryz.prog (ctrs [cCpx]) (fl BCp2 []) 9 11 [sv s,sv mns]) [] (toRet Tryz.prog Tryz.f66 true (.tuple [sv (psT s),bv (psN s)])):=
 mp (an (decide_eq_true h1) (an (rr (psT s)) (an (rr (psN s)) trivial)))
noncomputable def BSml:Code:=(Tryz.f70.body).getD .skip
theorem sml_z (z:Int):
  Tst.path (vrun0 Tryz.prog (ctrs []) (fl BSml []) 9 (Tryz.f70.ntmps) [nv (z,[])]) [] (toRet Tryz.prog Tryz.f70 true (.tuple [iv z,bv true])):=
 mp (an (sr (iv z)) (an (sr (AV.lst true (.int .u64) [])) (an (rr z) (an rt trivial))))
theorem sml_big (z x:Int) (r:List Int) (h1:(x::r).isEmpty=false):
  Tst.path (vrun0 Tryz.prog (ctrs []) (fl BSml []) 9 (Tryz.f70.ntmps) [nv (z,x::r)]) [] (toRet Tryz.prog Tryz.f70 true (.tuple [iv z,bv false])):=
 mp (an (sr (iv z)) (an (sr (AV.lst true (.int .u64) (x::r))) (an (rr z) (an (bT h1) trivial))))
theorem hpx_holds (s:ByteArray):Holds Tryz.prog true 176 [sv s,sv mns] (bv (psN s)):=by
 have z1:(ByteArray.mk (#[(45:UInt8)])).size=1:=rfl
 refine holds_fl (c:=BHp) Tryz.func176 rfl rfl fun w F=> ?_
 by_cases h0:0<s.size
 ·refine GoalL.ret known mixed none_ok 9 _ (hpx_yes s (by rw [z1];omega) (by rw [z1];omega) ?_) fun T H h=>h
  rw [z1,show Array.toList (ByteArray.data (s.extract 0 1))=(bsL s).take 1 from by rw [show Array.toList (ByteArray.data (s.extract 0 1))=bsL (s.extract 0 1)from rfl,bs_ext,List.drop_zero]]
  show decide ((bsL s).take 1=[45])=psN s
  unfold psN
  rw [decide_eq_true h0,Bool.true_and]
  cases hb:bsL s with
  |nil=>rw [size_bs,hb]at h0;cases h0
  |cons b r=>
   have e0:sb0 s 0=b:=by show(bsL s).getD 0 0=b;rw [hb];rfl
   rw [e0]
   show decide ([b]=[45])=_
   by_cases h:b.toNat=45
   ·have:b=45:=UInt8.toNat_inj.1 h
    subst this;rfl
   ·rw [decide_eq_false h,decide_eq_false (fun e=>h (by rw [(List.cons.inj e).1];rfl))]
 ·have e:psN s=false:=by unfold psN;rw [decide_eq_false h0];rfl
  rw [e]
  exact GoalL.ret known mixed none_ok 9 _ (hpx_no s (by rw [z1];omega)) fun T H h=>h
theorem cHpx_ok:cHpx.Ok Tryz.prog:=fun⟨s,p,_⟩ h=>by
 have h:decide (p=mns)=true:=h
 rw [of_decide_eq_true h]
 exact hpx_holds s
theorem cpx_holds (s:ByteArray):Holds Tryz.prog true 125 [sv s,sv mns] (.tuple [sv (psT s),bv (psN s)]):=by
 have hS:CallOk Tryz.prog (gS (ctrs [cHpx])):=ctrs_ok fun c hc=>by rw [List.mem_singleton.1 hc];exact cHpx_ok
 refine holds_fl (c:=BCp) Tryz.func125 rfl rfl fun w F=> ?_
 cases hn:psN s with
 |true=>
  have e:psT s=s.extract 1 s.size:=by unfold psT;rw [hn]
  have h0:0<s.size:=by unfold psN at hn;rw [Bool.and_eq_true,decide_eq_true_eq]at hn;exact hn.1
  rw [e]
  exact GoalL.ret known mixed hS 9 _ (cpx_yes s rfl hn (by show 1≤s.size;omega) rfl) fun T H h=>h
 |false=>
  have e:psT s=s:=by unfold psT;rw [hn]
  rw [e]
  exact GoalL.ret known mixed hS 9 _ (cpx_no s rfl hn) fun T H h=>h
theorem cCpx_ok:cCpx.Ok Tryz.prog:=fun⟨s,p,_⟩ h=>by
 have h:decide (p=mns)=true:=h
 rw [of_decide_eq_true h]
 exact cpx_holds s
theorem cCpy_ok:cCpy.Ok Tryz.prog:=fun⟨s,p,_⟩ h=>by
 have h:decide (p=mns)=true:=h
 rw [of_decide_eq_true h]
 have hS:CallOk Tryz.prog (gS (ctrs [cCpx])):=ctrs_ok fun c hc=>by rw [List.mem_singleton.1 hc];exact cCpx_ok
 refine holds_fl (c:=BCp2) Tryz.func66 rfl rfl fun w F=> ?_
 exact GoalL.ret known mixed hS 9 _ (cpy_all s rfl) fun T H h=>h
end
end Go.Proofs.YtccmlbinkgbpgaaGreatDoor
/- Package exact: Check: the steps (printed by a small program). -/
namespace Go.Proofs.YtccmlbinkgbpgaaGreatDoor
open Go.RowKit Sv
set_option maxRecDepth 100000
set_option linter.unusedVariables false
set_option linter.unusedSimpArgs false
noncomputable section
noncomputable def BEck:Code:=(Tryz.f31.body).getD .skip
def smW (l:List Int):Bool:=List.isEmpty l
noncomputable def cSml:Ctr:={f:=70,ps:=[tI],rs:=[.int .i64, .bool],fresh:=true,pre:=fun d=>true,fn:=fun d=>(d.1.1,smW d.1.2,())}
noncomputable def eckCs:VCaller:=ctrs [cCut,cCpy,cEwh,cRead,cGcd,cSml]
def SEck (u d:ByteArray) (fr ng:Bool):St:={n:=71,sl:=[(4,sv d),(5,bv fr),(6,sv u),(7,bv ng)],en:=[],next:=64}
theorem eck_start (s:ByteArray) (h1:(okCut s)=true) (h2:(ByteArray.mk (#[(45:UInt8)]))=(ByteArray.mk (#[(45:UInt8)]))):
  Tst.path (vrun0 Tryz.prog eckCs (fl BEck []) 3 71 [sv s]) [] (toSt Tryz.prog 71 .normal [] (SEck (psT (cutA s b47)) (cutB s b47) (cutIs s b47) (psN (cutA s b47)))):=
 mp (an h1 (an (decide_eq_true h2) (an (rr (cutB s (ByteArray.mk (#[(47:UInt8)])))) (an (rr (cutIs s (ByteArray.mk (#[(47:UInt8)])))) (an (rr (psT (cutA s (ByteArray.mk (#[(47:UInt8)]))))) (an (rr (psN (cutA s (ByteArray.mk (#[(47:UInt8)]))))) trivial))))))
theorem eck_bad (u d:ByteArray) (fr ng:Bool) (h1:u.size≤(1000000000:Nat)) (h2:(dfB u)=false):
  Tst.path (vall Tryz.prog eckCs (List.drop 3 (fl BEck [])) (SEck u d fr ng)) [false,false,false,true,false,false,false,true,true] (toRet Tryz.prog Tryz.f31 true (iv 1)):=
 mp (an (decide_eq_true h1) (an (bF (bN h2)) (an (bF (bN h2)) (an (bF (bN h2)) (an (bN h2) (an rf (an rf (an rf (an rt (an rt (rr ((1:Int)))))))))))))
theorem eck_n0 (u d:ByteArray) (fr:Bool) (h1:u.size≤(1000000000:Nat)) (h2:(dfB u)=true) (h3:Array.toList (ByteArray.data u)=Array.toList (ByteArray.data (ByteArray.mk (#[(48:UInt8)])))):
  Tst.path (vall Tryz.prog eckCs (List.drop 3 (fl BEck [])) (SEck u d fr true)) [true,true,true,true,true,true,false,false,false,false,true,true] (toRet Tryz.prog Tryz.f31 true (iv 1)):=
 mp (an (decide_eq_true h1) (an (bF (bN h2)) (an (bF (bN h2)) (an rt (an rt (an (bF (bN h2)) (an rt (an (bN h2) (an (bF (decide_eq_true h3)) (an (bF (decide_eq_true h3)) (an (bF (decide_eq_true h3)) (an (decide_eq_true h3) (an rt (rr ((1:Int))))))))))))))))
theorem eck_ip (u d:ByteArray) (h1:u.size≤(1000000000:Nat)) (h2:(dfB u)=true):
  Tst.path (vrun Tryz.prog eckCs (List.drop 3 (fl BEck [])) 2 (SEck u d false false)) [true,true,false,false,true,false,false,true,true,false,false,false,false,false,false,false,true,false,false,false] (toSt Tryz.prog 71 .normal [] (SEck u d false false)):=
 mp (an (decide_eq_true h1) (an (bF (bN h2)) (an (bF (bN h2)) (an rf (an rf (an (bF (bN h2)) (an rf (an (bN h2) (an rt (an rt (an rf (an rf (an rf (an rf (an rf (an rf (an rf (an rt (an rf (an rf (an rf (an (rr d) (an rf (an (rr u) (an rf trivial)))))))))))))))))))))))))
theorem eck_bp (u d:ByteArray) (h1:u.size≤(1000000000:Nat)) (h2:(dfB u)=true) (h3:d.size≤(1000000000:Nat)) (h4:(dfB d)=false):
  Tst.path (vall Tryz.prog eckCs (List.drop 3 (fl BEck [])) (SEck u d true false)) [true,true,false,false,true,false,false,true,true,true,true,true,true,false,false,true,true,true,false,false,true,true,true,true,false,true] (toRet Tryz.prog Tryz.f31 true (iv 1)):=
 mp (an (decide_eq_true h1) (an (bF (bN h2)) (an (bF (bN h2)) (an rf (an rf (an (bF (bN h2)) (an rf (an (bN h2) (an rt (an rt (an rt (an rt (an (decide_eq_true h3) (an rt (an rt (an (bF (bN h4)) (an (bF (bN h4)) (an rt (an (bN h4) (an rt (an rf (an rf (an rt (an rt (an rt (an rt (an rf (an rt (rr ((1:Int)))))))))))))))))))))))))))))))
theorem eck_zp (u d:ByteArray) (h1:u.size≤(1000000000:Nat)) (h2:(dfB u)=true) (h3:d.size≤(1000000000:Nat)) (h4:(dfB d)=true) (h5:Array.toList (ByteArray.data d)=Array.toList (ByteArray.data (ByteArray.mk (#[(48:UInt8)])))):
  Tst.path (vall Tryz.prog eckCs (List.drop 3 (fl BEck [])) (SEck u d true false)) [true,true,false,false,true,false,false,true,true,true,true,true,true,true,true,true,false,true,false,false,true,true,true,true,false,true] (toRet Tryz.prog Tryz.f31 true (iv 1)):=
 mp (an (decide_eq_true h1) (an (bF (bN h2)) (an (bF (bN h2)) (an rf (an rf (an (bF (bN h2)) (an rf (an (bN h2) (an rt (an rt (an rt (an rt (an (decide_eq_true h3) (an rt (an rt (an (bF (bN h4)) (an (bF (bN h4)) (an rt (an (bN h4) (an rt (an (bF (decide_eq_true h5)) (an (bF (decide_eq_true h5)) (an rt (an (decide_eq_true h5) (an rt (an rt (an rf (an rt (rr ((1:Int)))))))))))))))))))))))))))))))
theorem eck_op (u d:ByteArray) (h1:u.size≤(1000000000:Nat)) (h2:(dfB u)=true) (h3:d.size≤(1000000000:Nat)) (h4:(dfB d)=true) (h5:¬Array.toList (ByteArray.data d)=Array.toList (ByteArray.data (ByteArray.mk (#[(48:UInt8)])))) (h6:Array.toList (ByteArray.data d)=Array.toList (ByteArray.data (ByteArray.mk (#[(49:UInt8)])))):
  Tst.path (vall Tryz.prog eckCs (List.drop 3 (fl BEck [])) (SEck u d true false)) [true,true,false,false,true,false,false,true,true,true,true,true,true,true,true,true,false,true,true,true,true,false,true,true,false,true] (toRet Tryz.prog Tryz.f31 true (iv 1)):=
 mp (an (decide_eq_true h1) (an (bF (bN h2)) (an (bF (bN h2)) (an rf (an rf (an (bF (bN h2)) (an rf (an (bN h2) (an rt (an rt (an rt (an rt (an (decide_eq_true h3) (an rt (an rt (an (bF (bN h4)) (an (bF (bN h4)) (an rt (an (bN h4) (an rt (an (bF (decide_eq_false h5)) (an (bF (decide_eq_false h5)) (an rt (an (decide_eq_false h5) (an rt (an rt (an rf (an (decide_eq_true h6) (rr ((1:Int)))))))))))))))))))))))))))))))
theorem eck_qp (u d:ByteArray) (h1:u.size≤(1000000000:Nat)) (h2:(dfB u)=true) (h3:d.size≤(1000000000:Nat)) (h4:(dfB d)=true) (h5:¬Array.toList (ByteArray.data d)=Array.toList (ByteArray.data (ByteArray.mk (#[(48:UInt8)])))) (h6:¬Array.toList (ByteArray.data d)=Array.toList (ByteArray.data (ByteArray.mk (#[(49:UInt8)])))):
  Tst.path (vrun Tryz.prog eckCs (List.drop 3 (fl BEck [])) 2 (SEck u d true false)) [true,true,false,false,true,false,false,true,true,true,true,true,true,true,true,true,false,true,true,true,true,false,true,true,false,false] (toSt Tryz.prog 71 .normal [] (SEck u d true false)):=
 mp (an (decide_eq_true h1) (an (bF (bN h2)) (an (bF (bN h2)) (an rf (an rf (an (bF (bN h2)) (an rf (an (bN h2) (an rt (an rt (an rt (an rt (an (decide_eq_true h3) (an rt (an rt (an (bF (bN h4)) (an (bF (bN h4)) (an rt (an (bN h4) (an rt (an (bF (decide_eq_false h5)) (an (bF (decide_eq_false h5)) (an rt (an (decide_eq_false h5) (an rt (an rt (an rf (an (decide_eq_false h6) (an (rr d) (an rt (an (rr u) (an rf trivial))))))))))))))))))))))))))))))))
theorem eck_in (u d:ByteArray) (h1:u.size≤(1000000000:Nat)) (h2:(dfB u)=true) (h3:¬Array.toList (ByteArray.data u)=Array.toList (ByteArray.data (ByteArray.mk (#[(48:UInt8)])))):
  Tst.path (vrun Tryz.prog eckCs (List.drop 3 (fl BEck [])) 2 (SEck u d false true)) [true,true,true,true,true,true,false,true,true,false,false,false,false,false,false,false,true,false,false,false] (toSt Tryz.prog 71 .normal [] (SEck u d false true)):=
 mp (an (decide_eq_true h1) (an (bF (bN h2)) (an (bF (bN h2)) (an rt (an rt (an (bF (bN h2)) (an rt (an (bN h2) (an (bF (decide_eq_false h3)) (an (bF (decide_eq_false h3)) (an rf (an rf (an rf (an rf (an rf (an rf (an rf (an (bF (decide_eq_false h3)) (an rf (an (decide_eq_false h3) (an rf (an (rr d) (an rf (an (rr u) (an rt trivial)))))))))))))))))))))))))
theorem eck_bn (u d:ByteArray) (h1:u.size≤(1000000000:Nat)) (h2:(dfB u)=true) (h3:¬Array.toList (ByteArray.data u)=Array.toList (ByteArray.data (ByteArray.mk (#[(48:UInt8)])))) (h4:d.size≤(1000000000:Nat)) (h5:(dfB d)=false):
  Tst.path (vall Tryz.prog eckCs (List.drop 3 (fl BEck [])) (SEck u d true true)) [true,true,true,true,true,true,false,true,true,true,true,true,true,false,false,true,true,true,false,false,true,true,true,true,false,true] (toRet Tryz.prog Tryz.f31 true (iv 1)):=
 mp (an (decide_eq_true h1) (an (bF (bN h2)) (an (bF (bN h2)) (an rt (an rt (an (bF (bN h2)) (an rt (an (bN h2) (an (bF (decide_eq_false h3)) (an (bF (decide_eq_false h3)) (an rt (an rt (an (decide_eq_true h4) (an rt (an rt (an (bF (bN h5)) (an (bF (bN h5)) (an rt (an (bN h5) (an rt (an rf (an rf (an rt (an rt (an (bF (decide_eq_false h3)) (an rt (an (decide_eq_false h3) (an rt (rr ((1:Int)))))))))))))))))))))))))))))))
theorem eck_zn (u d:ByteArray) (h1:u.size≤(1000000000:Nat)) (h2:(dfB u)=true) (h3:¬Array.toList (ByteArray.data u)=Array.toList (ByteArray.data (ByteArray.mk (#[(48:UInt8)])))) (h4:d.size≤(1000000000:Nat)) (h5:(dfB d)=true) (h6:Array.toList (ByteArray.data d)=Array.toList (ByteArray.data (ByteArray.mk (#[(48:UInt8)])))):
  Tst.path (vall Tryz.prog eckCs (List.drop 3 (fl BEck [])) (SEck u d true true)) [true,true,true,true,true,true,false,true,true,true,true,true,true,true,true,true,false,true,false,false,true,true,true,true,false,true] (toRet Tryz.prog Tryz.f31 true (iv 1)):=
 mp (an (decide_eq_true h1) (an (bF (bN h2)) (an (bF (bN h2)) (an rt (an rt (an (bF (bN h2)) (an rt (an (bN h2) (an (bF (decide_eq_false h3)) (an (bF (decide_eq_false h3)) (an rt (an rt (an (decide_eq_true h4) (an rt (an rt (an (bF (bN h5)) (an (bF (bN h5)) (an rt (an (bN h5) (an rt (an (bF (decide_eq_true h6)) (an (bF (decide_eq_true h6)) (an rt (an (decide_eq_true h6) (an (bF (decide_eq_false h3)) (an rt (an (decide_eq_false h3) (an rt (rr ((1:Int)))))))))))))))))))))))))))))))
theorem eck_on (u d:ByteArray) (h1:u.size≤(1000000000:Nat)) (h2:(dfB u)=true) (h3:¬Array.toList (ByteArray.data u)=Array.toList (ByteArray.data (ByteArray.mk (#[(48:UInt8)])))) (h4:d.size≤(1000000000:Nat)) (h5:(dfB d)=true) (h6:¬Array.toList (ByteArray.data d)=Array.toList (ByteArray.data (ByteArray.mk (#[(48:UInt8)])))) (h7:Array.toList (ByteArray.data d)=Array.toList (ByteArray.data (ByteArray.mk (#[(49:UInt8)])))):
  Tst.path (vall Tryz.prog eckCs (List.drop 3 (fl BEck [])) (SEck u d true true)) [true,true,true,true,true,true,false,true,true,true,true,true,true,true,true,true,false,true,true,true,true,false,true,true,false,true] (toRet Tryz.prog Tryz.f31 true (iv 1)):=
 mp (an (decide_eq_true h1) (an (bF (bN h2)) (an (bF (bN h2)) (an rt (an rt (an (bF (bN h2)) (an rt (an (bN h2) (an (bF (decide_eq_false h3)) (an (bF (decide_eq_false h3)) (an rt (an rt (an (decide_eq_true h4) (an rt (an rt (an (bF (bN h5)) (an (bF (bN h5)) (an rt (an (bN h5) (an rt (an (bF (decide_eq_false h6)) (an (bF (decide_eq_false h6)) (an rt (an (decide_eq_false h6) (an (bF (decide_eq_false h3)) (an rt (an (decide_eq_false h3) (an (decide_eq_true h7) (rr ((1:Int)))))))))))))))))))))))))))))))
theorem eck_qn (u d:ByteArray) (h1:u.size≤(1000000000:Nat)) (h2:(dfB u)=true) (h3:¬Array.toList (ByteArray.data u)=Array.toList (ByteArray.data (ByteArray.mk (#[(48:UInt8)])))) (h4:d.size≤(1000000000:Nat)) (h5:(dfB d)=true) (h6:¬Array.toList (ByteArray.data d)=Array.toList (ByteArray.data (ByteArray.mk (#[(48:UInt8)])))) (h7:¬Array.toList (ByteArray.data d)=Array.toList (ByteArray.data (ByteArray.mk (#[(49:UInt8)])))):
  Tst.path (vrun Tryz.prog eckCs (List.drop 3 (fl BEck [])) 2 (SEck u d true true)) [true,true,true,true,true,true,false,true,true,true,true,true,true,true,true,true,false,true,true,true,true,false,true,true,false,false] (toSt Tryz.prog 71 .normal [] (SEck u d true true)):=
 mp (an (decide_eq_true h1) (an (bF (bN h2)) (an (bF (bN h2)) (an rt (an rt (an (bF (bN h2)) (an rt (an (bN h2) (an (bF (decide_eq_false h3)) (an (bF (decide_eq_false h3)) (an rt (an rt (an (decide_eq_true h4) (an rt (an rt (an (bF (bN h5)) (an (bF (bN h5)) (an rt (an (bN h5) (an rt (an (bF (decide_eq_false h6)) (an (bF (decide_eq_false h6)) (an rt (an (decide_eq_false h6) (an (bF (decide_eq_false h3)) (an rt (an (decide_eq_false h3) (an (decide_eq_false h7) (an (rr d) (an rt (an (rr u) (an rt trivial))))))))))))))))))))))))))))))))
theorem eck_l1 (u d:ByteArray) (fr ng:Bool) (h1:(↑u.size:Int)>600):
  Tst.path (vall Tryz.prog eckCs (List.drop 5 (fl BEck [])) (SEck u d fr ng)) [false,false,false,true,true] (toRet Tryz.prog Tryz.f31 true (iv 4)):=
 mp (an (bF (decide_eq_true h1)) (an (bF (decide_eq_true h1)) (an (bF (decide_eq_true h1)) (an (decide_eq_true h1) (an rt (rr ((4:Int))))))))
theorem eck_l2 (u d:ByteArray) (fr ng:Bool) (h1:¬(↑u.size:Int)>600) (h2:(↑d.size:Int)>600):
  Tst.path (vall Tryz.prog eckCs (List.drop 5 (fl BEck [])) (SEck u d fr ng)) [true,true,true,false,true] (toRet Tryz.prog Tryz.f31 true (iv 4)):=
 mp (an (bF (decide_eq_false h1)) (an (bF (decide_eq_false h1)) (an (bF (decide_eq_false h1)) (an (decide_eq_false h1) (an (decide_eq_true h2) (rr ((4:Int))))))))
theorem eck_l3 (u d:ByteArray) (fr ng:Bool) (h1:¬(↑u.size:Int)>600) (h2:¬(↑d.size:Int)>600):
  Tst.path (vrun Tryz.prog eckCs (List.drop 5 (fl BEck [])) 2 (SEck u d fr ng)) [true,true,true,false,false] (toSt Tryz.prog 71 .normal [] (SEck u d fr ng)):=
 mp (an (bF (decide_eq_false h1)) (an (bF (decide_eq_false h1)) (an (bF (decide_eq_false h1)) (an (decide_eq_false h1) (an (decide_eq_false h2) (an (rr d) (an (rr fr) (an (rr u) (an (rr ng) trivial)))))))))
theorem eck_d0 (u d:ByteArray) (ng:Bool):
  Tst.path (vall Tryz.prog eckCs (List.drop 7 (fl BEck [])) (SEck u d false ng)) [false] (toRet Tryz.prog Tryz.f31 true (iv 0)):=
 mp (an rf (rr ((0:Int))))
theorem eck_d1 (u d:ByteArray) (ng:Bool) (h1:(okRead u)=true) (h2:(okRead d)=true) (h3:(okI ((iRead u).1,(iRead u).2)&&okI ((iRead d).1,(iRead d).2))=true) (h4:(smW (iGcd ((iRead u).1,(iRead u).2) ((iRead d).1,(iRead d).2)).2)=false):
  Tst.path (vall Tryz.prog eckCs (List.drop 7 (fl BEck [])) (SEck u d true ng)) [true,false,false,true,true] (toRet Tryz.prog Tryz.f31 true (iv 1)):=
 mp (an rt (an h1 (an h2 (an h3 (an rt (an (bF (bN h4)) (an (bF (bN h4)) (an (bN h4) (an rt (rr ((1:Int))))))))))))
theorem eck_d2 (u d:ByteArray) (ng:Bool) (h1:(okRead u)=true) (h2:(okRead d)=true) (h3:(okI ((iRead u).1,(iRead u).2)&&okI ((iRead d).1,(iRead d).2))=true) (h4:(smW (iGcd ((iRead u).1,(iRead u).2) ((iRead d).1,(iRead d).2)).2)=true) (h5:¬(iGcd ((iRead u).1,(iRead u).2) ((iRead d).1,(iRead d).2)).1=1):
  Tst.path (vall Tryz.prog eckCs (List.drop 7 (fl BEck [])) (SEck u d true ng)) [true,true,true,false,true] (toRet Tryz.prog Tryz.f31 true (iv 1)):=
 mp (an rt (an h1 (an h2 (an h3 (an rt (an (bF (bN h4)) (an (bF (bN h4)) (an (bN h4) (an (bne_iff_ne.mpr h5) (rr ((1:Int))))))))))))
theorem eck_d3 (u d:ByteArray) (ng:Bool) (h1:(okRead u)=true) (h2:(okRead d)=true) (h3:(okI ((iRead u).1,(iRead u).2)&&okI ((iRead d).1,(iRead d).2))=true) (h4:(smW (iGcd ((iRead u).1,(iRead u).2) ((iRead d).1,(iRead d).2)).2)=true) (h5:(iGcd ((iRead u).1,(iRead u).2) ((iRead d).1,(iRead d).2)).1=1):
  Tst.path (vall Tryz.prog eckCs (List.drop 7 (fl BEck [])) (SEck u d true ng)) [true,true,true,false,false] (toRet Tryz.prog Tryz.f31 true (iv 0)):=
 mp (an rt (an h1 (an h2 (an h3 (an rt (an (bF (bN h4)) (an (bF (bN h4)) (an (bN h4) (an (bne_eq_false_iff_eq.mpr h5) (rr ((0:Int))))))))))))
theorem cSml_ok:cSml.Ok Tryz.prog:=fun⟨⟨z,l⟩,_⟩ _=>by
 show Holds Tryz.prog true 70 [nv (z,l)] (.tuple [iv z,bv (smW l)])
 refine holds_fl (c:=BSml) Tryz.func70 rfl rfl fun w F=> ?_
 cases l with
 |nil=>exact GoalL.ret known mixed none_ok 9 _ (sml_z z) fun T H h=>h
 |cons x r=>exact GoalL.ret known mixed none_ok 9 _ (sml_big z x r rfl) fun T H h=>h
end
end Go.Proofs.YtccmlbinkgbpgaaGreatDoor
/- Package exact: Check: plain laws: where a text is cut, what digits are read. -/
namespace Go.Proofs.YtccmlbinkgbpgaaGreatDoor
open Go.RowKit Sv
set_option maxRecDepth 100000
set_option linter.unusedVariables false
theorem sl_split:∀l:List UInt8,(∀b∈l.take (slAt l),b≠47)∧(slAt l<l.length→l=l.take (slAt l)++47::l.drop (slAt l+1))
 |[]=>⟨fun b h=>(by cases h),fun h=>(by cases h)⟩
 |b::r=>by
  obtain⟨h1,h2⟩:=sl_split r
  by_cases hb:b.toNat=47
  ·have e:slAt (b::r)=0:=by unfold slAt;rw [if_pos hb]
   have e47:b=47:=UInt8.toNat_inj.1 hb
   rw [e]
   exact⟨fun c h=>(by cases h),fun _=>(by rw [e47];rfl)⟩
  ·have e:slAt (b::r)=slAt r+1:=by show(if b.toNat=47 then 0 else slAt r+1)=_;rw [if_neg hb]
   rw [e]
   refine⟨fun c h=> ?_,fun h=> ?_⟩
   ·rw [List.take_succ_cons]at h
    rcases List.mem_cons.1 h with rfl |h
    ·exact fun e=>hb (by rw [e];rfl)
    ·exact h1 c h
   ·have h:=h2 (by rw [List.length_cons]at h;omega)
    rw [List.take_succ_cons,List.drop_succ_cons,List.cons_append]
    exact congrArg (b:: ·) h
theorem cut_sl (l:List UInt8):Lib.cut l [47]=(l.take (slAt l),l.drop (slAt l+1),decide (slAt l<l.length)):=by
 obtain⟨h1,h2⟩:=sl_split l
 by_cases h:slAt l<l.length
 ·have e:=h2 h
  have key:=cut_at (l:=l.take (slAt l)) (r:=l.drop (slAt l+1)) h1
  rw [←e]at key
  rw [key,decide_eq_true h]
 ·have hl:l.length≤slAt l:=by omega
  rw [List.take_of_length_le hl]at h1 ⊢
  rw [cut_none h1,List.drop_eq_nil_of_le (by omega),decide_eq_false h]
theorem dec_read {s:ByteArray} (h:digB (bsL s)=true):∀k,k≤(bsL s).length→Lib.decFrom 0 ((bsL s).take k)=some (valD ((bsL s).take k)).toNat
 |0,_=>by rw [List.take_zero];rfl
 |k+1,hk=>by
  have ih:=dec_read h k (by omega)
  have hv:=valD_in h k (by omega)
  have hm:sb0 s k∈bsL s:=by rw [sb0_get (by omega)];exact List.getElem_mem _
  have hb:=List.all_eq_true.1 h _ hm
  rw [Bool.and_eq_true,decide_eq_true_eq,decide_eq_true_eq]at hb
  have eb:sb0 s k=UInt8.ofNat (48+((sb0 s k).toNat-48)):=by
   rw [show 48+((sb0 s k).toNat-48)=(sb0 s k).toNat by omega];simp
  have key:=Dec.decFrom_append _ 0 _ ((sb0 s k).toNat-48) (by omega) ih
  rw [←eb]at key
  have et:(bsL s).take (k+1)=(bsL s).take k++[sb0 s k]:=take_u (by omega)
  rw [valD_next (by omega),et,key]
  congr 1
  omega
theorem dec_all {s:ByteArray} (h:digB (bsL s)=true):Lib.decFrom 0 (bsL s)=some (valD (bsL s)).toNat:=by
 have:=dec_read h (bsL s).length (Nat.le_refl _)
 rw [List.take_length]at this
 exact this
end Go.Proofs.YtccmlbinkgbpgaaGreatDoor
/- Package exact: Check: where its text is cut. -/
namespace Go.Proofs.YtccmlbinkgbpgaaGreatDoor
open Go.RowKit Sv
set_option maxRecDepth 100000
set_option linter.unusedVariables false
theorem cutA_b (s:ByteArray):bsL (cutA s b47)=(bsL s).take (slAt (bsL s)):=by
 show(Lib.cut (bsL s) [47]).1=_
 rw [cut_sl]
theorem cutB_b (s:ByteArray):bsL (cutB s b47)=(bsL s).drop (slAt (bsL s)+1):=by
 show(Lib.cut (bsL s) [47]).2.1=_
 rw [cut_sl]
theorem cutIs_b (s:ByteArray):cutIs s b47=decide (slAt (bsL s)<(bsL s).length):=by
 show(Lib.cut (bsL s) [47]).2.2=_
 rw [cut_sl]
theorem ps_cases (s:ByteArray):(psN s=true∧bsL s=45::bsL (psT s))∨(psN s=false∧psT s=s∧∀b r,bsL s=b::r→b.toNat≠45):=by
 cases hn:psN s with
 |true=>
  left
  refine⟨rfl, ?_⟩
  have e:psT s=s.extract 1 s.size:=by unfold psT;rw [hn]
  unfold psN at hn
  rw [Bool.and_eq_true,decide_eq_true_eq,decide_eq_true_eq]at hn
  rw [e,bs_ext,size_bs,List.take_length]
  cases hb:bsL s with
  |nil=>rw [size_bs,hb]at hn;exact absurd hn.1 (by decide)
  |cons b r=>
   have h2:(sb0 s 0).toNat=45:=hn.2
   have h3:sb0 s 0=b:=by show(bsL s).getD 0 0=b;rw [hb];rfl
   rw [h3]at h2
   have:b=45:=UInt8.toNat_inj.1 h2
   rw [this];rfl
 |false=>
  right
  refine⟨rfl,by unfold psT;rw [hn],fun b r hb h=> ?_⟩
  have h3:sb0 s 0=b:=by show(bsL s).getD 0 0=b;rw [hb];rfl
  unfold psN at hn
  rw [decide_eq_true (by rw [size_bs,hb];exact Nat.succ_pos _),h3,decide_eq_true h]at hn
  cases hn
theorem ps_of {s:ByteArray} (h:∀b r,bsL s=b::r→b.toNat≠45):psN s=false∧psT s=s:=by
 rcases ps_cases s with⟨_,h2⟩|⟨h1,h2,_⟩
 ·exact absurd rfl (h 45 _ h2)
 ·exact⟨h1,h2⟩
theorem ex_parts (s:ByteArray):psT (cutA s b47)=(psT s).extract 0 (slAt (bsL (psT s)))∧cutB s b47=(psT s).extract (slAt (bsL (psT s))+1) (psT s).size∧cutIs s b47=decide (slAt (bsL (psT s))<(psT s).size)∧psN (cutA s b47)=psN s:=by
 rcases ps_cases s with⟨h1,h2⟩|⟨h1,h2,h3⟩
 ·have hk:slAt (bsL s)=slAt (bsL (psT s))+1:=by
   rw [h2]
   show(if(45:UInt8).toNat=47 then 0 else slAt (bsL (psT s))+1)=_
   rw [if_neg (by decide)]
  have ha:bsL (cutA s b47)=45::(bsL (psT s)).take (slAt (bsL (psT s))):=by rw [cutA_b,hk,h2,List.take_succ_cons]
  rcases ps_cases (cutA s b47)with⟨g1,g2⟩|⟨_,_,g3⟩
  ·rw [ha]at g2
   refine⟨ba_ext ?_,ba_ext ?_, ?_,by rw [g1,h1]⟩
   ·show bsL _=bsL _
    rw [bs_ext,List.drop_zero]
    exact(List.cons.inj g2).2.symm
   ·show bsL _=bsL _
    rw [cutB_b,bs_ext,size_bs,List.take_length,hk,h2,List.drop_succ_cons]
   ·rw [cutIs_b,hk,h2,size_bs,List.length_cons]
    by_cases h:slAt (bsL (psT s))<(bsL (psT s)).length
    ·rw [decide_eq_true h,decide_eq_true (by omega)]
    ·rw [decide_eq_false h,decide_eq_false (by omega)]
  ·exact absurd rfl (g3 45 _ ha)
 ·have hp:psN (cutA s b47)=false∧psT (cutA s b47)=cutA s b47:=ps_of fun b r hb=>by
   rw [cutA_b]at hb
   cases hc:bsL s with
   |nil=>rw [hc]at hb;rw [List.take_nil]at hb;cases hb
   |cons c t=>
    have h4:=h3 c t hc
    rw [hc]at hb
    cases hm:slAt (c::t)with
    |zero=>rw [hm]at hb;cases hb
    |succ m=>
     rw [hm,List.take_succ_cons]at hb
     rw [←(List.cons.inj hb).1]
     exact h4
  rw [hp.1,hp.2,h1,h2]
  refine⟨ba_ext ?_,ba_ext ?_, ?_,rfl⟩
  ·show bsL _=bsL _
   rw [cutA_b,bs_ext,List.drop_zero]
  ·show bsL _=bsL _
   rw [cutB_b,bs_ext,size_bs,List.take_length]
  ·rw [cutIs_b,size_bs]
end Go.Proofs.YtccmlbinkgbpgaaGreatDoor
/- Package exact: Check, as a known function: the same errors as the reference's. -/
namespace Go.Proofs.YtccmlbinkgbpgaaGreatDoor
open Go.RowKit Sv
set_option maxRecDepth 100000
set_option linter.unusedVariables false
set_option linter.unusedSimpArgs false
noncomputable section
noncomputable def cEck:Ctr:={f:=31,ps:=[.str],rs:=[.int .i64],fresh:=true,pre:=fun d=>decide (ByteArray.size d.1≤1000000000),fn:=fun d=>(ckR d.1,())}
--{
theorem eckCs_ok:CallOk Tryz.prog (gS eckCs):=ctrs_ok fun c hc=>by
 simp only [List.mem_cons,List.not_mem_nil,or_false]at hc
 rcases hc with rfl |rfl |rfl |rfl |rfl |rfl
 ·exact cCut_ok
 ·exact cCpy_ok
 ·exact cEwh_ok
 ·exact cRead_ok
 ·exact cGcd_ok
 ·exact cSml_ok
theorem no_mns {u:ByteArray} (h:digB (bsL u)=true):Lib.hasPrefix (bsL u) [45]=false:=Dec.no_prefix _ fun b hb=>by
 have:=List.all_eq_true.1 h b hb
 rw [Bool.and_eq_true,decide_eq_true_eq,decide_eq_true_eq]at this
 exact this
theorem pow_w:∀n:Nat,(10:Int)^n≤18446744073709551616^n
 |0=>by simp
 |n+1=>by
  rw [Int.pow_succ,Int.pow_succ]
  have h1:=pow_w n
  have h2:=pow_pos' (b:=10) (by decide) n
  omega
theorem read_dig {u:ByteArray} (h:digB (bsL u)=true) (hl:u.size≤600):okRead u=true∧iRead u=mkI (valD (bsL u))∧okI (mkI (valD (bsL u)))=true∧valI (mkI (valD (bsL u)))=valD (bsL u):=by
 have hb:=valD_bd h
 have e1:(trimPre u mns).data.toList=bsL u:=by
  show Lib.trimPrefix (bsL u) [45]=bsL u
  unfold Lib.trimPrefix
  rw [no_mns h];rfl
 have e2:readN u=valD (bsL u):=by
  unfold readN
  rw [e1,dec_all h]
  show((valD (bsL u)).toNat:Int)=_
  omega
 have e3:readZ u=valD (bsL u):=by
  unfold readZ
  rw [show hasPre u mns=false from no_mns h,e2];rfl
 have h0:((valD (bsL u)).natAbs:Int)<18446744073709551616^u.size:=by
  have h1:=pow_w u.size
  omega
 obtain⟨m1,m2⟩:=mkI_law (n:=100000) (Int.lt_of_lt_of_le h0 (pow_le_pow' (by decide) (by omega)))
 refine⟨?_,by unfold iRead;rw [e3],m1,m2⟩
 unfold okRead
 rw [e1,dec_all h,e2]
 exact m1
def ckV (u d:ByteArray) (fr ng:Bool):Int:=
 if dfB u=false then 1
 else if ng=true∧bsL u=[48]then 1
 else if fr=true∧(dfB d=false∨bsL d=[48]∨bsL d=[49])then 1
 else if 600<u.size∨600<d.size then 4
 else if fr=true∧Int.gcd (valD (bsL u)) (valD (bsL d))≠1 then 1
 else 0
theorem ckV_eq {t:ByteArray} {k:Nat} {ng:Bool} (hk:k≤t.size):ckV (t.extract 0 k) (t.extract (k+1) t.size) (decide (k<t.size)) ng=ckU ng t k:=by
 have z1:=ext_size t 0 k hk
 have z2:=ext_size t (k+1) t.size (Nat.le_refl _)
 unfold ckV ckU
 simp only [decide_eq_true_eq]
 have e:(600<(t.extract 0 k).size∨600<(t.extract (k+1) t.size).size)↔(600<k∨601+k<t.size):=by omega
 simp only [e]
theorem eck_rest (u d:ByteArray) (fr ng:Bool) (hu:digB (bsL u)=true) (hd:fr=true→digB (bsL d)=true) (w:World) (F:Sv.Env):
  GoalL Tryz.prog w F 71 (List.drop 5 (fl BEck [])) (SEck u d fr ng).T (SEck u d fr ng).H (retQ Tryz.prog true Tryz.f31 (iv (if 600<u.size∨600<d.size then 4 else if fr=true∧Int.gcd (valD (bsL u)) (valD (bsL d))≠1 then 1 else 0))):=by
 have hS:=eckCs_ok
 by_cases h1:600<u.size
 ·rw [if_pos (.inl h1)]
  exact GoalL.allRet (s:=SEck u d fr ng) known mixed hS _ (eck_l1 u d fr ng (by omega)) fun T H h=>h
 ·by_cases h2:600<d.size
  ·rw [if_pos (.inr h2)]
   exact GoalL.allRet (s:=SEck u d fr ng) known mixed hS _ (eck_l2 u d fr ng (by omega) (by omega)) fun T H h=>h
  ·rw [if_neg (by omega)]
   refine GoalL.st (s:=SEck u d fr ng) known mixed hS 2 _ (eck_l3 u d fr ng (by omega) (by omega)) (by kernel_rfl) ?_
   cases fr with
   |false=>
    rw [if_neg (fun h=>by cases h.1)]
    exact GoalL.allRet (s:=SEck u d false ng) known mixed hS _ (eck_d0 u d ng) fun T H h=>h
   |true=>
    obtain⟨a1,a2,a3,a4⟩:=read_dig hu (by omega)
    obtain⟨b1,b2,b3,b4⟩:=read_dig (hd rfl) (by omega)
    have k1:=eck_d1 u d ng a1 b1
    have k2:=eck_d2 u d ng a1 b1
    have k3:=eck_d3 u d ng a1 b1
    rw [a2,b2]at k1 k2 k3
    have hg:iGcd (mkI (valD (bsL u))) (mkI (valD (bsL d)))=mkI (Int.gcd (valD (bsL u)) (valD (bsL d))):=by unfold iGcd;rw [a4,b4]
    have hg':iGcd ((mkI (valD (bsL u))).1,(mkI (valD (bsL u))).2) ((mkI (valD (bsL d))).1,(mkI (valD (bsL d))).2)=mkI (Int.gcd (valD (bsL u)) (valD (bsL d))):=hg
    rw [hg']at k1 k2 k3
    have oo:=and2 a3 b3
    generalize Int.gcd (valD (bsL u)) (valD (bsL d))=g at*
    by_cases hg1:g=1
    ·rw [if_neg (fun h=>h.2 hg1)]
     have em:mkI ((g:Nat):Int)=(1,[]):=by rw [hg1];exact mkI_small (by decide)
     rw [em]at k3
     exact GoalL.allRet (s:=SEck u d true ng) known mixed hS _ (k3 oo rfl rfl) fun T H h=>h
    ·rw [if_pos ⟨rfl,hg1⟩]
     by_cases hsm:(-9223372036854775807:Int)≤(g:Int)∧(g:Int)≤9223372036854775807
     ·have em:mkI ((g:Nat):Int)=((g:Int),[]):=mkI_small hsm
      rw [em]at k2
      exact GoalL.allRet (s:=SEck u d true ng) known mixed hS _ (k2 oo rfl (by show¬(g:Int)=1;omega)) fun T H h=>h
     ·have em:mkI ((g:Nat):Int)=(if(g:Int)<0 then-1 else 1,dgN 18446744073709551616 ((g:Int)).natAbs):=by unfold mkI;rw [if_neg hsm]
      rw [em]at k1
      refine GoalL.allRet (s:=SEck u d true ng) known mixed hS _ (k1 oo ?_) fun T H h=>h
      show List.isEmpty (dgN 18446744073709551616 (((g:Int)).natAbs:Int))=false
      have hne:=dgN_ne (b:=18446744073709551616) (by decide) (show(0:Int)<(((g:Int)).natAbs:Int) by omega)
      cases hc:dgN 18446744073709551616 (((g:Int)).natAbs:Int)with
      |nil=>exact absurd hc hne
      |cons x r=>rfl
theorem eck_run (u d:ByteArray) (fr ng:Bool) (hlu:u.size≤1000000000) (hld:d.size≤1000000000) (w:World) (F:Sv.Env):
  GoalL Tryz.prog w F 71 (List.drop 3 (fl BEck [])) (SEck u d fr ng).T (SEck u d fr ng).H (retQ Tryz.prog true Tryz.f31 (iv (ckV u d fr ng))):=by
 have hS:=eckCs_ok
 unfold ckV
 cases ha:dfB u with
 |false=>
  rw [if_pos rfl]
  exact GoalL.allRet (s:=SEck u d fr ng) known mixed hS _ (eck_bad u d fr ng hlu ha) fun T H h=>h
 |true=>
  rw [if_neg (by decide)]
  have du:=(dfB_dig ha).1
  by_cases hz:ng=true∧bsL u=[48]
  ·rw [if_pos hz]
   obtain⟨rfl,h48⟩:=hz
   exact GoalL.allRet (s:=SEck u d fr true) known mixed hS _ (eck_n0 u d fr hlu ha h48) fun T H h=>h
  ·rw [if_neg hz]
   cases fr with
   |false=>
    rw [if_neg (fun h=>by cases h.1)]
    cases ng with
    |false=>
     refine GoalL.st (s:=SEck u d false false) known mixed hS 2 _ (eck_ip u d hlu ha) (by kernel_rfl) ?_
     exact eck_rest u d false false du (fun h=>by cases h) w F
    |true=>
     refine GoalL.st (s:=SEck u d false true) known mixed hS 2 _ (eck_in u d hlu ha (fun h=>hz ⟨rfl,h⟩)) (by kernel_rfl) ?_
     exact eck_rest u d false true du (fun h=>by cases h) w F
   |true=>
    cases hb:dfB d with
    |false=>
     rw [if_pos ⟨rfl, .inl rfl⟩]
     cases ng with
     |false=>exact GoalL.allRet (s:=SEck u d true false) known mixed hS _ (eck_bp u d hlu ha hld hb) fun T H h=>h
     |true=>exact GoalL.allRet (s:=SEck u d true true) known mixed hS _ (eck_bn u d hlu ha (fun h=>hz ⟨rfl,h⟩) hld hb) fun T H h=>h
    |true=>
     have dd:=(dfB_dig hb).1
     by_cases h8:bsL d=[48]
     ·rw [if_pos ⟨rfl, .inr (.inl h8)⟩]
      cases ng with
      |false=>exact GoalL.allRet (s:=SEck u d true false) known mixed hS _ (eck_zp u d hlu ha hld hb h8) fun T H h=>h
      |true=>exact GoalL.allRet (s:=SEck u d true true) known mixed hS _ (eck_zn u d hlu ha (fun h=>hz ⟨rfl,h⟩) hld hb h8) fun T H h=>h
     ·by_cases h9:bsL d=[49]
      ·rw [if_pos ⟨rfl, .inr (.inr h9)⟩]
       cases ng with
       |false=>exact GoalL.allRet (s:=SEck u d true false) known mixed hS _ (eck_op u d hlu ha hld hb h8 h9) fun T H h=>h
       |true=>exact GoalL.allRet (s:=SEck u d true true) known mixed hS _ (eck_on u d hlu ha (fun h=>hz ⟨rfl,h⟩) hld hb h8 h9) fun T H h=>h
      ·rw [if_neg (fun h=>by
        rcases h.2 with h|h|h
        ·cases h
        ·exact h8 h
        ·exact h9 h)]
       cases ng with
       |false=>
        refine GoalL.st (s:=SEck u d true false) known mixed hS 2 _ (eck_qp u d hlu ha hld hb h8 h9) (by kernel_rfl) ?_
        exact eck_rest u d true false du (fun _=>dd) w F
       |true=>
        refine GoalL.st (s:=SEck u d true true) known mixed hS 2 _ (eck_qn u d hlu ha (fun h=>hz ⟨rfl,h⟩) hld hb h8 h9) (by kernel_rfl) ?_
        exact eck_rest u d true true du (fun _=>dd) w F
theorem eck_holds (s:ByteArray) (hl:s.size≤1000000000):Holds Tryz.prog true 31 [sv s] (iv (ckR s)):=by
 have hS:=eckCs_ok
 refine holds_fl (c:=BEck) Tryz.func31 rfl rfl fun w F=> ?_
 obtain⟨e1,e2,e3,e4⟩:=ex_parts s
 have hle:slAt (bsL (psT s))≤(psT s).size:=by rw [size_bs];exact slAt_le _
 have hps:(psT s).size≤s.size:=by
  rcases ps_cases s with⟨_,h2⟩|⟨_,h2,_⟩
  ·have:=congrArg List.length h2
   rw [List.length_cons,←size_bs,←size_bs]at this
   omega
  ·rw [h2];exact Nat.le_refl _
 have hc:okCut s=true:=decide_eq_true (by omega)
 have key:=eck_start s hc rfl
 rw [e1,e2,e3,e4]at key
 have ev:ckR s=ckV ((psT s).extract 0 (slAt (bsL (psT s)))) ((psT s).extract (slAt (bsL (psT s))+1) (psT s).size) (decide (slAt (bsL (psT s))<(psT s).size)) (psN s):=(ckV_eq hle).symm
 rw [ev]
 refine GoalL.to known mixed hS 3 _ key (by kernel_rfl) ?_
 exact eck_run _ _ _ _ (by rw [ext_size _ _ _ hle];omega) (by rw [ext_size _ _ _ (Nat.le_refl _)];omega) w F
attribute [local irreducible] ckR
theorem cEck_ok:cEck.Ok Tryz.prog:=fun⟨s,_⟩ h=>by
 have h:decide (s.size≤1000000000)=true:=h
 exact eck_holds s (of_decide_eq_true h)
--}
end
end Go.Proofs.YtccmlbinkgbpgaaGreatDoor
