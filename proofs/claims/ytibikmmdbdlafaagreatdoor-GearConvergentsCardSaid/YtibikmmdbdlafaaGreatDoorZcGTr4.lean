import Derived.Test.YtibikmmdbdlafaaGreatDoorZcRs
import Derived.RangeFuncNested
import Derived.Maps.OwnIn
import Derived.WalkSmall
set_option linter.defProp false
set_option linter.unusedSectionVars false
set_option linter.unusedSimpArgs false
set_option linter.unusedVariables false
set_option maxRecDepth 100000
namespace Go.Proofs.YtibikmmdbdlafaaGreatDoor
open Go.RowKit Sv Go.Proofs.Tryz
noncomputable section
def xg:=k_a f99
def me (n m:Int) (s:AT):bD:={n:=25,sl:=[(0,iv n),(1,iv m),(5,sv s)],bJ:=[],next:=64}
abbrev VU:AT:=⟨#[]⟩
abbrev sY:AT:=⟨#[48,49,50,51,52,53,54,55,56,57]⟩
section
variable (n m:Int)
def al4:
  cZ (bc []) (fl xg []) 2 25 [iv n,iv m] 1 .normal [] (me n m VU):=
 wy [] 0
def al5 (s:AT) (h1:n>0) (h2:i6 (Int.tmod n 10+1)) (h3:0<=Int.tmod n 10+1) (h4:0<=Int.tmod n 10) (h5:(Int.tmod n 10+1).toNat<=(ByteArray.mk #[48,49,50,51,52,53,54,55,56,57]).size) (h6:((ByteArray.mk #[48,49,50,51,52,53,54,55,56,57]).extract (Int.tmod n 10).toNat (Int.tmod n 10+1).toNat).size+s.size<=9223372036854775807) (h7:i6 (Int.tdiv n 10)):
  bt (bc []) (fl xg [1,1,0,0,0]) (me n m s) 112 .normal [] (me (Int.tdiv n 10) m (sY.extract (Int.tmod n 10).toNat (Int.tmod n 10+1).toNat++s)):=
 wy [af (bq (az h1)),ah h1,yi h2,ah h3,ah h4,ah (by omega:(Int.tmod n (10:Int)).toNat<=(Int.tmod n (10:Int)+(1:Int)).toNat),ah h5,ah h6,yi h7] 11143911710332399131023380545
def al6 (s:AT) (h1:¬n>0) (h2:(s.size:Int)<m) (h3:i6 (Int.tmod n 10+1)) (h4:0<=Int.tmod n 10+1) (h5:0<=Int.tmod n 10) (h6:(Int.tmod n 10+1).toNat<=(ByteArray.mk #[48,49,50,51,52,53,54,55,56,57]).size) (h7:((ByteArray.mk #[48,49,50,51,52,53,54,55,56,57]).extract (Int.tmod n 10).toNat (Int.tmod n 10+1).toNat).size+s.size<=9223372036854775807) (h8:i6 (Int.tdiv n 10)):
  bt (bc []) (fl xg [1,1,0,0,0]) (me n m s) 111 .normal [] (me (Int.tdiv n 10) m (sY.extract (Int.tmod n 10).toNat (Int.tmod n 10+1).toNat++s)):=
 wy [af (bq (ab h1)),aJ h1,ah h2,yi h3,ah h4,ah h5,ah (by omega:(Int.tmod n (10:Int)).toNat<=(Int.tmod n (10:Int)+(1:Int)).toNat),ah h6,ah h7,yi h8] 12382158778397359609013866561
def al7 (s:AT) (h1:¬n>0) (h2:¬(s.size:Int)<m):
  bt (bc []) (fl xg [1,1,0,0,0]) (me n m s) 79 (.exit 0) [] (me n m s):=
 wy [af (bq (ab h1)),aJ h1,aJ h2] 3255046209
def al8 (s:AT):
  bS (bc []) ((fl xg []).drop 3) (me n m s) 1 f99 true (sv s):=
 wy [] 0
end
def oE (n:Int):UInt8:=UInt8.ofNat (48+(n%10).toNat)
def cp:Nat->Int->Int->List UInt8->List UInt8
 |0,_,_,s=>s
 |f+1,n,m,s=>if n>0\/(s.length:Int)<m then cp f (n/10) m (oE n::s)else s
def dp (a b:AT):(a++b).data.toList=a.data.toList++b.data.toList:=by
 rw [ByteArray.data_append,Array.toList_append]
def al9 {n:Int} (h:0<=n) (s:AT):(sY.extract (Int.tmod n 10).toNat (Int.tmod n 10+1).toNat++s).data.toList=oE n::s.data.toList:=by
 rw [dp,Int.tmod_eq_emod_of_nonneg h];have h1:=c7 n (show(0:Int)<10 by decide);have h2:=dr n (show(10:Int)≠0 by decide);unfold oE;generalize n%10=r at*;have:r=0\/r=1\/r=2\/r=3\/r=4\/r=5\/r=6\/r=7\/r=8\/r=9:=by omega
 rcases this with rfl |rfl |rfl |rfl |rfl |rfl |rfl |rfl |rfl |rfl<;>rfl
def ama {n:Int} (h:0<=n):(sY.extract (Int.tmod n 10).toNat (Int.tmod n 10+1).toNat).size<=1:=by
 rw [Int.tmod_eq_emod_of_nonneg h];have h1:=c7 n (show(0:Int)<10 by decide);have h2:=dr n (show(10:Int)≠0 by decide);generalize n%10=r at*;have:r=0\/r=1\/r=2\/r=3\/r=4\/r=5\/r=6\/r=7\/r=8\/r=9:=by omega
 rcases this with rfl |rfl |rfl |rfl |rfl |rfl |rfl |rfl |rfl |rfl<;>decide
def uZ (s:AT):s.size=s.data.toList.length:=by cases s;rfl
def gA {a b:AT} (h:a.data.toList=b.data.toList):a=b:=by
 cases a;cases b;simp at h;rw [h]
structure NL (r:List UInt8) (m:Int) (f:Nat) (n:Int) (s:AT):Prop where
 n0:0<=n
 nb:n<=9223372036854775807
 n1:n<10^f
 ms:m<=s.size+f
 sz:s.size+f<=40
 eq:cp f n m s.data.toList=r
def amb (n m:Int) (hn:0<=n) (hn2:n<=9223372036854775807) (hm:m<=20):Holds prog true 99 [iv n,iv m] (sv ⟨(cp 20 n m []).toArray⟩):=by
 have hS:=cC;obtain⟨r,hr⟩:∃r,cp 20 n m []=r:=⟨_,rfl⟩;rw [hr];refine bL (c:=xg) func99 rfl rfl fun w F=> ?_
 refine cJ hS 2 (al4 n m) ?_;refine aU.loop (ι:={p:Nat×Int×AT//NL r m p.1 p.2.1 p.2.2}) (id:=0) (b:=cat xg [1,1,0,0,0]) (rest:=(fl xg []).drop 3) (by kernel_rfl) (fun p=>me p.1.2.1 m p.1.2.2) (fun p=>p.1.1) ⟨(20,n,VU),⟨hn,hn2,by show n<10^20;omega,by show m<=0+20;omega,by show 0+20<=40;omega,hr⟩⟩ (fun _=>rfl) ?_;rintro⟨⟨f,n,s⟩,hp⟩;have hp:NL r m f n s:=hp;have hz:=uZ s;have q1:=c7 n (show(0:Int)<10 by decide);have aQ:=dr n (show(10:Int)≠0 by decide);have b7:Int.tmod n 10=n%10:=Int.tmod_eq_emod_of_nonneg hp.n0;have ez:Int.tdiv n 10=n/10:=Int.tdiv_eq_ediv_of_nonneg hp.n0;have qL:=ama hp.n0;have hn0:=hp.n0;have hnb:=hp.nb;have auK:=hp.ms;have hsz:=hp.sz;have eM:(n>0\/(s.size:Int)<m)->∃j:{p:Nat×Int×AT//NL r m p.1 p.2.1 p.2.2},j.1.1<f/\(me (Int.tdiv n 10) m (sY.extract (Int.tmod n 10).toNat (Int.tmod n 10+1).toNat++s)).T=(me j.1.2.1 m j.1.2.2).T/\(me (Int.tdiv n 10) m (sY.extract (Int.tmod n 10).toNat (Int.tmod n 10+1).toNat++s)).H=(me j.1.2.1 m j.1.2.2).H:=fun hc=>by
  cases f with
  |zero=>
   have:=hp.n1;simp at this;exfalso;omega
  |succ f=>
   have hb:=al9 hp.n0 s;have VV:(sY.extract (Int.tmod n 10).toNat (Int.tmod n 10+1).toNat++s).size=s.size+1:=by rw [uZ,hb,hz];rfl
   refine⟨⟨(f,Int.tdiv n 10,_),⟨by show 0<=Int.tdiv n 10;rw [ez];omega,by show Int.tdiv n 10<=_;rw [ez];omega, ?_,by show m<=((_:Nat):Int)+((f:Nat):Int);rw [VV];omega,by show _+f<=40;rw [VV];omega, ?_⟩⟩,fG _,rfl,rfl⟩
   .show Int.tdiv n 10<10^f;have:=hp.n1;rw [Int.pow_succ]at this;rw [ez];omega
   .show cp f (Int.tdiv n 10) m (sY.extract (Int.tmod n 10).toNat (Int.tmod n 10+1).toNat++s).data.toList=r;have he:=hp.eq;unfold cp at he;rw [hb,ez];rw [if_pos (by rw [hz]at hc;exact hc)]at he;exact he
 by_cases h1:n>0
 .refine bx (s:=me n m s) hS (al5 n m s h1 ω ω ω (by show _<=(10:Nat);omega) (by show(sY.extract (Int.tmod n 10).toNat (Int.tmod n 10+1).toNat).size+s.size<=_;omega) ω) (eM (.inl h1))
 .by_cases h2:(s.size:Int)<m
  .refine bx (s:=me n m s) hS (al6 n m s h1 h2 ω ω ω (by show _<=(10:Nat);omega) (by show(sY.extract (Int.tmod n 10).toNat (Int.tmod n 10+1).toNat).size+s.size<=_;omega) ω) (eM (.inr h2))
  .refine bx (s:=me n m s) hS (al7 n m s h1 h2) ?_;refine cy (cF ?_);have e:(⟨r.toArray⟩:AT)=s:=gA (by
    have he:=hp.eq;cases f with
    |zero=>exact he.symm
    |succ f=>
     unfold cp at he;rw [if_neg (by rw [hz]at h2;omega)]at he;exact he.symm)
   rw [e];exact bX (s:=me n m s) hS (al8 n m s)
def HE:=IN 99 [.int .i64, .int .i64] [.str] true (fun d=>decide (0<=d.1)&&(decide (d.1<=9223372036854775807)&&decide (d.2.1<=20))) fun d=>(⟨(cp 20 d.1 d.2.1 []).toArray⟩,())
def NM:HE.Ok prog:=fun⟨n,m,_⟩ h=>by
 have h:(decide (0<=n)&&(decide (n<=9223372036854775807)&&decide (m<=20)))=true:=h;simp only [ae,bE]at h;exact amb n m h.1 h.2.1 h.2.2
def NN:=k_a Tryz.f44
def lu (s:AT) (i j:Nat) (h:j<=s.size):(s.extract i j).size=j-i:=by
 rw [ByteArray.size_extract];omega
def BD:∀l:List UInt8,bf l<=l.length
 |[]=>aI _
 |b::r=>by
  unfold bf;have:=BD r;split
  .exact Nat.zero_le _
  .simp;omega
def NP:=bc [NJ,HE]
def xh (p q:Int):AT:=⟨(cp 20 p 1 []++(if q>1 then 47::cp 20 q 1 []else [])).toArray⟩
section
variable (n d:Int) (h1:¬n< -4000000000000000000) (h2:¬n>4000000000000000000) (h3:¬d< -4000000000000000000) (h4:¬d>4000000000000000000) (h5:¬d<0) (h6:i6 (0-n)) (h7:(decide ((0:av.den (.int .i64))<=if 0-n>n then 0-n else n)&&decide ((0:av.den (.int .i64))<=d))=true) (h8:(bA n d)≠0) (h9:i6 (Int.tdiv n (bA n d))) (h10:i6 (Int.tdiv d (bA n d))) (h11:¬Int.tdiv n (bA n d)<0) (h12:i6 (0-Int.tdiv n (bA n d))) (dF:(decide ((0:av.den (.int .i64))<=if 0-Int.tdiv n (bA n d)>Int.tdiv n (bA n d)then 0-Int.tdiv n (bA n d)else Int.tdiv n (bA n d))&&(decide ((if 0-Int.tdiv n (bA n d)>Int.tdiv n (bA n d)then 0-Int.tdiv n (bA n d)else Int.tdiv n (bA n d))<=(9223372036854775807:av.den (.int .i64)))&&decide (1<=(20:av.den (.int .i64)))))=true) (gb:(ByteArray.mk #[]).size+(ByteArray.mk (List.toArray (cp 20 (if 0-Int.tdiv n (bA n d)>Int.tdiv n (bA n d)then 0-Int.tdiv n (bA n d)else Int.tdiv n (bA n d)) 1 []))).size<=9223372036854775807)
def amc (iA:Int.tdiv d (bA n d)>1) (k8:(ByteArray.mk #[]++ByteArray.mk (List.toArray (cp 20 (if 0-Int.tdiv n (bA n d)>Int.tdiv n (bA n d)then 0-Int.tdiv n (bA n d)else Int.tdiv n (bA n d)) 1 []))).size+(ByteArray.mk #[47]).size<=9223372036854775807) (uX:(decide ((0:av.den (.int .i64))<=Int.tdiv d (bA n d))&&(decide (Int.tdiv d (bA n d)<=(9223372036854775807:av.den (.int .i64)))&&decide (1<=(20:av.den (.int .i64)))))=true) (zi:(ByteArray.mk #[]++ByteArray.mk (List.toArray (cp 20 (if 0-Int.tdiv n (bA n d)>Int.tdiv n (bA n d)then 0-Int.tdiv n (bA n d)else Int.tdiv n (bA n d)) 1 []))++ByteArray.mk #[47]).size+(ByteArray.mk (List.toArray (cp 20 (Int.tdiv d (bA n d)) 1 []))).size<=9223372036854775807) (h19:(ByteArray.mk #[]++ByteArray.mk (List.toArray (cp 20 (if 0-Int.tdiv n (bA n d)>Int.tdiv n (bA n d)then 0-Int.tdiv n (bA n d)else Int.tdiv n (bA n d)) 1 []))++ByteArray.mk #[47]++ByteArray.mk (List.toArray (cp 20 (Int.tdiv d (bA n d)) 1 [])))=(xh (n/(↑(Int.gcd n d):Int)) (d/(↑(Int.gcd n d):Int)))):
  bh NP (fl NN []) 30 (f44.ntmps) [iv n,iv d] 12507 f44 true (sv (xh (n/Int.gcd n d) (d/Int.gcd n d))):=
 wy [af (bq (ab h1)),aJ h1,af (bq (ab h2)),aJ h2,af (bq (ab h3)),aJ h3,aJ h4,aJ h5,yi h6,af h7,ah h8,yi h9,yi h10,aJ h11,yi h12,af dF,ah gb,ah iA,ah k8,af uX,ah zi,ax h19] 31874838871619119136349477082024326987223146561
def amd (iA:¬Int.tdiv d (bA n d)>1) (k8:(ByteArray.mk #[]++ByteArray.mk (List.toArray (cp 20 (if 0-Int.tdiv n (bA n d)>Int.tdiv n (bA n d)then 0-Int.tdiv n (bA n d)else Int.tdiv n (bA n d)) 1 [])))=(xh (n/(↑(Int.gcd n d):Int)) (d/(↑(Int.gcd n d):Int)))):
  bh NP (fl NN []) 30 (f44.ntmps) [iv n,iv d] 8411 f44 true (sv (xh (n/Int.gcd n d) (d/Int.gcd n d))):=
 wy [af (bq (ab h1)),aJ h1,af (bq (ab h2)),aJ h2,af (bq (ab h3)),aJ h3,aJ h4,aJ h5,yi h6,af h7,ah h8,yi h9,yi h10,aJ h11,yi h12,af dF,ah gb,aJ iA,ax k8] 105000044317847363205758449615782206513217
end
def VW:bC prog (bF NP):=cK (aP VQ (aP NM dQ))
def mf:∀(f:Nat) (n m:Int) (s:List UInt8),(cp f n m s).length<=s.length+f
 |0,_,_,s=>aI _
 |f+1,n,m,s=>by
  unfold cp;split
  .have:=mf f (n/10) m (oE n::s);simp at this;omega
  .omega
def ti (l:List UInt8):(ByteArray.mk l.toArray).size=l.length:=rfl
def ame (n d:Int) (hn:0<=n) (hn2:n<=4000000000000000000) (hd:0<d) (gP:d<=4000000000000000000):Holds prog true 44 [iv n,iv d] (sv (xh (n/Int.gcd n d) (d/Int.gcd n d))):=by
 refine bL (c:=NN) func44 rfl rfl fun w F=> ?_
 have k1:=amd n d;have k2:=amc n d;have hm:(if(0:Int)-n>n then(0:Int)-n else n)=n:=if_neg ω;have hg:0<Int.gcd n d:=Int.gcd_pos_of_ne_zero_right _ ω;simp only [bA,hm]at k1 k2;have e1:Int.tdiv n (Int.gcd n d:Int)=n/(Int.gcd n d:Int):=Int.tdiv_eq_ediv_of_nonneg hn;have e2:Int.tdiv d (Int.gcd n d:Int)=d/(Int.gcd n d:Int):=Int.tdiv_eq_ediv_of_nonneg ω;simp only [e1,e2]at k1 k2;generalize auL:(Int.gcd n d:Int)=g at*;have qD:1<=g:=by omega
 have b1:0<=n/g:=Int.ediv_nonneg hn ω;have b2:n/g<=n:=Int.ediv_le_self _ hn;have b3:0<=d/g:=Int.ediv_nonneg ω ω;have b4:d/g<=d:=Int.ediv_le_self _ ω;have hm2:(if(0:Int)-n/g>n/g then(0:Int)-n/g else n/g)=n/g:=if_neg ω;simp only [hm2]at k1 k2;have l1:=mf 20 (n/g) 1 [];have l2:=mf 20 (d/g) 1 [];have dD:=ti (cp 20 (n/g) 1 []);have z2:=ti (cp 20 (d/g) 1 []);simp only [List.length_nil,aw]at l1 l2;by_cases h1:d/g>1
 .have y1:(ByteArray.mk #[]++ByteArray.mk (cp 20 (n/g) 1 []).toArray).size=(cp 20 (n/g) 1 []).length:=by rw [uZ,dp];rfl
  have y2:(ByteArray.mk #[]++ByteArray.mk (cp 20 (n/g) 1 []).toArray++ByteArray.mk #[47]).size=(cp 20 (n/g) 1 []).length+1:=by rw [uZ,dp,cQ,<-uZ,y1];rfl
  refine bw VW 30 (k2 ω ω ω ω ω ω ?_ ω ω ω ω ω ?_ ?_ h1 ?_ ?_ ?_ ?_)
  .rw [ae];exact⟨az hn,az (show(0:Int)<=d by omega)⟩
  .rw [ae,ae];exact⟨az b1,az ω,by decide⟩
  .rw [dD];show 0+_<=_;omega
  .rw [y1];show _+1<=_;omega
  .rw [ae,ae];exact⟨az b3,az ω,by decide⟩
  .rw [y2,z2];omega
  .apply gA;rw [dp,dp,dp];unfold xh;rw [if_pos h1];show(([]++cp 20 (n/g) 1 [])++[47])++cp 20 (d/g) 1 []=cp 20 (n/g) 1 []++47::cp 20 (d/g) 1 [];simp
 .refine bw VW 30 (k1 ω ω ω ω ω ω ?_ ω ω ω ω ω ?_ ?_ h1 ?_)
  .rw [ae];exact⟨az hn,az (show(0:Int)<=d by omega)⟩
  .rw [ae,ae];exact⟨az b1,az ω,by decide⟩
  .rw [dD];show 0+_<=_;omega
  .apply gA;rw [dp];unfold xh;rw [if_neg h1,List.append_nil];rfl
def BE {b:UInt8} {l:List UInt8}:bZ (b::l)=(decide (48<=b.toNat)&&decide (b.toNat<=57)&&bZ l):=rfl
def amf (a b:List UInt8):∀n:Int,(a++b).foldl (fun n b=>10*n+((b.toNat:Int)-48)) n=b.foldl (fun n b=>10*n+((b.toNat:Int)-48)) (a.foldl (fun n b=>10*n+((b.toNat:Int)-48)) n):=fun n=>List.foldl_append ..
def HF:∀(l:List UInt8) (n:Int),l.foldl (fun n b=>10*n+((b.toNat:Int)-48)) n=n*10^l.length+bg l
 |[],n=>by simp [bg]
 |b::r,n=>by
  have h1:=HF r (10*n+((b.toNat:Int)-48));have h2:=HF r (10*0+((b.toNat:Int)-48));unfold bg at*;simp only [List.foldl_cons,List.length_cons];rw [h1,h2,Int.pow_succ];grind
def rk (b:UInt8) (r:List UInt8):bg (b::r)=((b.toNat:Int)-48)*10^r.length+bg r:=by
 have:=HF r (10*0+((b.toNat:Int)-48));unfold bg at*;simp only [List.foldl_cons];rw [this];simp
def D1:∀(l:List UInt8),bZ l=true->bf l=l.length
 |[],_=>rfl
 |b::r,h=>by
  rw [BE]at h;simp only [ae,bE]at h;unfold bf;rw [if_neg ω,D1 r h.2,List.length_cons]
def D2:∀(l r:List UInt8),bZ l=true->bf (l++47::r)=l.length
 |[],r,_=>by show bf (47::r)=0;unfold bf;rw [if_pos δ]
 |b::l,r,h=>by
  rw [BE]at h;simp only [ae,bE]at h;rw [List.cons_append];unfold bf;rw [if_neg ω,D2 l r h.2,List.length_cons]
def jQ (s:AT) (i j:Nat):aq (s.extract i j)=((aq s).take j).drop i:=by
 show(s.extract i j).data.toList=_;rw [ByteArray.data_extract,Array.toList_extract];simp [List.extract,List.drop_take]
abbrev g0 (s:List (Int×Int)) (k:Nat):Int×Int:=s.getD k (0,0)
def HG (n d:Int):Int:=n/Int.gcd n d
def BF (n d:Int):Int:=d/Int.gcd n d
end
end Go.Proofs.YtibikmmdbdlafaaGreatDoor
namespace Go.Proofs.YtibikmmdbdlafaaGreatDoor
open Go.RowKit
abbrev gU (l:List Int):List Value:=l.map (Value.int .i64)
def Ix {w:World} {base n:Nat} {v:Value} {xs:List Int} (h:w.ownsRow base 3 1 v n (gU xs)):xs.length=n/\((v= .slice none 0 0/\n=0)\/∃g cap cur,v= .slice (some ⟨g,0,none⟩) n cap/\base<=g/\w.heap[g]? =some (.cells cur 3 (0,0))/\n<=cap/\cap<=maxLen/\cur.size=cap/\cur.toList.take n=gU xs):=by
 obtain⟨h1,h2⟩:=h;simp only [Nat.mul_one,kL]at h1 h2;exact⟨h1,h2⟩
section
variable {w:World} {g n:Nat} {cur:Array Value}
def amg {xs:List Int} (hg:w.heap[g]? =some (.cells cur 3 (0,0))) (ht:cur.toList.take n=gU xs):Sort.Holds (Value.int .i64) w g 0 xs.toArray:=fun j hj=>by
 have hj:j<xs.length:=by simpa using hj
 refine⟨?_, ?_⟩
 .rw [aw,cell_of_row w g j cur _ _ hg];have h1:(cur.toList.take n)[j]? =some (Value.int .i64 xs[j]):=by rw [ht];simp [hj]
  rw [List.getElem?_take]at h1;split at h1
  .simpa [hj]using h1
  .cases h1
 .simp [World.frozen?,hg]
def amh {xs ys:List Int} (hg:w.heap[g]? =some (.cells cur 3 (0,0))) (ht:cur.toList.take n=gU xs) (hl:ys.length=xs.length) (q:Nat):
  (Sort.putRow (Value.int .i64) (Sort.ahead w q) g 0 ys.toArray).heap[g]? =some (.cells (Sort.putCells (Value.int .i64) 0 ys.toArray cur) 3 (0,0))/\(Sort.putCells (Value.int .i64) 0 ys.toArray cur).size=cur.size/\(Sort.putCells (Value.int .i64) 0 ys.toArray cur).toList.take ys.length=gU ys:=by
 refine⟨?_,by simp [Sort.putCells], ?_⟩
 .show(w.heap.modify g (Sort.onCells _))[g]? =_;rw [Array.getElem?_modify,if_pos rfl,hg];rfl
 .have hlen:ys.length<=cur.size:=by
   have h1:=congrArg List.length ht;simp at h1;omega
  apply List.ext_getElem?;intro j;rw [List.getElem?_take];by_cases hj:j<ys.length
  .rw [if_pos hj,Array.getElem?_toList];have hc:j<cur.size:=by omega
   simp [Sort.putCells,hj,hc]
  .rw [if_neg hj,List.getElem?_eq_none (by simpa using hj)]
end
def ami {w:World} {g q:Nat} {d:Array Int}:w.grownBy (Sort.putRow (Value.int .i64) (Sort.ahead w q) g 0 d) (some g):=
 ⟨rfl,rfl,rfl,Nat.le_of_eq τ,fun k _ hk=>by
   show(w.heap.modify g (Sort.onCells _))[k]? =_;rw [Array.getElem?_modify,if_neg (fun e=>hk (by rw [e]))]⟩
def amj (w:World) (r:Option Nat):w.grownBy w r:=⟨rfl,rfl,rfl,aI _,fun _ _ _=>rfl⟩
def amk {w w':World} {r:Option Nat} (h:w.grownBy w' r) (os:Array Obj):w.grownBy (Sort.grow w' os) r:=
 ⟨h.os,h.tape,h.output,dh h.size τ,fun k hk hn=>(Sort.heap_grow_old w' os (Nat.lt_of_lt_of_le hk h.size)).trans (h.block k hk hn)⟩
def aml (base n:Nat) (v:Value) (xs:List Int) (w:World) (h:w.ownsRow base 3 1 v n (gU xs)) (hl:xs.length<=1000000):
  Calls Tryz.prog 102 #[v] w fun e w'=>e= .returned (.tuple #[])/\w'.ownsRow base 3 1 v n (gU (xs.mergeSort fun x y=>decide (x<=y)))/\w.grownBy w' v.ownBlock:=by
 obtain⟨h0,h1⟩:=Ix h;rcases h1 with⟨rfl,rfl⟩|⟨g,cap,cur,rfl,NQ,hg,hn,hcap,hcs,ht⟩
 .obtain rfl:xs=[]:=List.length_eq_zero_iff.1 h0;exact(Tryz.slices_Sort_int_none none 0 w).mono fun e w' ⟨h1,h2⟩=>by subst h2;exact⟨h1,by simpa using h,amj _ _⟩
 .subst h0;have F7:g<w.heap.size:=(dJ.1 hg).1;refine(Tryz.slices_Sort_int g 0 cap xs w (amg hg ht) F7 ω).mono fun e w' ⟨h1,q,os,h2⟩=> ?_
  subst h2;have NR:(xs.mergeSort fun x y=>decide (x<=y)).length=xs.length:=List.length_mergeSort _;obtain⟨p1,p2,p3⟩:=amh hg ht NR q;refine⟨h1,⟨by simp [NR], .inr ⟨g,cap,_,rfl,NQ,(Sort.heap_grow_old _ os (by simpa using F7)).trans p1,hn,hcap,by rw [p2,hcs,Nat.mul_one], ?_⟩⟩,amk ami os⟩;rw [Nat.mul_one,<-NR];exact p3
end Go.Proofs.YtibikmmdbdlafaaGreatDoor
namespace Go.Proofs.YtibikmmdbdlafaaGreatDoor.Sv
open Go.RowKit
noncomputable section
abbrev ei:=Code->(n:Nat)->(aN:Option Nat)->au aa->ai->List Nat->R
def VX (P:Program) (ih:ei) (args:List aa) (H:ai) (fn:Func) (c:Code):aL:=
 @Bool.rec (fun _=>aL) .no (@R.rec (fun _=>aL) .no (fun T H m=>kj P fn T H m) (fun _ _ _ _=> .no) (fun _ _ _ _=> .no) (fun T H m=>kj P fn T H m)
   (ih c fn.ntmps none (dq args .nil 0) H [])) (Nat.ble args.length fn.ntmps)
def mi (P:Program) (ih:ei):eC:=fun f args H=>
 @Option.rec Func (fun _=>aL) .no (fun fn=> @Option.rec Code (fun _=>aL) .no (fun c=>VX P ih args H fn c) fn.body) (P.funcs[f]?)
def HH (ih:ei):jW:=fun i args H=>
 match H.get i with
 |some (.loop r)=>
  match r.state with
  | .ready=>cond (Nat.beq args.length r.params.size&&r.params.toList.all fun t=>Nat.ble (t+1) r.size)
    (match ih r.assign r.size (some i) (xS r.tmps (r.params.toList.zip args)) H []with
      | .normal T H []=>match H.get i with
        |some (.loop r')=>match r'.state with
         | .ready=>tN i (ih r.body r.size (some i) T (H.set i (.loop {r' with state:= .busy})) [])
         |_=> .no
        |_=> .no
      |_=> .no) .no
  |_=> .no
 |_=> .no
def gE (ih:ei) (n:Nat) (aN:Option Nat) (T:au aa) (L:Nat) (m:List Nat):aL->R
 | .ok _ H3=>match H3.get L with
   |some (.loop r)=>match r.state with
    | .busy=> .no
    |_=>match r.pending with
     |none=> .normal T (H3.set L (.loop {r with state:= .exhausted})) m
     |some c=>ih c n aN T (H3.set L (.loop {r with state:= .exhausted})) m
   |_=> .no
 |_=> .no
def NS (b:Option bl):Bool:=match b with |some (.loop _)=>true|_=>false
def pj (eD:ei->eC) (P:Program) (ih:ei) (f:Operand) (params:Array Tmp) (assign body:Code) (n:Nat) (T:au aa) (H:ai) (m:List Nat):R:=
 match mj P (cl T f) [.yield (Nat.succ H.next)] ((H.new .deferred).new (.loop {tmps:=T,size:=n,params,assign,body,state:= .ready,pending:=none}))with
 | .enter g args H2=>gE ih n none T (Nat.succ H.next) (H.next::m) (eD ih g args H2)
 |_=> .no
def pk (eD:ei->eC) (P:Program) (ih:ei) (i:Nat) (f:Operand) (params:Array Tmp) (assign body:Code) (n:Nat) (T:au aa) (H:ai) (m:List Nat):R:=
 match mj P (cl T f) [.yield H.next] (H.new (.loop {tmps:=T,size:=n,params,assign,body,state:= .ready,pending:=none}))with
 | .enter g args H2=>cond (NS (H.get i)) (gE ih n (some i) T H.next m (eD ih g args H2)) .no
 |_=> .no
abbrev jR:=Program->oY->ei->(n:Nat)->(aN:Option Nat)->au aa->ai->List Nat->R
def VY:jR:=fun _ _ _ _ _ T H m=> .normal T H m
def amm (eD:ei->eC) (_id:Nat) (ops:Array Oper) (d:Bool):jR:=fun _ draw ih n _ T H m=>
 z8 m (draw d (eD ih) (HH ih) ops n T H)
def amn (a b:Code) (_ _:jR):jR:=fun _ _ ih n aN T H m=> @R.rec (fun _=>R) .no (fun T H m=>ih b n aN T H m) .exit .goto .ret (ih a n aN T H m)
def amo (c:Operand) (x y:Code) (_ _:jR):jR:=fun _ _ ih n aN T H m=>
 @nr.rec (fun _=>R) .no (fun b=> @Bool.rec (fun _=>R) (ih y n aN T H m) (ih x n aN T H m) b) (gK (cl T c))
def amq (id:Nat) (b:Code) (_:jR):jR:=fun _ _ ih n aN T H m=>
 @R.rec (fun _=>R) .no .normal (fun i T H m=> @Bool.rec (fun _=>R) (.exit i T H m) (.normal T H m) (Nat.beq i id)) .goto .ret (ih b n aN T H m)
def VZ (b:Code) (_:jR):jR:=fun _ _ ih n aN T H m=>iter (ih b n aN) rounds T H m
def amr (eD:ei->eC) (f:Operand) (params:Array Tmp) (assign body:Code) (_ _:jR):jR:=fun P _ ih n aN T H m=>
 @Option.rec Nat (fun _=>R) (pj eD P ih f params assign body n T H m) (fun i=>pk eD P ih i f params assign body n T H m) aN
def ams (id:Nat):jR:=fun _ _ _ _ _ T H m=> .exit id T H m
def amt (b:Code) (_:jR):jR:=fun _ _ ih n aN T H m=> @R.rec (fun _=>R) .no .normal .exit (fun _ _ _ _=> .no) .ret (ih b n aN T H m)
def amu (l:Nat):jR:=fun _ _ _ _ _ T H m=> .goto l T H m
def amv:jR:=fun _ _ _ _ _ T H m=> .ret T H m
def amw:jR:=fun _ _ _ _ _ _ _ _=> .no
def pl (eD:ei->eC):Code->jR:=
 @Code.rec (fun _=>jR) VY (amm eD) amn amo amq VZ (amr eD) ams amt (fun _=>VY) amu amv (fun _=>amw)
def vx (eD:ei->eC) (P:Program) (draw:oY) (fuel:Nat):ei:=
 @Nat.rec (fun _=>ei) (fun _ _ _ _ _ _=> .no) (fun _ ih c=>pl eD c P draw ih) fuel
end
variable [Ground]
def D3 (ρ:Env):Option Nat->Option Nat->Prop
 |none,none=>True
 |some i,some l=>∃c,ρ i=some (l,c)
 |_,_=>False
def D3.mono {ρ ρ':Env} (hl:cB ρ ρ'):∀{aN rd:Option Nat},D3 ρ aN rd->D3 ρ' aN rd
 |none,none,_=>trivial
 |some _,some _,⟨c,h⟩=>⟨c,hl _ _ h⟩
 |none,some _,h=>h.elim
 |some _,none,h=>h.elim
section
variable {P:Program} {B:Nat} {ρ:Env} {n:Nat} {T:au aa} {H:ai} {a:Act} {w:World}
variable {eD:ei->eC}
structure jS (P:Program) (ih:ei):Prop where
 mono:∀c n aN T H m e aO H' m',(ih c n aN T H m).out=some (e,aO,H',m')->H.next<=H'.next
 cx:∀c n aN T H m e aO H' m',(ih c n aN T H m).out=some (e,aO,H',m')->∀B ρ a w rd k (Q:Exit->Act->World->Prop),D3 ρ aN rd->eE P B ρ n T H a w->eF ρ m a.defers->Fr ρ H.next H'.next->
  (∀ρ' a' w',eE P B ρ' n aO H' a' w'->bQ ρ H w ρ' H' w'->eF ρ' m' a'.defers->Q e a' w')->c.wpIn (dW rd) k P Q a w
section
variable {ih:ei}
def V0 {f:FuncId} {args:List aa} {v:aa} {H':ai} (h:mi P ih f args H= .ok v H'):∃fn c,P.funcs[f]? =some fn/\fn.body=some c/\args.length<=fn.ntmps/\
  ∃e T1 H1 m1,(ih c fn.ntmps none (dq args .nil 0) H []).out=some (e,T1,H1,m1)/\(e= .normal\/e= .ret)/\kj P fn T1 H1 m1= .ok v H':=by
 unfold mi at h;cases hf:P.funcs[f]? with
 |none=>rw [hf]at h;cases h
 |some fn=>
  rw [hf]at h;simp only at h;cases hb:fn.body with
  |none=>rw [hb]at h;cases h
  |some c=>
   rw [hb]at h;simp only at h;unfold VX at h;cases hn:Nat.ble args.length fn.ntmps with
   |false=>rw [hn]at h;cases h
   |true=>
    rw [hn]at h;simp only at h;refine⟨fn,c,rfl,hb,bT hn, ?_⟩;cases hr:ih c fn.ntmps none (dq args .nil 0) H []with
    |no=>rw [hr]at h;cases h
    |normal T1 H1 m1=>rw [hr]at h;exact⟨_,_,_,_,rfl, .inl rfl,h⟩
    |exit _ _ _ _=>rw [hr]at h;cases h
    |goto _ _ _ _=>rw [hr]at h;cases h
    |ret T1 H1 m1=>rw [hr]at h;exact⟨_,_,_,_,rfl, .inr rfl,h⟩
def HJ (hI:jS P ih):bC P (mi P ih) where
 mono f args H v H' h:=by
  obtain⟨fn,c,_,_,_,e,T1,H1,m1,ho,_,hl⟩:=V0 h;exact dh (hI.mono _ _ _ _ _ _ _ _ _ _ ho) (Nat.le_of_eq (Ao hl))
 cx f args H v H' h B ρ xs w m hH cv hd hf:=by
  obtain⟨fn,c,hfn,hb,hn,e,T1,H1,m1,ho,he,hl⟩:=V0 h;have hnx:=Ao hl;refine callsIn_of_wp_marks hfn hb trivial ?_;refine hI.cx _ _ _ _ _ _ _ _ _ _ ho B ρ _ w none m _ trivial ⟨CE hd hn,hH,cv⟩ rfl (by rw [hnx];exact hf) fun ρ' a' w' h1 h2 h3=> ?_
  have:LeavesInM (dW none) m P fn a'.tmps (mF P B ρ H w v H') a'.defers .returning w':=yc m1 h1 h3 hl fun y w2 r1 r2 r3=>⟨y,ρ',rfl,r1,r2,h2.trans r3⟩
  rcases he with rfl |rfl<;>exact this
def V1 {i:Nat} {args:List aa} {v:aa} {H':ai} (h:HH ih i args H= .ok v H'):∃r,H.get i=some (.loop r)/\args.length=r.params.size/\(∀t∈r.params.toList,t<r.size)/\
  ∃T1 H1 r',(ih r.assign r.size (some i) (xS r.tmps (r.params.toList.zip args)) H []).out=some (.normal,T1,H1,[])/\H1.get i=some (.loop r')/\r'.state= .ready/\
   tN i (ih r.body r.size (some i) T1 (H1.set i (.loop {r' with state:= .busy})) [])= .ok v H':=by
 unfold HH at h;split at h
 .rename_i r hg;split at h
  .cases hb:(Nat.beq args.length r.params.size&&r.params.toList.all fun t=>Nat.ble (t+1) r.size)with
   |false=>rw [hb]at h;cases h
   |true=>
    rw [hb]at h;rw [ae]at hb;simp only [cond_true]at h;refine⟨r,hg,ac hb.1,fun t ht=>bT (List.all_eq_true.1 hb.2 t ht), ?_⟩;split at h
    .rename_i T1 H1 hr;split at h
     .rename_i r' hg';split at h
      .rename_i hs;exact⟨T1,H1,r',by rw [hr];rfl,hg',hs,h⟩
      .cases h
     .cases h
    .cases h
  .cases h
 .cases h
def vy (hI:jS P ih):lN P (HH ih) where
 mono i args H v H' h:=by
  obtain⟨r,_,_,_,T1,H1,r',h1,_,_,h2⟩:=V1 h;obtain⟨e,T2,H2,m2,r1,j,k1,_,_,rfl,_⟩:=Fl h2;have a1:=hI.mono _ _ _ _ _ _ _ _ _ _ h1;have a2:=hI.mono _ _ _ _ _ _ _ _ _ _ k1;exact dh a1 a2
 cx i args H v H' h B ρ xs w b c m hH cv hr hd hf:=by
  obtain⟨r,hg,hlen,hpar,T1,H1,r',h1,qD,hst,h2⟩:=V1 h;obtain⟨e,T2,H2,m2,r1,j,k1,hg2,rfl,rfl,hj⟩:=Fl h2;have a1:=hI.mono _ _ _ _ _ _ _ _ _ _ h1;have a2:=hI.mono _ _ _ _ _ _ _ _ _ _ k1;have JU:H1.next<=H2.next:=a2;obtain⟨R,hb,hR⟩:=rW hH hg hr;have hl:=hd.length;have hy:=run_yield (P:=P) (args:=xs.toArray) hb (by rw [hR.params];simp;omega);refine⟨_,_,_,_,hy,roundIn_of_wpIn trivial ?_⟩
  -- the slots of the round
  have JV:jY ρ (xS r.tmps (r.params.toList.zip args)) r.size ((R.params.zip xs.toArray).foldl (fun tmps (t,a)=>tmps.setIfInBounds t a) R.tmps):=by
   have e1:(R.params.zip xs.toArray).foldl (fun tmps (t,a)=>tmps.setIfInBounds t a) R.tmps=(r.params.toList.zip xs).foldl (fun tmps p=>tmps.setIfInBounds p.1 p.2) R.tmps:=by
    rw [<-Array.foldl_toList,hR.params];congr 1;simp
   rw [e1];have hz:∀{α:Type} (l:List Nat) (ys:List α),ys.length=l.length->(l.zip ys).map Prod.fst=l/\(l.zip ys).map Prod.snd=ys:=fun l ys hh=>⟨by rw [List.map_fst_zip];omega,by rw [List.map_snd_zip];omega⟩
   have dD:=hz r.params.toList args (by simpa using hlen);have z2:=hz r.params.toList xs (by rw [hl];simpa using hlen);exact JT _ _ (by rw [dD.1,z2.1]) (by rw [dD.2,z2.2];exact hd) (fun p hp=>hpar p.1 (List.of_mem_zip hp).1) hR.tmps
  rw [hR.assign,hR.body];refine hI.cx _ _ _ _ _ _ _ _ _ _ h1 B ρ _ w (some b) m _ ⟨c,hr⟩ ⟨JV,hH,cv⟩ rfl (fun x y z=>hf x y (Nat.lt_of_lt_of_le z JU)) fun cN CG w1 hA hS hD=> ?_
  have hD:CG.defers=[]:=hD;have kS:cN i=some (b,c):=hS.le _ _ hr;obtain⟨JW,jy,lQ⟩:=rW hA.H qD kS;have JX:=run_beginRound (P:=P) jy (by rw [lQ.state,hst]);refine⟨_,JX, ?_⟩;obtain⟨q1,aQ⟩:=yd hA.H qD kS rfl (r:={r' with state:= .busy}) (R:={JW with state:= .busy}) ⟨rfl,lQ.pending,lQ.params,lQ.assign,lQ.body,lQ.tmps⟩;refine hI.cx _ _ _ _ _ _ _ _ _ _ k1 B cN CG _ (some b) m _ ⟨c,kS⟩ (hA.next hA.T q1 aQ) hD ((hS.trans aQ).fr hf) fun eo abU w2 vV CI _=> ?_
  have hr2:eo i=some (b,c):=CI.le _ _ kS;obtain⟨JY,kO,tZ⟩:=rW vV.H hg2 hr2;have JZ:=run_endRound (P:=P) j kO;obtain⟨b7,ez⟩:=yd vV.H hg2 hr2 rfl (r:={r1 with state:=if j.isNone then .ready else .done,pending:=j}) (R:={JY with state:=if j.isNone then .ready else .done,pending:=j}) ⟨rfl,rfl,tZ.params,tZ.assign,tZ.body,tZ.tmps⟩;have fin:∃v' w',(Instr.endRound b j).run P w2= .ok v' w'/\mF P B ρ H w (.raw (.bool j.isNone)) (H2.set i (.loop {r1 with state:=if j.isNone then .ready else .done,pending:=j})) (.returned v') w':=
   ⟨_,_,JZ,_,eo,rfl, .raw _,b7,((hS.trans aQ).trans CI).trans ez⟩
  rcases hj with⟨rfl,rfl⟩|⟨rfl,rfl⟩|⟨id,rfl,rfl⟩|⟨l,rfl,rfl⟩<;>exact fin
def HK {aN:Option Nat} {L:Nat} {m:List Nat} {ag:aL} {e:Exit} {aO:au aa} {H':ai} {m':List Nat} (h:(gE ih n aN T L m ag).out=some (e,aO,H',m')):∃v H3 r,ag= .ok v H3/\H3.get L=some (.loop r)/\r.state≠ .busy/\
  (r.pending=none/\e= .normal/\aO=T/\H'=H3.set L (.loop {r with state:= .exhausted})/\m'=m\/
    ∃c,r.pending=some c/\(ih c n aN T (H3.set L (.loop {r with state:= .exhausted})) m).out=some (e,aO,H',m')):=by
 unfold gE at h;split at h
 .rename_i v H3;split at h
  .rename_i r hg;split at h
   .cases h
   .rename_i hs;refine⟨v,H3,r,rfl,hg,fun hh=>hs hh, ?_⟩;split at h
    .rename_i hp;cases h;exact .inl ⟨hp,rfl,rfl,rfl,rfl⟩
    .rename_i c hp;exact .inr ⟨c,hp,h⟩
  .cases h
 .cases h
def po {f:Operand} {params:Array Tmp} {assign body:Code} {m:List Nat} {e:Exit} {aO:au aa} {H':ai} {m':List Nat} (h:(pj eD P ih f params assign body n T H m).out=some (e,aO,H',m')):
  ∃g args H2,mj P (cl T f) [.yield (H.next+1)] ((H.new .deferred).new (.loop {tmps:=T,size:=n,params,assign,body,state:= .ready,pending:=none}))= .enter g args H2/\
   (gE ih n none T (H.next+1) (H.next::m) (eD ih g args H2)).out=some (e,aO,H',m'):=by
 unfold pj at h;split at h
 .rename_i g args H2 hc;exact⟨g,args,H2,hc,h⟩
 .cases h
def V2 {i:Nat} {f:Operand} {params:Array Tmp} {assign body:Code} {m:List Nat} {e:Exit} {aO:au aa} {H':ai} {m':List Nat} (h:(pk eD P ih i f params assign body n T H m).out=some (e,aO,H',m')):
  (∃er,H.get i=some (.loop er))/\∃g args H2,mj P (cl T f) [.yield H.next] (H.new (.loop {tmps:=T,size:=n,params,assign,body,state:= .ready,pending:=none}))= .enter g args H2/\
    (gE ih n (some i) T H.next m (eD ih g args H2)).out=some (e,aO,H',m'):=by
 unfold pk at h;split at h
 .rename_i g args H2 hc;cases hb:NS (H.get i)with
  |false=>rw [hb]at h;cases h
  |true=>
   rw [hb]at h;refine⟨?_,g,args,H2,hc,h⟩;unfold NS at hb;split at hb
   .rename_i er ux;exact⟨er,ux⟩
   .cases hb
 .cases h
end
section
variable (hU:∀ih,jS P ih->bC P (eD ih))
def pr {ih:ei} (hI:jS P ih) {f:Operand} {params:Array Tmp} {assign body:Code} {m:List Nat} {e:Exit} {aO:au aa} {H':ai} {m':List Nat} (h:(pj eD P ih f params assign body n T H m).out=some (e,aO,H',m')):H.next+2<=H'.next:=by
 obtain⟨g,args,H2,h1,h2⟩:=po h;have nx:=Ap h1;obtain⟨v,H3,r,h3,h4,h5,h6⟩:=HK h2;have hc:=(hU ih hI).mono _ _ _ _ _ h3;have e2:H2.next=H.next+2:=by rw [nx];rfl
 rcases h6 with⟨_,_,_,rfl,_⟩|⟨c,_,h7⟩
 .show H.next+2<=H3.next;omega
 .have:=hI.mono _ _ _ _ _ _ _ _ _ _ h7;have e3:(H3.set (H.next+1) (bl.loop {r with state:= .exhausted})).next=H3.next:=rfl;omega
def pu {ih:ei} (hI:jS P ih) {i:Nat} {f:Operand} {params:Array Tmp} {assign body:Code} {m:List Nat} {e:Exit} {aO:au aa} {H':ai} {m':List Nat} (h:(pk eD P ih i f params assign body n T H m).out=some (e,aO,H',m')):H.next+1<=H'.next:=by
 obtain⟨_,g,args,H2,h1,h2⟩:=V2 h;have nx:=Ap h1;obtain⟨v,H3,r,h3,h4,h5,h6⟩:=HK h2;have hc:=(hU ih hI).mono _ _ _ _ _ h3;have e2:H2.next=H.next+1:=by rw [nx];rfl
 rcases h6 with⟨_,_,_,rfl,_⟩|⟨c,_,h7⟩
 .show H.next+1<=H3.next;omega
 .have:=hI.mono _ _ _ _ _ _ _ _ _ _ h7;have e3:(H3.set H.next (bl.loop {r with state:= .exhausted})).next=H3.next:=rfl;omega
def amx (hK:fe P) {ih:ei} (hI:jS P ih) {f:Operand} {params:Array Tmp} {assign body:Code} {m:List Nat} {e:Exit} {aO:au aa} {H':ai} {m':List Nat} (h:(pj eD P ih f params assign body n T H m).out=some (e,aO,H',m'))
  (k:Nat) {Q:Exit->Act->World->Prop} (aR:eE P B ρ n T H a w) (hD:eF ρ m a.defers) (hf:Fr ρ H.next H'.next)
  (hQ:∀ρ' a' w',eE P B ρ' n aO H' a' w'->bQ ρ H w ρ' H' w'->eF ρ' m' a'.defers->Q e a' w'):(Code.rangeFunc f params assign body).wpIn (dW none) k P Q a w:=by
 have hmono:=pr hU hI h;obtain⟨g,args,H2,h1,h2⟩:=po h;have nx:=Ap h1;obtain⟨v,H3,r,h3,h4,h5,h6⟩:=HK h2;have hcm:=(hU ih hI).mono _ _ _ _ _ h3;have e2:H2.next=H.next+2:=by rw [nx];rfl
 have vW:H3.next<=H'.next:=by
  rcases h6 with⟨_,_,_,rfl,_⟩|⟨c,_,h7⟩
  .exact aI _
  .have:=hI.mono _ _ _ _ _ _ _ _ _ _ h7;exact this
 refine wpIn_rangeFunc fun fn _=> ?_
 -- the two blocks
 have hn0:ρ H.next=none:=hf _ (aI _) ω;obtain⟨p1,p2⟩:=tQ aR.H (fun i x y=>hf i x ω) 0 .deferred (.deferred (some [])) rfl;have ye:=p2.fr hf;have ny:(H.new .deferred).next=H.next+1:=rfl;have CJ:=aR.T.mono p2.le;obtain⟨rec,ir⟩:∃rec:Loop,rec={state:= .ready,pending:=none,fn,tmps:=a.tmps,params,assign,body,defers:=w.heap.size}:=⟨_,rfl⟩;obtain⟨p3,ec⟩:=tQ p1 (fun i x y=>ye i x (by rw [ny]at y;omega)) 0 (.loop {tmps:=T,size:=n,params,assign,body,state:= .ready,pending:=none}) (.loop rec) ⟨rec,rfl,by rw [ir],by rw [ir],by rw [ir],by rw [ir],by rw [ir],by
  rw [ir];exact CJ.mono (Env.o5 (ye _ (aI _) (by rw [ny];omega)))⟩
 have hle:=p2.trans ec;rw [<-nx]at p3 ec hle h1;obtain⟨eo,vX⟩:∃eo,eo=(ρ.put H.next w.heap.size 0).put (H.new .deferred).next (w.alloc (.deferred (some []))).heap.size 0:=⟨_,rfl⟩;rw [<-vX]at p3 ec hle;have hL:eo (H.next+1)=some (w.heap.size+1,0):=by rw [vX,<-ny,Env.dA];simp
 have J1:eo H.next=some (w.heap.size,0):=by
  refine ec.le _ _ ?_;rw [Env.dA]
 -- the function
 have vY:=(ya aR.T aR.G f).mono hle.le;obtain⟨v7,first,captured,fW⟩:=J0 vY h1;have CK:aG eo [aa.yield (H.next+1)] [.func (.yield (w.heap.size+1)) #[] #[]]:= .cons (.yield hL) .nil;have hca:=kw (P:=P) (B:=B) (w:=(w.alloc (.deferred (some []))).alloc (.loop rec)) (fv:=cl T f) hK p3 vY CK (r:=(invoke (.fn v7 captured) (first++ #[.func (.yield (w.heap.size+1)) #[] #[]])).run P ((w.alloc (.deferred (some []))).alloc (.loop rec)))
  (fun fn' first' captured' hh=>by rw [fW]at hh;cases hh;rfl)
 rw [h1]at hca;obtain⟨_,xs,hinv,hxs⟩:=hca;refine⟨w.heap.size+1,[{target:= .collected w.heap.size,args:= #[]}],(w.alloc (.deferred (some []))).alloc (.loop rec),{target:= .fn v7 captured,args:=first++ #[.func (.yield (w.heap.size+1)) #[] #[]]},(w.alloc (.deferred (some []))).alloc (.loop rec),g,xs.toArray,
  (w.alloc (.deferred (some []))).alloc (.loop rec), ?_, ?_,fun _ _=>trivial,hinv,(fun hh=>by cases hh), ?_⟩
 .rw [ir];exact run_enterLoop_outer fn a.tmps params assign body
 .have hcv:∀v,a.eval (.const v)=v:=fun _=>rfl
  simp [resolve,fW,Deferred.ofValue,hcv]
 .refine((hU ih hI).cx g args H2 v H3 h3 B eo xs _ (k-1) p3 (aR.G.mono hle.le) hxs ((hle.fr hf).mono' vW)).mono ?_;rintro e0 w3 ⟨x,qE,rfl,_,q1,aQ⟩;have v8:=aQ.le _ _ hL;obtain⟨R,hb,hR⟩:=rW q1 h4 v8;have hel:=run_endLoop (P:=P) hb (by rw [hR.state];exact h5);obtain⟨b7,ez⟩:=yd q1 h4 v8 rfl (r:={r with state:= .exhausted}) (R:={R with state:= .exhausted}) ⟨rfl,hR.pending,hR.params,hR.assign,hR.body,hR.tmps⟩;have gX:=(hle.trans aQ).trans ez;have nA:eF qE (H.next::m) ([{target:= .collected w.heap.size,args:= #[]}]++a.defers):=⟨w.heap.size,0,a.defers,aQ.le _ _ J1,rfl,(hD.mono (hle.trans aQ).le)⟩;have key:∀jump,jump=r.pending->(match jump with
    |none=>Q .normal {a with defers:=[{target:= .collected w.heap.size,args:= #[]}]++a.defers} (w3.putObj (w.heap.size+1) (.loop {R with state:= .exhausted}))
    |some c=>c.wpIn (dW none) k P Q {a with defers:=[{target:= .collected w.heap.size,args:= #[]}]++a.defers} (w3.putObj (w.heap.size+1) (.loop {R with state:= .exhausted}))):=by
   rintro jump rfl;rcases h6 with⟨k1,rfl,rfl,rfl,rfl⟩|⟨c,k1,h7⟩
   .rw [k1];exact hQ qE {a with defers:=[{target:= .collected w.heap.size,args:= #[]}]++a.defers} _ ⟨aR.T.mono gX.le,b7,aR.G.mono gX.le⟩ gX nA
   .rw [k1];refine hI.cx _ _ _ _ _ _ _ _ _ _ h7 B qE {a with defers:=[{target:= .collected w.heap.size,args:= #[]}]++a.defers} _ none k Q trivial ⟨aR.T.mono gX.le,b7,aR.G.mono gX.le⟩ nA (gX.fr hf) fun ρ' a' w' r1 r2 r3=>hQ ρ' a' w' r1 (gX.trans r2) r3
  exact⟨R.pending,_,hel,key _ hR.pending⟩
def amy (hK:fe P) {ih:ei} (hI:jS P ih) {i l₀ c₀:Nat} (V3:ρ i=some (l₀,c₀)) {f:Operand} {params:Array Tmp} {assign body:Code} {m:List Nat} {e:Exit} {aO:au aa} {H':ai} {m':List Nat} (h:(pk eD P ih i f params assign body n T H m).out=some (e,aO,H',m'))
  (k:Nat) {Q:Exit->Act->World->Prop} (aR:eE P B ρ n T H a w) (hD:eF ρ m a.defers) (hf:Fr ρ H.next H'.next)
  (hQ:∀ρ' a' w',eE P B ρ' n aO H' a' w'->bQ ρ H w ρ' H' w'->eF ρ' m' a'.defers->Q e a' w'):(Code.rangeFunc f params assign body).wpIn (dW (some l₀)) k P Q a w:=by
 have hmono:=pu hU hI h;obtain⟨⟨er,ux⟩,g,args,H2,h1,h2⟩:=V2 h;have nx:=Ap h1;obtain⟨v,H3,r,h3,h4,h5,h6⟩:=HK h2;have hcm:=(hU ih hI).mono _ _ _ _ _ h3;have e2:H2.next=H.next+1:=by rw [nx];rfl
 have vW:H3.next<=H'.next:=by
  rcases h6 with⟨_,_,_,rfl,_⟩|⟨c,_,h7⟩
  .exact aI _
  .have:=hI.mono _ _ _ _ _ _ _ _ _ _ h7;exact this
 refine wpIn_rangeFunc fun fn _=> ?_
 obtain⟨R0,uL,_⟩:=rW aR.H ux V3
 -- the block
 have hn0:ρ H.next=none:=hf _ (aI _) ω;obtain⟨rec,ir⟩:∃rec:Loop,rec={state:= .ready,pending:=none,fn,tmps:=a.tmps,params,assign,body,defers:=R0.defers}:=⟨_,rfl⟩;obtain⟨p3,ec⟩:=tQ aR.H (fun i x y=>hf i x ω) 0 (.loop {tmps:=T,size:=n,params,assign,body,state:= .ready,pending:=none}) (.loop rec) ⟨rec,rfl,by rw [ir],by rw [ir],by rw [ir],by rw [ir],by rw [ir],by
  rw [ir];exact aR.T.mono (Env.o5 hn0)⟩
 have hle:=ec;rw [<-nx]at p3 ec hle h1;obtain⟨eo,vX⟩:∃eo,eo=ρ.put H.next w.heap.size 0:=⟨_,rfl⟩;rw [<-vX]at p3 ec hle;have hL:eo H.next=some (w.heap.size,0):=by rw [vX,Env.dA]
 -- the function
 have vY:=(ya aR.T aR.G f).mono hle.le;obtain⟨v7,first,captured,fW⟩:=J0 vY h1;have CK:aG eo [aa.yield H.next] [.func (.yield w.heap.size) #[] #[]]:= .cons (.yield hL) .nil;have hca:=kw (P:=P) (B:=B) (w:=w.alloc (.loop rec)) (fv:=cl T f) hK p3 vY CK (r:=(invoke (.fn v7 captured) (first++ #[.func (.yield w.heap.size) #[] #[]])).run P (w.alloc (.loop rec)))
  (fun fn' first' captured' hh=>by rw [fW]at hh;cases hh;rfl)
 rw [h1]at hca;obtain⟨_,xs,hinv,hxs⟩:=hca;refine⟨w.heap.size,[],w.alloc (.loop rec),{target:= .fn v7 captured,args:=first++ #[.func (.yield w.heap.size) #[] #[]]},w.alloc (.loop rec),g,xs.toArray,
  w.alloc (.loop rec), ?_, ?_,fun _ _=>trivial,hinv,(fun hh=>by cases hh), ?_⟩
 .rw [ir];exact run_enterLoop_inner uL fn a.tmps params assign body
 .have hcv:∀v,a.eval (.const v)=v:=fun _=>rfl
  simp [resolve,fW,Deferred.ofValue,hcv]
 .refine((hU ih hI).cx g args H2 v H3 h3 B eo xs _ (k-1) p3 (aR.G.mono hle.le) hxs ((hle.fr hf).mono' vW)).mono ?_;rintro e0 w3 ⟨x,qE,rfl,_,q1,aQ⟩;have v8:=aQ.le _ _ hL;obtain⟨R,hb,hR⟩:=rW q1 h4 v8;have hel:=run_endLoop (P:=P) hb (by rw [hR.state];exact h5);obtain⟨b7,ez⟩:=yd q1 h4 v8 rfl (r:={r with state:= .exhausted}) (R:={R with state:= .exhausted}) ⟨rfl,hR.pending,hR.params,hR.assign,hR.body,hR.tmps⟩;have gX:=(hle.trans aQ).trans ez;have nA:eF qE m a.defers:=hD.mono (hle.trans aQ).le;have key:∀jump,jump=r.pending->(match jump with
    |none=>Q .normal a (w3.putObj w.heap.size (.loop {R with state:= .exhausted}))
    |some c=>c.wpIn (dW (some l₀)) k P Q a (w3.putObj w.heap.size (.loop {R with state:= .exhausted}))):=by
   rintro jump rfl;rcases h6 with⟨k1,rfl,rfl,rfl,rfl⟩|⟨c,k1,h7⟩
   .rw [k1];exact hQ qE a _ ⟨aR.T.mono gX.le,b7,aR.G.mono gX.le⟩ gX nA
   .rw [k1];refine hI.cx _ _ _ _ _ _ _ _ _ _ h7 B qE a _ (some l₀) k Q ⟨c₀,gX.le _ _ V3⟩ ⟨aR.T.mono gX.le,b7,aR.G.mono gX.le⟩ nA (gX.fr hf) fun ρ' a' w' r1 r2 r3=>hQ ρ' a' w' r1 (gX.trans r2) r3
  exact⟨R.pending,_,hel,key _ hR.pending⟩
end
def NT {ih:ei} (hI:jS P ih) {c:Code} {aN:Option Nat}:∀(j:Nat) {T:au aa} {H:ai} {m:List Nat} {e:Exit} {aO:au aa} {H':ai} {m':List Nat},(iter (ih c n aN) j T H m).out=some (e,aO,H',m')->H.next<=H'.next
 |0,_,_,_,_,_,_,_,h=>by cases h
 |j+1,T,H,m,e,aO,H',m',h=>by
  obtain⟨j',hj,e1,T1,H1,m1,h1,h2⟩:=Fm (j+1) h;cases hj;have a1:=hI.mono _ _ _ _ _ _ _ _ _ _ h1;rcases h2 with⟨_,h2⟩|⟨_,_,_,rfl,_⟩
  .exact dh a1 (NT hI j h2)
  .exact a1
def V4 {ih:ei} (hI:jS P ih) {c:Code} {aN:Option Nat} {rd:Option Nat} {k:Nat} {Q:Exit->Act->World->Prop}:∀(j:Nat) {ρ:Env} {T:au aa} {H:ai} {m:List Nat} {a:Act} {w:World} {e:Exit} {aO:au aa} {H':ai} {m':List Nat},
  (iter (ih c n aN) j T H m).out=some (e,aO,H',m')->D3 ρ aN rd->eE P B ρ n T H a w->eF ρ m a.defers->Fr ρ H.next H'.next->
  (∀ρ' a' w',eE P B ρ' n aO H' a' w'->bQ ρ H w ρ' H' w'->eF ρ' m' a'.defers->Q e a' w')->Code.roundsIn (dW rd) k P c Q j a w
 |0,_,_,_,_,_,_,_,_,_,_,h,_,_,_,_,_=>by cases h
 |j+1,ρ,T,H,m,a,w,e,aO,H',m',h,hrd,aR,hD,hf,hQ=>by
  obtain⟨j',hj,e1,T1,H1,m1,h1,h2⟩:=Fm (j+1) h;cases hj;have hle:H1.next<=H'.next:=by
   rcases h2 with⟨_,h2⟩|⟨_,_,_,rfl,_⟩
   .exact NT hI j h2
   .exact aI _
  refine hI.cx _ _ _ _ _ _ _ _ _ _ h1 B ρ a w rd k _ hrd aR hD (hf.mono' hle) fun cN a1 w1 r1 r2 r3=> ?_
  rcases h2 with⟨rfl,h2⟩|⟨hn,rfl,rfl,rfl,rfl⟩
  .exact V4 hI j h2 (hrd.mono r2.le) r1 r3 (r2.fr hf) fun ρ' a' w' q1 aQ b7=>hQ ρ' a' w' q1 (r2.trans aQ) b7
  .exact Rz hn (hQ cN a1 w1 r1 r2 r3)
def V5 {draw:oY} {ih:ei} {x:Code} {aN:Option Nat} {m:List Nat}:pl eD (.loop x) P draw ih n aN T H m=iter (ih x n aN) rounds T H m:=by
 unfold pl;simp only [VZ]
def amz (hU:∀ih,jS P ih->bC P (eD ih)) (hK:fe P) {draw:oY} (hdr:∀d,yb P d (draw d)) {ih:ei} (hI:jS P ih):jS P (fun c=>pl eD c P draw ih) where
 mono c n aN T H m e aO H' m' h:=by
  have hC:=hU ih hI;have hR:=vy hI;cases c with
  |skip=>cases h;exact aI _
  |label l=>cases h;exact aI _
  |exit id=>cases h;exact aI _
  |goto l=>cases h;exact aI _
  |ret=>cases h;exact aI _
  |refuse why=>cases h
  |region id ops d=>
   obtain⟨h1,_,_⟩:=Fo h;exact(hdr d).mono _ _ hC hR _ _ _ _ _ _ h1
  |seq x y=>
   have h:(@R.rec (fun _=>R) .no (fun T H m=>ih y n aN T H m) .exit .goto .ret (ih x n aN T H m)).out=some (e,aO,H',m'):=h;cases hx:ih x n aN T H m with
   |no=>rw [hx]at h;cases h
   |normal T1 H1 m1=>rw [hx]at h;exact dh (hI.mono x n aN T H m _ _ _ _ (by rw [hx];rfl)) (hI.mono _ _ _ _ _ _ _ _ _ _ h)
   |exit id T1 H1 m1=>rw [hx]at h;cases h;exact hI.mono x n aN T H m _ _ _ _ (by rw [hx];rfl)
   |goto l T1 H1 m1=>rw [hx]at h;cases h;exact hI.mono x n aN T H m _ _ _ _ (by rw [hx];rfl)
   |ret T1 H1 m1=>rw [hx]at h;cases h;exact hI.mono x n aN T H m _ _ _ _ (by rw [hx];rfl)
  |cond c x y=>
   have h:(@nr.rec (fun _=>R) .no (fun b=> @Bool.rec (fun _=>R) (ih y n aN T H m) (ih x n aN T H m) b) (gK (cl T c))).out=some (e,aO,H',m'):=h;cases hb:gK (cl T c)with
   |no=>rw [hb]at h;cases h
   |mk b=>rw [hb]at h;cases b<;>exact hI.mono _ _ _ _ _ _ _ _ _ _ h
  |block id x=>
   have h:(@R.rec (fun _=>R) .no .normal (fun i T H m=> @Bool.rec (fun _=>R) (.exit i T H m) (.normal T H m) (Nat.beq i id)) .goto .ret (ih x n aN T H m)).out=some (e,aO,H',m'):=h;cases hx:ih x n aN T H m with
   |no=>rw [hx]at h;cases h
   |normal T1 H1 m1=>rw [hx]at h;cases h;exact hI.mono x n aN T H m _ _ _ _ (by rw [hx];rfl)
   |exit i T1 H1 m1=>
    rw [hx]at h;simp only at h;cases hb:Nat.beq i id with
    |true=>rw [hb]at h;cases h;exact hI.mono x n aN T H m _ _ _ _ (by rw [hx];rfl)
    |false=>rw [hb]at h;cases h;exact hI.mono x n aN T H m _ _ _ _ (by rw [hx];rfl)
   |goto l T1 H1 m1=>rw [hx]at h;cases h;exact hI.mono x n aN T H m _ _ _ _ (by rw [hx];rfl)
   |ret T1 H1 m1=>rw [hx]at h;cases h;exact hI.mono x n aN T H m _ _ _ _ (by rw [hx];rfl)
  |loop x=>rw [V5]at h;exact NT hI rounds h
  |rangeFunc f ps x y=>
   cases aN with
   |some i=>have:=pu hU hI (P:=P) h;omega
   |none=>have:=pr hU hI (P:=P) h;omega
  |scope x=>
   have h:(@R.rec (fun _=>R) .no .normal .exit (fun _ _ _ _=> .no) .ret (ih x n aN T H m)).out=some (e,aO,H',m'):=h;cases hx:ih x n aN T H m with
   |no=>rw [hx]at h;cases h
   |normal T1 H1 m1=>rw [hx]at h;cases h;exact hI.mono x n aN T H m _ _ _ _ (by rw [hx];rfl)
   |exit id T1 H1 m1=>rw [hx]at h;cases h;exact hI.mono x n aN T H m _ _ _ _ (by rw [hx];rfl)
   |goto l T1 H1 m1=>rw [hx]at h;cases h
   |ret T1 H1 m1=>rw [hx]at h;cases h;exact hI.mono x n aN T H m _ _ _ _ (by rw [hx];rfl)
 cx c n aN T H m e aO H' m' h B ρ a w rd k Q hrd aR hD hf hQ:=by
  have hC:=hU ih hI;have hR:=vy hI;have here:∀{x:Code} {e1 T1 H1 m1},(ih x n aN T H m).out=some (e1,T1,H1,m1)->H1=H'->∀Q':Exit->Act->World->Prop,(∀ρ' a' w',eE P B ρ' n T1 H1 a' w'->bQ ρ H w ρ' H1 w'->eF ρ' m1 a'.defers->Q' e1 a' w')->x.wpIn (dW rd) k P Q' a w:=
   fun h1 hh Q' hq=>hI.cx _ _ _ _ _ _ _ _ _ _ h1 B ρ a w rd k Q' hrd aR hD (by rw [hh];exact hf) hq
  cases c with
  |skip=>cases h;exact wpIn_skip (hQ ρ a w aR (bQ.refl _ _ _) hD)
  |label l=>cases h;exact wpIn_label (hQ ρ a w aR (bQ.refl _ _ _) hD)
  |exit id=>cases h;exact wpIn_exit (hQ ρ a w aR (bQ.refl _ _ _) hD)
  |goto l=>cases h;exact wpIn_goto (hQ ρ a w aR (bQ.refl _ _ _) hD)
  |ret=>cases h;exact wpIn_ret (hQ ρ a w aR (bQ.refl _ _ _) hD)
  |refuse why=>cases h
  |region id ops d=>
   obtain⟨h1,rfl,rfl⟩:=Fo h;have J3:∀ρ' a' w',eE P B ρ' n aO H' a' w'->bQ ρ H w ρ' H' w'->a'.defers=a.defers->Q .normal a' w':=fun ρ' a' w' r1 r2 r3=>hQ ρ' a' w' r1 r2 (by rw [r3];exact hD.mono r2.le)
   exact(hdr d).cx _ _ hC hR id _ _ _ _ _ _ h1 B ρ a w rd k Q aR hf J3
  |seq x y=>
   have h:(@R.rec (fun _=>R) .no (fun T H m=>ih y n aN T H m) .exit .goto .ret (ih x n aN T H m)).out=some (e,aO,H',m'):=h;refine wpIn_seq ?_;cases hx:ih x n aN T H m with
   |no=>rw [hx]at h;cases h
   |normal T1 H1 m1=>
    rw [hx]at h;have hle:=hI.mono _ _ _ _ _ _ _ _ _ _ h;refine hI.cx x n aN T H m _ _ _ _ (by rw [hx];rfl) B ρ a w rd k _ hrd aR hD (hf.mono' hle) fun cN a1 w1 r1 r2 r3=> ?_
    exact hI.cx _ _ _ _ _ _ _ _ _ _ h B cN a1 w1 rd k Q (hrd.mono r2.le) r1 r3 (r2.fr hf) fun ρ' a' w' q1 aQ b7=>hQ ρ' a' w' q1 (r2.trans aQ) b7
   |exit id T1 H1 m1=>rw [hx]at h;cases h;exact here (x:=x) (by rw [hx];rfl) rfl _ hQ
   |goto l T1 H1 m1=>rw [hx]at h;cases h;exact here (x:=x) (by rw [hx];rfl) rfl _ hQ
   |ret T1 H1 m1=>rw [hx]at h;cases h;exact here (x:=x) (by rw [hx];rfl) rfl _ hQ
  |cond c x y=>
   have h:(@nr.rec (fun _=>R) .no (fun b=> @Bool.rec (fun _=>R) (ih y n aN T H m) (ih x n aN T H m) b) (gK (cl T c))).out=some (e,aO,H',m'):=h;cases hb:gK (cl T c)with
   |no=>rw [hb]at h;cases h
   |mk b=>
    rw [hb]at h;have hc:=ya aR.T aR.G c;rw [E1 hb]at hc;refine wpIn_cond hc.cg ?_;cases b
    .exact hI.cx _ _ _ _ _ _ _ _ _ _ h B ρ a w rd k Q hrd aR hD hf hQ
    .exact hI.cx _ _ _ _ _ _ _ _ _ _ h B ρ a w rd k Q hrd aR hD hf hQ
  |block id x=>
   have h:(@R.rec (fun _=>R) .no .normal (fun i T H m=> @Bool.rec (fun _=>R) (.exit i T H m) (.normal T H m) (Nat.beq i id)) .goto .ret (ih x n aN T H m)).out=some (e,aO,H',m'):=h;refine wpIn_block ?_;cases hx:ih x n aN T H m with
   |no=>rw [hx]at h;cases h
   |normal T1 H1 m1=>rw [hx]at h;cases h;exact here (x:=x) (by rw [hx];rfl) rfl _ hQ
   |exit i T1 H1 m1=>
    rw [hx]at h;simp only at h;cases hb:Nat.beq i id with
    |true=>
     rw [hb]at h;cases h;have:=ac hb;subst this;exact here (x:=x) (by rw [hx];rfl) rfl _ fun ρ' a' w' r1 r2 r3=>by simp only [Exit.inBlock,if_true];exact hQ ρ' a' w' r1 r2 r3
    |false=>
     rw [hb]at h;cases h;have hne:i≠id:=fun hh=>by subst hh;rw [Nat.beq_refl]at hb;cases hb
     exact here (x:=x) (by rw [hx];rfl) rfl _ fun ρ' a' w' r1 r2 r3=>by simp only [Exit.inBlock,if_neg hne];exact hQ ρ' a' w' r1 r2 r3
   |goto l T1 H1 m1=>rw [hx]at h;cases h;exact here (x:=x) (by rw [hx];rfl) rfl _ hQ
   |ret T1 H1 m1=>rw [hx]at h;cases h;exact here (x:=x) (by rw [hx];rfl) rfl _ hQ
  |loop x=>rw [V5]at h;exact wpIn_loop_rounds rounds (V4 hI rounds h hrd aR hD hf hQ)
  |rangeFunc f ps x y=>
   cases aN with
   |some i=>
    cases rd with
    |some l=>obtain⟨c,hc⟩:=hrd;exact amy hU hK hI hc h k aR hD hf hQ
    |none=>exact hrd.elim
   |none=>
    cases rd with
    |some l=>exact hrd.elim
    |none=>exact amx hU hK hI h k aR hD hf hQ
  |scope x=>
   have h:(@R.rec (fun _=>R) .no .normal .exit (fun _ _ _ _=> .no) .ret (ih x n aN T H m)).out=some (e,aO,H',m'):=h;refine JR ?_;cases hx:ih x n aN T H m with
   |no=>rw [hx]at h;cases h
   |normal T1 H1 m1=>rw [hx]at h;cases h;exact here (x:=x) (by rw [hx];rfl) rfl _ hQ
   |exit id T1 H1 m1=>rw [hx]at h;cases h;exact here (x:=x) (by rw [hx];rfl) rfl _ hQ
   |goto l T1 H1 m1=>rw [hx]at h;cases h
   |ret T1 H1 m1=>rw [hx]at h;cases h;exact here (x:=x) (by rw [hx];rfl) rfl _ hQ
def HL (hU:∀ih,jS P ih->bC P (eD ih)) (hK:fe P) {draw:oY} (hdr:∀d,yb P d (draw d)):∀fuel,jS P (vx eD P draw fuel)
 |0=>⟨(fun _ _ _ _ _ _ _ _ _ _ h=>by cases h),(fun _ _ _ _ _ _ _ _ _ _ h=>by cases h)⟩
 |f+1=>amz hU hK hdr (HL hU hK hdr f)
end
end Go.Proofs.YtibikmmdbdlafaaGreatDoor.Sv
namespace Go.Proofs.YtibikmmdbdlafaaGreatDoor
open Go.RowKit Sv Go.Proofs.Tryz
structure oF (w:World) (b r:Nat) (es:Array MapEntry) (clock:Nat) (rem:List MapEntry):Prop where
 m:w.heap[b]? =some (.map es clock)
 it:∃seen c0,w.heap[r]? =some (.mapIter (some b) clock seen c0)/\clock<=c0/\(leftOf es seen).toList=rem
def xl (e:MapEntry):∀{l:List MapEntry},(l.map (·.born)).Nodup->e∈l->l.Perm (e::l.filter fun x=>x.born != e.born)
 |[],_,h=>by cases h
 |x::l,hn,h=>by
  rw [List.map_cons,List.nodup_cons]at hn;by_cases hx:x.born=e.born
  .have gx:x=e:=by
    rcases en.1 h with h|h
    .exact h.symm
    .exact absurd (List.mem_map.2 ⟨e,h,hx.symm⟩) hn.1
   subst gx;have:l.filter (fun y=>y.born != x.born)=l:=List.filter_eq_self.2 fun y hy=>by
    rw [gC];intro he;exact hn.1 (List.mem_map.2 ⟨y,hy,he⟩)
   rw [List.filter_cons,if_neg τ,this]
  .have he:e∈l:=by
    rcases en.1 h with h|h
    .exact absurd (by rw [h]) hx
    .exact h
   rw [List.filter_cons,if_pos (by simpa using hx)];exact((xl e hn.2 he).cons x).trans (List.Perm.swap _ _ _)
def amA (es:Array MapEntry) (seen:Array Nat) (k:Nat):(leftOf es (seen.push k)).toList=(leftOf es seen).toList.filter fun x=>x.born != k:=by
 unfold leftOf;rw [Array.toList_filter,Array.toList_filter,List.filter_filter];refine List.filter_congr fun x _=> ?_
 rw [contains_push];cases seen.contains x.born<;>simp [bne]
def oF.next {P:Program} {w:World} {b r:Nat} {es:Array MapEntry} {clock:Nat} {rem:List MapEntry} (BG:∀x∈es.toList,x.born<clock) (hn:(es.toList.map (·.born)).Nodup) (h:oF w b r es clock rem) (ty:TypeId):
  (rem=[]/\(Instr.next (.pointer (some ⟨r,0,none⟩)) false ty).run P w= .ok (.tuple #[.bool false]) w)\/
  ∃e sZ w',rem.Perm (e::sZ)/\e∈es.toList/\(Instr.next (.pointer (some ⟨r,0,none⟩)) false ty).run P w= .ok (.tuple #[.bool true,e.key,e.val]) w'/\oF w' b r es clock sZ/\w.grownBy w' (some r)/\w'.heap.size=w.heap.size/\
   (Instr.entry (.pointer (some ⟨r,0,none⟩))).run P w'= .ok (.tuple #[e.key,e.val]) w':=by
 obtain⟨hb,seen,c0,hr,hc,rfl⟩:=h;have hne:b≠r:=fun e=>by subst e;rw [hb]at hr;cases hr
 rcases run_next_at (P:=P) w ty r b clock c0 seen es clock hr hb BG hc with⟨h0,hrun⟩|⟨e,he,w1,hal,hrun⟩
 .exact .inl ⟨by rw [Array.eq_empty_of_size_eq_zero h0],hrun⟩
 .have hem:e∈es.toList:=by
   unfold leftOf at he;rw [Array.toList_filter]at he;exact(List.mem_filter.1 he).1
  have hnl:((leftOf es seen).toList.map (·.born)).Nodup:=by
   unfold leftOf;rw [Array.toList_filter];exact(List.filter_sublist.map _).nodup hn
  have kS:w1.heap[r]? =some (.mapIter (some b) clock seen c0):=by rcases hal with rfl |rfl<;>exact hr
  have jy:w1.heap[b]? =some (.map es clock):=by rcases hal with rfl |rfl<;>exact hb
  have qT:=MapKept.heap_set (o':= .mapIter (some b) clock (seen.push e.born) clock) kS;have hb':(ChangeMaps.setBlock w1 r (.mapIter (some b) clock (seen.push e.born) clock)).heap[b]? =some (.map es clock):=(qT.2 b hne).trans jy;refine .inr ⟨e,_,_,xl e hnl he,hem,hrun,⟨hb',_,_,qT.1,aI _,amA es seen e.born⟩, ?_, ?_,run_entry_at _ r b clock seen es clock e qT.1 hb' hem hn⟩
  .rcases hal with rfl |rfl<;>exact⟨rfl,rfl,rfl,by simp [ChangeMaps.setBlock],fun i _ hi=>qT.2 i (fun e1=>hi (by rw [e1]))⟩
  .rcases hal with rfl |rfl<;>simp [ChangeMaps.setBlock]
def oF.kept {w w':World} {b r:Nat} {es:Array MapEntry} {clock:Nat} {rem:List MapEntry} (h:oF w b r es clock rem) (h1:w'.heap[b]? =w.heap[b]?) (h2:w'.heap[r]? =w.heap[r]?):oF w' b r es clock rem:=
 ⟨by rw [h1];exact h.m,by rw [h2];exact h.it⟩
section
variable {F:Fence} {n:Nat} {P:Program} (w:World) {ops:Array Oper} {rest:List Oper} {o:Oper} {a:Act} {Q:Exit->Act->World->Prop}
def amB (hg:o.guard=none) (m:Operand) (t:TypeId) (hop:o.op=Op.range t m) (k e:TypeId) (ht:P.underlying t=some (.map k e)) (b:Nat) (es:Array MapEntry) (clock:Nat) (hm:a.eval m= .map (some b)) (hb:w.heap[b]? =some (.map es clock)) (r:Nat) (hr:w.heap.size=r)
  (hK:oF (w.alloc (.mapIter (some b) clock #[] clock)) b r es clock es.toList->wpListIn F n P ops Q rest (a.put o.dst (.pointer (some ⟨r,0,none⟩))) (w.alloc (.mapIter (some b) clock #[] clock))):
  wpListIn F n P ops Q (o::rest) a w:=by
 subst hr;refine wpListIn_plain hg fun K' hK'=> ?_
 have hrun:=run_range_map (P:=P) w t k e b es clock ht hb;have hlt:b<w.heap.size:=(dJ.1 hb).1;unfold Oper.wpIn;refine⟨?_, ?_⟩
 .simp [Oper.about,hop]
 .rw [Oper.semAt_plain F _ _ (by rw [hop];intro c tV;cases tV)];simp [execOp,hop,hm,hrun,Result.andThen];refine hK' _ _ (hK ⟨(heap_alloc_old w _ hlt).trans hb, #[],clock,heap_alloc_new w _,aI _, ?_⟩);unfold leftOf;rw [Array.toList_filter];exact List.filter_eq_self.2 fun x _=>by simp
def pv (hg:o.guard=none) (it:Operand) (hop:o.op=Op.next it false) (b r:Nat) (es:Array MapEntry) (clock:Nat) (rem:List MapEntry) (BG:∀x∈es.toList,x.born<clock) (hn:(es.toList.map (·.born)).Nodup)
  (hit:a.eval it= .pointer (some ⟨r,0,none⟩)) (h:oF w b r es clock rem) (hDone:rem=[]->wpListIn F n P ops Q rest (a.put o.dst (.tuple #[.bool false])) w)
  (hMore:∀e sZ w',rem.Perm (e::sZ)->e∈es.toList->oF w' b r es clock sZ->w.grownBy w' (some r)->w'.heap.size=w.heap.size->(Instr.entry (.pointer (some ⟨r,0,none⟩))).run P w'= .ok (.tuple #[e.key,e.val]) w'->
    wpListIn F n P ops Q rest (a.put o.dst (.tuple #[.bool true,e.key,e.val])) w'):
  wpListIn F n P ops Q (o::rest) a w:=by
 refine wpListIn_plain hg fun K' hK'=> ?_
 unfold Oper.wpIn;refine⟨by simp [Oper.about,hop], ?_⟩;rw [Oper.semAt_plain F _ _ (by rw [hop];intro c tV;cases tV)];rcases h.next (P:=P) BG hn o.type with⟨h0,hrun⟩|⟨e,sZ,w',g1,g2,hrun,g3,g4,g5,g6⟩
 .simp [execOp,hop,hit,hrun,Result.andThen];exact hK' _ _ (hDone h0)
 .simp [execOp,hop,hit,hrun,Result.andThen];exact hK' _ _ (hMore e sZ w' g1 g2 g3 g4 g5 g6)
end
end Go.Proofs.YtibikmmdbdlafaaGreatDoor
namespace Go.Proofs.YtibikmmdbdlafaaGreatDoor
open Go.RowKit
def Row (w:World) (B:Nat) (A:Option Addr) (vs:List Value):Prop:=
 vs=[]\/∃b off,A=some ⟨b,off,none⟩/\b<B/\∀i,i<vs.length->w.cell? ⟨b,off+i,none⟩=some (vs.getD i (.bool false))
def Row.nil {w:World} {B:Nat} {A:Option Addr}:Row w B A []:= .inl rfl
def Row.open {w:World} {B:Nat} {A:Option Addr} {vs:List Value} (h:Row w B A vs) (hn:0<vs.length):
  ∃b off,A=some ⟨b,off,none⟩/\b<B/\∀i,i<vs.length->w.cell? ⟨b,off+i,none⟩=some (vs.getD i (.bool false)):=by
 rcases h with rfl |h
 .simp at hn
 .exact h
def Row.below {w w':World} {B B':Nat} {A:Option Addr} {vs:List Value} (h:Row w B A vs) (hb:Below B' w w') (hB:B<=B'):Row w' B A vs:=by
 rcases h with rfl |⟨b,off,rfl,hlt,hc⟩
 .exact .inl rfl
 .exact .inr ⟨b,off,rfl,hlt,fun i hi=>(hb.cell (p:=⟨b,off+i,none⟩) (by simp;omega)).trans (hc i hi)⟩
def Row.drewN {w:World} {B:Nat} {A:Option Addr} {vs:List Value} (h:Row w B A vs) (k:Nat):Row (w.drewN k) B A vs:=h
def Row.drew {w:World} {B:Nat} {A:Option Addr} {vs:List Value} (h:Row w B A vs):Row w.drew B A vs:=h
def Row.alloc {w:World} {B:Nat} {A:Option Addr} {vs:List Value} (h:Row w B A vs) (hB:B<=w.heap.size) (o:Obj):Row (w.alloc o) B A vs:=
 h.below ((Below.refl B w).alloc hB o) (aI _)
def Row.new (w:World) (e:TypeId) (vs:List Value):Row (w.alloc (.cells vs.toArray e)) (w.heap.size+1) (some ⟨w.heap.size,0,none⟩) vs:=
 .inr ⟨w.heap.size,0,rfl,by omega,fun i hi=>by
   rw [World.cell?_alloc_at _ _ _ _ rfl];simp [ao,hi]⟩
def Row.int {w:World} {B:Nat} {A:Option Addr} {xs:List Int} (h:Row w B A (xs.map (Value.int .i64))) (k:Nat) (hk:k<xs.length):
  ∃b off x,A=some ⟨b,off,none⟩/\b<B/\xs[k]? =some x/\w.cell? ⟨b,off+k,none⟩=some (.int .i64 x):=by
 obtain⟨b,off,h1,h2,h3⟩:=h.open (by simp;omega);refine⟨b,off,xs[k],h1,h2,rJ hk, ?_⟩;rw [h3 k (by simpa using hk)];simp [ao,hk]
def eP (w:World) (g:Nat) (t:TypeId) (cs:Array Value):Prop:=w.heap[g]? =some (.cells cs t (0,0))
section
variable {w w':World} {g:Nat} {t:TypeId} {cs:Array Value}
def eP.lt (h:eP w g t cs):g<w.heap.size:=by
 rcases Nat.lt_or_ge g w.heap.size with hlt|hge
 .exact hlt
 .unfold eP at h;rw [Array.getElem?_eq_none hge]at h;cases h
def eP.cell (h:eP w g t cs) (i:Nat):w.cell? ⟨g,i,none⟩=cs[i]? :=cell_of_row w g i cs t (0,0) h
def eP.frozen (h:eP w g t cs) (i:Nat):w.frozen? ⟨g,i,none⟩=false:=by
 unfold eP at h;simp [World.frozen?,h]
def eP.new (w:World) (t:TypeId) (cs:Array Value):eP (w.alloc (.cells cs t)) w.heap.size t cs:=heap_alloc_new w _
def eP.drew (h:eP w g t cs):eP w.drew g t cs:=h
def eP.drewN (h:eP w g t cs) (n:Nat):eP (w.drewN n) g t cs:=h
def eP.alloc (h:eP w g t cs) (o:Obj):eP (w.alloc o) g t cs:=(Below.heap_alloc w o g h.lt).trans h
def eP.below {B:Nat} (h:eP w g t cs) (hb:Below B w w') (hg:g<B):eP w' g t cs:=(hb.block g hg).trans h
def eP.set (h:eP w g t cs) (i:Nat) (u:Value):eP (w.setCell ⟨g,i,none⟩ u) g t (cs.setIfInBounds i u):=by
 unfold eP at h ⊢;simp [World.setCell,Array.getElem?_modify,h]
def eP.gF (h:eP w g t cs) {p:Addr} (hp:g≠p.block) (u:Value):eP (w.setCell p u) g t cs:=(Below.heap_setCell w p u g hp).trans h
end
end Go.Proofs.YtibikmmdbdlafaaGreatDoor
namespace Go.Proofs.YtibikmmdbdlafaaGreatDoor
open Go.RowKit Sv Go.Proofs.Tryz
def Tryz.V6:(prog.info? 3).map (fun i=>(i.zero,i.size,i.bytes))=some (some (.int .i64 0),1,8):=by kernel_rfl
noncomputable def V7:=k_a f157
structure amC (yv:Value) (u0 jT:Nat) (w:World) (ks:List Int) (a':Act) (W:World):Prop where
 size:a'.tmps.size=48
 t0:a'.tmps.getD 0 undef=yv
 t1:a'.tmps.getD 1 undef= .pointer (some ⟨u0,0,none⟩)
 t2:a'.tmps.getD 2 undef= .pointer (some ⟨jT,0,none⟩)
 t3:a'.tmps.getD 3 undef= .pointer (some ⟨w.heap.size,0,none⟩)
 t4:a'.tmps.getD 4 undef= .pointer (some ⟨w.heap.size+1,0,none⟩)
 un:∀t,t<48->t∉[0,1,2,3,4,5,10,11,12,13,14,15,16,17,18,19,20,21]->a'.tmps.getD t undef=undef
 df:a'.defers=[]
 b3:W.heap[w.heap.size]? =some (.cells #[yv] 148 (0,0))
 b4:∃v,W.heap[w.heap.size+1]? =some (.cells #[v] 93 (0,0))/\W.ownsRow (w.heap.size+3) 3 1 v ks.length (gU (ks.mergeSort fun x y=>decide (x<=y)))
 gr:w.grownBy W none
structure amD (yv:Value) (w:World) (b:Nat) (es:Array MapEntry) (clock:Nat) (ks:List Int) (wr:World) (v:Value) (ss:List Int) (rem:List MapEntry):Prop where
 rg:oF wr b (w.heap.size+2) es clock rem
 pm:(gU ss++rem.map (·.key)).Perm (gU ks)
 b3:wr.heap[w.heap.size]? =some (.cells #[yv] 148 (0,0))
 b4:wr.heap[w.heap.size+1]? =some (.cells #[v] 93 (0,0))
 own:wr.ownsRow (w.heap.size+3) 3 1 v ss.length (gU ss)
 gr:w.grownBy wr none
 sz:w.heap.size+3<=wr.heap.size
def amE {a b:List Int} (h:a.Perm b):(a.mergeSort fun x y=>decide (x<=y))=b.mergeSort fun x y=>decide (x<=y):=by
 have HM:∀x y z:Int,decide (x<=y)=true->decide (y<=z)=true->decide (x<=z)=true:=fun x y z h1 h2=>by rw [bE]at*;omega
 have tt:∀x y:Int,(decide (x<=y)||decide (y<=x))=true:=fun x y=>by rw [Bool.or_eq_true,bE,bE];omega
 refine List.Perm.eq_of_pairwise (le:=fun x y=>decide (x<=y)=true) (fun x y _ _ h1 h2=>by rw [bE]at*;omega) (List.pairwise_mergeSort HM tt a) (List.pairwise_mergeSort HM tt b) ?_;exact(List.mergeSort_perm a _).trans (h.trans (List.mergeSort_perm b _).symm)
def amF {a b:List Int} (h:(gU a).Perm (gU b)):a.Perm b:=by
 have h2:=h.map (fun v:Value=>match v with | .int _ n=>n|_=>0);have e:∀l:List Int,(gU l).map (fun v:Value=>match v with | .int _ n=>n|_=>0)=l:=fun l=>by
  unfold gU;rw [List.map_map];exact List.map_id' l
 rwa [e,e]at h2
def amG {w w':World} {base size n:Nat} {e:TypeId} {v:Value} {vs:List Value} (h:w.ownsRow base e size v n vs) (hk:∀b,some b=v.ownBlock->w'.heap[b]? =w.heap[b]?):w'.ownsRow base e size v n vs:=by
 refine⟨h.1, ?_⟩;rcases h.2 with hn|⟨g,cap,cur,rfl,NQ,hg,rest⟩
 .exact .inl hn
 .exact .inr ⟨g,cap,cur,rfl,NQ,(hk g rfl).trans hg,rest⟩
def amH {w:World} {base size n:Nat} {e:TypeId} {v:Value} {vs:List Value} (h:w.ownsRow base e size v n vs):∃A c,v= .slice A n c:=by
 rcases h.2 with⟨rfl,rfl⟩|⟨g,cap,cur,rfl,_⟩
 .exact⟨_,_,rfl⟩
 .exact⟨_,_,rfl⟩
def oF.left {w:World} {b r:Nat} {es:Array MapEntry} {clock:Nat} {rem:List MapEntry} (h:oF w b r es clock rem):w.rangeLeft b r=rem.length:=by
 obtain⟨seen,c0,h1,_,h3⟩:=h.it;unfold World.rangeLeft;rw [h.m,h1];simp only;rw [<-h3,Array.length_toList]
def so {n m:Nat} {P:Program} {f:FuncId} {args:Array Value} {w:World} {R:Ending->World->Prop} (h:CallsIn Fence.wide n P f args w R):CallsIn Fence.wide m P f args w R:=callsIn_wide.2 (callsIn_wide.1 h)
def amI {w:World} {b:Nat} {o:Nat} {v:Value} (h:w.cell? ⟨b,o,none⟩=some v):b<w.heap.size:=by
 unfold World.cell? at h;cases hb:w.heap[b]? with
 |none=>simp [hb]at h
 |some x=>exact(dJ.1 hb).1
set_option maxRecDepth 100000 in
set_option maxHeartbeats 4000000 in
def amJ (m zq:Nat) (u0 jT b:Nat) (es:Array MapEntry) (clock:Nat) (ks:List Int) (w:World) (R:Ending->World->Prop) (x0:w.cell? ⟨u0,0,none⟩=some (.map (some b))) (hb:w.heap[b]? =some (.map es clock))
  (BG:∀x∈es.toList,x.born<clock) (hn:(es.toList.map (·.born)).Nodup) (hk:es.toList.map (·.key)=gU ks) (hsz:ks.length<=100000)
  (hK:∀a' W,amC (.func (.yield zq) #[] #[]) u0 jT w ks a' W->(cat V7 [1,1,1,1]).wpIn Fence.wide m prog (bodyPostM Fence.wide m prog f157 R) a' W):
  CallsIn Fence.wide m prog 157 #[.func (.yield zq) #[] #[], .pointer (some ⟨u0,0,none⟩), .pointer (some ⟨jT,0,none⟩)] w R:=by
 have amK:=Lib.hid hK;have amL:=Lib.hid BG;have M0:=Lib.hid hn;have V8:=Lib.hid hk;have ij:b<w.heap.size:=(dJ.1 hb).1;have amM:=Lib.hid hb;have auM:u0<w.heap.size:=amI x0;obtain⟨i0,tU,NU,NV,V9⟩:=info_parts Tryz.V6;clear hK BG hn hk hb;refine callsIn_of_wp_marks func157 rfl trivial ?_;simp only [Tryz.ntmps157,List.size_toArray,List.length_cons,List.length_nil,Nat.reduceAdd,Nat.reduceSub,Array.replicate_succ,Array.replicate_zero,List.push_toArray,List.append_toArray,List.nil_append,List.cons_append]
 gi_wp2_with (first
  |(gi_at_range;refine amB _ rfl _ 135 rfl 3 3 Tryz.underlying135 b es clock rfl (by rw [heap_alloc_old _ _ (by simp;omega),heap_alloc_old _ _ ij];exact amM.out) (w.heap.size+2) τ ?_;intro amN)
  |gi_in)
 go_frame
 gi_loopw [] (fun wr=>∃v ss rem,amD (.func (.yield zq) #[] #[]) w b es clock ks wr v ss rem) (fun wr=>wr.rangeLeft b (w.heap.size+2))
 case atStart=>
  refine⟨.slice none 0 0,[],es.toList,amN, ?_, ?_, ?_,World.ownsRow_nil _ _ _ _, ?_,by simp⟩
  .rw [V8.out];exact List.Perm.refl _
  .rw [heap_alloc_old _ _ (by simp;omega),heap_alloc_old _ _ τ,heap_alloc_new]
  .rw [heap_alloc_old _ _ τ];have:=heap_alloc_new (w.alloc (.cells #[Value.func (Fn.yield zq) #[] #[]] 148)) (.cells #[Value.slice none 0 0] 93);rwa [show(w.alloc (.cells #[Value.func (Fn.yield zq) #[] #[]] 148)).heap.size=w.heap.size+1 by simp]at this
  .exact((World.grownBy_alloc w _ none).andThen (World.grownBy_alloc _ _ none) fun j hj=>by cases hj).andThen (World.grownBy_alloc _ _ none) fun j hj=>by cases hj
 case round=>
  obtain⟨v,ss,rem,hL⟩:=hrel;have iW:=Lib.hid hL;have Wa:=hL.rg;clear hL
  gi_wp2_with (first
   |(gi_at_next;refine pv _ rfl _ rfl b (w.heap.size+2) es clock rem amL.out M0.out rfl Wa ?_ ?_)
   |gi_in)
  .intro amO;have qR:wr.cell? ⟨w.heap.size+1,0,none⟩=some v:=cell_of_row _ _ 0 #[v] _ _ iW.out.b4;have hst:=(callsIn_wide.2 (aml _ _ v ss wr iW.out.own ?hlen):CallsIn Fence.wide 0 _ _ _ _ _)
   case hlen=>
    have h1:=iW.out.pm.length_eq;simp at h1;omega
   have amP:=Lib.hid hst;clear hst
   gi_wp2
   refine⟨trivial,(fun h=>by cases h),(so amP.out).mono ?_⟩;rintro e w' ⟨rfl,hown,hgr⟩;rename_i auN h1 auO h2;refine h2 _ _ ?_;refine wpListIn_nil ?_;refine h1 _ _ ?_;refine amK.out _ _ ?_;refine⟨rfl,rfl,rfl,rfl,rfl,rfl, ?_,rfl, ?_,⟨v, ?_, ?_⟩, ?_⟩
   .intro t ht hnt;simp only [en,ki,or_false,not_or]at hnt;have ht2:t=6\/t=7\/t=8\/t=9\/t=22\/t=23\/t=24\/t=25\/t=26\/t=27\/t=28\/t=29\/t=30\/t=31\/t=32\/t=33\/t=34\/t=35\/t=36\/t=37\/t=38\/t=39\/t=40\/t=41\/t=42\/t=43\/t=44\/t=45\/t=46\/t=47:=by omega
    rcases ht2 with rfl |rfl |rfl |rfl |rfl |rfl |rfl |rfl |rfl |rfl |rfl |rfl |rfl |rfl |rfl |rfl |rfl |rfl |rfl |rfl |rfl |rfl |rfl |rfl |rfl |rfl |rfl |rfl |rfl |rfl<;>rfl
   .exact(hgr.block _ (Nat.lt_of_lt_of_le (Nat.lt_add_of_pos_right δ) iW.out.sz) fun e=>by have:=(iW.out.own.lt _ e.symm).1;omega).trans iW.out.b3
   .exact(hgr.block _ (by have:=iW.out.sz;omega) fun e=>by have:=(iW.out.own.lt _ e.symm).1;omega).trans iW.out.b4
   .have sQ:=iW.out.pm;rw [amO,List.map_nil,List.append_nil]at sQ;have sQ:=amF sQ;rw [<-sQ.length_eq,<-amE sQ];exact hown
   .exact iW.out.gr.andThen hgr fun j hj=> .inl (by have:=(iW.out.own.lt j hj).1;omega)
  .intro e sZ w2 sQ hmem Wb HN hs2 amQ;obtain⟨x,hx⟩:∃x,e.key= .int .i64 x:=by
    have:e.key∈gU ks:=by rw [<-V8.out];exact List.mem_map.2 ⟨e,by simpa using hmem,rfl⟩
    obtain⟨x,_,hx⟩:=List.mem_map.1 this;exact⟨x,hx.symm⟩
   have Wc:=iW.out.pm;have hlen:ss.length+1<=100000:=by
    have h1:=Wc.length_eq;have h2:=sQ.length_eq;simp at h1 h2;omega
   have amR:=Lib.hid hx;rw [hx]at amQ ⊢;have hlt:∀k,v.ownBlock=some k->w.heap.size+3<=k/\k<wr.heap.size:=iW.out.own.lt;have iO:v.ownBlock=none\/v.ownBlock≠some (w.heap.size+2):=by
    cases amS:v.ownBlock with
    |none=>exact .inl rfl
    |some k=>right;intro e;cases e;have:=(hlt _ amS).1;omega
   have amT:=iW.out.own.kept HN iO;have D4:eP w2 (w.heap.size+1) 93 #[v]:=(HN.block _ (by have:=iW.out.sz;omega) τ).trans iW.out.b4;have amU:=Lib.hid (show w2.heap[w.heap.size+1]? =_ from D4);have qR:=D4.cell 0;have auP:=D4.frozen 0;have Wd:=Lib.hid Wb;have NW:=Lib.hid HN;have We:=Lib.hid sQ;have NX:=Lib.hid hs2;clear sQ Wc hmem Wb HN hs2 hx iO
   gi_wp2_with (first
    |(gi_at_builtin;refine wpListIn_append_own _ rfl _ _ 93 rfl (w.heap.size+3) 3 i0 (.int .i64 0) 1 8 Tryz.underlying93 tU NU NV V9 rfl δ _ _ _ rfl (amT.alloc _) ⟨w2.heap.size,0,none⟩ 1 1 [.int .i64 x] rfl rfl (cell_one_new _ _ _) ?hone ?c3 ?c4 ?c5 ?_)
    |gi_in)
   case hone=>intro u hu;simp at hu;subst hu;rfl
   case c3=>unfold maxLen;omega
   case c4=>omega
   case c5=>have:=iW.out.sz;have:=NX.out;simp;omega
   intro v5 zu NY NZ amV;obtain⟨HO,c5,rfl⟩:=amH NY;have hs2:=NX.out;have auQ:=iW.out.sz;have hlo:∀k,k<w.heap.size+3->some k≠v.ownBlock:=fun k hk e=>by have:=(hlt _ e.symm).1;omega
   have up:∀k,k<w.heap.size+3->zu.heap[k]? =w2.heap[k]? :=fun k hk=>(NZ.block k (by simp;omega) (hlo k hk)).trans (heap_alloc_old _ _ ω)
   have HP:eP zu (w.heap.size+1) 93 #[v]:=(up _ ω).trans D4;have wB:=HP.cell 0;have auR:=HP.frozen 0;have N0:=Lib.hid up;have amW:=Lib.hid HP;have amX:=Lib.hid NY;have N1:=Lib.hid NZ;clear up HP NY NZ amV hlo hs2;have gF:∀k,k≠w.heap.size+1->(zu.setCell ⟨w.heap.size+1,0,none⟩ (.slice HO (ss.length+1) c5)).heap[k]? =zu.heap[k]? :=fun k hk=>Below.heap_setCell _ _ _ k hk
   have amY:=Lib.hid gF;have Wf:=Lib.hid (show oF (zu.setCell ⟨w.heap.size+1,0,none⟩ (.slice HO (ss.length+1) c5)) b (w.heap.size+2) es clock sZ from Wd.out.kept
    (by rw [gF _ (fun e=>by have:=Wd.out.m;rw [e,amU.out]at this;cases this),N0.out _ ω])
    (by rw [gF _ ω,N0.out _ ω]))
   clear gF
   gi_wp2
   go_roundw
   case rel=>
    have gF:=amY.out;have e1:gU ss++[Value.int .i64 x]=gU (ss++[x]):=by simp [gU]
    have h5:=amX.out;have amZ:∀k,(Value.slice HO (ss.length+1) c5).ownBlock=some k->w.heap.size+3<=k/\k<zu.heap.size:=h5.lt;refine⟨.slice HO (ss.length+1) c5,ss++[x],sZ,Wf.out, ?_, ?_, ?_, ?_, ?_, ?_⟩
    .have hp2:=We.out.map (·.key);rw [List.map_cons,amR.out]at hp2;have:=(List.Perm.append_left (gU ss) hp2).symm.trans iW.out.pm;rw [<-e1,qh];exact this
    .rw [gF _ ω,N0.out _ ω,NW.out.block _ ω τ];exact iW.out.b3
    .exact amW.out.set 0 _
    .have e2:(ss++[x]).length=ss.length+1:=by simp
     rw [e2,<-e1];exact amG h5 fun k hk=>gF k (by have:=(amZ k hk.symm).1;omega)
    .have s1:=N1.out.size;have s2:=NW.out.size;refine(((iW.out.gr.andThen NW.out fun j hj=>by cases hj;exact .inl ω).andThen (World.grownBy_alloc _ _ none) fun j hj=>by cases hj).andThen N1.out fun j hj=> .inl (by have:=(hlt j hj).1;omega)).andThen (grownBy_setCell' zu (w.heap.size+1) _) fun j hj=>by cases hj;exact .inl ω
    .have s1:=N1.out.size;have s2:=NX.out;simp at s1;simp [World.setCell];omega
   case measure=>
    rw [Wf.out.left,Wa.left];have:=We.out.length_eq;simp at this;omega
section
variable {P:Program} {B:Nat} {ρ eU:Env} {H H0:ai} {w w0 W:World}
def am0 (hH:aZ P B ρ H w) (hg:w.grownBy W none):aZ P B ρ H W/\bQ ρ H w ρ H W:=by
 have old:∀b o,w.heap[b]? =some o->W.heap[b]? =some o:=fun b o h=>(hg.block b (dJ.1 h).1 τ).trans h
 refine⟨⟨fun i k hi=> ?_,hH.inj,hH.lt,dh hH.base hg.size,fun b A hb=> ?_⟩,⟨cB.refl _,fun _ _=>rfl,aI _,hg.size,hg.os,hg.tape,hg.output,fun b hb _=>hg.block b hb τ,fun _ _ h=>h,fun _ _ h=>h,fun _ _ h=> .inl h⟩⟩
 .obtain⟨b,c,o,e1,e2,e3,bV⟩:=hH.blk i k hi;exact⟨b,c,o,e1,old b o e2,e3,bV⟩
 .obtain⟨⟨e,fr,h1⟩,h2⟩:=hH.fz b A hb;exact⟨⟨e,fr,old b _ h1⟩,h2⟩
def N2 (hH:aZ P B ρ H W) (hs:bQ eU H0 w0 ρ H W) (hB:B<=w0.heap.size) {b c:Nat} {k:bl} {o:Obj} (hb0:w0.heap.size<=b) (hni:¬oZ ρ H b) (hfz:∀A,ρ.fz b=some A->False) (hn:ρ H.next=none) (hn0:H0.next<=H.next) (hb:W.heap[b]? =some o) (hk:gM P (ρ.put H.next b c) H.next k o):
  aZ P B (ρ.put H.next b c) (H.new k) W/\bQ eU H0 w0 (ρ.put H.next b c) (H.new k) W:=by
 have hle:cB ρ (ρ.put H.next b c):=Env.o5 hn;have hput:∀i,i≠H.next->ρ.put H.next b c i=ρ i:=fun i hi=>by simp [Env.put,hi]
 have hne:∀i k,H.get i=some k->i≠H.next:=fun i k hi=>Nat.ne_of_lt (hH.lt i k hi)
 refine⟨⟨fun i k' hi=> ?_,fun i j eL eY b' ci ck hi hj jw fI=> ?_,fun i k' hi=> ?_,hH.base,fun b' A hb'=>⟨(hH.fz b' A hb').1,fun i k' c' hi hr=> ?_⟩⟩,
  ⟨hs.le.trans hle,fun i hi=> ?_,Nat.le_succ_of_le hs.next,hs.size,hs.os,hs.tape,hs.output,hs.frame,fun b' hl ho=> ?_,fun b' hl ho=> ?_,hs.nv⟩⟩
 .rw [ai.gD]at hi;split at hi
  .rename_i e;subst e;cases hi;exact⟨b,c,o,Env.dA ..,hb,hk,fun _=>dh hB hb0⟩
  .obtain⟨b',c',o',e1,e2,e3,bV⟩:=hH.blk i k' hi;exact⟨b',c',o',hle _ _ e1,e2,e3.mono hle,bV⟩
 .rw [ai.gD]at hi hj;split at hi<;>split at hj
  .rename_i e1 e2;rw [<-e1,<-e2]
  .rename_i e1 e2;subst e1;rw [Env.dA]at jw;rw [hput j (fun x=>e2 x.symm)]at fI;cases jw;exact(hni ⟨j,eY,ck,hj,fI⟩).elim
  .rename_i e1 e2;subst e2;rw [Env.dA]at fI;rw [hput i (fun x=>e1 x.symm)]at jw;cases fI;exact(hni ⟨i,eL,ci,hi,jw⟩).elim
  .rename_i e1 e2;rw [hput i (fun x=>e1 x.symm)]at jw;rw [hput j (fun x=>e2 x.symm)]at fI;exact hH.inj i j eL eY b' ci ck hi hj jw fI
 .rw [ai.gD]at hi;rw [ai.Jo];split at hi
  .rename_i e;omega
  .have:=hH.lt i k' hi;omega
 .rw [ai.gD]at hi;split at hi
  .rename_i e;subst e;rw [Env.dA]at hr;cases hr;exact(hfz A hb').elim
  .rename_i e;rw [hput i (fun x=>e x.symm)]at hr;exact(hH.fz b' A hb').2 i k' c' hi hr
 .rw [ai.Jo]at hi;rw [hput i ω];exact hs.ext i ω
 .obtain⟨i,k',c',h1,h2,h3⟩:=ho;rw [ai.gD]at h1;split at h1
  .rename_i e;subst e;rw [Env.dA]at h3;cases h3;omega
  .rename_i e;rw [hput i (fun x=>e x.symm)]at h3;exact hs.own b' hl ⟨i,k',c',h1,h2,h3⟩
 .obtain⟨i,k',c',h1,h3⟩:=ho;rw [ai.gD]at h1;split at h1
  .rename_i e;subst e;rw [Env.dA]at h3;cases h3;omega
  .rename_i e;rw [hput i (fun x=>e x.symm)]at h3;exact hs.mo b' hl ⟨i,k',c',h1,h3⟩
end
noncomputable section
def N3 (e:MapEntry):Option Int:=match e.key with | .int .i64 n=>some n|_=>none
def BH:List MapEntry->Option (List Int)
 |[]=>some []
 |e::l=>match N3 e,BH l with |some n,some r=>some (n::r)|_,_=>none
def BI:List Nat->Bool
 |[]=>true
 |a::l=>cond (kT a l) false (BI l)
def rm (clock:Nat):List MapEntry->Bool
 |[]=>true
 |e::l=>cond (Nat.ble (e.born+1) clock) (rm clock l) false
def zv (x:Int):List Int->List Int
 |[]=>[x]
 |y::l=>cond (decide (x<=y)) (x::y::l) (y::zv x l)
def nP:List Int->List Int
 |[]=>[]
 |x::l=>zv x (nP l)
def HQ (args:List aa) (i:Nat):au aa:=[5,10,11,12,13,14,15,16,17,18,19,20,21].foldl (fun T t=>T.set t (some .bot)) (((dq args .nil 0).set 3 (some (.ptr i 0))).set 4 (some (.ptr (Nat.succ (Nat.succ i)) 0)))
def Wg (yi:Nat) (ks:List Int) (H:ai):ai:=
 ((H.new (.cells 148 [.yield yi] true false false)).new (.cells 3 (ks.map fun n=> .raw (.int .i64 n)) false false false)).new (.cells 93 [.slice (Nat.succ H.next) 0 ks.length .any] true false false)
def N4 (P:Program) (fn:Func) (r:R):aL:= @R.rec (fun _=>aL) .no (fun T H m=>kj P fn T H m) (fun _ _ _ _=> .no) (fun _ _ _ _=> .no) (fun T H m=>kj P fn T H m) r
section
variable (ih:ei) (args:List aa)
def Wh (yi:Nat) (ks:List Int) (H:ai):aL:=
 N4 prog f157 (ih (cat V7 [1,1,1,1]) 48 none (HQ args H.next) (Wg yi ks H) [])
def Wi (yi:Nat) (H:ai) (b:Option bl):aL:=match b with
 |some (.map es clock)=>match BH es.toList with
  |some ks=>cond (Nat.ble 1 ks.length&&(Nat.ble ks.length 100000&&(rm clock es.toList&&BI (es.toList.map (·.born))))) (Wh ih args yi (nP ks) H) .no
  |none=> .no
 |_=> .no
def D5 (H:ai):aL:=match args with
 |[.yield yi, .ptr oG 0, .ptr jp 0]=>match H.get oG with
  |some (.cells _ [.map lm] _ _ _)=>Wi ih [.yield yi, .ptr oG 0, .ptr jp 0] yi H (H.get lm)
  |_=> .no
 |_=> .no
end
def zw (ih:ei):eC:=fun f args H=> @Bool.rec (fun _=>aL) (mi prog ih f args H) (D5 ih args H) (Nat.beq f 157)
def Wj:∀{l:List MapEntry} {ks:List Int},BH l=some ks->l.map (·.key)=gU ks
 |[],ks,h=>by cases h;rfl
 |e::l,ks,h=>by
  unfold BH at h;cases h1:N3 e with
  |none=>rw [h1]at h;cases h
  |some n=>
   cases h2:BH l with
   |none=>rw [h1,h2]at h;cases h
   |some r=>
    rw [h1,h2]at h;cases h;have he:e.key= .int .i64 n:=by
     unfold N3 at h1;split at h1
     .rename_i x hx;cases h1;exact hx
     .cases h1
    show e.key::l.map (·.key)=_;rw [he,Wj h2];rfl
def Wk {a:Nat}:∀{l:List Nat},kT a l=false->a∉l
 |[],_=>by simp
 |b::l,h=>by
  have h:(@Bool.rec (fun _=>Bool) (kT a l) true (Nat.beq b a))=false:=h;cases hb:Nat.beq b a with
  |true=>rw [hb]at h;cases h
  |false=>
   rw [hb]at h;rw [en];rintro(rfl |hm)
   .rw [Nat.beq_refl]at hb;cases hb
   .exact Wk h hm
def Wl:∀{l:List Nat},BI l=true->l.Nodup
 |[],_=>List.nodup_nil
 |a::l,h=>by
  unfold BI at h;cases hm:kT a l with
  |true=>rw [hm]at h;cases h
  |false=>rw [hm]at h;exact List.nodup_cons.2 ⟨Wk hm,Wl h⟩
def xn {clock:Nat}:∀{l:List MapEntry},rm clock l=true->∀x∈l,x.born<clock
 |[],_,x,hx=>by cases hx
 |e::l,h,x,hx=>by
  unfold rm at h;cases hb:Nat.ble (e.born+1) clock with
  |false=>rw [hb]at h;cases h
  |true=>
   rw [hb]at h;rcases en.1 hx with rfl |hx
   .exact bT hb
   .exact xn h x hx
def rn (x:Int):∀l:List Int,(zv x l).Perm (x::l)
 |[]=>List.Perm.refl _
 |y::l=>by
  unfold zv;cases hd:decide (x<=y)with
  |true=>exact List.Perm.refl _
  |false=>exact((rn x l).cons y).trans (List.Perm.swap _ _ _)
def N5:∀l:List Int,(nP l).Perm l
 |[]=>List.Perm.refl _
 |x::l=>(rn x (nP l)).trans ((N5 l).cons x)
def Wm (x:Int):∀{l:List Int},l.Pairwise (fun a b=>decide (a<=b)=true)->(zv x l).Pairwise (fun a b=>decide (a<=b)=true)
 |[],_=>by unfold zv;simp
 |y::l,h=>by
  unfold zv;rw [List.pairwise_cons]at h;cases hd:decide (x<=y)with
  |true=>
   refine List.pairwise_cons.2 ⟨fun z hz=> ?_,List.pairwise_cons.2 h⟩;rcases en.1 hz with rfl |hz
   .exact hd
   .have:=h.1 z hz;rw [bE]at*;omega
  |false=>
   refine List.pairwise_cons.2 ⟨fun z hz=> ?_,Wm x h.2⟩;rcases en.1 ((rn x l).mem_iff.1 hz)with rfl |hz
   .rw [decide_eq_false_iff_not]at hd;rw [bE];omega
   .exact h.1 z hz
def pw:∀l:List Int,(nP l).Pairwise (fun a b=>decide (a<=b)=true)
 |[]=>List.Pairwise.nil
 |x::l=>Wm x (pw l)
def am1 (l:List Int):(l.mergeSort fun x y=>decide (x<=y))=nP l:=by
 have HM:∀x y z:Int,decide (x<=y)=true->decide (y<=z)=true->decide (x<=z)=true:=fun x y z h1 h2=>by rw [bE]at*;omega
 have tt:∀x y:Int,(decide (x<=y)||decide (y<=x))=true:=fun x y=>by rw [Bool.or_eq_true,bE,bE];omega
 refine List.Perm.eq_of_pairwise (le:=fun x y=>decide (x<=y)=true) (fun x y _ _ h1 h2=>by rw [bE]at*;omega) (List.pairwise_mergeSort HM tt l) (pw l) ?_;exact(List.mergeSort_perm l _).trans (N5 l).symm
def px {P:Program} {fn:Func} {r:R} {v:aa} {H':ai} (h:N4 P fn r= .ok v H'):∃e T1 H1 m1,r.out=some (e,T1,H1,m1)/\(e= .normal\/e= .ret)/\kj P fn T1 H1 m1= .ok v H':=by
 unfold N4 at h;cases r with
 |no=>cases h
 |normal T H m=>exact⟨_,_,_,_,rfl, .inl rfl,h⟩
 |exit _ _ _ _=>cases h
 |goto _ _ _ _=>cases h
 |ret T H m=>exact⟨_,_,_,_,rfl, .inr rfl,h⟩
def Wn {ih:ei} {args:List aa} {H:ai} {v:aa} {H':ai} (h:D5 ih args H= .ok v H'):∃yi oG jp lm es clock ks el ex fz ro,args=[.yield yi, .ptr oG 0, .ptr jp 0]/\H.get oG=some (.cells el [.map lm] ex fz ro)/\H.get lm=some (.map es clock)/\BH es.toList=some ks/\
  1<=ks.length/\ks.length<=100000/\rm clock es.toList=true/\BI (es.toList.map (·.born))=true/\Wh ih args yi (nP ks) H= .ok v H':=by
 unfold D5 at h;split at h
 .rename_i yi oG jp;split at h
  .rename_i el lm ex fz ro hg;unfold Wi at h;split at h
   .rename_i es clock hm;split at h
    .rename_i ks hk;cases hb:(Nat.ble 1 ks.length&&(Nat.ble ks.length 100000&&(rm clock es.toList&&BI (es.toList.map (·.born)))))with
     |false=>rw [hb]at h;cases h
     |true=>
      rw [hb]at h;simp only [ae]at hb;exact⟨yi,oG,jp,lm,es,clock,ks,el,ex,fz,ro,rfl,hg,hm,hk,bT hb.1,bT hb.2.1,hb.2.2.1,hb.2.2.2,h⟩
    .cases h
   .cases h
  .cases h
 .cases h
end
section
variable [Sv.Ground]
def Wo {ih:ei} (hI:jS prog ih) {args:List aa} {H:ai} {v:aa} {H':ai} (h:D5 ih args H= .ok v H'):H.next+3<=H'.next:=by
 obtain⟨yi,oG,jp,lm,es,clock,ks,el,ex,fz,ro,rfl,h1,h2,h3,h4,h5,h6,h7,h8⟩:=Wn h;obtain⟨e,T1,H1,m1,ho,he,hl⟩:=px h8;have a1:=hI.mono _ _ _ _ _ _ _ _ _ _ ho;have a2:=Ao hl;have a3:(Wg yi (nP ks) H).next=H.next+3:=rfl;omega
def am2 {ρ:Env} {yi oG jp i:Nat} {a':Act} (hs:a'.tmps.size=48) (h0:Den ρ (.yield yi) (a'.tmps.getD 0 undef)) (h1:Den ρ (.ptr oG 0) (a'.tmps.getD 1 undef)) (h2:Den ρ (.ptr jp 0) (a'.tmps.getD 2 undef)) (h3:Den ρ (.ptr i 0) (a'.tmps.getD 3 undef)) (h4:Den ρ (.ptr (i+2) 0) (a'.tmps.getD 4 undef))
  (hu:∀t,t<48->t∉[0,1,2,3,4,5,10,11,12,13,14,15,16,17,18,19,20,21]->a'.tmps.getD t undef=undef):jY ρ (HQ [.yield yi, .ptr oG 0, .ptr jp 0] i) 48 a'.tmps:=by
 refine⟨hs,fun t=> ?_⟩;unfold HQ;simp only [List.foldl_cons,List.foldl_nil,au.gj,qk,au.get_nil,List.length_cons,List.length_nil,Nat.zero_le,true_and,aw,Nat.reduceAdd,Nat.sub_zero];by_cases hb:t∈[5,10,11,12,13,14,15,16,17,18,19,20,21]
 .simp only [en,ki,or_false]at hb;rcases hb with rfl |rfl |rfl |rfl |rfl |rfl |rfl |rfl |rfl |rfl |rfl |rfl |rfl<;>exact .bot _
 .simp only [en,ki,or_false,not_or]at hb;obtain⟨b1,b2,b3,b4,gy,Hs,zg,am3,am4,am5,am6,am7,am8⟩:=hb;rw [if_neg (Ne.symm am8),if_neg (Ne.symm am7),if_neg (Ne.symm am6),if_neg (Ne.symm am5),if_neg (Ne.symm am4),if_neg (Ne.symm am3),if_neg (Ne.symm zg),if_neg (Ne.symm Hs),if_neg (Ne.symm gy),if_neg (Ne.symm b4),if_neg (Ne.symm b3),if_neg (Ne.symm b2),if_neg (Ne.symm b1)];by_cases bV:t=4
  .subst bV;exact h4
  .rw [if_neg (Ne.symm bV)];by_cases e3:t=3
   .subst e3;exact h3
   .rw [if_neg (Ne.symm e3)];by_cases hlt:t<3
    .rw [if_pos hlt];rcases t with _|_|_|t
     .exact h0
     .exact h1
     .exact h2
     .omega
    .rw [if_neg hlt];by_cases h48:t<48
     .rw [hu t h48 (by simp;omega)];exact .raw _
     .rw [Array.getD_eq_getD_getElem?,Array.getElem?_eq_none ω];exact .raw _
def N6 {ρ:Env} {H:ai} {b b' c:Nat} {k:bl} (h:¬oZ ρ H b') (hne:b'≠b):¬oZ (ρ.put H.next b c) (H.new k) b':=fun⟨i,k',c',e1,e2⟩=>by
 rw [ai.gD]at e1;split at e1
 .rename_i hi;rw [<-hi,Env.dA]at e2;cases e2;exact hne rfl
 .rename_i hi;have:ρ.put H.next b c i=ρ i:=by simp [Env.put,Ne.symm hi]
  rw [this]at e2;exact h ⟨i,k',c',e1,e2⟩
def pC {ρ:Env} {i j b c:Nat} (h:j≠i):ρ.put i b c j=ρ j:=by simp [Env.put,h]
def am9 {cap:Nat}:cap*1=cap*prog.cellsOf 3:=by rw [show prog.cellsOf 3=1 by kernel_rfl]
def ana {ρ:Env} (l:List Int):aG ρ (l.map fun n=>aa.raw (.int .i64 n)) (gU l):=by
 unfold gU;induction l with
 |nil=>exact .nil
 |cons x l ih=>exact .cons (.raw _) ih
def anb {ih:ei} (hI:jS prog ih) {args:List aa} {H:ai} {v:aa} {H':ai} (h:D5 ih args H= .ok v H') (B:Nat) (ρ:Env) (xs:List Value) (w:World) (m:Nat) (hH:aZ prog B ρ H w) (cv:n8 ρ) (hd:aG ρ args xs) (hf:Fr ρ H.next H'.next):
  CallsIn (dW none) m prog 157 xs.toArray w (mF prog B ρ H w v H'):=by
 have hmono:=Wo hI h;obtain⟨yi,oG,jp,lm,es,clock,ks,el,ex,fz,ro,rfl,h1,h2,h3,h4,h5,h6,h7,h8⟩:=Wn h;obtain⟨e,T1,H1,m1,ho,he,hl⟩:=px h8;have hnx:=Ao hl
 match xs,hd with
 |[x0,x1,x2], .cons d0 (.cons d1 (.cons d2 .nil))=>
  obtain⟨zq,c0,er,rfl⟩:=d0.Jm;obtain⟨u0,c1,r1,rfl⟩:=d1.kN;obtain⟨jT,c2,r2,rfl⟩:=d2.kN;obtain⟨ys,auS,g1,_,g3,_,_,g6⟩:=mA hH h1 r1;obtain⟨y,hy1,hy2⟩:=g3.get (i:=0) rfl;obtain⟨b,cb,rb,rfl⟩:=hy2.vK;have hcell:w.cell? ⟨u0,0,none⟩=some (.map (some b)):=by
   have e1:(ys.toList.take 1)[0]? =some (Value.map (some b)):=hy1;rw [List.getElem?_take,if_pos δ,Array.getElem?_toList]at e1;rw [cell_of_row _ _ 0 ys _ _ g1];exact e1
  obtain⟨o,q1,aQ,_⟩:=hH.at h2 rb;have aQ:o= .map es clock:=aQ;subst aQ;refine amJ m zq u0 jT b es clock ks w _ hcell q1 (xn h6) (Wl h7) (Wj h3) h5 fun a' W rC=> ?_
  obtain⟨auT,k1,k2⟩:=rC.b4;rw [am1]at k2;have hlen:(nP ks).length=ks.length:=(N5 ks).length_eq;rcases k2.2 with⟨_,dN⟩|⟨g,cap,cur,rfl,dN,mC,o7,x7,FU,anc⟩
  .omega
  .have ane:cur.toList.take (nP ks).length=gU (nP ks):=by rw [hlen];simpa using anc
   have hn0:∀i,H.next<=i->i<H.next+3->ρ i=none:=fun i a1 a2=>hf i a1 ω
   have hBw:=hH.base;have N7:∀b' A,w.heap.size<=b'->ρ.fz b'=some A->False:=fun b' A hb' hz=>by
    obtain⟨⟨e',fr,e2⟩,_⟩:=hH.fz b' A hz;have:=(dJ.1 e2).1;omega
   have N8:∀b',w.heap.size<=b'->¬oZ ρ H b':=fun b' hb' ⟨i,k,c,e1,e2⟩=>by
    obtain⟨o,e3,_⟩:=hH.at e1 e2;have:=(dJ.1 e3).1;omega
   obtain⟨p1,p2⟩:=am0 hH rC.gr
   -- the box of yield
   obtain⟨s1,t1⟩:=N2 (b:=w.heap.size) (c:=0) (k:= .cells 148 [.yield yi] true false false) p1 p2 hBw (aI _) (N8 _ (aI _)) (fun A=>N7 _ A (aI _)) (hn0 _ (aI _) ω) (aI _) rC.b3
    ⟨_,_,rfl,fun _=>rfl, .cons ((Den.yield er).mono (Env.o5 (hn0 _ (aI _) ω))) .nil,fun _=>rfl,fun hh=>by cases hh⟩
   have n1:=N6 (b':=g) (b:=w.heap.size) (c:=0) (k:= .cells 148 [.yield yi] true false false) (N8 g ω) ω;have anf:=N6 (b':=w.heap.size+1) (b:=w.heap.size) (c:=0) (k:= .cells 148 [.yield yi] true false false) (N8 _ ω) ω
   -- the row
   have f1:(ρ.put H.next w.heap.size 0) (H.next+1)=none:=by rw [pC ω];exact hn0 _ ω ω
   obtain⟨s2,t2⟩:=N2 (b:=g) (c:=cap) (k:= .cells 3 ((nP ks).map fun n=> .raw (.int .i64 n)) false false false) s1 t1 hBw ω n1 (fun A=>N7 _ A ω) f1 (Nat.le_succ _) mC
    ⟨cur,_,rfl,fun _=>rfl,by rw [kL,ane];exact ana _,(fun hh=>by cases hh),fun _=>⟨g,cap,Env.dA ..,by rw [FU];exact am9⟩⟩
   have n2:=N6 (b':=w.heap.size+1) (b:=g) (c:=cap) (k:= .cells 3 ((nP ks).map fun n=> .raw (.int .i64 n)) false false false) anf ω
   -- the cell of kinds
   have f2:((ρ.put H.next w.heap.size 0).put (H.next+1) g cap) (H.next+2)=none:=by rw [pC ω,pC ω];exact hn0 _ ω ω
   have rg:((ρ.put H.next w.heap.size 0).put (H.next+1) g cap) (H.next+1)=some (g,cap):=Env.dA ..;obtain⟨s3,t3⟩:=N2 (b:=w.heap.size+1) (c:=0) (k:= .cells 93 [.slice (Nat.succ H.next) 0 (nP ks).length .any] true false false) s2 t2 hBw ω n2 (fun A=>N7 _ A ω) f2 (by show H.next<=H.next+2;omega) k1
    ⟨_,_,rfl,fun _=>rfl, .cons (by rw [hlen];exact(Den.slice (cap:= .any) rg trivial o7).mono (Env.o5 f2)) .nil,fun _=>rfl,fun hh=>by cases hh⟩
   have hfr:=(t3.fr (H':=H1) (by rw [hnx];exact hf));have hT:jY (((ρ.put H.next w.heap.size 0).put (H.next+1) g cap).put (H.next+2) (w.heap.size+1) 0) (HQ [.yield yi, .ptr oG 0, .ptr jp 0] H.next) 48 a'.tmps:=by
    refine am2 rC.size ?_ ?_ ?_ ?_ ?_ rC.un
    .rw [rC.t0];exact(Den.yield er).mono t3.le
    .rw [rC.t1];exact(Den.ptr r1).mono t3.le
    .rw [rC.t2];exact(Den.ptr r2).mono t3.le
    .rw [rC.t3];exact .ptr (c:=0) (by rw [pC ω,pC ω];exact Env.dA ..)
    .rw [rC.t4];exact .ptr (c:=0) (Env.dA ..)
   refine hI.cx _ _ _ _ _ _ _ _ _ _ ho B _ a' W none m _ trivial ⟨hT,s3,cv.mono t3.le⟩ rC.df hfr fun ρ' a2 w2 dD z2 z3=> ?_
   have:LeavesInM (dW none) m prog f157 a2.tmps (mF prog B ρ H w v H') a2.defers .returning w2:=yc m1 dD z3 hl fun y w3 u1 u2 u3=>⟨y,ρ',rfl,u1,u2,(t3.trans z2).trans u3⟩
   rcases he with rfl |rfl<;>exact this
def HR {ih:ei} (hI:jS prog ih):bC prog (zw ih) where
 mono f args H v H' h:=by
  unfold zw at h;cases hb:Nat.beq f 157 with
  |false=>rw [hb]at h;exact(HJ hI).mono _ _ _ _ _ h
  |true=>rw [hb]at h;have:=Wo hI h;omega
 cx f args H v H' h B ρ xs w m hH cv hd hf:=by
  unfold zw at h;cases hb:Nat.beq f 157 with
  |false=>rw [hb]at h;exact(HJ hI).cx _ _ _ _ _ h B ρ xs w m hH cv hd hf
  |true=>
   rw [hb]at h;obtain rfl:=ac hb;exact anb hI h B ρ xs w m hH cv hd hf
end
end Go.Proofs.YtibikmmdbdlafaaGreatDoor
