import Derived.Test.YtibikmmdbdlafaaGreatDoorZmRs
import Derived.RangeFuncNested
import Derived.Maps.OwnIn
import Derived.WalkSmall
set_option linter.defProp false
set_option linter.unusedVariables false
set_option linter.unusedSimpArgs false
set_option linter.unusedSectionVars false
set_option maxRecDepth 100000
namespace Go.Proofs.YtibikmmdbdlafaaGreatDoor
open Go.RowKit Sv Go.Proofs.Tryz
noncomputable section
noncomputable def wN:Code:=(f99.body).getD .skip
def ld (n m:Int) (s:ByteArray):bC:={n:=25,sl:=[(0,iv n),(1,iv m),(5,sv s)],bF:=[],next:=64}
abbrev Uw:ByteArray:=⟨#[]⟩
abbrev sF:ByteArray:=⟨#[48,49,50,51,52,53,54,55,56,57]⟩
def akk (n m:Int):
  cO (aR []) (fl wN []) 2 25 [iv n,iv m] 1 .normal [] (ld n m Uw):=
 wy [] 0
def akl (n m:Int) (s:ByteArray) (h1:n>0) (h2:i6 (Int.tmod n 10+1)) (h3:0<=Int.tmod n 10+1) (h4:0<=Int.tmod n 10) (h5:(Int.tmod n 10+1).toNat<=(ByteArray.mk #[48,49,50,51,52,53,54,55,56,57]).size) (h6:((ByteArray.mk #[48,49,50,51,52,53,54,55,56,57]).extract (Int.tmod n 10).toNat (Int.tmod n 10+1).toNat).size+s.size<=9223372036854775807) (h7:i6 (Int.tdiv n 10)):
  bg (aR []) (fl wN [1,1,0,0,0]) (ld n m s) 112 .normal [] (ld (Int.tdiv n 10) m (sF.extract (Int.tmod n 10).toNat (Int.tmod n 10+1).toNat++s)):=
 wy [af (aS (ax h1)),ah h1,yi h2,ah h3,ah h4,ah (by omega:(Int.tmod n (10:Int)).toNat<=(Int.tmod n (10:Int)+(1:Int)).toNat),ah h5,ah h6,yi h7] 11143911710332399131023380545
def akm (n m:Int) (s:ByteArray) (h1:¬n>0) (h2:(s.size:Int)<m) (h3:i6 (Int.tmod n 10+1)) (h4:0<=Int.tmod n 10+1) (h5:0<=Int.tmod n 10) (h6:(Int.tmod n 10+1).toNat<=(ByteArray.mk #[48,49,50,51,52,53,54,55,56,57]).size) (h7:((ByteArray.mk #[48,49,50,51,52,53,54,55,56,57]).extract (Int.tmod n 10).toNat (Int.tmod n 10+1).toNat).size+s.size<=9223372036854775807) (h8:i6 (Int.tdiv n 10)):
  bg (aR []) (fl wN [1,1,0,0,0]) (ld n m s) 111 .normal [] (ld (Int.tdiv n 10) m (sF.extract (Int.tmod n 10).toNat (Int.tmod n 10+1).toNat++s)):=
 wy [af (aS (ab h1)),aA h1,ah h2,yi h3,ah h4,ah h5,ah (by omega:(Int.tmod n (10:Int)).toNat<=(Int.tmod n (10:Int)+(1:Int)).toNat),ah h6,ah h7,yi h8] 12382158778397359609013866561
def akn (n m:Int) (s:ByteArray) (h1:¬n>0) (h2:¬(s.size:Int)<m):
  bg (aR []) (fl wN [1,1,0,0,0]) (ld n m s) 79 (.exit 0) [] (ld n m s):=
 wy [af (aS (ab h1)),aA h1,aA h2] 3255046209
def ako (n m:Int) (s:ByteArray):
  bH (aR []) ((fl wN []).drop 3) (ld n m s) 1 f99 true (sv s):=
 wy [] 0
def oB (n:Int):UInt8:=UInt8.ofNat (48+(n%10).toNat)
def cx:Nat->Int->Int->List UInt8->List UInt8
 |0,_,_,s=>s
 |f+1,n,m,s=>if n>0\/(s.length:Int)<m then cx f (n/10) m (oB n::s)else s
def dp (a b:ByteArray):(a++b).data.toList=a.data.toList++b.data.toList:=by
 rw [ByteArray.data_append,Array.toList_append]
def akp {n:Int} (h:0<=n) (s:ByteArray):(sF.extract (Int.tmod n 10).toNat (Int.tmod n 10+1).toNat++s).data.toList=oB n::s.data.toList:=by
 rw [dp,Int.tmod_eq_emod_of_nonneg h];have h1:=e6 n (show(0:Int)<10 by decide);have h2:=eG n (show(10:Int)≠0 by decide);unfold oB;generalize n%10=r at*;have:r=0\/r=1\/r=2\/r=3\/r=4\/r=5\/r=6\/r=7\/r=8\/r=9:=by omega
 rcases this with rfl |rfl |rfl |rfl |rfl |rfl |rfl |rfl |rfl |rfl<;>rfl
def akq {n:Int} (h:0<=n):(sF.extract (Int.tmod n 10).toNat (Int.tmod n 10+1).toNat).size<=1:=by
 rw [Int.tmod_eq_emod_of_nonneg h];have h1:=e6 n (show(0:Int)<10 by decide);have h2:=eG n (show(10:Int)≠0 by decide);generalize n%10=r at*;have:r=0\/r=1\/r=2\/r=3\/r=4\/r=5\/r=6\/r=7\/r=8\/r=9:=by omega
 rcases this with rfl |rfl |rfl |rfl |rfl |rfl |rfl |rfl |rfl |rfl<;>decide
def uE (s:ByteArray):s.size=s.data.toList.length:=by cases s;rfl
def iW {a b:ByteArray} (h:a.data.toList=b.data.toList):a=b:=by
 cases a;cases b;simp at h;rw [h]
structure MF (r:List UInt8) (m:Int) (f:Nat) (n:Int) (s:ByteArray):Prop where
 n0:0<=n
 nb:n<=9223372036854775807
 n1:n<10^f
 ms:m<=s.size+f
 sz:s.size+f<=40
 eq:cx f n m s.data.toList=r
def akr (n m:Int) (hn:0<=n) (hn2:n<=9223372036854775807) (hm:m<=20):Holds prog true 99 [iv n,iv m] (sv ⟨(cx 20 n m []).toArray⟩):=by
 have hS:=bc;obtain⟨r,hr⟩:∃r,cx 20 n m []=r:=⟨_,rfl⟩;rw [hr];refine bL (c:=wN) func99 rfl rfl fun w F=> ?_
 refine cC hS 2 (akk n m) ?_;refine aP.loop (ι:={p:Nat×Int×ByteArray//MF r m p.1 p.2.1 p.2.2}) (id:=0) (b:=cat wN [1,1,0,0,0]) (rest:=(fl wN []).drop 3) (by kernel_rfl) (fun p=>ld p.1.2.1 m p.1.2.2) (fun p=>p.1.1) ⟨(20,n,Uw),⟨hn,hn2,by show n<10^20;omega,by show m<=0+20;omega,by show 0+20<=40;omega,hr⟩⟩ (fun _=>rfl) ?_;rintro⟨⟨f,n,s⟩,hp⟩;have hp:MF r m f n s:=hp;have hz:=uE s;have q1:=e6 n (show(0:Int)<10 by decide);have aO:=eG n (show(10:Int)≠0 by decide);have bV:Int.tmod n 10=n%10:=Int.tmod_eq_emod_of_nonneg hp.n0;have en:Int.tdiv n 10=n/10:=Int.tdiv_eq_ediv_of_nonneg hp.n0;have qq:=akq hp.n0;have hn0:=hp.n0;have hnb:=hp.nb;have asW:=hp.ms;have hsz:=hp.sz;have eD:(n>0\/(s.size:Int)<m)->∃j:{p:Nat×Int×ByteArray//MF r m p.1 p.2.1 p.2.2},j.1.1<f/\(ld (Int.tdiv n 10) m (sF.extract (Int.tmod n 10).toNat (Int.tmod n 10+1).toNat++s)).T=(ld j.1.2.1 m j.1.2.2).T/\(ld (Int.tdiv n 10) m (sF.extract (Int.tmod n 10).toNat (Int.tmod n 10+1).toNat++s)).H=(ld j.1.2.1 m j.1.2.2).H:=fun hc=>by
  cases f with
  |zero=>
   have:=hp.n1;simp at this;exfalso;omega
  |succ f=>
   have hb:=akp hp.n0 s;have Ux:(sF.extract (Int.tmod n 10).toNat (Int.tmod n 10+1).toNat++s).size=s.size+1:=by rw [uE,hb,hz];rfl
   refine⟨⟨(f,Int.tdiv n 10,_),⟨by show 0<=Int.tdiv n 10;rw [en];omega,by show Int.tdiv n 10<=_;rw [en];omega, ?_,by show m<=((_:Nat):Int)+((f:Nat):Int);rw [Ux];omega,by show _+f<=40;rw [Ux];omega, ?_⟩⟩,e8 _,rfl,rfl⟩
   .show Int.tdiv n 10<10^f;have:=hp.n1;rw [Int.pow_succ]at this;rw [en];omega
   .show cx f (Int.tdiv n 10) m (sF.extract (Int.tmod n 10).toNat (Int.tmod n 10+1).toNat++s).data.toList=r;have he:=hp.eq;unfold cx at he;rw [hb,en];rw [if_pos (by rw [hz]at hc;exact hc)]at he;exact he
 by_cases h1:n>0
 .refine bl (s:=ld n m s) hS (akl n m s h1 (by omega) (by omega) (by omega) (by show _<=(10:Nat);omega) (by show(sF.extract (Int.tmod n 10).toNat (Int.tmod n 10+1).toNat).size+s.size<=_;omega) (by omega)) (eD (.inl h1))
 .by_cases h2:(s.size:Int)<m
  .refine bl (s:=ld n m s) hS (akm n m s h1 h2 (by omega) (by omega) (by omega) (by show _<=(10:Nat);omega) (by show(sF.extract (Int.tmod n 10).toNat (Int.tmod n 10+1).toNat).size+s.size<=_;omega) (by omega)) (eD (.inr h2))
  .refine bl (s:=ld n m s) hS (akn n m s h1 h2) ?_;refine cw (cz ?_);have e:(⟨r.toArray⟩:ByteArray)=s:=iW (by
    have he:=hp.eq;cases f with
    |zero=>exact he.symm
    |succ f=>
     unfold cx at he;rw [if_neg (by rw [hz]at h2;omega)]at he;exact he.symm)
   rw [e];exact bP (s:=ld n m s) hS (ako n m s)
noncomputable def GM:bp:={f:=99,ps:=[.int .i64, .int .i64],rs:=[.str],fresh:=true,pre:=fun d=>decide (0<=d.1)&&(decide (d.1<=9223372036854775807)&&decide (d.2.1<=20)),fn:=fun d=>(⟨(cx 20 d.1 d.2.1 []).toArray⟩,())}
def MG:GM.Ok prog:=fun⟨n,m,_⟩ h=>by
 have h:(decide (0<=n)&&(decide (n<=9223372036854775807)&&decide (m<=20)))=true:=h;simp only [ae,bB]at h;exact akr n m h.1 h.2.1 h.2.2
noncomputable def MH:Code:=(Tryz.f44.body).getD .skip
def lf (s:ByteArray) (i j:Nat) (h:j<=s.size):(s.extract i j).size=j-i:=by
 rw [ByteArray.size_extract];omega
def mi:∀l:List UInt8,bk l<=l.length
 |[]=>aG _
 |b::r=>by
  unfold bk;have:=mi r;split
  .exact Nat.zero_le _
  .simp;omega
noncomputable def MI:bI:=aR [MC,GM]
def wO (p q:Int):ByteArray:=⟨(cx 20 p 1 []++(if q>1 then 47::cx 20 q 1 []else [])).toArray⟩
def aks (n d:Int) (h1:¬n< -4000000000000000000) (h2:¬n>4000000000000000000) (h3:¬d< -4000000000000000000) (h4:¬d>4000000000000000000) (h5:¬d<0) (h6:i6 (0-n)) (h7:(decide ((0:av.den (.int .i64))<=if 0-n>n then 0-n else n)&&decide ((0:av.den (.int .i64))<=d))=true) (h8:(bA n d)≠0) (h9:i6 (Int.tdiv n (bA n d))) (h10:i6 (Int.tdiv d (bA n d))) (h11:¬Int.tdiv n (bA n d)<0) (h12:i6 (0-Int.tdiv n (bA n d))) (dG:(decide ((0:av.den (.int .i64))<=if 0-Int.tdiv n (bA n d)>Int.tdiv n (bA n d)then 0-Int.tdiv n (bA n d)else Int.tdiv n (bA n d))&&(decide ((if 0-Int.tdiv n (bA n d)>Int.tdiv n (bA n d)then 0-Int.tdiv n (bA n d)else Int.tdiv n (bA n d))<=(9223372036854775807:av.den (.int .i64)))&&decide (1<=(20:av.den (.int .i64)))))=true) (gq:(ByteArray.mk #[]).size+(ByteArray.mk (List.toArray (cx 20 (if 0-Int.tdiv n (bA n d)>Int.tdiv n (bA n d)then 0-Int.tdiv n (bA n d)else Int.tdiv n (bA n d)) 1 []))).size<=9223372036854775807) (iB:Int.tdiv d (bA n d)>1) (j3:(ByteArray.mk #[]++ByteArray.mk (List.toArray (cx 20 (if 0-Int.tdiv n (bA n d)>Int.tdiv n (bA n d)then 0-Int.tdiv n (bA n d)else Int.tdiv n (bA n d)) 1 []))).size+(ByteArray.mk #[47]).size<=9223372036854775807) (uA:(decide ((0:av.den (.int .i64))<=Int.tdiv d (bA n d))&&(decide (Int.tdiv d (bA n d)<=(9223372036854775807:av.den (.int .i64)))&&decide (1<=(20:av.den (.int .i64)))))=true) (uB:(ByteArray.mk #[]++ByteArray.mk (List.toArray (cx 20 (if 0-Int.tdiv n (bA n d)>Int.tdiv n (bA n d)then 0-Int.tdiv n (bA n d)else Int.tdiv n (bA n d)) 1 []))++ByteArray.mk #[47]).size+(ByteArray.mk (List.toArray (cx 20 (Int.tdiv d (bA n d)) 1 []))).size<=9223372036854775807) (h19:(ByteArray.mk #[]++ByteArray.mk (List.toArray (cx 20 (if 0-Int.tdiv n (bA n d)>Int.tdiv n (bA n d)then 0-Int.tdiv n (bA n d)else Int.tdiv n (bA n d)) 1 []))++ByteArray.mk #[47]++ByteArray.mk (List.toArray (cx 20 (Int.tdiv d (bA n d)) 1 [])))=(wO (n/(↑(Int.gcd n d):Int)) (d/(↑(Int.gcd n d):Int)))):
  bu MI (fl MH []) 30 (f44.ntmps) [iv n,iv d] 12507 f44 true (sv (wO (n/Int.gcd n d) (d/Int.gcd n d))):=
 wy [af (aS (ab h1)),aA h1,af (aS (ab h2)),aA h2,af (aS (ab h3)),aA h3,aA h4,aA h5,yi h6,af h7,ah h8,yi h9,yi h10,aA h11,yi h12,af dG,ah gq,ah iB,ah j3,af uA,ah uB,az h19] 31874838871619119136349477082024326987223146561
def ST (n d:Int) (h1:¬n< -4000000000000000000) (h2:¬n>4000000000000000000) (h3:¬d< -4000000000000000000) (h4:¬d>4000000000000000000) (h5:¬d<0) (h6:i6 (0-n)) (h7:(decide ((0:av.den (.int .i64))<=if 0-n>n then 0-n else n)&&decide ((0:av.den (.int .i64))<=d))=true) (h8:(bA n d)≠0) (h9:i6 (Int.tdiv n (bA n d))) (h10:i6 (Int.tdiv d (bA n d))) (h11:¬Int.tdiv n (bA n d)<0) (h12:i6 (0-Int.tdiv n (bA n d))) (dG:(decide ((0:av.den (.int .i64))<=if 0-Int.tdiv n (bA n d)>Int.tdiv n (bA n d)then 0-Int.tdiv n (bA n d)else Int.tdiv n (bA n d))&&(decide ((if 0-Int.tdiv n (bA n d)>Int.tdiv n (bA n d)then 0-Int.tdiv n (bA n d)else Int.tdiv n (bA n d))<=(9223372036854775807:av.den (.int .i64)))&&decide (1<=(20:av.den (.int .i64)))))=true) (gq:(ByteArray.mk #[]).size+(ByteArray.mk (List.toArray (cx 20 (if 0-Int.tdiv n (bA n d)>Int.tdiv n (bA n d)then 0-Int.tdiv n (bA n d)else Int.tdiv n (bA n d)) 1 []))).size<=9223372036854775807) (iB:¬Int.tdiv d (bA n d)>1) (j3:(ByteArray.mk #[]++ByteArray.mk (List.toArray (cx 20 (if 0-Int.tdiv n (bA n d)>Int.tdiv n (bA n d)then 0-Int.tdiv n (bA n d)else Int.tdiv n (bA n d)) 1 [])))=(wO (n/(↑(Int.gcd n d):Int)) (d/(↑(Int.gcd n d):Int)))):
  bu MI (fl MH []) 30 (f44.ntmps) [iv n,iv d] 8411 f44 true (sv (wO (n/Int.gcd n d) (d/Int.gcd n d))):=
 wy [af (aS (ab h1)),aA h1,af (aS (ab h2)),aA h2,af (aS (ab h3)),aA h3,aA h4,aA h5,yi h6,af h7,ah h8,yi h9,yi h10,aA h11,yi h12,af dG,ah gq,aA iB,az j3] 105000044317847363205758449615782206513217
def Uy:bD prog (bG MI):=cY (aX Us (aX MG eA))
def Dg:∀(f:Nat) (n m:Int) (s:List UInt8),(cx f n m s).length<=s.length+f
 |0,_,_,s=>aG _
 |f+1,n,m,s=>by
  unfold cx;split
  .have:=Dg f (n/10) m (oB n::s);simp at this;omega
  .omega
def GN (l:List UInt8):(ByteArray.mk l.toArray).size=l.length:=rfl
def Hd (n d:Int) (hn:0<=n) (hn2:n<=4000000000000000000) (hd:0<d) (gJ:d<=4000000000000000000):Holds prog true 44 [iv n,iv d] (sv (wO (n/Int.gcd n d) (d/Int.gcd n d))):=by
 refine bL (c:=MH) func44 rfl rfl fun w F=> ?_
 have k1:=ST n d;have k2:=aks n d;have hm:(if(0:Int)-n>n then(0:Int)-n else n)=n:=if_neg (by omega);have hg:0<Int.gcd n d:=Int.gcd_pos_of_ne_zero_right _ (by omega);simp only [bA,hm]at k1 k2;have e1:Int.tdiv n (Int.gcd n d:Int)=n/(Int.gcd n d:Int):=Int.tdiv_eq_ediv_of_nonneg hn;have e2:Int.tdiv d (Int.gcd n d:Int)=d/(Int.gcd n d:Int):=Int.tdiv_eq_ediv_of_nonneg (by omega);simp only [e1,e2]at k1 k2;generalize asX:(Int.gcd n d:Int)=g at*;have qh:1<=g:=by omega
 have b1:0<=n/g:=Int.ediv_nonneg hn (by omega);have b2:n/g<=n:=Int.ediv_le_self _ hn;have b3:0<=d/g:=Int.ediv_nonneg (by omega) (by omega);have b4:d/g<=d:=Int.ediv_le_self _ (by omega);have hm2:(if(0:Int)-n/g>n/g then(0:Int)-n/g else n/g)=n/g:=if_neg (by omega);simp only [hm2]at k1 k2;have l1:=Dg 20 (n/g) 1 [];have l2:=Dg 20 (d/g) 1 [];have cQ:=GN (cx 20 (n/g) 1 []);have z2:=GN (cx 20 (d/g) 1 []);simp only [List.length_nil,aw]at l1 l2;by_cases h1:d/g>1
 .have y1:(ByteArray.mk #[]++ByteArray.mk (cx 20 (n/g) 1 []).toArray).size=(cx 20 (n/g) 1 []).length:=by rw [uE,dp];rfl
  have y2:(ByteArray.mk #[]++ByteArray.mk (cx 20 (n/g) 1 []).toArray++ByteArray.mk #[47]).size=(cx 20 (n/g) 1 []).length+1:=by rw [uE,dp,dU,<-uE,y1];rfl
  refine bx Uy 30 (k2 (by omega) (by omega) (by omega) (by omega) (by omega) (by omega) ?_ (by omega) (by omega) (by omega) (by omega) (by omega) ?_ ?_ h1 ?_ ?_ ?_ ?_)
  .rw [ae];exact⟨ax hn,ax (show(0:Int)<=d by omega)⟩
  .rw [ae,ae];exact⟨ax b1,ax (by omega),by decide⟩
  .rw [cQ];show 0+_<=_;omega
  .rw [y1];show _+1<=_;omega
  .rw [ae,ae];exact⟨ax b3,ax (by omega),by decide⟩
  .rw [y2,z2];omega
  .apply iW;rw [dp,dp,dp];unfold wO;rw [if_pos h1];show(([]++cx 20 (n/g) 1 [])++[47])++cx 20 (d/g) 1 []=cx 20 (n/g) 1 []++47::cx 20 (d/g) 1 [];simp
 .refine bx Uy 30 (k1 (by omega) (by omega) (by omega) (by omega) (by omega) (by omega) ?_ (by omega) (by omega) (by omega) (by omega) (by omega) ?_ ?_ h1 ?_)
  .rw [ae];exact⟨ax hn,ax (show(0:Int)<=d by omega)⟩
  .rw [ae,ae];exact⟨ax b1,ax (by omega),by decide⟩
  .rw [cQ];show 0+_<=_;omega
  .apply iW;rw [dp];unfold wO;rw [if_neg h1,List.append_nil];rfl
def im {b:UInt8} {l:List UInt8}:bY (b::l)=(decide (48<=b.toNat)&&decide (b.toNat<=57)&&bY l):=rfl
def akt (a b:List UInt8):∀n:Int,(a++b).foldl (fun n b=>10*n+((b.toNat:Int)-48)) n=b.foldl (fun n b=>10*n+((b.toNat:Int)-48)) (a.foldl (fun n b=>10*n+((b.toNat:Int)-48)) n):=fun n=>List.foldl_append ..
def GO:∀(l:List UInt8) (n:Int),l.foldl (fun n b=>10*n+((b.toNat:Int)-48)) n=n*10^l.length+bt l
 |[],n=>by simp [bt]
 |b::r,n=>by
  have h1:=GO r (10*n+((b.toNat:Int)-48));have h2:=GO r (10*0+((b.toNat:Int)-48));unfold bt at*;simp only [List.foldl_cons,List.length_cons];rw [h1,h2,Int.pow_succ];grind
def MJ (b:UInt8) (r:List UInt8):bt (b::r)=((b.toNat:Int)-48)*10^r.length+bt r:=by
 have:=GO r (10*0+((b.toNat:Int)-48));unfold bt at*;simp only [List.foldl_cons];rw [this];simp
def Uz:∀(l:List UInt8),bY l=true->bk l=l.length
 |[],_=>rfl
 |b::r,h=>by
  rw [im]at h;simp only [ae,bB]at h;unfold bk;rw [if_neg (by omega),Uz r h.2,List.length_cons]
def UA:∀(l r:List UInt8),bY l=true->bk (l++47::r)=l.length
 |[],r,_=>by show bk (47::r)=0;unfold bk;rw [if_pos (by decide)]
 |b::l,r,h=>by
  rw [im]at h;simp only [ae,bB]at h;rw [List.cons_append];unfold bk;rw [if_neg (by omega),UA l r h.2,List.length_cons]
def lZ (s:ByteArray) (i j:Nat):ak (s.extract i j)=((ak s).take j).drop i:=by
 show(s.extract i j).data.toList=_;rw [ByteArray.data_extract,Array.toList_extract];simp [List.extract,List.drop_take]
abbrev yB:av:= .pair (.int .i64) (.int .i64)
abbrev pl (l:List (Int×Int)):aa:= .bh false yB l
abbrev g0 (s:List (Int×Int)) (k:Nat):Int×Int:=s.getD k (0,0)
noncomputable def pP:Code:=(Tryz.f19.body).getD .skip
noncomputable def pQ:Code:=(Tryz.f62.body).getD .skip
def UB (p:Int×Int):Bool:=decide (p.1<6)||(decide (p.1>400)||(decide (p.2<1)||decide (p.2>999999999)))
def GP (s:List (Int×Int)) (k:Nat):Int:=if UB (g0 s k)=true then 3 else if 0<k/\(g0 s k).1<=(g0 s (k-1)).1 then 11 else 0
def GQ (s:List (Int×Int)):Nat->Nat->Int
 |0,_=>0
 |n+1,k=>if GP s k≠0 then GP s k else GQ s n (k+1)
def UC (s:List (Int×Int)):Int:=if s.length=0 then 12 else if 32<s.length then 5 else GQ s s.length 0
def jK (p:Int×Int):Bool:=decide (p.1<1)||(decide (p.1>400)||(decide (p.2<1)||decide (p.2>400)))
def dt (s:List (Int×Int)):Nat->Nat->Int
 |0,_=>0
 |n+1,k=>if jK (g0 s k)=true then 3 else dt s n (k+1)
def dH (s:List (Int×Int)):Int:=if 4<s.length then 5 else dt s s.length 0
def GR (n d:Int):Int:=n/Int.gcd n d
def A1 (n d:Int):Int:=d/Int.gcd n d
end
end Go.Proofs.YtibikmmdbdlafaaGreatDoor
namespace Go.Proofs.YtibikmmdbdlafaaGreatDoor
open Go.RowKit
abbrev gR (l:List Int):List Value:=l.map (Value.int .i64)
def aku {w:World} {base n:Nat} {v:Value} {xs:List Int} (h:w.ownsRow base 3 1 v n (gR xs)):xs.length=n/\((v= .slice none 0 0/\n=0)\/∃g cap cur,v= .slice (some ⟨g,0,none⟩) n cap/\base<=g/\w.heap[g]? =some (.cells cur 3 (0,0))/\n<=cap/\cap<=maxLen/\cur.size=cap/\cur.toList.take n=gR xs):=by
 obtain⟨h1,h2⟩:=h;simp only [Nat.mul_one,w4]at h1 h2;exact⟨h1,h2⟩
def akv {w:World} {g n:Nat} {cur:Array Value} {xs:List Int} (hg:w.heap[g]? =some (.cells cur 3 (0,0))) (ht:cur.toList.take n=gR xs):Sort.Holds (Value.int .i64) w g 0 xs.toArray:=fun j hj=>by
 have hj:j<xs.length:=by simpa using hj
 refine⟨?_, ?_⟩
 .rw [aw,cell_of_row w g j cur _ _ hg];have h1:(cur.toList.take n)[j]? =some (Value.int .i64 xs[j]):=by rw [ht];simp [hj]
  rw [List.getElem?_take]at h1;split at h1
  .simpa [hj]using h1
  .cases h1
 .simp [World.frozen?,hg]
def akw {w:World} {g n:Nat} {cur:Array Value} {xs ys:List Int} (hg:w.heap[g]? =some (.cells cur 3 (0,0))) (ht:cur.toList.take n=gR xs) (hl:ys.length=xs.length) (q:Nat):
  (Sort.putRow (Value.int .i64) (Sort.ahead w q) g 0 ys.toArray).heap[g]? =some (.cells (Sort.putCells (Value.int .i64) 0 ys.toArray cur) 3 (0,0))/\(Sort.putCells (Value.int .i64) 0 ys.toArray cur).size=cur.size/\(Sort.putCells (Value.int .i64) 0 ys.toArray cur).toList.take ys.length=gR ys:=by
 refine⟨?_,by simp [Sort.putCells], ?_⟩
 .show(w.heap.modify g (Sort.onCells _))[g]? =_;rw [Array.getElem?_modify,if_pos rfl,hg];rfl
 .have hlen:ys.length<=cur.size:=by
   have h1:=congrArg List.length ht;simp at h1;omega
  apply List.ext_getElem?;intro j;rw [List.getElem?_take];by_cases hj:j<ys.length
  .rw [if_pos hj,Array.getElem?_toList];have hc:j<cur.size:=by omega
   simp [Sort.putCells,hj,hc]
  .rw [if_neg hj,List.getElem?_eq_none (by simpa using hj)]
def akx {w:World} {g q:Nat} {d:Array Int}:w.grownBy (Sort.putRow (Value.int .i64) (Sort.ahead w q) g 0 d) (some g):=
 ⟨rfl,rfl,rfl,Nat.le_of_eq (by simp),fun k _ hk=>by
   show(w.heap.modify g (Sort.onCells _))[k]? =_;rw [Array.getElem?_modify,if_neg (fun e=>hk (by rw [e]))]⟩
def aky (w:World) (r:Option Nat):w.grownBy w r:=⟨rfl,rfl,rfl,aG _,fun _ _ _=>rfl⟩
def akz {w w':World} {r:Option Nat} (h:w.grownBy w' r) (os:Array Obj):w.grownBy (Sort.grow w' os) r:=
 ⟨h.os,h.tape,h.output,cX h.size (by simp),fun k hk hn=>(Sort.heap_grow_old w' os (Nat.lt_of_lt_of_le hk h.size)).trans (h.block k hk hn)⟩
def akA (base n:Nat) (v:Value) (xs:List Int) (w:World) (h:w.ownsRow base 3 1 v n (gR xs)) (hl:xs.length<=1000000):
  Calls Tryz.prog 102 #[v] w fun e w'=>e= .returned (.tuple #[])/\w'.ownsRow base 3 1 v n (gR (xs.mergeSort fun x y=>decide (x<=y)))/\w.grownBy w' v.ownBlock:=by
 obtain⟨h0,h1⟩:=aku h;rcases h1 with⟨rfl,rfl⟩|⟨g,cap,cur,rfl,MK,hg,hn,hcap,hcs,ht⟩
 .obtain rfl:xs=[]:=List.length_eq_zero_iff.1 h0;exact(Tryz.slices_Sort_int_none none 0 w).mono fun e w' ⟨h1,h2⟩=>by subst h2;exact⟨h1,by simpa using h,aky _ _⟩
 .subst h0;have Fa:g<w.heap.size:=(cV.1 hg).1;refine(Tryz.slices_Sort_int g 0 cap xs w (akv hg ht) Fa (by omega)).mono fun e w' ⟨h1,q,os,h2⟩=> ?_
  subst h2;have tW:(xs.mergeSort fun x y=>decide (x<=y)).length=xs.length:=List.length_mergeSort _;obtain⟨p1,p2,p3⟩:=akw hg ht tW q;refine⟨h1,⟨by simp [tW], .inr ⟨g,cap,_,rfl,MK,(Sort.heap_grow_old _ os (by simpa using Fa)).trans p1,hn,hcap,by rw [p2,hcs,Nat.mul_one], ?_⟩⟩,akz akx os⟩;rw [Nat.mul_one,<-tW];exact p3
end Go.Proofs.YtibikmmdbdlafaaGreatDoor
namespace Go.Proofs.YtibikmmdbdlafaaGreatDoor.Sv
open Go.RowKit
noncomputable section
abbrev dV:=Code->(n:Nat)->(aL:Option Nat)->aq aa->ai->List Nat->R
def UD (P:Program) (ih:dV) (args:List aa) (H:ai) (fn:Func) (c:Code):aK:=
 @Bool.rec (fun _=>aK) .no (@R.rec (fun _=>aK) .no (fun T H m=>j9 P fn T H m) (fun _ _ _ _=> .no) (fun _ _ _ _=> .no) (fun T H m=>j9 P fn T H m)
   (ih c fn.ntmps none (de args .nil 0) H [])) (Nat.ble args.length fn.ntmps)
def lL (P:Program) (ih:dV):er:=fun f args H=>
 @Option.rec Func (fun _=>aK) .no (fun fn=> @Option.rec Code (fun _=>aK) .no (fun c=>UD P ih args H fn c) fn.body) (P.funcs[f]?)
def GS (ih:dV):jR:=fun i args H=>
 match H.get i with
 |some (.loop r)=>
  match r.state with
  | .ready=>cond (Nat.beq args.length r.params.size&&r.params.toList.all fun t=>Nat.ble (t+1) r.size)
    (match ih r.assign r.size (some i) (xo r.tmps (r.params.toList.zip args)) H []with
      | .normal T H []=>match H.get i with
        |some (.loop r')=>match r'.state with
         | .ready=>td i (ih r.body r.size (some i) T (H.set i (.loop {r' with state:= .busy})) [])
         |_=> .no
        |_=> .no
      |_=> .no) .no
  |_=> .no
 |_=> .no
def A2 (ih:dV) (n:Nat) (aL:Option Nat) (T:aq aa) (L:Nat) (m:List Nat):aK->R
 | .ok _ H3=>match H3.get L with
   |some (.loop r)=>match r.state with
    | .busy=> .no
    |_=>match r.pending with
     |none=> .normal T (H3.set L (.loop {r with state:= .exhausted})) m
     |some c=>ih c n aL T (H3.set L (.loop {r with state:= .exhausted})) m
   |_=> .no
 |_=> .no
def ML (b:Option bq):Bool:=match b with |some (.loop _)=>true|_=>false
def Dh (eu:dV->er) (P:Program) (ih:dV) (f:Operand) (params:Array Tmp) (assign body:Code) (n:Nat) (T:aq aa) (H:ai) (m:List Nat):R:=
 match mg P (ck T f) [.yield (Nat.succ H.next)] ((H.new .deferred).new (.loop {tmps:=T,size:=n,params,assign,body,state:= .ready,pending:=none}))with
 | .enter g args H2=>A2 ih n none T (Nat.succ H.next) (H.next::m) (eu ih g args H2)
 |_=> .no
def Di (eu:dV->er) (P:Program) (ih:dV) (i:Nat) (f:Operand) (params:Array Tmp) (assign body:Code) (n:Nat) (T:aq aa) (H:ai) (m:List Nat):R:=
 match mg P (ck T f) [.yield H.next] (H.new (.loop {tmps:=T,size:=n,params,assign,body,state:= .ready,pending:=none}))with
 | .enter g args H2=>cond (ML (H.get i)) (A2 ih n (some i) T H.next m (eu ih g args H2)) .no
 |_=> .no
abbrev jL:=Program->oN->dV->(n:Nat)->(aL:Option Nat)->aq aa->ai->List Nat->R
def UE:jL:=fun _ _ _ _ _ T H m=> .normal T H m
def akB (eu:dV->er) (_id:Nat) (ops:Array Oper) (d:Bool):jL:=fun _ draw ih n _ T H m=>
 zm m (draw d (eu ih) (GS ih) ops n T H)
def akC (a b:Code) (_ _:jL):jL:=fun _ _ ih n aL T H m=> @R.rec (fun _=>R) .no (fun T H m=>ih b n aL T H m) .exit .goto .ret (ih a n aL T H m)
def akD (c:Operand) (x y:Code) (_ _:jL):jL:=fun _ _ ih n aL T H m=>
 @mY.rec (fun _=>R) .no (fun b=> @Bool.rec (fun _=>R) (ih y n aL T H m) (ih x n aL T H m) b) (gD (ck T c))
def akE (id:Nat) (b:Code) (_:jL):jL:=fun _ _ ih n aL T H m=>
 @R.rec (fun _=>R) .no .normal (fun i T H m=> @Bool.rec (fun _=>R) (.exit i T H m) (.normal T H m) (Nat.beq i id)) .goto .ret (ih b n aL T H m)
def UF (b:Code) (_:jL):jL:=fun _ _ ih n aL T H m=>iter (ih b n aL) rounds T H m
def akF (eu:dV->er) (f:Operand) (params:Array Tmp) (assign body:Code) (_ _:jL):jL:=fun P _ ih n aL T H m=>
 @Option.rec Nat (fun _=>R) (Dh eu P ih f params assign body n T H m) (fun i=>Di eu P ih i f params assign body n T H m) aL
def akG (id:Nat):jL:=fun _ _ _ _ _ T H m=> .exit id T H m
def akH (b:Code) (_:jL):jL:=fun _ _ ih n aL T H m=> @R.rec (fun _=>R) .no .normal .exit (fun _ _ _ _=> .no) .ret (ih b n aL T H m)
def akI (l:Nat):jL:=fun _ _ _ _ _ T H m=> .goto l T H m
def akJ:jL:=fun _ _ _ _ _ T H m=> .ret T H m
def akK:jL:=fun _ _ _ _ _ _ _ _=> .no
def GU (eu:dV->er):Code->jL:=
 @Code.rec (fun _=>jL) UE (akB eu) akC akD akE UF (akF eu) akG akH (fun _=>UE) akI akJ (fun _=>akK)
def uc (eu:dV->er) (P:Program) (draw:oN) (fuel:Nat):dV:=
 @Nat.rec (fun _=>dV) (fun _ _ _ _ _ _=> .no) (fun _ ih c=>GU eu c P draw ih) fuel
end
variable [Ground]
def Dj (ρ:Env):Option Nat->Option Nat->Prop
 |none,none=>True
 |some i,some l=>∃c,ρ i=some (l,c)
 |_,_=>False
theorem Dj.mono {ρ ρ':Env} (hl:cB ρ ρ'):∀{aL rd:Option Nat},Dj ρ aL rd->Dj ρ' aL rd
 |none,none,_=>trivial
 |some _,some _,⟨c,h⟩=>⟨c,hl _ _ h⟩
 |none,some _,h=>h.elim
 |some _,none,h=>h.elim
section
variable {P:Program} {B:Nat} {ρ:Env} {n:Nat} {T:aq aa} {H:ai} {a:Act} {w:World}
variable {eu:dV->er}
structure jN (P:Program) (ih:dV):Prop where
 mono:∀c n aL T H m e aM H' m',(ih c n aL T H m).out=some (e,aM,H',m')->H.next<=H'.next
 cy:∀c n aL T H m e aM H' m',(ih c n aL T H m).out=some (e,aM,H',m')->∀B ρ a w rd k (Q:Exit->Act->World->Prop),Dj ρ aL rd->ey P B ρ n T H a w->ez ρ m a.defers->Fr ρ H.next H'.next->
  (∀ρ' a' w',ey P B ρ' n aM H' a' w'->bO ρ H w ρ' H' w'->ez ρ' m' a'.defers->Q e a' w')->c.wpIn (dO rd) k P Q a w
theorem rn {ih:dV} {f:FuncId} {args:List aa} {v:aa} {H':ai} (h:lL P ih f args H= .ok v H'):∃fn c,P.funcs[f]? =some fn/\fn.body=some c/\args.length<=fn.ntmps/\
  ∃e T1 H1 m1,(ih c fn.ntmps none (de args .nil 0) H []).out=some (e,T1,H1,m1)/\(e= .normal\/e= .ret)/\j9 P fn T1 H1 m1= .ok v H':=by
 unfold lL at h;cases hf:P.funcs[f]? with
 |none=>rw [hf]at h;cases h
 |some fn=>
  rw [hf]at h;simp only at h;cases hb:fn.body with
  |none=>rw [hb]at h;cases h
  |some c=>
   rw [hb]at h;simp only at h;unfold UD at h;cases hn:Nat.ble args.length fn.ntmps with
   |false=>rw [hn]at h;cases h
   |true=>
    rw [hn]at h;simp only at h;refine⟨fn,c,rfl,hb,bS hn, ?_⟩;cases hr:ih c fn.ntmps none (de args .nil 0) H []with
    |no=>rw [hr]at h;cases h
    |normal T1 H1 m1=>rw [hr]at h;exact⟨_,_,_,_,rfl, .inl rfl,h⟩
    |exit _ _ _ _=>rw [hr]at h;cases h
    |goto _ _ _ _=>rw [hr]at h;cases h
    |ret T1 H1 m1=>rw [hr]at h;exact⟨_,_,_,_,rfl, .inr rfl,h⟩
theorem ml {ih:dV} (hI:jN P ih):bD P (lL P ih) where
 mono f args H v H' h:=by
  obtain⟨fn,c,_,_,_,e,T1,H1,m1,ho,_,hl⟩:=rn h;exact cX (hI.mono _ _ _ _ _ _ _ _ _ _ ho) (Nat.le_of_eq (zF hl))
 cy f args H v H' h B ρ xs w m hH cu hd hf:=by
  obtain⟨fn,c,hfn,hb,hn,e,T1,H1,m1,ho,he,hl⟩:=rn h;have hnx:=zF hl;refine callsIn_of_wp_marks hfn hb trivial ?_;refine hI.cy _ _ _ _ _ _ _ _ _ _ ho B ρ _ w none m _ trivial ⟨BO hd hn,hH,cu⟩ rfl (by rw [hnx];exact hf) fun ρ' a' w' h1 h2 h3=> ?_
  have:LeavesInM (dO none) m P fn a'.tmps (mC P B ρ H w v H') a'.defers .returning w':=xI m1 h1 h3 hl fun y w2 r1 r2 r3=>⟨y,ρ',rfl,r1,r2,h2.trans r3⟩
  rcases he with rfl |rfl<;>exact this
theorem UG {ih:dV} {i:Nat} {args:List aa} {v:aa} {H':ai} (h:GS ih i args H= .ok v H'):∃r,H.get i=some (.loop r)/\args.length=r.params.size/\(∀t∈r.params.toList,t<r.size)/\
  ∃T1 H1 r',(ih r.assign r.size (some i) (xo r.tmps (r.params.toList.zip args)) H []).out=some (.normal,T1,H1,[])/\H1.get i=some (.loop r')/\r'.state= .ready/\
   td i (ih r.body r.size (some i) T1 (H1.set i (.loop {r' with state:= .busy})) [])= .ok v H':=by
 unfold GS at h;split at h
 .rename_i r hg;split at h
  .cases hb:(Nat.beq args.length r.params.size&&r.params.toList.all fun t=>Nat.ble (t+1) r.size)with
   |false=>rw [hb]at h;cases h
   |true=>
    rw [hb]at h;rw [ae]at hb;simp only [cond_true]at h;refine⟨r,hg,ac hb.1,fun t ht=>bS (List.all_eq_true.1 hb.2 t ht), ?_⟩;split at h
    .rename_i T1 H1 hr;split at h
     .rename_i r' hg';split at h
      .rename_i hs;exact⟨T1,H1,r',by rw [hr];rfl,hg',hs,h⟩
      .cases h
     .cases h
    .cases h
  .cases h
 .cases h
theorem UH {ih:dV} (hI:jN P ih):lH P (GS ih) where
 mono i args H v H' h:=by
  obtain⟨r,_,_,_,T1,H1,r',h1,_,_,h2⟩:=UG h;obtain⟨e,T2,H2,m2,r1,j,k1,_,_,rfl,_⟩:=Ex h2;have a1:=hI.mono _ _ _ _ _ _ _ _ _ _ h1;have a2:=hI.mono _ _ _ _ _ _ _ _ _ _ k1;exact cX a1 a2
 cy i args H v H' h B ρ xs w b c m hH cu hr hd hf:=by
  obtain⟨r,hg,hlen,hpar,T1,H1,r',h1,qh,hst,h2⟩:=UG h;obtain⟨e,T2,H2,m2,r1,j,k1,hg2,rfl,rfl,hj⟩:=Ex h2;have a1:=hI.mono _ _ _ _ _ _ _ _ _ _ h1;have a2:=hI.mono _ _ _ _ _ _ _ _ _ _ k1;have I6:H1.next<=H2.next:=a2;obtain⟨R,hb,hR⟩:=rC hH hg hr;have hl:=hd.length;have hy:=run_yield (P:=P) (args:=xs.toArray) hb (by rw [hR.params];simp;omega);refine⟨_,_,_,_,hy,roundIn_of_wpIn trivial ?_⟩
  -- the slots of the round
  have I7:jT ρ (xo r.tmps (r.params.toList.zip args)) r.size ((R.params.zip xs.toArray).foldl (fun tmps (t,a)=>tmps.setIfInBounds t a) R.tmps):=by
   have e1:(R.params.zip xs.toArray).foldl (fun tmps (t,a)=>tmps.setIfInBounds t a) R.tmps=(r.params.toList.zip xs).foldl (fun tmps p=>tmps.setIfInBounds p.1 p.2) R.tmps:=by
    rw [<-Array.foldl_toList,hR.params];congr 1;simp
   rw [e1];have hz:∀{α:Type} (l:List Nat) (ys:List α),ys.length=l.length->(l.zip ys).map Prod.fst=l/\(l.zip ys).map Prod.snd=ys:=fun l ys hh=>⟨by rw [List.map_fst_zip];omega,by rw [List.map_snd_zip];omega⟩
   have cQ:=hz r.params.toList args (by simpa using hlen);have z2:=hz r.params.toList xs (by rw [hl];simpa using hlen);exact I5 _ _ (by rw [cQ.1,z2.1]) (by rw [cQ.2,z2.2];exact hd) (fun p hp=>hpar p.1 (List.of_mem_zip hp).1) hR.tmps
  rw [hR.assign,hR.body];refine hI.cy _ _ _ _ _ _ _ _ _ _ h1 B ρ _ w (some b) m _ ⟨c,hr⟩ ⟨I7,hH,cu⟩ rfl (fun x y z=>hf x y (Nat.lt_of_lt_of_le z I6)) fun cL BQ w1 hA hS hD=> ?_
  have hD:BQ.defers=[]:=hD;have kQ:cL i=some (b,c):=hS.le _ _ hr;obtain⟨I8,jw,lI⟩:=rC hA.H qh kQ;have I9:=run_beginRound (P:=P) jw (by rw [lI.state,hst]);refine⟨_,I9, ?_⟩;obtain⟨q1,aO⟩:=xJ hA.H qh kQ rfl (r:={r' with state:= .busy}) (R:={I8 with state:= .busy}) ⟨rfl,lI.pending,lI.params,lI.assign,lI.body,lI.tmps⟩;refine hI.cy _ _ _ _ _ _ _ _ _ _ k1 B cL BQ _ (some b) m _ ⟨c,kQ⟩ (hA.next hA.T q1 aO) hD ((hS.trans aO).fr hf) fun dX Z4 w2 vz BR _=> ?_
  have hr2:dX i=some (b,c):=BR.le _ _ kQ;obtain⟨Ja,kO,tD⟩:=rC vz.H hg2 hr2;have Jb:=run_endRound (P:=P) j kO;obtain⟨bV,en⟩:=xJ vz.H hg2 hr2 rfl (r:={r1 with state:=if j.isNone then .ready else .done,pending:=j}) (R:={Ja with state:=if j.isNone then .ready else .done,pending:=j}) ⟨rfl,rfl,tD.params,tD.assign,tD.body,tD.tmps⟩;have fin:∃v' w',(Instr.endRound b j).run P w2= .ok v' w'/\mC P B ρ H w (.raw (.bool j.isNone)) (H2.set i (.loop {r1 with state:=if j.isNone then .ready else .done,pending:=j})) (.returned v') w':=
   ⟨_,_,Jb,_,dX,rfl, .raw _,bV,((hS.trans aO).trans BR).trans en⟩
  rcases hj with⟨rfl,rfl⟩|⟨rfl,rfl⟩|⟨id,rfl,rfl⟩|⟨l,rfl,rfl⟩<;>exact fin
theorem GV {ih:dV} {aL:Option Nat} {L:Nat} {m:List Nat} {ag:aK} {e:Exit} {aM:aq aa} {H':ai} {m':List Nat} (h:(A2 ih n aL T L m ag).out=some (e,aM,H',m')):∃v H3 r,ag= .ok v H3/\H3.get L=some (.loop r)/\r.state≠ .busy/\
  (r.pending=none/\e= .normal/\aM=T/\H'=H3.set L (.loop {r with state:= .exhausted})/\m'=m\/
    ∃c,r.pending=some c/\(ih c n aL T (H3.set L (.loop {r with state:= .exhausted})) m).out=some (e,aM,H',m')):=by
 unfold A2 at h;split at h
 .rename_i v H3;split at h
  .rename_i r hg;split at h
   .cases h
   .rename_i hs;refine⟨v,H3,r,rfl,hg,fun hh=>hs hh, ?_⟩;split at h
    .rename_i hp;cases h;exact .inl ⟨hp,rfl,rfl,rfl,rfl⟩
    .rename_i c hp;exact .inr ⟨c,hp,h⟩
  .cases h
 .cases h
theorem UI {ih:dV} {f:Operand} {params:Array Tmp} {assign body:Code} {m:List Nat} {e:Exit} {aM:aq aa} {H':ai} {m':List Nat} (h:(Dh eu P ih f params assign body n T H m).out=some (e,aM,H',m')):
  ∃g args H2,mg P (ck T f) [.yield (H.next+1)] ((H.new .deferred).new (.loop {tmps:=T,size:=n,params,assign,body,state:= .ready,pending:=none}))= .enter g args H2/\
   (A2 ih n none T (H.next+1) (H.next::m) (eu ih g args H2)).out=some (e,aM,H',m'):=by
 unfold Dh at h;split at h
 .rename_i g args H2 hc;exact⟨g,args,H2,hc,h⟩
 .cases h
theorem UJ {ih:dV} {i:Nat} {f:Operand} {params:Array Tmp} {assign body:Code} {m:List Nat} {e:Exit} {aM:aq aa} {H':ai} {m':List Nat} (h:(Di eu P ih i f params assign body n T H m).out=some (e,aM,H',m')):
  (∃gH,H.get i=some (.loop gH))/\∃g args H2,mg P (ck T f) [.yield H.next] (H.new (.loop {tmps:=T,size:=n,params,assign,body,state:= .ready,pending:=none}))= .enter g args H2/\
    (A2 ih n (some i) T H.next m (eu ih g args H2)).out=some (e,aM,H',m'):=by
 unfold Di at h;split at h
 .rename_i g args H2 hc;cases hb:ML (H.get i)with
  |false=>rw [hb]at h;cases h
  |true=>
   rw [hb]at h;refine⟨?_,g,args,H2,hc,h⟩;unfold ML at hb;split at hb
   .rename_i gH tS;exact⟨gH,tS⟩
   .cases hb
 .cases h
theorem UK (gp:∀ih,jN P ih->bD P (eu ih)) {ih:dV} (hI:jN P ih) {f:Operand} {params:Array Tmp} {assign body:Code} {m:List Nat} {e:Exit} {aM:aq aa} {H':ai} {m':List Nat} (h:(Dh eu P ih f params assign body n T H m).out=some (e,aM,H',m')):H.next+2<=H'.next:=by
 obtain⟨g,args,H2,h1,h2⟩:=UI h;have nk:=ga h1;obtain⟨v,H3,r,h3,h4,h5,h6⟩:=GV h2;have hc:=(gp ih hI).mono _ _ _ _ _ h3;have e2:H2.next=H.next+2:=by rw [nk];rfl
 rcases h6 with⟨_,_,_,rfl,_⟩|⟨c,_,h7⟩
 .show H.next+2<=H3.next;omega
 .have:=hI.mono _ _ _ _ _ _ _ _ _ _ h7;have e3:(H3.set (H.next+1) (bq.loop {r with state:= .exhausted})).next=H3.next:=rfl;omega
theorem UL (gp:∀ih,jN P ih->bD P (eu ih)) {ih:dV} (hI:jN P ih) {i:Nat} {f:Operand} {params:Array Tmp} {assign body:Code} {m:List Nat} {e:Exit} {aM:aq aa} {H':ai} {m':List Nat} (h:(Di eu P ih i f params assign body n T H m).out=some (e,aM,H',m')):H.next+1<=H'.next:=by
 obtain⟨_,g,args,H2,h1,h2⟩:=UJ h;have nk:=ga h1;obtain⟨v,H3,r,h3,h4,h5,h6⟩:=GV h2;have hc:=(gp ih hI).mono _ _ _ _ _ h3;have e2:H2.next=H.next+1:=by rw [nk];rfl
 rcases h6 with⟨_,_,_,rfl,_⟩|⟨c,_,h7⟩
 .show H.next+1<=H3.next;omega
 .have:=hI.mono _ _ _ _ _ _ _ _ _ _ h7;have e3:(H3.set H.next (bq.loop {r with state:= .exhausted})).next=H3.next:=rfl;omega
theorem akL (gp:∀ih,jN P ih->bD P (eu ih)) (hK:eW P) {ih:dV} (hI:jN P ih) {f:Operand} {params:Array Tmp} {assign body:Code} {m:List Nat} {e:Exit} {aM:aq aa} {H':ai} {m':List Nat} (h:(Dh eu P ih f params assign body n T H m).out=some (e,aM,H',m'))
  (k:Nat) {Q:Exit->Act->World->Prop} (aQ:ey P B ρ n T H a w) (hD:ez ρ m a.defers) (hf:Fr ρ H.next H'.next)
  (hQ:∀ρ' a' w',ey P B ρ' n aM H' a' w'->bO ρ H w ρ' H' w'->ez ρ' m' a'.defers->Q e a' w'):(Code.rangeFunc f params assign body).wpIn (dO none) k P Q a w:=by
 have hmono:=UK gp hI h;obtain⟨g,args,H2,h1,h2⟩:=UI h;have nk:=ga h1;obtain⟨v,H3,r,h3,h4,h5,h6⟩:=GV h2;have hcm:=(gp ih hI).mono _ _ _ _ _ h3;have e2:H2.next=H.next+2:=by rw [nk];rfl
 have BS:H3.next<=H'.next:=by
  rcases h6 with⟨_,_,_,rfl,_⟩|⟨c,_,h7⟩
  .exact aG _
  .have:=hI.mono _ _ _ _ _ _ _ _ _ _ h7;exact this
 refine wpIn_rangeFunc fun fn _=> ?_
 -- the two blocks
 have hn0:ρ H.next=none:=hf _ (aG _) (by omega);obtain⟨p1,p2⟩:=tq aQ.H (fun i x y=>hf i x (by omega)) 0 .deferred (.deferred (some [])) rfl;have xK:=p2.fr hf;have nr:(H.new .deferred).next=H.next+1:=rfl;have BU:=aQ.T.mono p2.le;obtain⟨rec,ir⟩:∃rec:Loop,rec={state:= .ready,pending:=none,fn,tmps:=a.tmps,params,assign,body,defers:=w.heap.size}:=⟨_,rfl⟩;obtain⟨p3,dY⟩:=tq p1 (fun i x y=>xK i x (by rw [nr]at y;omega)) 0 (.loop {tmps:=T,size:=n,params,assign,body,state:= .ready,pending:=none}) (.loop rec) ⟨rec,rfl,by rw [ir],by rw [ir],by rw [ir],by rw [ir],by rw [ir],by
  rw [ir];exact BU.mono (Env.oQ (xK _ (aG _) (by rw [nr];omega)))⟩
 have hle:=p2.trans dY;rw [<-nk]at p3 dY hle h1;obtain⟨dX,vA⟩:∃dX,dX=(ρ.put H.next w.heap.size 0).put (H.new .deferred).next (w.alloc (.deferred (some []))).heap.size 0:=⟨_,rfl⟩;rw [<-vA]at p3 dY hle;have hL:dX (H.next+1)=some (w.heap.size+1,0):=by rw [vA,<-nr,Env.dr];simp
 have Jd:dX H.next=some (w.heap.size,0):=by
  refine dY.le _ _ ?_;rw [Env.dr]
 -- the function
 have vB:=(xG aQ.T aQ.G f).mono hle.le;obtain⟨vC,first,captured,fM⟩:=Jc vB h1;have BV:aF dX [aa.yield (H.next+1)] [.func (.yield (w.heap.size+1)) #[] #[]]:= .cons (.yield hL) .nil;have hca:=Es (P:=P) (B:=B) (w:=(w.alloc (.deferred (some []))).alloc (.loop rec)) (fv:=ck T f) hK p3 vB BV (r:=(invoke (.fn vC captured) (first++ #[.func (.yield (w.heap.size+1)) #[] #[]])).run P ((w.alloc (.deferred (some []))).alloc (.loop rec)))
  (fun fn' first' captured' hh=>by rw [fM]at hh;cases hh;rfl)
 rw [h1]at hca;obtain⟨_,xs,hinv,hxs⟩:=hca;refine⟨w.heap.size+1,[{target:= .collected w.heap.size,args:= #[]}],(w.alloc (.deferred (some []))).alloc (.loop rec),{target:= .fn vC captured,args:=first++ #[.func (.yield (w.heap.size+1)) #[] #[]]},(w.alloc (.deferred (some []))).alloc (.loop rec),g,xs.toArray,
  (w.alloc (.deferred (some []))).alloc (.loop rec), ?_, ?_,fun _ _=>trivial,hinv,(fun hh=>by cases hh), ?_⟩
 .rw [ir];exact run_enterLoop_outer fn a.tmps params assign body
 .have hcv:∀v,a.eval (.const v)=v:=fun _=>rfl
  simp [resolve,fM,Deferred.ofValue,hcv]
 .refine((gp ih hI).cy g args H2 v H3 h3 B dX xs _ (k-1) p3 (aQ.G.mono hle.le) hxs ((hle.fr hf).mono' BS)).mono ?_;rintro e0 w3 ⟨x,qi,rfl,_,q1,aO⟩;have vD:=aO.le _ _ hL;obtain⟨R,hb,hR⟩:=rC q1 h4 vD;have hel:=run_endLoop (P:=P) hb (by rw [hR.state];exact h5);obtain⟨bV,en⟩:=xJ q1 h4 vD rfl (r:={r with state:= .exhausted}) (R:={R with state:= .exhausted}) ⟨rfl,hR.pending,hR.params,hR.assign,hR.body,hR.tmps⟩;have gY:=(hle.trans aO).trans en;have nt:ez qi (H.next::m) ([{target:= .collected w.heap.size,args:= #[]}]++a.defers):=⟨w.heap.size,0,a.defers,aO.le _ _ Jd,rfl,(hD.mono (hle.trans aO).le)⟩;have key:∀jump,jump=r.pending->(match jump with
    |none=>Q .normal {a with defers:=[{target:= .collected w.heap.size,args:= #[]}]++a.defers} (w3.putObj (w.heap.size+1) (.loop {R with state:= .exhausted}))
    |some c=>c.wpIn (dO none) k P Q {a with defers:=[{target:= .collected w.heap.size,args:= #[]}]++a.defers} (w3.putObj (w.heap.size+1) (.loop {R with state:= .exhausted}))):=by
   rintro jump rfl;rcases h6 with⟨k1,rfl,rfl,rfl,rfl⟩|⟨c,k1,h7⟩
   .rw [k1];exact hQ qi {a with defers:=[{target:= .collected w.heap.size,args:= #[]}]++a.defers} _ ⟨aQ.T.mono gY.le,bV,aQ.G.mono gY.le⟩ gY nt
   .rw [k1];refine hI.cy _ _ _ _ _ _ _ _ _ _ h7 B qi {a with defers:=[{target:= .collected w.heap.size,args:= #[]}]++a.defers} _ none k Q trivial ⟨aQ.T.mono gY.le,bV,aQ.G.mono gY.le⟩ nt (gY.fr hf) fun ρ' a' w' r1 r2 r3=>hQ ρ' a' w' r1 (gY.trans r2) r3
  exact⟨R.pending,_,hel,key _ hR.pending⟩
theorem akM (gp:∀ih,jN P ih->bD P (eu ih)) (hK:eW P) {ih:dV} (hI:jN P ih) {i l₀ c₀:Nat} (UM:ρ i=some (l₀,c₀)) {f:Operand} {params:Array Tmp} {assign body:Code} {m:List Nat} {e:Exit} {aM:aq aa} {H':ai} {m':List Nat} (h:(Di eu P ih i f params assign body n T H m).out=some (e,aM,H',m'))
  (k:Nat) {Q:Exit->Act->World->Prop} (aQ:ey P B ρ n T H a w) (hD:ez ρ m a.defers) (hf:Fr ρ H.next H'.next)
  (hQ:∀ρ' a' w',ey P B ρ' n aM H' a' w'->bO ρ H w ρ' H' w'->ez ρ' m' a'.defers->Q e a' w'):(Code.rangeFunc f params assign body).wpIn (dO (some l₀)) k P Q a w:=by
 have hmono:=UL gp hI h;obtain⟨⟨gH,tS⟩,g,args,H2,h1,h2⟩:=UJ h;have nk:=ga h1;obtain⟨v,H3,r,h3,h4,h5,h6⟩:=GV h2;have hcm:=(gp ih hI).mono _ _ _ _ _ h3;have e2:H2.next=H.next+1:=by rw [nk];rfl
 have BS:H3.next<=H'.next:=by
  rcases h6 with⟨_,_,_,rfl,_⟩|⟨c,_,h7⟩
  .exact aG _
  .have:=hI.mono _ _ _ _ _ _ _ _ _ _ h7;exact this
 refine wpIn_rangeFunc fun fn _=> ?_
 obtain⟨R0,uj,_⟩:=rC aQ.H tS UM
 -- the block
 have hn0:ρ H.next=none:=hf _ (aG _) (by omega);obtain⟨rec,ir⟩:∃rec:Loop,rec={state:= .ready,pending:=none,fn,tmps:=a.tmps,params,assign,body,defers:=R0.defers}:=⟨_,rfl⟩;obtain⟨p3,dY⟩:=tq aQ.H (fun i x y=>hf i x (by omega)) 0 (.loop {tmps:=T,size:=n,params,assign,body,state:= .ready,pending:=none}) (.loop rec) ⟨rec,rfl,by rw [ir],by rw [ir],by rw [ir],by rw [ir],by rw [ir],by
  rw [ir];exact aQ.T.mono (Env.oQ hn0)⟩
 have hle:=dY;rw [<-nk]at p3 dY hle h1;obtain⟨dX,vA⟩:∃dX,dX=ρ.put H.next w.heap.size 0:=⟨_,rfl⟩;rw [<-vA]at p3 dY hle;have hL:dX H.next=some (w.heap.size,0):=by rw [vA,Env.dr]
 -- the function
 have vB:=(xG aQ.T aQ.G f).mono hle.le;obtain⟨vC,first,captured,fM⟩:=Jc vB h1;have BV:aF dX [aa.yield H.next] [.func (.yield w.heap.size) #[] #[]]:= .cons (.yield hL) .nil;have hca:=Es (P:=P) (B:=B) (w:=w.alloc (.loop rec)) (fv:=ck T f) hK p3 vB BV (r:=(invoke (.fn vC captured) (first++ #[.func (.yield w.heap.size) #[] #[]])).run P (w.alloc (.loop rec)))
  (fun fn' first' captured' hh=>by rw [fM]at hh;cases hh;rfl)
 rw [h1]at hca;obtain⟨_,xs,hinv,hxs⟩:=hca;refine⟨w.heap.size,[],w.alloc (.loop rec),{target:= .fn vC captured,args:=first++ #[.func (.yield w.heap.size) #[] #[]]},w.alloc (.loop rec),g,xs.toArray,
  w.alloc (.loop rec), ?_, ?_,fun _ _=>trivial,hinv,(fun hh=>by cases hh), ?_⟩
 .rw [ir];exact run_enterLoop_inner uj fn a.tmps params assign body
 .have hcv:∀v,a.eval (.const v)=v:=fun _=>rfl
  simp [resolve,fM,Deferred.ofValue,hcv]
 .refine((gp ih hI).cy g args H2 v H3 h3 B dX xs _ (k-1) p3 (aQ.G.mono hle.le) hxs ((hle.fr hf).mono' BS)).mono ?_;rintro e0 w3 ⟨x,qi,rfl,_,q1,aO⟩;have vD:=aO.le _ _ hL;obtain⟨R,hb,hR⟩:=rC q1 h4 vD;have hel:=run_endLoop (P:=P) hb (by rw [hR.state];exact h5);obtain⟨bV,en⟩:=xJ q1 h4 vD rfl (r:={r with state:= .exhausted}) (R:={R with state:= .exhausted}) ⟨rfl,hR.pending,hR.params,hR.assign,hR.body,hR.tmps⟩;have gY:=(hle.trans aO).trans en;have nt:ez qi m a.defers:=hD.mono (hle.trans aO).le;have key:∀jump,jump=r.pending->(match jump with
    |none=>Q .normal a (w3.putObj w.heap.size (.loop {R with state:= .exhausted}))
    |some c=>c.wpIn (dO (some l₀)) k P Q a (w3.putObj w.heap.size (.loop {R with state:= .exhausted}))):=by
   rintro jump rfl;rcases h6 with⟨k1,rfl,rfl,rfl,rfl⟩|⟨c,k1,h7⟩
   .rw [k1];exact hQ qi a _ ⟨aQ.T.mono gY.le,bV,aQ.G.mono gY.le⟩ gY nt
   .rw [k1];refine hI.cy _ _ _ _ _ _ _ _ _ _ h7 B qi a _ (some l₀) k Q ⟨c₀,gY.le _ _ UM⟩ ⟨aQ.T.mono gY.le,bV,aQ.G.mono gY.le⟩ nt (gY.fr hf) fun ρ' a' w' r1 r2 r3=>hQ ρ' a' w' r1 (gY.trans r2) r3
  exact⟨R.pending,_,hel,key _ hR.pending⟩
theorem ns {ih:dV} (hI:jN P ih) {c:Code} {aL:Option Nat}:∀(j:Nat) {T:aq aa} {H:ai} {m:List Nat} {e:Exit} {aM:aq aa} {H':ai} {m':List Nat},(iter (ih c n aL) j T H m).out=some (e,aM,H',m')->H.next<=H'.next
 |0,_,_,_,_,_,_,_,h=>by cases h
 |j+1,T,H,m,e,aM,H',m',h=>by
  obtain⟨j',hj,e1,T1,H1,m1,h1,h2⟩:=Ey (j+1) h;cases hj;have a1:=hI.mono _ _ _ _ _ _ _ _ _ _ h1;rcases h2 with⟨_,h2⟩|⟨_,_,_,rfl,_⟩
  .exact cX a1 (ns hI j h2)
  .exact a1
theorem UN {ih:dV} (hI:jN P ih) {c:Code} {aL:Option Nat} {rd:Option Nat} {k:Nat} {Q:Exit->Act->World->Prop}:∀(j:Nat) {ρ:Env} {T:aq aa} {H:ai} {m:List Nat} {a:Act} {w:World} {e:Exit} {aM:aq aa} {H':ai} {m':List Nat},
  (iter (ih c n aL) j T H m).out=some (e,aM,H',m')->Dj ρ aL rd->ey P B ρ n T H a w->ez ρ m a.defers->Fr ρ H.next H'.next->
  (∀ρ' a' w',ey P B ρ' n aM H' a' w'->bO ρ H w ρ' H' w'->ez ρ' m' a'.defers->Q e a' w')->Code.roundsIn (dO rd) k P c Q j a w
 |0,_,_,_,_,_,_,_,_,_,_,h,_,_,_,_,_=>by cases h
 |j+1,ρ,T,H,m,a,w,e,aM,H',m',h,hrd,aQ,hD,hf,hQ=>by
  obtain⟨j',hj,e1,T1,H1,m1,h1,h2⟩:=Ey (j+1) h;cases hj;have hle:H1.next<=H'.next:=by
   rcases h2 with⟨_,h2⟩|⟨_,_,_,rfl,_⟩
   .exact ns hI j h2
   .exact aG _
  refine hI.cy _ _ _ _ _ _ _ _ _ _ h1 B ρ a w rd k _ hrd aQ hD (hf.mono' hle) fun cL a1 w1 r1 r2 r3=> ?_
  rcases h2 with⟨rfl,h2⟩|⟨hn,rfl,rfl,rfl,rfl⟩
  .exact UN hI j h2 (hrd.mono r2.le) r1 r3 (r2.fr hf) fun ρ' a' w' q1 aO bV=>hQ ρ' a' w' q1 (r2.trans aO) bV
  .exact PZ hn (hQ cL a1 w1 r1 r2 r3)
theorem UO {draw:oN} {ih:dV} {x:Code} {aL:Option Nat} {m:List Nat}:GU eu (.loop x) P draw ih n aL T H m=iter (ih x n aL) rounds T H m:=by
 unfold GU;simp only [UF]
theorem akN (gp:∀ih,jN P ih->bD P (eu ih)) (hK:eW P) {draw:oN} (hdr:∀d,xH P d (draw d)) {ih:dV} (hI:jN P ih):jN P (fun c=>GU eu c P draw ih) where
 mono c n aL T H m e aM H' m' h:=by
  have hC:=gp ih hI;have hR:=UH hI;cases c with
  |skip=>cases h;exact aG _
  |label l=>cases h;exact aG _
  |exit id=>cases h;exact aG _
  |goto l=>cases h;exact aG _
  |ret=>cases h;exact aG _
  |refuse why=>cases h
  |region id ops d=>
   obtain⟨h1,_,_⟩:=Ez h;exact(hdr d).mono _ _ hC hR _ _ _ _ _ _ h1
  |seq x y=>
   have h:(@R.rec (fun _=>R) .no (fun T H m=>ih y n aL T H m) .exit .goto .ret (ih x n aL T H m)).out=some (e,aM,H',m'):=h;cases hx:ih x n aL T H m with
   |no=>rw [hx]at h;cases h
   |normal T1 H1 m1=>rw [hx]at h;exact cX (hI.mono x n aL T H m _ _ _ _ (by rw [hx];rfl)) (hI.mono _ _ _ _ _ _ _ _ _ _ h)
   |exit id T1 H1 m1=>rw [hx]at h;cases h;exact hI.mono x n aL T H m _ _ _ _ (by rw [hx];rfl)
   |goto l T1 H1 m1=>rw [hx]at h;cases h;exact hI.mono x n aL T H m _ _ _ _ (by rw [hx];rfl)
   |ret T1 H1 m1=>rw [hx]at h;cases h;exact hI.mono x n aL T H m _ _ _ _ (by rw [hx];rfl)
  |cond c x y=>
   have h:(@mY.rec (fun _=>R) .no (fun b=> @Bool.rec (fun _=>R) (ih y n aL T H m) (ih x n aL T H m) b) (gD (ck T c))).out=some (e,aM,H',m'):=h;cases hb:gD (ck T c)with
   |no=>rw [hb]at h;cases h
   |mk b=>rw [hb]at h;cases b<;>exact hI.mono _ _ _ _ _ _ _ _ _ _ h
  |block id x=>
   have h:(@R.rec (fun _=>R) .no .normal (fun i T H m=> @Bool.rec (fun _=>R) (.exit i T H m) (.normal T H m) (Nat.beq i id)) .goto .ret (ih x n aL T H m)).out=some (e,aM,H',m'):=h;cases hx:ih x n aL T H m with
   |no=>rw [hx]at h;cases h
   |normal T1 H1 m1=>rw [hx]at h;cases h;exact hI.mono x n aL T H m _ _ _ _ (by rw [hx];rfl)
   |exit i T1 H1 m1=>
    rw [hx]at h;simp only at h;cases hb:Nat.beq i id with
    |true=>rw [hb]at h;cases h;exact hI.mono x n aL T H m _ _ _ _ (by rw [hx];rfl)
    |false=>rw [hb]at h;cases h;exact hI.mono x n aL T H m _ _ _ _ (by rw [hx];rfl)
   |goto l T1 H1 m1=>rw [hx]at h;cases h;exact hI.mono x n aL T H m _ _ _ _ (by rw [hx];rfl)
   |ret T1 H1 m1=>rw [hx]at h;cases h;exact hI.mono x n aL T H m _ _ _ _ (by rw [hx];rfl)
  |loop x=>rw [UO]at h;exact ns hI rounds h
  |rangeFunc f ps x y=>
   cases aL with
   |some i=>have:=UL gp hI (P:=P) h;omega
   |none=>have:=UK gp hI (P:=P) h;omega
  |scope x=>
   have h:(@R.rec (fun _=>R) .no .normal .exit (fun _ _ _ _=> .no) .ret (ih x n aL T H m)).out=some (e,aM,H',m'):=h;cases hx:ih x n aL T H m with
   |no=>rw [hx]at h;cases h
   |normal T1 H1 m1=>rw [hx]at h;cases h;exact hI.mono x n aL T H m _ _ _ _ (by rw [hx];rfl)
   |exit id T1 H1 m1=>rw [hx]at h;cases h;exact hI.mono x n aL T H m _ _ _ _ (by rw [hx];rfl)
   |goto l T1 H1 m1=>rw [hx]at h;cases h
   |ret T1 H1 m1=>rw [hx]at h;cases h;exact hI.mono x n aL T H m _ _ _ _ (by rw [hx];rfl)
 cy c n aL T H m e aM H' m' h B ρ a w rd k Q hrd aQ hD hf hQ:=by
  have hC:=gp ih hI;have hR:=UH hI;have here:∀{x:Code} {e1 T1 H1 m1},(ih x n aL T H m).out=some (e1,T1,H1,m1)->H1=H'->∀Q':Exit->Act->World->Prop,(∀ρ' a' w',ey P B ρ' n T1 H1 a' w'->bO ρ H w ρ' H1 w'->ez ρ' m1 a'.defers->Q' e1 a' w')->x.wpIn (dO rd) k P Q' a w:=
   fun h1 hh Q' hq=>hI.cy _ _ _ _ _ _ _ _ _ _ h1 B ρ a w rd k Q' hrd aQ hD (by rw [hh];exact hf) hq
  cases c with
  |skip=>cases h;exact wpIn_skip (hQ ρ a w aQ (bO.refl _ _ _) hD)
  |label l=>cases h;exact wpIn_label (hQ ρ a w aQ (bO.refl _ _ _) hD)
  |exit id=>cases h;exact wpIn_exit (hQ ρ a w aQ (bO.refl _ _ _) hD)
  |goto l=>cases h;exact wpIn_goto (hQ ρ a w aQ (bO.refl _ _ _) hD)
  |ret=>cases h;exact wpIn_ret (hQ ρ a w aQ (bO.refl _ _ _) hD)
  |refuse why=>cases h
  |region id ops d=>
   obtain⟨h1,rfl,rfl⟩:=Ez h;have Je:∀ρ' a' w',ey P B ρ' n aM H' a' w'->bO ρ H w ρ' H' w'->a'.defers=a.defers->Q .normal a' w':=fun ρ' a' w' r1 r2 r3=>hQ ρ' a' w' r1 r2 (by rw [r3];exact hD.mono r2.le)
   exact(hdr d).cy _ _ hC hR id _ _ _ _ _ _ h1 B ρ a w rd k Q aQ hf Je
  |seq x y=>
   have h:(@R.rec (fun _=>R) .no (fun T H m=>ih y n aL T H m) .exit .goto .ret (ih x n aL T H m)).out=some (e,aM,H',m'):=h;refine wpIn_seq ?_;cases hx:ih x n aL T H m with
   |no=>rw [hx]at h;cases h
   |normal T1 H1 m1=>
    rw [hx]at h;have hle:=hI.mono _ _ _ _ _ _ _ _ _ _ h;refine hI.cy x n aL T H m _ _ _ _ (by rw [hx];rfl) B ρ a w rd k _ hrd aQ hD (hf.mono' hle) fun cL a1 w1 r1 r2 r3=> ?_
    exact hI.cy _ _ _ _ _ _ _ _ _ _ h B cL a1 w1 rd k Q (hrd.mono r2.le) r1 r3 (r2.fr hf) fun ρ' a' w' q1 aO bV=>hQ ρ' a' w' q1 (r2.trans aO) bV
   |exit id T1 H1 m1=>rw [hx]at h;cases h;exact here (x:=x) (by rw [hx];rfl) rfl _ hQ
   |goto l T1 H1 m1=>rw [hx]at h;cases h;exact here (x:=x) (by rw [hx];rfl) rfl _ hQ
   |ret T1 H1 m1=>rw [hx]at h;cases h;exact here (x:=x) (by rw [hx];rfl) rfl _ hQ
  |cond c x y=>
   have h:(@mY.rec (fun _=>R) .no (fun b=> @Bool.rec (fun _=>R) (ih y n aL T H m) (ih x n aL T H m) b) (gD (ck T c))).out=some (e,aM,H',m'):=h;cases hb:gD (ck T c)with
   |no=>rw [hb]at h;cases h
   |mk b=>
    rw [hb]at h;have hc:=xG aQ.T aQ.G c;rw [nF hb]at hc;refine wpIn_cond hc.b8 ?_;cases b
    .exact hI.cy _ _ _ _ _ _ _ _ _ _ h B ρ a w rd k Q hrd aQ hD hf hQ
    .exact hI.cy _ _ _ _ _ _ _ _ _ _ h B ρ a w rd k Q hrd aQ hD hf hQ
  |block id x=>
   have h:(@R.rec (fun _=>R) .no .normal (fun i T H m=> @Bool.rec (fun _=>R) (.exit i T H m) (.normal T H m) (Nat.beq i id)) .goto .ret (ih x n aL T H m)).out=some (e,aM,H',m'):=h;refine wpIn_block ?_;cases hx:ih x n aL T H m with
   |no=>rw [hx]at h;cases h
   |normal T1 H1 m1=>rw [hx]at h;cases h;exact here (x:=x) (by rw [hx];rfl) rfl _ hQ
   |exit i T1 H1 m1=>
    rw [hx]at h;simp only at h;cases hb:Nat.beq i id with
    |true=>
     rw [hb]at h;cases h;have:=ac hb;subst this;exact here (x:=x) (by rw [hx];rfl) rfl _ fun ρ' a' w' r1 r2 r3=>by simp only [Exit.inBlock,if_true];exact hQ ρ' a' w' r1 r2 r3
    |false=>
     rw [hb]at h;cases h;have hne:i≠id:=fun hh=>by subst hh;rw [Nat.beq_refl]at hb;cases hb
     exact here (x:=x) (by rw [hx];rfl) rfl _ fun ρ' a' w' r1 r2 r3=>by simp only [Exit.inBlock,if_neg hne];exact hQ ρ' a' w' r1 r2 r3
   |goto l T1 H1 m1=>rw [hx]at h;cases h;exact here (x:=x) (by rw [hx];rfl) rfl _ hQ
   |ret T1 H1 m1=>rw [hx]at h;cases h;exact here (x:=x) (by rw [hx];rfl) rfl _ hQ
  |loop x=>rw [UO]at h;exact wpIn_loop_rounds rounds (UN hI rounds h hrd aQ hD hf hQ)
  |rangeFunc f ps x y=>
   cases aL with
   |some i=>
    cases rd with
    |some l=>obtain⟨c,hc⟩:=hrd;exact akM gp hK hI hc h k aQ hD hf hQ
    |none=>exact hrd.elim
   |none=>
    cases rd with
    |some l=>exact hrd.elim
    |none=>exact akL gp hK hI h k aQ hD hf hQ
  |scope x=>
   have h:(@R.rec (fun _=>R) .no .normal .exit (fun _ _ _ _=> .no) .ret (ih x n aL T H m)).out=some (e,aM,H',m'):=h;refine I2 ?_;cases hx:ih x n aL T H m with
   |no=>rw [hx]at h;cases h
   |normal T1 H1 m1=>rw [hx]at h;cases h;exact here (x:=x) (by rw [hx];rfl) rfl _ hQ
   |exit id T1 H1 m1=>rw [hx]at h;cases h;exact here (x:=x) (by rw [hx];rfl) rfl _ hQ
   |goto l T1 H1 m1=>rw [hx]at h;cases h
   |ret T1 H1 m1=>rw [hx]at h;cases h;exact here (x:=x) (by rw [hx];rfl) rfl _ hQ
theorem GW (gp:∀ih,jN P ih->bD P (eu ih)) (hK:eW P) {draw:oN} (hdr:∀d,xH P d (draw d)):∀fuel,jN P (uc eu P draw fuel)
 |0=>⟨(fun _ _ _ _ _ _ _ _ _ _ h=>by cases h),(fun _ _ _ _ _ _ _ _ _ _ h=>by cases h)⟩
 |f+1=>akN gp hK hdr (GW gp hK hdr f)
end
end Go.Proofs.YtibikmmdbdlafaaGreatDoor.Sv
namespace Go.Proofs.YtibikmmdbdlafaaGreatDoor
open Go.RowKit Sv Go.Proofs.Tryz
structure oC (w:World) (b r:Nat) (es:Array MapEntry) (clock:Nat) (rem:List MapEntry):Prop where
 m:w.heap[b]? =some (.map es clock)
 it:∃seen c0,w.heap[r]? =some (.mapIter (some b) clock seen c0)/\clock<=c0/\(leftOf es seen).toList=rem
theorem wt (e:MapEntry):∀{l:List MapEntry},(l.map (·.born)).Nodup->e∈l->l.Perm (e::l.filter fun x=>x.born != e.born)
 |[],_,h=>by cases h
 |x::l,hn,h=>by
  rw [List.map_cons,List.nodup_cons]at hn;by_cases hx:x.born=e.born
  .have gh:x=e:=by
    rcases ep.1 h with h|h
    .exact h.symm
    .exact absurd (List.mem_map.2 ⟨e,h,hx.symm⟩) hn.1
   subst gh;have:l.filter (fun y=>y.born != x.born)=l:=List.filter_eq_self.2 fun y hy=>by
    rw [e7];intro he;exact hn.1 (List.mem_map.2 ⟨y,hy,he⟩)
   rw [List.filter_cons,if_neg (by simp),this]
  .have he:e∈l:=by
    rcases ep.1 h with h|h
    .exact absurd (by rw [h]) hx
    .exact h
   rw [List.filter_cons,if_pos (by simpa using hx)];exact((wt e hn.2 he).cons x).trans (List.Perm.swap _ _ _)
theorem akO (es:Array MapEntry) (seen:Array Nat) (k:Nat):(leftOf es (seen.push k)).toList=(leftOf es seen).toList.filter fun x=>x.born != k:=by
 unfold leftOf;rw [Array.toList_filter,Array.toList_filter,List.filter_filter];refine List.filter_congr fun x _=> ?_
 rw [contains_push];cases seen.contains x.born<;>simp [bne]
theorem oC.next {P:Program} {w:World} {b r:Nat} {es:Array MapEntry} {clock:Nat} {rem:List MapEntry} (A3:∀x∈es.toList,x.born<clock) (hn:(es.toList.map (·.born)).Nodup) (h:oC w b r es clock rem) (ty:TypeId):
  (rem=[]/\(Instr.next (.pointer (some ⟨r,0,none⟩)) false ty).run P w= .ok (.tuple #[.bool false]) w)\/
  ∃e sG w',rem.Perm (e::sG)/\e∈es.toList/\(Instr.next (.pointer (some ⟨r,0,none⟩)) false ty).run P w= .ok (.tuple #[.bool true,e.key,e.val]) w'/\oC w' b r es clock sG/\w.grownBy w' (some r)/\w'.heap.size=w.heap.size/\
   (Instr.entry (.pointer (some ⟨r,0,none⟩))).run P w'= .ok (.tuple #[e.key,e.val]) w':=by
 obtain⟨hb,seen,c0,hr,hc,rfl⟩:=h;have hne:b≠r:=fun e=>by subst e;rw [hb]at hr;cases hr
 rcases run_next_at (P:=P) w ty r b clock c0 seen es clock hr hb A3 hc with⟨h0,hrun⟩|⟨e,he,w1,hal,hrun⟩
 .exact .inl ⟨by rw [Array.eq_empty_of_size_eq_zero h0],hrun⟩
 .have hem:e∈es.toList:=by
   unfold leftOf at he;rw [Array.toList_filter]at he;exact(List.mem_filter.1 he).1
  have hnl:((leftOf es seen).toList.map (·.born)).Nodup:=by
   unfold leftOf;rw [Array.toList_filter];exact(List.filter_sublist.map _).nodup hn
  have kQ:w1.heap[r]? =some (.mapIter (some b) clock seen c0):=by rcases hal with rfl |rfl<;>exact hr
  have jw:w1.heap[b]? =some (.map es clock):=by rcases hal with rfl |rfl<;>exact hb
  have qy:=MapKept.heap_set (o':= .mapIter (some b) clock (seen.push e.born) clock) kQ;have hb':(ChangeMaps.setBlock w1 r (.mapIter (some b) clock (seen.push e.born) clock)).heap[b]? =some (.map es clock):=(qy.2 b hne).trans jw;refine .inr ⟨e,_,_,wt e hnl he,hem,hrun,⟨hb',_,_,qy.1,aG _,akO es seen e.born⟩, ?_, ?_,run_entry_at _ r b clock seen es clock e qy.1 hb' hem hn⟩
  .rcases hal with rfl |rfl<;>exact⟨rfl,rfl,rfl,by simp [ChangeMaps.setBlock],fun i _ hi=>qy.2 i (fun e1=>hi (by rw [e1]))⟩
  .rcases hal with rfl |rfl<;>simp [ChangeMaps.setBlock]
theorem oC.kept {w w':World} {b r:Nat} {es:Array MapEntry} {clock:Nat} {rem:List MapEntry} (h:oC w b r es clock rem) (h1:w'.heap[b]? =w.heap[b]?) (h2:w'.heap[r]? =w.heap[r]?):oC w' b r es clock rem:=
 ⟨by rw [h1];exact h.m,by rw [h2];exact h.it⟩
section
variable {F:Fence} {n:Nat} {P:Program} (w:World) {ops:Array Oper} {rest:List Oper} {o:Oper} {a:Act} {Q:Exit->Act->World->Prop}
theorem akP (hg:o.guard=none) (m:Operand) (t:TypeId) (hop:o.op=Op.range t m) (k e:TypeId) (ht:P.underlying t=some (.map k e)) (b:Nat) (es:Array MapEntry) (clock:Nat) (hm:a.eval m= .map (some b)) (hb:w.heap[b]? =some (.map es clock)) (r:Nat) (hr:w.heap.size=r)
  (hK:oC (w.alloc (.mapIter (some b) clock #[] clock)) b r es clock es.toList->wpListIn F n P ops Q rest (a.put o.dst (.pointer (some ⟨r,0,none⟩))) (w.alloc (.mapIter (some b) clock #[] clock))):
  wpListIn F n P ops Q (o::rest) a w:=by
 subst hr;refine wpListIn_plain hg fun K' hK'=> ?_
 have hrun:=run_range_map (P:=P) w t k e b es clock ht hb;have hlt:b<w.heap.size:=(cV.1 hb).1;unfold Oper.wpIn;refine⟨?_, ?_⟩
 .simp [Oper.about,hop]
 .rw [Oper.semAt_plain F _ _ (by rw [hop];intro c tA;cases tA)];simp [execOp,hop,hm,hrun,Result.andThen];refine hK' _ _ (hK ⟨(heap_alloc_old w _ hlt).trans hb, #[],clock,heap_alloc_new w _,aG _, ?_⟩);unfold leftOf;rw [Array.toList_filter];exact List.filter_eq_self.2 fun x _=>by simp
theorem akQ (hg:o.guard=none) (it:Operand) (hop:o.op=Op.next it false) (b r:Nat) (es:Array MapEntry) (clock:Nat) (rem:List MapEntry) (A3:∀x∈es.toList,x.born<clock) (hn:(es.toList.map (·.born)).Nodup)
  (hit:a.eval it= .pointer (some ⟨r,0,none⟩)) (h:oC w b r es clock rem) (hDone:rem=[]->wpListIn F n P ops Q rest (a.put o.dst (.tuple #[.bool false])) w)
  (hMore:∀e sG w',rem.Perm (e::sG)->e∈es.toList->oC w' b r es clock sG->w.grownBy w' (some r)->w'.heap.size=w.heap.size->(Instr.entry (.pointer (some ⟨r,0,none⟩))).run P w'= .ok (.tuple #[e.key,e.val]) w'->
    wpListIn F n P ops Q rest (a.put o.dst (.tuple #[.bool true,e.key,e.val])) w'):
  wpListIn F n P ops Q (o::rest) a w:=by
 refine wpListIn_plain hg fun K' hK'=> ?_
 unfold Oper.wpIn;refine⟨by simp [Oper.about,hop], ?_⟩;rw [Oper.semAt_plain F _ _ (by rw [hop];intro c tA;cases tA)];rcases h.next (P:=P) A3 hn o.type with⟨h0,hrun⟩|⟨e,sG,w',g1,g2,hrun,g3,g4,g5,g6⟩
 .simp [execOp,hop,hit,hrun,Result.andThen];exact hK' _ _ (hDone h0)
 .simp [execOp,hop,hit,hrun,Result.andThen];exact hK' _ _ (hMore e sG w' g1 g2 g3 g4 g5 g6)
end
end Go.Proofs.YtibikmmdbdlafaaGreatDoor
namespace Go.Proofs.YtibikmmdbdlafaaGreatDoor
open Go.RowKit
def Row (w:World) (B:Nat) (A:Option Addr) (vs:List Value):Prop:=
 vs=[]\/∃b off,A=some ⟨b,off,none⟩/\b<B/\∀i,i<vs.length->w.cell? ⟨b,off+i,none⟩=some (vs.getD i (.bool false))
theorem Row.nil {w:World} {B:Nat} {A:Option Addr}:Row w B A []:= .inl rfl
theorem Row.open {w:World} {B:Nat} {A:Option Addr} {vs:List Value} (h:Row w B A vs) (hn:0<vs.length):
  ∃b off,A=some ⟨b,off,none⟩/\b<B/\∀i,i<vs.length->w.cell? ⟨b,off+i,none⟩=some (vs.getD i (.bool false)):=by
 rcases h with rfl |h
 .simp at hn
 .exact h
theorem Row.below {w w':World} {B B':Nat} {A:Option Addr} {vs:List Value} (h:Row w B A vs) (hb:Below B' w w') (hB:B<=B'):Row w' B A vs:=by
 rcases h with rfl |⟨b,off,rfl,hlt,hc⟩
 .exact .inl rfl
 .exact .inr ⟨b,off,rfl,hlt,fun i hi=>(hb.cell (p:=⟨b,off+i,none⟩) (by simp;omega)).trans (hc i hi)⟩
theorem Row.drewN {w:World} {B:Nat} {A:Option Addr} {vs:List Value} (h:Row w B A vs) (k:Nat):Row (w.drewN k) B A vs:=h
theorem Row.drew {w:World} {B:Nat} {A:Option Addr} {vs:List Value} (h:Row w B A vs):Row w.drew B A vs:=h
theorem Row.alloc {w:World} {B:Nat} {A:Option Addr} {vs:List Value} (h:Row w B A vs) (hB:B<=w.heap.size) (o:Obj):Row (w.alloc o) B A vs:=
 h.below ((Below.refl B w).alloc hB o) (aG _)
theorem Row.new (w:World) (e:TypeId) (vs:List Value):Row (w.alloc (.cells vs.toArray e)) (w.heap.size+1) (some ⟨w.heap.size,0,none⟩) vs:=
 .inr ⟨w.heap.size,0,rfl,by omega,fun i hi=>by
   rw [World.cell?_alloc_at _ _ _ _ rfl];simp [ao,hi]⟩
theorem Row.int {w:World} {B:Nat} {A:Option Addr} {xs:List Int} (h:Row w B A (xs.map (Value.int .i64))) (k:Nat) (hk:k<xs.length):
  ∃b off x,A=some ⟨b,off,none⟩/\b<B/\xs[k]? =some x/\w.cell? ⟨b,off+k,none⟩=some (.int .i64 x):=by
 obtain⟨b,off,h1,h2,h3⟩:=h.open (by simp;omega);refine⟨b,off,xs[k],h1,h2,mV hk, ?_⟩;rw [h3 k (by simpa using hk)];simp [ao,hk]
def eE (w:World) (g:Nat) (t:TypeId) (cs:Array Value):Prop:=w.heap[g]? =some (.cells cs t (0,0))
section
variable {w w':World} {g:Nat} {t:TypeId} {cs:Array Value}
theorem eE.lt (h:eE w g t cs):g<w.heap.size:=by
 rcases Nat.lt_or_ge g w.heap.size with hlt|hge
 .exact hlt
 .unfold eE at h;rw [Array.getElem?_eq_none hge]at h;cases h
theorem eE.cell (h:eE w g t cs) (i:Nat):w.cell? ⟨g,i,none⟩=cs[i]? :=cell_of_row w g i cs t (0,0) h
theorem eE.frozen (h:eE w g t cs) (i:Nat):w.frozen? ⟨g,i,none⟩=false:=by
 unfold eE at h;simp [World.frozen?,h]
theorem eE.new (w:World) (t:TypeId) (cs:Array Value):eE (w.alloc (.cells cs t)) w.heap.size t cs:=heap_alloc_new w _
theorem eE.drew (h:eE w g t cs):eE w.drew g t cs:=h
theorem eE.drewN (h:eE w g t cs) (n:Nat):eE (w.drewN n) g t cs:=h
theorem eE.alloc (h:eE w g t cs) (o:Obj):eE (w.alloc o) g t cs:=(Below.heap_alloc w o g h.lt).trans h
theorem eE.below {B:Nat} (h:eE w g t cs) (hb:Below B w w') (hg:g<B):eE w' g t cs:=(hb.block g hg).trans h
theorem eE.set (h:eE w g t cs) (i:Nat) (u:Value):eE (w.setCell ⟨g,i,none⟩ u) g t (cs.setIfInBounds i u):=by
 unfold eE at h ⊢;simp [World.setCell,Array.getElem?_modify,h]
theorem eE.gw (h:eE w g t cs) {p:Addr} (hp:g≠p.block) (u:Value):eE (w.setCell p u) g t cs:=(Below.heap_setCell w p u g hp).trans h
end
end Go.Proofs.YtibikmmdbdlafaaGreatDoor
namespace Go.Proofs.YtibikmmdbdlafaaGreatDoor
open Go.RowKit Sv Go.Proofs.Tryz
theorem Tryz.UQ:(prog.info? 3).map (fun i=>(i.zero,i.size,i.bytes))=some (some (.int .i64 0),1,8):=by kernel_rfl
noncomputable def UR:Code:=(f157.body).getD .skip
structure akR (yv:Value) (uF wP:Nat) (w:World) (ks:List Int) (a':Act) (W:World):Prop where
 size:a'.tmps.size=48
 t0:a'.tmps.getD 0 undef=yv
 t1:a'.tmps.getD 1 undef= .pointer (some ⟨uF,0,none⟩)
 t2:a'.tmps.getD 2 undef= .pointer (some ⟨wP,0,none⟩)
 t3:a'.tmps.getD 3 undef= .pointer (some ⟨w.heap.size,0,none⟩)
 t4:a'.tmps.getD 4 undef= .pointer (some ⟨w.heap.size+1,0,none⟩)
 un:∀t,t<48->t∉[0,1,2,3,4,5,10,11,12,13,14,15,16,17,18,19,20,21]->a'.tmps.getD t undef=undef
 df:a'.defers=[]
 b3:W.heap[w.heap.size]? =some (.cells #[yv] 148 (0,0))
 b4:∃v,W.heap[w.heap.size+1]? =some (.cells #[v] 93 (0,0))/\W.ownsRow (w.heap.size+3) 3 1 v ks.length (gR (ks.mergeSort fun x y=>decide (x<=y)))
 gr:w.grownBy W none
structure akS (yv:Value) (w:World) (b:Nat) (es:Array MapEntry) (clock:Nat) (ks:List Int) (wr:World) (v:Value) (ss:List Int) (rem:List MapEntry):Prop where
 rg:oC wr b (w.heap.size+2) es clock rem
 pm:(gR ss++rem.map (·.key)).Perm (gR ks)
 b3:wr.heap[w.heap.size]? =some (.cells #[yv] 148 (0,0))
 b4:wr.heap[w.heap.size+1]? =some (.cells #[v] 93 (0,0))
 own:wr.ownsRow (w.heap.size+3) 3 1 v ss.length (gR ss)
 gr:w.grownBy wr none
 sz:w.heap.size+3<=wr.heap.size
theorem Hk {a b:List Int} (h:a.Perm b):(a.mergeSort fun x y=>decide (x<=y))=b.mergeSort fun x y=>decide (x<=y):=by
 have GX:∀x y z:Int,decide (x<=y)=true->decide (y<=z)=true->decide (x<=z)=true:=fun x y z h1 h2=>by rw [bB]at*;omega
 have tt:∀x y:Int,(decide (x<=y)||decide (y<=x))=true:=fun x y=>by rw [Bool.or_eq_true,bB,bB];omega
 refine List.Perm.eq_of_pairwise (le:=fun x y=>decide (x<=y)=true) (fun x y _ _ h1 h2=>by rw [bB]at*;omega) (List.pairwise_mergeSort GX tt a) (List.pairwise_mergeSort GX tt b) ?_;exact(List.mergeSort_perm a _).trans (h.trans (List.mergeSort_perm b _).symm)
theorem akT {a b:List Int} (h:(gR a).Perm (gR b)):a.Perm b:=by
 have h2:=h.map (fun v:Value=>match v with | .int _ n=>n|_=>0);have e:∀l:List Int,(gR l).map (fun v:Value=>match v with | .int _ n=>n|_=>0)=l:=fun l=>by
  unfold gR;rw [List.map_map];exact List.map_id' l
 rwa [e,e]at h2
theorem akU {w w':World} {base size n:Nat} {e:TypeId} {v:Value} {vs:List Value} (h:w.ownsRow base e size v n vs) (hk:∀b,some b=v.ownBlock->w'.heap[b]? =w.heap[b]?):w'.ownsRow base e size v n vs:=by
 refine⟨h.1, ?_⟩;rcases h.2 with hn|⟨g,cap,cur,rfl,MK,hg,rest⟩
 .exact .inl hn
 .exact .inr ⟨g,cap,cur,rfl,MK,(hk g rfl).trans hg,rest⟩
theorem akV {w:World} {base size n:Nat} {e:TypeId} {v:Value} {vs:List Value} (h:w.ownsRow base e size v n vs):∃A c,v= .slice A n c:=by
 rcases h.2 with⟨rfl,rfl⟩|⟨g,cap,cur,rfl,_⟩
 .exact⟨_,_,rfl⟩
 .exact⟨_,_,rfl⟩
theorem oC.left {w:World} {b r:Nat} {es:Array MapEntry} {clock:Nat} {rem:List MapEntry} (h:oC w b r es clock rem):w.rangeLeft b r=rem.length:=by
 obtain⟨seen,c0,h1,_,h3⟩:=h.it;unfold World.rangeLeft;rw [h.m,h1];simp only;rw [<-h3,Array.length_toList]
theorem rp {n m:Nat} {P:Program} {f:FuncId} {args:Array Value} {w:World} {R:Ending->World->Prop} (h:CallsIn Fence.wide n P f args w R):CallsIn Fence.wide m P f args w R:=callsIn_wide.2 (callsIn_wide.1 h)
theorem akW {w:World} {b:Nat} {o:Nat} {v:Value} (h:w.cell? ⟨b,o,none⟩=some v):b<w.heap.size:=by
 unfold World.cell? at h;cases hb:w.heap[b]? with
 |none=>simp [hb]at h
 |some x=>exact(cV.1 hb).1
set_option maxRecDepth 100000 in
set_option maxHeartbeats 4000000 in
theorem akX (m yC:Nat) (uF wP b:Nat) (es:Array MapEntry) (clock:Nat) (ks:List Int) (w:World) (R:Ending->World->Prop) (x0:w.cell? ⟨uF,0,none⟩=some (.map (some b))) (hb:w.heap[b]? =some (.map es clock))
  (A3:∀x∈es.toList,x.born<clock) (hn:(es.toList.map (·.born)).Nodup) (hk:es.toList.map (·.key)=gR ks) (hsz:ks.length<=100000)
  (hK:∀a' W,akR (.func (.yield yC) #[] #[]) uF wP w ks a' W->(cat UR [1,1,1,1]).wpIn Fence.wide m prog (bodyPostM Fence.wide m prog f157 R) a' W):
  CallsIn Fence.wide m prog 157 #[.func (.yield yC) #[] #[], .pointer (some ⟨uF,0,none⟩), .pointer (some ⟨wP,0,none⟩)] w R:=by
 have akY:=Lib.hid hK;have akZ:=Lib.hid A3;have LY:=Lib.hid hn;have US:=Lib.hid hk;have ij:b<w.heap.size:=(cV.1 hb).1;have ak0:=Lib.hid hb;have asY:uF<w.heap.size:=akW x0;obtain⟨i0,tv,MM,MN,UT⟩:=info_parts Tryz.UQ;clear hK A3 hn hk hb;refine callsIn_of_wp_marks func157 rfl trivial ?_;simp only [Tryz.ntmps157,List.size_toArray,List.length_cons,List.length_nil,Nat.reduceAdd,Nat.reduceSub,Array.replicate_succ,Array.replicate_zero,List.push_toArray,List.append_toArray,List.nil_append,List.cons_append]
 gi_wp2_with (first
  |(gi_at_range;refine akP _ rfl _ 135 rfl 3 3 Tryz.underlying135 b es clock rfl (by rw [heap_alloc_old _ _ (by simp;omega),heap_alloc_old _ _ ij];exact ak0.out) (w.heap.size+2) (by simp) ?_;intro ak1)
  |gi_in)
 go_frame
 gi_loopw [] (fun wr=>∃v ss rem,akS (.func (.yield yC) #[] #[]) w b es clock ks wr v ss rem) (fun wr=>wr.rangeLeft b (w.heap.size+2))
 case atStart=>
  refine⟨.slice none 0 0,[],es.toList,ak1, ?_, ?_, ?_,World.ownsRow_nil _ _ _ _, ?_,by simp⟩
  .rw [US.out];exact List.Perm.refl _
  .rw [heap_alloc_old _ _ (by simp;omega),heap_alloc_old _ _ (by simp),heap_alloc_new]
  .rw [heap_alloc_old _ _ (by simp)];have:=heap_alloc_new (w.alloc (.cells #[Value.func (Fn.yield yC) #[] #[]] 148)) (.cells #[Value.slice none 0 0] 93);rwa [show(w.alloc (.cells #[Value.func (Fn.yield yC) #[] #[]] 148)).heap.size=w.heap.size+1 by simp]at this
  .exact((World.grownBy_alloc w _ none).andThen (World.grownBy_alloc _ _ none) fun j hj=>by cases hj).andThen (World.grownBy_alloc _ _ none) fun j hj=>by cases hj
 case round=>
  obtain⟨v,ss,rem,hL⟩:=hrel;have iX:=Lib.hid hL;have UU:=hL.rg;clear hL
  gi_wp2_with (first
   |(gi_at_next;refine akQ _ rfl _ rfl b (w.heap.size+2) es clock rem akZ.out LY.out rfl UU ?_ ?_)
   |gi_in)
  .intro ak2;have qx:wr.cell? ⟨w.heap.size+1,0,none⟩=some v:=cell_of_row _ _ 0 #[v] _ _ iX.out.b4;have hst:=(callsIn_wide.2 (akA _ _ v ss wr iX.out.own ?hlen):CallsIn Fence.wide 0 _ _ _ _ _)
   case hlen=>
    have h1:=iX.out.pm.length_eq;simp at h1;omega
   have ak3:=Lib.hid hst;clear hst
   gi_wp2
   refine⟨trivial,(fun h=>by cases h),(rp ak3.out).mono ?_⟩;rintro e w' ⟨rfl,hown,hgr⟩;rename_i asZ h1 as0 h2;refine h2 _ _ ?_;refine wpListIn_nil ?_;refine h1 _ _ ?_;refine akY.out _ _ ?_;refine⟨rfl,rfl,rfl,rfl,rfl,rfl, ?_,rfl, ?_,⟨v, ?_, ?_⟩, ?_⟩
   .intro t ht hnt;simp only [ep,j7,or_false,not_or]at hnt;have ht2:t=6\/t=7\/t=8\/t=9\/t=22\/t=23\/t=24\/t=25\/t=26\/t=27\/t=28\/t=29\/t=30\/t=31\/t=32\/t=33\/t=34\/t=35\/t=36\/t=37\/t=38\/t=39\/t=40\/t=41\/t=42\/t=43\/t=44\/t=45\/t=46\/t=47:=by omega
    rcases ht2 with rfl |rfl |rfl |rfl |rfl |rfl |rfl |rfl |rfl |rfl |rfl |rfl |rfl |rfl |rfl |rfl |rfl |rfl |rfl |rfl |rfl |rfl |rfl |rfl |rfl |rfl |rfl |rfl |rfl |rfl<;>rfl
   .exact(hgr.block _ (Nat.lt_of_lt_of_le (Nat.lt_add_of_pos_right (by decide)) iX.out.sz) fun e=>by have:=(iX.out.own.lt _ e.symm).1;omega).trans iX.out.b3
   .exact(hgr.block _ (by have:=iX.out.sz;omega) fun e=>by have:=(iX.out.own.lt _ e.symm).1;omega).trans iX.out.b4
   .have su:=iX.out.pm;rw [ak2,List.map_nil,List.append_nil]at su;have su:=akT su;rw [<-su.length_eq,<-Hk su];exact hown
   .exact iX.out.gr.andThen hgr fun j hj=> .inl (by have:=(iX.out.own.lt j hj).1;omega)
  .intro e sG w2 su hmem UW GY hs2 ak4;obtain⟨x,hx⟩:∃x,e.key= .int .i64 x:=by
    have:e.key∈gR ks:=by rw [<-US.out];exact List.mem_map.2 ⟨e,by simpa using hmem,rfl⟩
    obtain⟨x,_,hx⟩:=List.mem_map.1 this;exact⟨x,hx.symm⟩
   have UX:=iX.out.pm;have hlen:ss.length+1<=100000:=by
    have h1:=UX.length_eq;have h2:=su.length_eq;simp at h1 h2;omega
   have ak5:=Lib.hid hx;rw [hx]at ak4 ⊢;have hlt:∀k,v.ownBlock=some k->w.heap.size+3<=k/\k<wr.heap.size:=iX.out.own.lt;have iO:v.ownBlock=none\/v.ownBlock≠some (w.heap.size+2):=by
    cases ak6:v.ownBlock with
    |none=>exact .inl rfl
    |some k=>right;intro e;cases e;have:=(hlt _ ak6).1;omega
   have ak7:=iX.out.own.kept GY iO;have Dk:eE w2 (w.heap.size+1) 93 #[v]:=(GY.block _ (by have:=iX.out.sz;omega) (by simp)).trans iX.out.b4;have ak8:=Lib.hid (show w2.heap[w.heap.size+1]? =_ from Dk);have qx:=Dk.cell 0;have as1:=Dk.frozen 0;have UY:=Lib.hid UW;have MO:=Lib.hid GY;have UZ:=Lib.hid su;have MP:=Lib.hid hs2;clear su UX hmem UW GY hs2 hx iO
   gi_wp2_with (first
    |(gi_at_builtin;refine wpListIn_append_own _ rfl _ _ 93 rfl (w.heap.size+3) 3 i0 (.int .i64 0) 1 8 Tryz.underlying93 tv MM MN UT rfl (by decide) _ _ _ rfl (ak7.alloc _) ⟨w2.heap.size,0,none⟩ 1 1 [.int .i64 x] rfl rfl (cell_one_new _ _ _) ?hone ?c3 ?c4 ?c5 ?_)
    |gi_in)
   case hone=>intro u hu;simp at hu;subst hu;rfl
   case c3=>unfold maxLen;omega
   case c4=>omega
   case c5=>have:=iX.out.sz;have:=MP.out;simp;omega
   intro v5 yD MQ MR ak9;obtain⟨GZ,c5,rfl⟩:=akV MQ;have hs2:=MP.out;have as2:=iX.out.sz;have hlo:∀k,k<w.heap.size+3->some k≠v.ownBlock:=fun k hk e=>by have:=(hlt _ e.symm).1;omega
   have up:∀k,k<w.heap.size+3->yD.heap[k]? =w2.heap[k]? :=fun k hk=>(MR.block k (by simp;omega) (hlo k hk)).trans (heap_alloc_old _ _ (by omega))
   have G0:eE yD (w.heap.size+1) 93 #[v]:=(up _ (by omega)).trans Dk;have vR:=G0.cell 0;have as3:=G0.frozen 0;have MS:=Lib.hid up;have ala:=Lib.hid G0;have alb:=Lib.hid MQ;have MT:=Lib.hid MR;clear up G0 MQ MR ak9 hlo hs2;have gw:∀k,k≠w.heap.size+1->(yD.setCell ⟨w.heap.size+1,0,none⟩ (.slice GZ (ss.length+1) c5)).heap[k]? =yD.heap[k]? :=fun k hk=>Below.heap_setCell _ _ _ k hk
   have alc:=Lib.hid gw;have U0:=Lib.hid (show oC (yD.setCell ⟨w.heap.size+1,0,none⟩ (.slice GZ (ss.length+1) c5)) b (w.heap.size+2) es clock sG from UY.out.kept
    (by rw [gw _ (fun e=>by have:=UY.out.m;rw [e,ak8.out]at this;cases this),MS.out _ (by omega)])
    (by rw [gw _ (by omega),MS.out _ (by omega)]))
   clear gw
   gi_wp2
   go_roundw
   case rel=>
    have gw:=alc.out;have e1:gR ss++[Value.int .i64 x]=gR (ss++[x]):=by simp [gR]
    have h5:=alb.out;have ald:∀k,(Value.slice GZ (ss.length+1) c5).ownBlock=some k->w.heap.size+3<=k/\k<yD.heap.size:=h5.lt;refine⟨.slice GZ (ss.length+1) c5,ss++[x],sG,U0.out, ?_, ?_, ?_, ?_, ?_, ?_⟩
    .have hp2:=UZ.out.map (·.key);rw [List.map_cons,ak5.out]at hp2;have:=(List.Perm.append_left (gR ss) hp2).symm.trans iX.out.pm;rw [<-e1,q5];exact this
    .rw [gw _ (by omega),MS.out _ (by omega),MO.out.block _ (by omega) (by simp)];exact iX.out.b3
    .exact ala.out.set 0 _
    .have e2:(ss++[x]).length=ss.length+1:=by simp
     rw [e2,<-e1];exact akU h5 fun k hk=>gw k (by have:=(ald k hk.symm).1;omega)
    .have s1:=MT.out.size;have s2:=MO.out.size;refine(((iX.out.gr.andThen MO.out fun j hj=>by cases hj;exact .inl (by omega)).andThen (World.grownBy_alloc _ _ none) fun j hj=>by cases hj).andThen MT.out fun j hj=> .inl (by have:=(hlt j hj).1;omega)).andThen (grownBy_setCell' yD (w.heap.size+1) _) fun j hj=>by cases hj;exact .inl (by omega)
    .have s1:=MT.out.size;have s2:=MP.out;simp at s1;simp [World.setCell];omega
   case measure=>
    rw [U0.out.left,UU.left];have:=UZ.out.length_eq;simp at this;omega
section
variable {P:Program} {B:Nat} {ρ eM:Env} {H H0:ai} {w w0 W:World}
theorem ale (hH:bf P B ρ H w) (hg:w.grownBy W none):bf P B ρ H W/\bO ρ H w ρ H W:=by
 have old:∀b o,w.heap[b]? =some o->W.heap[b]? =some o:=fun b o h=>(hg.block b (cV.1 h).1 (by simp)).trans h
 refine⟨⟨fun i k hi=> ?_,hH.inj,hH.lt,cX hH.base hg.size,fun b A hb=> ?_⟩,⟨cB.refl _,fun _ _=>rfl,aG _,hg.size,hg.os,hg.tape,hg.output,fun b hb _=>hg.block b hb (by simp),fun _ _ h=>h,fun _ _ h=>h,fun _ _ h=> .inl h⟩⟩
 .obtain⟨b,c,o,e1,e2,e3,bU⟩:=hH.blk i k hi;exact⟨b,c,o,e1,old b o e2,e3,bU⟩
 .obtain⟨⟨e,fr,h1⟩,h2⟩:=hH.fz b A hb;exact⟨⟨e,fr,old b _ h1⟩,h2⟩
theorem MU (hH:bf P B ρ H W) (hs:bO eM H0 w0 ρ H W) (hB:B<=w0.heap.size) {b c:Nat} {k:bq} {o:Obj} (hb0:w0.heap.size<=b) (hni:¬oO ρ H b) (hfz:∀A,ρ.fz b=some A->False) (hn:ρ H.next=none) (hn0:H0.next<=H.next) (hb:W.heap[b]? =some o) (hk:gF P (ρ.put H.next b c) H.next k o):
  bf P B (ρ.put H.next b c) (H.new k) W/\bO eM H0 w0 (ρ.put H.next b c) (H.new k) W:=by
 have hle:cB ρ (ρ.put H.next b c):=Env.oQ hn;have hput:∀i,i≠H.next->ρ.put H.next b c i=ρ i:=fun i hi=>by simp [Env.put,hi]
 have hne:∀i k,H.get i=some k->i≠H.next:=fun i k hi=>Nat.ne_of_lt (hH.lt i k hi)
 refine⟨⟨fun i k' hi=> ?_,fun i j eC eR b' ci cj hi hj iK fu=> ?_,fun i k' hi=> ?_,hH.base,fun b' A hb'=>⟨(hH.fz b' A hb').1,fun i k' c' hi hr=> ?_⟩⟩,
  ⟨hs.le.trans hle,fun i hi=> ?_,Nat.le_succ_of_le hs.next,hs.size,hs.os,hs.tape,hs.output,hs.frame,fun b' hl ho=> ?_,fun b' hl ho=> ?_,hs.ng⟩⟩
 .rw [ai.gv]at hi;split at hi
  .rename_i e;subst e;cases hi;exact⟨b,c,o,Env.dr ..,hb,hk,fun _=>cX hB hb0⟩
  .obtain⟨b',c',o',e1,e2,e3,bU⟩:=hH.blk i k' hi;exact⟨b',c',o',hle _ _ e1,e2,e3.mono hle,bU⟩
 .rw [ai.gv]at hi hj;split at hi<;>split at hj
  .rename_i e1 e2;rw [<-e1,<-e2]
  .rename_i e1 e2;subst e1;rw [Env.dr]at iK;rw [hput j (fun x=>e2 x.symm)]at fu;cases iK;exact(hni ⟨j,eR,cj,hj,fu⟩).elim
  .rename_i e1 e2;subst e2;rw [Env.dr]at fu;rw [hput i (fun x=>e1 x.symm)]at iK;cases fu;exact(hni ⟨i,eC,ci,hi,iK⟩).elim
  .rename_i e1 e2;rw [hput i (fun x=>e1 x.symm)]at iK;rw [hput j (fun x=>e2 x.symm)]at fu;exact hH.inj i j eC eR b' ci cj hi hj iK fu
 .rw [ai.gv]at hi;rw [ai.Ir];split at hi
  .rename_i e;omega
  .have:=hH.lt i k' hi;omega
 .rw [ai.gv]at hi;split at hi
  .rename_i e;subst e;rw [Env.dr]at hr;cases hr;exact(hfz A hb').elim
  .rename_i e;rw [hput i (fun x=>e x.symm)]at hr;exact(hH.fz b' A hb').2 i k' c' hi hr
 .rw [ai.Ir]at hi;rw [hput i (by omega)];exact hs.ext i (by omega)
 .obtain⟨i,k',c',h1,h2,h3⟩:=ho;rw [ai.gv]at h1;split at h1
  .rename_i e;subst e;rw [Env.dr]at h3;cases h3;omega
  .rename_i e;rw [hput i (fun x=>e x.symm)]at h3;exact hs.own b' hl ⟨i,k',c',h1,h2,h3⟩
 .obtain⟨i,k',c',h1,h3⟩:=ho;rw [ai.gv]at h1;split at h1
  .rename_i e;subst e;rw [Env.dr]at h3;cases h3;omega
  .rename_i e;rw [hput i (fun x=>e x.symm)]at h3;exact hs.mj b' hl ⟨i,k',c',h1,h3⟩
end
noncomputable section
def MV (e:MapEntry):Option Int:=match e.key with | .int .i64 n=>some n|_=>none
def A4:List MapEntry->Option (List Int)
 |[]=>some []
 |e::l=>match MV e,A4 l with |some n,some r=>some (n::r)|_,_=>none
def Hm:List Nat->Bool
 |[]=>true
 |a::l=>cond (kR a l) false (Hm l)
def qk (clock:Nat):List MapEntry->Bool
 |[]=>true
 |e::l=>cond (Nat.ble (e.born+1) clock) (qk clock l) false
def yE (x:Int):List Int->List Int
 |[]=>[x]
 |y::l=>cond (decide (x<=y)) (x::y::l) (y::yE x l)
def nK:List Int->List Int
 |[]=>[]
 |x::l=>yE x (nK l)
def G1 (args:List aa) (i:Nat):aq aa:=[5,10,11,12,13,14,15,16,17,18,19,20,21].foldl (fun T t=>T.set t (some .bot)) (((de args .nil 0).set 3 (some (.ptr i 0))).set 4 (some (.ptr (Nat.succ (Nat.succ i)) 0)))
def U1 (yi:Nat) (ks:List Int) (H:ai):ai:=
 ((H.new (.cells 148 [.yield yi] true false false)).new (.cells 3 (ks.map fun n=> .raw (.int .i64 n)) false false false)).new (.cells 93 [.slice (Nat.succ H.next) 0 ks.length .any] true false false)
def MW (P:Program) (fn:Func) (r:R):aK:= @R.rec (fun _=>aK) .no (fun T H m=>j9 P fn T H m) (fun _ _ _ _=> .no) (fun _ _ _ _=> .no) (fun T H m=>j9 P fn T H m) r
def U2 (ih:dV) (args:List aa) (yi:Nat) (ks:List Int) (H:ai):aK:=
 MW prog f157 (ih (cat UR [1,1,1,1]) 48 none (G1 args H.next) (U1 yi ks H) [])
def U3 (ih:dV) (args:List aa) (yi:Nat) (H:ai) (b:Option bq):aK:=match b with
 |some (.map es clock)=>match A4 es.toList with
  |some ks=>cond (Nat.ble 1 ks.length&&(Nat.ble ks.length 100000&&(qk clock es.toList&&Hm (es.toList.map (·.born))))) (U2 ih args yi (nK ks) H) .no
  |none=> .no
 |_=> .no
def Dl (ih:dV) (args:List aa) (H:ai):aK:=match args with
 |[.yield yi, .ptr oD 0, .ptr jp 0]=>match H.get oD with
  |some (.cells _ [.map lm] _ _ _)=>U3 ih [.yield yi, .ptr oD 0, .ptr jp 0] yi H (H.get lm)
  |_=> .no
 |_=> .no
def yF (ih:dV):er:=fun f args H=> @Bool.rec (fun _=>aK) (lL prog ih f args H) (Dl ih args H) (Nat.beq f 157)
theorem U4:∀{l:List MapEntry} {ks:List Int},A4 l=some ks->l.map (·.key)=gR ks
 |[],ks,h=>by cases h;rfl
 |e::l,ks,h=>by
  unfold A4 at h;cases h1:MV e with
  |none=>rw [h1]at h;cases h
  |some n=>
   cases h2:A4 l with
   |none=>rw [h1,h2]at h;cases h
   |some r=>
    rw [h1,h2]at h;cases h;have he:e.key= .int .i64 n:=by
     unfold MV at h1;split at h1
     .rename_i x hx;cases h1;exact hx
     .cases h1
    show e.key::l.map (·.key)=_;rw [he,U4 h2];rfl
theorem U5 {a:Nat}:∀{l:List Nat},kR a l=false->a∉l
 |[],_=>by simp
 |b::l,h=>by
  have h:(@Bool.rec (fun _=>Bool) (kR a l) true (Nat.beq b a))=false:=h;cases hb:Nat.beq b a with
  |true=>rw [hb]at h;cases h
  |false=>
   rw [hb]at h;rw [ep];rintro(rfl |hm)
   .rw [Nat.beq_refl]at hb;cases hb
   .exact U5 h hm
theorem U6:∀{l:List Nat},Hm l=true->l.Nodup
 |[],_=>List.nodup_nil
 |a::l,h=>by
  unfold Hm at h;cases hm:kR a l with
  |true=>rw [hm]at h;cases h
  |false=>rw [hm]at h;exact List.nodup_cons.2 ⟨U5 hm,U6 h⟩
theorem wv {clock:Nat}:∀{l:List MapEntry},qk clock l=true->∀x∈l,x.born<clock
 |[],_,x,hx=>by cases hx
 |e::l,h,x,hx=>by
  unfold qk at h;cases hb:Nat.ble (e.born+1) clock with
  |false=>rw [hb]at h;cases h
  |true=>
   rw [hb]at h;rcases ep.1 hx with rfl |hx
   .exact bS hb
   .exact wv h x hx
theorem MX (x:Int):∀l:List Int,(yE x l).Perm (x::l)
 |[]=>List.Perm.refl _
 |y::l=>by
  unfold yE;cases hd:decide (x<=y)with
  |true=>exact List.Perm.refl _
  |false=>exact((MX x l).cons y).trans (List.Perm.swap _ _ _)
theorem MY:∀l:List Int,(nK l).Perm l
 |[]=>List.Perm.refl _
 |x::l=>(MX x (nK l)).trans ((MY l).cons x)
theorem U7 (x:Int):∀{l:List Int},l.Pairwise (fun a b=>decide (a<=b)=true)->(yE x l).Pairwise (fun a b=>decide (a<=b)=true)
 |[],_=>by unfold yE;simp
 |y::l,h=>by
  unfold yE;rw [List.pairwise_cons]at h;cases hd:decide (x<=y)with
  |true=>
   refine List.pairwise_cons.2 ⟨fun z hz=> ?_,List.pairwise_cons.2 h⟩;rcases ep.1 hz with rfl |hz
   .exact hd
   .have:=h.1 z hz;rw [bB]at*;omega
  |false=>
   refine List.pairwise_cons.2 ⟨fun z hz=> ?_,U7 x h.2⟩;rcases ep.1 ((MX x l).mem_iff.1 hz)with rfl |hz
   .rw [decide_eq_false_iff_not]at hd;rw [bB];omega
   .exact h.1 z hz
theorem U8:∀l:List Int,(nK l).Pairwise (fun a b=>decide (a<=b)=true)
 |[]=>List.Pairwise.nil
 |x::l=>U7 x (U8 l)
theorem alf (l:List Int):(l.mergeSort fun x y=>decide (x<=y))=nK l:=by
 have GX:∀x y z:Int,decide (x<=y)=true->decide (y<=z)=true->decide (x<=z)=true:=fun x y z h1 h2=>by rw [bB]at*;omega
 have tt:∀x y:Int,(decide (x<=y)||decide (y<=x))=true:=fun x y=>by rw [Bool.or_eq_true,bB,bB];omega
 refine List.Perm.eq_of_pairwise (le:=fun x y=>decide (x<=y)=true) (fun x y _ _ h1 h2=>by rw [bB]at*;omega) (List.pairwise_mergeSort GX tt l) (U8 l) ?_;exact(List.mergeSort_perm l _).trans (MY l).symm
theorem U9 {P:Program} {fn:Func} {r:R} {v:aa} {H':ai} (h:MW P fn r= .ok v H'):∃e T1 H1 m1,r.out=some (e,T1,H1,m1)/\(e= .normal\/e= .ret)/\j9 P fn T1 H1 m1= .ok v H':=by
 unfold MW at h;cases r with
 |no=>cases h
 |normal T H m=>exact⟨_,_,_,_,rfl, .inl rfl,h⟩
 |exit _ _ _ _=>cases h
 |goto _ _ _ _=>cases h
 |ret T H m=>exact⟨_,_,_,_,rfl, .inr rfl,h⟩
theorem U' {ih:dV} {args:List aa} {H:ai} {v:aa} {H':ai} (h:Dl ih args H= .ok v H'):∃yi oD jp lm es clock ks el ex fz ro,args=[.yield yi, .ptr oD 0, .ptr jp 0]/\H.get oD=some (.cells el [.map lm] ex fz ro)/\H.get lm=some (.map es clock)/\A4 es.toList=some ks/\
  1<=ks.length/\ks.length<=100000/\qk clock es.toList=true/\Hm (es.toList.map (·.born))=true/\U2 ih args yi (nK ks) H= .ok v H':=by
 unfold Dl at h;split at h
 .rename_i yi oD jp;split at h
  .rename_i el lm ex fz ro hg;unfold U3 at h;split at h
   .rename_i es clock hm;split at h
    .rename_i ks hk;cases hb:(Nat.ble 1 ks.length&&(Nat.ble ks.length 100000&&(qk clock es.toList&&Hm (es.toList.map (·.born)))))with
     |false=>rw [hb]at h;cases h
     |true=>
      rw [hb]at h;simp only [ae]at hb;exact⟨yi,oD,jp,lm,es,clock,ks,el,ex,fz,ro,rfl,hg,hm,hk,bS hb.1,bS hb.2.1,hb.2.2.1,hb.2.2.2,h⟩
    .cases h
   .cases h
  .cases h
 .cases h
end
end Go.Proofs.YtibikmmdbdlafaaGreatDoor
