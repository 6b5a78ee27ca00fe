/- The reference of chapter 1: Of, Mul of small numbers that are not negative. -/
import Derived.Test.YtibikmmdbdlafaaGreatDoorZxRq
import Derived.Test.YtibikmmdbdlafaaGreatDoorZxSvGive
import Derived.Test.YtibikmmdbdlafaaGreatDoorZxNI
import Derived.Lib.RowBridge
import Derived.Test.YtibikmmdbdlafaaGreatDoorZxSvDraw6
import Derived.RangeFuncNested
import Derived.Maps.RangeRun
import Derived.Sort.MapsRangeIn
import Derived.RegionIn
import Derived.OwnWalkIn
import Derived.Maps.OwnIn
import Derived.WalkKit
import Derived.WalkSmall
import Derived.Below
import Derived.Laws.AppendOwn
set_option linter.unusedVariables false
set_option linter.unusedSimpArgs false
set_option linter.unusedSectionVars false
set_option maxRecDepth 100000
namespace Go.Proofs.YtibikmmdbdlafaaGreatDoor
open Go.RowKit Sv Go.Proofs.Tryz
noncomputable section
noncomputable def LC:bF:=a7 [Lw,FV]
def vV (p q:Int):ByteArray:=⟨(cr 20 p 1 []++(if q>1 then 47::cr 20 q 1 []else [])).toArray⟩
theorem aic (n d:Int) (h1:¬n< -4000000000000000000) (h2:¬n>4000000000000000000) (h3:¬d< -4000000000000000000) (h4:¬d>4000000000000000000) (h5:¬d<0) (h6:i6 (0-n)) (h7:(decide ((0:au.den (.int .i64))<=if 0-n>n then 0-n else n)&&decide ((0:au.den (.int .i64))<=d))=true) (h8:(bw n d)≠0) (h9:i6 (Int.tdiv n (bw n d))) (h10:i6 (Int.tdiv d (bw n d))) (h11:¬Int.tdiv n (bw n d)<0) (h12:i6 (0-Int.tdiv n (bw n d))) (dP:(decide ((0:au.den (.int .i64))<=if 0-Int.tdiv n (bw n d)>Int.tdiv n (bw n d)then 0-Int.tdiv n (bw n d)else Int.tdiv n (bw n d))&&(decide ((if 0-Int.tdiv n (bw n d)>Int.tdiv n (bw n d)then 0-Int.tdiv n (bw n d)else Int.tdiv n (bw n d))<=(9223372036854775807:au.den (.int .i64)))&&decide (1<=(20:au.den (.int .i64)))))=true) (gD:(ByteArray.mk #[]).size+(ByteArray.mk (List.toArray (cr 20 (if 0-Int.tdiv n (bw n d)>Int.tdiv n (bw n d)then 0-Int.tdiv n (bw n d)else Int.tdiv n (bw n d)) 1 []))).size<=9223372036854775807) (iZ:Int.tdiv d (bw n d)>1) (kW:(ByteArray.mk #[]++ByteArray.mk (List.toArray (cr 20 (if 0-Int.tdiv n (bw n d)>Int.tdiv n (bw n d)then 0-Int.tdiv n (bw n d)else Int.tdiv n (bw n d)) 1 []))).size+(ByteArray.mk #[(47:UInt8)]).size<=9223372036854775807) (tP:(decide ((0:au.den (.int .i64))<=Int.tdiv d (bw n d))&&(decide (Int.tdiv d (bw n d)<=(9223372036854775807:au.den (.int .i64)))&&decide (1<=(20:au.den (.int .i64)))))=true) (x9:(ByteArray.mk #[]++ByteArray.mk (List.toArray (cr 20 (if 0-Int.tdiv n (bw n d)>Int.tdiv n (bw n d)then 0-Int.tdiv n (bw n d)else Int.tdiv n (bw n d)) 1 []))++ByteArray.mk #[(47:UInt8)]).size+(ByteArray.mk (List.toArray (cr 20 (Int.tdiv d (bw n d)) 1 []))).size<=9223372036854775807) (h19:(ByteArray.mk #[]++ByteArray.mk (List.toArray (cr 20 (if 0-Int.tdiv n (bw n d)>Int.tdiv n (bw n d)then 0-Int.tdiv n (bw n d)else Int.tdiv n (bw n d)) 1 []))++ByteArray.mk #[(47:UInt8)]++ByteArray.mk (List.toArray (cr 20 (Int.tdiv d (bw n d)) 1 [])))=(vV (n/(↑(Int.gcd n d):Int)) (d/(↑(Int.gcd n d):Int)))):
  bq LC (fl LB []) 30 (f44.ntmps) [iv n,iv d] 12507 f44 true (sv (vV (n/Int.gcd n d) (d/Int.gcd n d))):=
 wy [af (bx (ab h1)),aJ h1,af (bx (ab h2)),aJ h2,af (bx (ab h3)),aJ h3,aJ h4,aJ h5,yi h6,af h7,ah h8,yi h9,yi h10,aJ h11,yi h12,af dP,ah gD,ah iZ,ah kW,af tP,ah x9,ax h19] 31874838871619119136349477082024326987223146561
theorem aid (n d:Int) (h1:¬n< -4000000000000000000) (h2:¬n>4000000000000000000) (h3:¬d< -4000000000000000000) (h4:¬d>4000000000000000000) (h5:¬d<0) (h6:i6 (0-n)) (h7:(decide ((0:au.den (.int .i64))<=if 0-n>n then 0-n else n)&&decide ((0:au.den (.int .i64))<=d))=true) (h8:(bw n d)≠0) (h9:i6 (Int.tdiv n (bw n d))) (h10:i6 (Int.tdiv d (bw n d))) (h11:¬Int.tdiv n (bw n d)<0) (h12:i6 (0-Int.tdiv n (bw n d))) (dP:(decide ((0:au.den (.int .i64))<=if 0-Int.tdiv n (bw n d)>Int.tdiv n (bw n d)then 0-Int.tdiv n (bw n d)else Int.tdiv n (bw n d))&&(decide ((if 0-Int.tdiv n (bw n d)>Int.tdiv n (bw n d)then 0-Int.tdiv n (bw n d)else Int.tdiv n (bw n d))<=(9223372036854775807:au.den (.int .i64)))&&decide (1<=(20:au.den (.int .i64)))))=true) (gD:(ByteArray.mk #[]).size+(ByteArray.mk (List.toArray (cr 20 (if 0-Int.tdiv n (bw n d)>Int.tdiv n (bw n d)then 0-Int.tdiv n (bw n d)else Int.tdiv n (bw n d)) 1 []))).size<=9223372036854775807) (iZ:¬Int.tdiv d (bw n d)>1) (kW:(ByteArray.mk #[]++ByteArray.mk (List.toArray (cr 20 (if 0-Int.tdiv n (bw n d)>Int.tdiv n (bw n d)then 0-Int.tdiv n (bw n d)else Int.tdiv n (bw n d)) 1 [])))=(vV (n/(↑(Int.gcd n d):Int)) (d/(↑(Int.gcd n d):Int)))):
  bq LC (fl LB []) 30 (f44.ntmps) [iv n,iv d] 8411 f44 true (sv (vV (n/Int.gcd n d) (d/Int.gcd n d))):=
 wy [af (bx (ab h1)),aJ h1,af (bx (ab h2)),aJ h2,af (bx (ab h3)),aJ h3,aJ h4,aJ h5,yi h6,af h7,ah h8,yi h9,yi h10,aJ h11,yi h12,af dP,ah gD,aJ iZ,ax kW] 105000044317847363205758449615782206513217
theorem S2:bB prog (bD LC):=cR (aT SW (aT LA dY))
theorem lc:∀(f:Nat) (n m:Int) (s:List UInt8),(cr f n m s).length<=s.length+f
 |0,_,_,s=>aE _
 |f+1,n,m,s=>by
  unfold cr;split
  .have:=lc f (n/10) m (og n::s);simp at this;omega
  .omega
theorem FW (l:List UInt8):(ByteArray.mk l.toArray).size=l.length:=rfl
theorem aie (n d:Int) (hn:0<=n) (hn2:n<=4000000000000000000) (hd:0<d) (gy:d<=4000000000000000000):Holds prog true 44 [iv n,iv d] (sv (vV (n/Int.gcd n d) (d/Int.gcd n d))):=by
 refine bJ (c:=LB) func44 rfl rfl fun w F=> ?_
 have k1:=aid n d;have k2:=aic n d;have hm:(if(0:Int)-n>n then(0:Int)-n else n)=n:=if_neg (by omega);have hg:0<Int.gcd n d:=Int.gcd_pos_of_ne_zero_right _ (by omega);simp only [bw,hm]at k1 k2;have e1:Int.tdiv n (Int.gcd n d:Int)=n/(Int.gcd n d:Int):=Int.tdiv_eq_ediv_of_nonneg hn;have e2:Int.tdiv d (Int.gcd n d:Int)=d/(Int.gcd n d:Int):=Int.tdiv_eq_ediv_of_nonneg (by omega);simp only [e1,e2]at k1 k2;generalize arb:(Int.gcd n d:Int)=g at*;have pZ:1<=g:=by omega
 have b1:0<=n/g:=Int.ediv_nonneg hn (by omega);have b2:n/g<=n:=Int.ediv_le_self _ hn;have b3:0<=d/g:=Int.ediv_nonneg (by omega) (by omega);have b4:d/g<=d:=Int.ediv_le_self _ (by omega);have hm2:(if(0:Int)-n/g>n/g then(0:Int)-n/g else n/g)=n/g:=if_neg (by omega);simp only [hm2]at k1 k2;have l1:=lc 20 (n/g) 1 [];have l2:=lc 20 (d/g) 1 [];have dD:=FW (cr 20 (n/g) 1 []);have z2:=FW (cr 20 (d/g) 1 []);simp only [List.length_nil,aw]at l1 l2;by_cases h1:d/g>1
 .have y1:(ByteArray.mk #[]++ByteArray.mk (cr 20 (n/g) 1 []).toArray).size=(cr 20 (n/g) 1 []).length:=by rw [tX,iJ];rfl
  have y2:(ByteArray.mk #[]++ByteArray.mk (cr 20 (n/g) 1 []).toArray++ByteArray.mk #[47]).size=(cr 20 (n/g) 1 []).length+1:=by rw [tX,iJ,cG,<-tX,y1];rfl
  refine bu S2 30 (k2 (by omega) (by omega) (by omega) (by omega) (by omega) (by omega) ?_ (by omega) (by omega) (by omega) (by omega) (by omega) ?_ ?_ h1 ?_ ?_ ?_ ?_)
  .rw [ae];exact⟨az hn,az (show(0:Int)<=d by omega)⟩
  .rw [ae,ae];exact⟨az b1,az (by omega),by decide⟩
  .rw [dD];show 0+_<=_;omega
  .rw [y1];show _+1<=_;omega
  .rw [ae,ae];exact⟨az b3,az (by omega),by decide⟩
  .rw [y2,z2];omega
  .apply gR;rw [iJ,iJ,iJ];unfold vV;rw [if_pos h1];show(([]++cr 20 (n/g) 1 [])++[47])++cr 20 (d/g) 1 []=cr 20 (n/g) 1 []++47::cr 20 (d/g) 1 [];simp
 .refine bu S2 30 (k1 (by omega) (by omega) (by omega) (by omega) (by omega) (by omega) ?_ (by omega) (by omega) (by omega) (by omega) (by omega) ?_ ?_ h1 ?_)
  .rw [ae];exact⟨az hn,az (show(0:Int)<=d by omega)⟩
  .rw [ae,ae];exact⟨az b1,az (by omega),by decide⟩
  .rw [dD];show 0+_<=_;omega
  .apply gR;rw [iJ];unfold vV;rw [if_neg h1,List.append_nil];rfl
end
noncomputable section
theorem Av {b:UInt8} {l:List UInt8}:bW (b::l)=(decide (48<=b.toNat)&&decide (b.toNat<=57)&&bW l):=rfl
theorem aif (a b:List UInt8):∀n:Int,(a++b).foldl (fun n b=>10*n+((b.toNat:Int)-48)) n=b.foldl (fun n b=>10*n+((b.toNat:Int)-48)) (a.foldl (fun n b=>10*n+((b.toNat:Int)-48)) n):=fun n=>List.foldl_append ..
theorem FX:∀(l:List UInt8) (n:Int),l.foldl (fun n b=>10*n+((b.toNat:Int)-48)) n=n*10^l.length+bg l
 |[],n=>by simp [bg]
 |b::r,n=>by
  have h1:=FX r (10*n+((b.toNat:Int)-48));have h2:=FX r (10*0+((b.toNat:Int)-48));unfold bg at*;simp only [List.foldl_cons,List.length_cons];rw [h1,h2,Int.pow_succ];grind
theorem pC (b:UInt8) (r:List UInt8):bg (b::r)=((b.toNat:Int)-48)*10^r.length+bg r:=by
 have:=FX r (10*0+((b.toNat:Int)-48));unfold bg at*;simp only [List.foldl_cons];rw [this];simp
theorem tm:∀(l:List UInt8),bW l=true->aY l=l.length
 |[],_=>rfl
 |b::r,h=>by
  rw [Av]at h;simp only [ae,bz]at h;unfold aY;rw [if_neg (by omega),tm r h.2,List.length_cons]
theorem tn:∀(l r:List UInt8),bW l=true->aY (l++47::r)=l.length
 |[],r,_=>by show aY (47::r)=0;unfold aY;rw [if_pos (by decide)]
 |b::l,r,h=>by
  rw [Av]at h;simp only [ae,bz]at h;rw [List.cons_append];unfold aY;rw [if_neg (by omega),tn l r h.2,List.length_cons]
theorem lK (s:ByteArray) (i j:Nat):ak (s.extract i j)=((ak s).take j).drop i:=by
 show(s.extract i j).data.toList=_;rw [ByteArray.data_extract,Array.toList_extract];simp [List.extract,List.drop_take]
end
noncomputable section
abbrev g0 (s:List (Int×Int)) (k:Nat):Int×Int:=s.getD k (0,0)
end
noncomputable section
def FY (n d:Int):Int:=n/Int.gcd n d
def Aw (n d:Int):Int:=d/Int.gcd n d
end
end Go.Proofs.YtibikmmdbdlafaaGreatDoor
namespace Go.Proofs.YtibikmmdbdlafaaGreatDoor
open Go.RowKit
abbrev gH (l:List Int):List Value:=l.map (Value.int .i64)
theorem aih {w:World} {base n:Nat} {v:Value} {xs:List Int} (h:w.ownsRow base 3 1 v n (gH xs)):xs.length=n/\((v= .slice none 0 0/\n=0)\/∃g cap cur,v= .slice (some ⟨g,0,none⟩) n cap/\base<=g/\w.heap[g]? =some (.cells cur 3 (0,0))/\n<=cap/\cap<=maxLen/\cur.size=cap/\cur.toList.take n=gH xs):=by
 obtain⟨h1,h2⟩:=h;simp only [Nat.mul_one,gW]at h1 h2;exact⟨h1,h2⟩
theorem aii {w:World} {g n:Nat} {cur:Array Value} {xs:List Int} (hg:w.heap[g]? =some (.cells cur 3 (0,0))) (ht:cur.toList.take n=gH xs):Sort.Holds (Value.int .i64) w g 0 xs.toArray:=fun j hj=>by
 have hj:j<xs.length:=by simpa using hj
 refine⟨?_, ?_⟩
 .rw [aw,cell_of_row w g j cur _ _ hg];have h1:(cur.toList.take n)[j]? =some (Value.int .i64 xs[j]):=by rw [ht];simp [hj]
  rw [List.getElem?_take]at h1;split at h1
  .simpa [hj]using h1
  .cases h1
 .simp [World.frozen?,hg]
theorem aij {w:World} {g n:Nat} {cur:Array Value} {xs ys:List Int} (hg:w.heap[g]? =some (.cells cur 3 (0,0))) (ht:cur.toList.take n=gH xs) (hl:ys.length=xs.length) (q:Nat):
  (Sort.putRow (Value.int .i64) (Sort.ahead w q) g 0 ys.toArray).heap[g]? =some (.cells (Sort.putCells (Value.int .i64) 0 ys.toArray cur) 3 (0,0))/\(Sort.putCells (Value.int .i64) 0 ys.toArray cur).size=cur.size/\(Sort.putCells (Value.int .i64) 0 ys.toArray cur).toList.take ys.length=gH ys:=by
 refine⟨?_,by simp [Sort.putCells], ?_⟩
 .show(w.heap.modify g (Sort.onCells _))[g]? =_;rw [Array.getElem?_modify,if_pos rfl,hg];rfl
 .have hlen:ys.length<=cur.size:=by
   have h1:=congrArg List.length ht;simp at h1;omega
  apply List.ext_getElem?;intro j;rw [List.getElem?_take];by_cases hj:j<ys.length
  .rw [if_pos hj,Array.getElem?_toList];have hc:j<cur.size:=by omega
   simp [Sort.putCells,hj,hc]
  .rw [if_neg hj,List.getElem?_eq_none (by simpa using hj)]
theorem aik {w:World} {g q:Nat} {d:Array Int}:w.grownBy (Sort.putRow (Value.int .i64) (Sort.ahead w q) g 0 d) (some g):=
 ⟨rfl,rfl,rfl,Nat.le_of_eq (by simp),fun k _ hk=>by
   show(w.heap.modify g (Sort.onCells _))[k]? =_;rw [Array.getElem?_modify,if_neg (fun e=>hk (by rw [e]))]⟩
theorem ail (w:World) (r:Option Nat):w.grownBy w r:=⟨rfl,rfl,rfl,aE _,fun _ _ _=>rfl⟩
theorem aim {w w':World} {r:Option Nat} (h:w.grownBy w' r) (os:Array Obj):w.grownBy (Sort.grow w' os) r:=
 ⟨h.os,h.tape,h.output,cX h.size (by simp),fun k hk hn=>(Sort.heap_grow_old w' os (Nat.lt_of_lt_of_le hk h.size)).trans (h.block k hk hn)⟩
theorem ain (base n:Nat) (v:Value) (xs:List Int) (w:World) (h:w.ownsRow base 3 1 v n (gH xs)) (hl:xs.length<=1000000):
  Calls Tryz.prog 102 #[v] w fun e w'=>e= .returned (.tuple #[])/\w'.ownsRow base 3 1 v n (gH (xs.mergeSort fun x y=>decide (x<=y)))/\w.grownBy w' v.ownBlock:=by
 obtain⟨h0,h1⟩:=aih h;rcases h1 with⟨rfl,rfl⟩|⟨g,cap,cur,rfl,LD,hg,hn,hcap,hcs,ht⟩
 .obtain rfl:xs=[]:=List.length_eq_zero_iff.1 h0;exact(Tryz.slices_Sort_int_none none 0 w).mono fun e w' ⟨h1,h2⟩=>by subst h2;exact⟨h1,by simpa using h,ail _ _⟩
 .subst h0;have EH:g<w.heap.size:=(dx.1 hg).1;refine(Tryz.slices_Sort_int g 0 cap xs w (aii hg ht) EH (by omega)).mono fun e w' ⟨h1,q,os,h2⟩=> ?_
  subst h2;have LF:(xs.mergeSort fun x y=>decide (x<=y)).length=xs.length:=List.length_mergeSort _;obtain⟨p1,p2,p3⟩:=aij hg ht LF q;refine⟨h1,⟨by simp [LF], .inr ⟨g,cap,_,rfl,LD,(Sort.heap_grow_old _ os (by simpa using EH)).trans p1,hn,hcap,by rw [p2,hcs,Nat.mul_one], ?_⟩⟩,aim aik os⟩;rw [Nat.mul_one,<-LF];exact p3
end Go.Proofs.YtibikmmdbdlafaaGreatDoor
/- The runner over an abstract memory, with loops over functions in the rounds of such loops, and with calls of a given kind ('cl': what a call is). -/
namespace Go.Proofs.YtibikmmdbdlafaaGreatDoor.Sv
open Go.RowKit
noncomputable section
abbrev dR:=Code->(n:Nat)->(aK:Option Nat)->av aa->ai->List Nat->R
def S3 (P:Program) (ih:dR) (args:List aa) (H:ai) (fn:Func) (c:Code):aI:=
 @Bool.rec (fun _=>aI) .no (@R.rec (fun _=>aI) .no (fun T H m=>jZ P fn T H m) (fun _ _ _ _=> .no) (fun _ _ _ _=> .no) (fun T H m=>jZ P fn T H m)
   (ih c fn.ntmps none (fG args .nil 0) H [])) (Nat.ble args.length fn.ntmps)
def vW (P:Program) (ih:dR):er:=fun f args H=>
 @Option.rec Func (fun _=>aI) .no (fun fn=> @Option.rec Code (fun _=>aI) .no (fun c=>S3 P ih args H fn c) fn.body) (P.funcs[f]?)
def FZ (ih:dR):jC:=fun i args H=>
 match H.get i with
 |some (.loop r)=>
  match r.state with
  | .ready=>cond (Nat.beq args.length r.params.size&&r.params.toList.all fun t=>Nat.ble (t+1) r.size)
    (match ih r.assign r.size (some i) (wQ r.tmps (r.params.toList.zip args)) H []with
      | .normal T H []=>match H.get i with
        |some (.loop r')=>match r'.state with
         | .ready=>eh i (ih r.body r.size (some i) T (H.set i (.loop {r' with state:= .busy})) [])
         |_=> .no
        |_=> .no
      |_=> .no) .no
  |_=> .no
 |_=> .no
def Ay (ih:dR) (n:Nat) (aK:Option Nat) (T:av aa) (L:Nat) (m:List Nat):aI->R
 | .ok _ H3=>match H3.get L with
   |some (.loop r)=>match r.state with
    | .busy=> .no
    |_=>match r.pending with
     |none=> .normal T (H3.set L (.loop {r with state:= .exhausted})) m
     |some c=>ih c n aK T (H3.set L (.loop {r with state:= .exhausted})) m
   |_=> .no
 |_=> .no
def LG (b:Option bf):Bool:=match b with |some (.loop _)=>true|_=>false
def CT (eu:dR->er) (P:Program) (ih:dR) (f:Operand) (params:Array Tmp) (assign body:Code) (n:Nat) (T:av aa) (H:ai) (m:List Nat):R:=
 match dE P (cc T f) [.yield (Nat.succ H.next)] ((H.new .deferred).new (.loop {tmps:=T,size:=n,params,assign,body,state:= .ready,pending:=none}))with
 | .enter g args H2=>Ay ih n none T (Nat.succ H.next) (H.next::m) (eu ih g args H2)
 |_=> .no
def CU (eu:dR->er) (P:Program) (ih:dR) (i:Nat) (f:Operand) (params:Array Tmp) (assign body:Code) (n:Nat) (T:av aa) (H:ai) (m:List Nat):R:=
 match dE P (cc T f) [.yield H.next] (H.new (.loop {tmps:=T,size:=n,params,assign,body,state:= .ready,pending:=none}))with
 | .enter g args H2=>cond (LG (H.get i)) (Ay ih n (some i) T H.next m (eu ih g args H2)) .no
 |_=> .no
abbrev jw:=Program->oE->dR->(n:Nat)->(aK:Option Nat)->av aa->ai->List Nat->R
def S4:jw:=fun _ _ _ _ _ T H m=> .normal T H m
def aio (eu:dR->er) (_id:Nat) (ops:Array Oper) (d:Bool):jw:=fun _ draw ih n _ T H m=>
 y7 m (draw d (eu ih) (FZ ih) ops n T H)
def aip (a b:Code) (_ _:jw):jw:=fun _ _ ih n aK T H m=> @R.rec (fun _=>R) .no (fun T H m=>ih b n aK T H m) .exit .goto .ret (ih a n aK T H m)
def aiq (c:Operand) (x y:Code) (_ _:jw):jw:=fun _ _ ih n aK T H m=>
 @mS.rec (fun _=>R) .no (fun b=> @Bool.rec (fun _=>R) (ih y n aK T H m) (ih x n aK T H m) b) (gq (cc T c))
def air (id:Nat) (b:Code) (_:jw):jw:=fun _ _ ih n aK T H m=>
 @R.rec (fun _=>R) .no .normal (fun i T H m=> @Bool.rec (fun _=>R) (.exit i T H m) (.normal T H m) (Nat.beq i id)) .goto .ret (ih b n aK T H m)
def S5 (b:Code) (_:jw):jw:=fun _ _ ih n aK T H m=>iter (ih b n aK) rounds T H m
def ais (eu:dR->er) (f:Operand) (params:Array Tmp) (assign body:Code) (_ _:jw):jw:=fun P _ ih n aK T H m=>
 @Option.rec Nat (fun _=>R) (CT eu P ih f params assign body n T H m) (fun i=>CU eu P ih i f params assign body n T H m) aK
def ait (id:Nat):jw:=fun _ _ _ _ _ T H m=> .exit id T H m
def aiu (b:Code) (_:jw):jw:=fun _ _ ih n aK T H m=> @R.rec (fun _=>R) .no .normal .exit (fun _ _ _ _=> .no) .ret (ih b n aK T H m)
def RK (l:Nat):jw:=fun _ _ _ _ _ T H m=> .goto l T H m
def aiv:jw:=fun _ _ _ _ _ T H m=> .ret T H m
def aiw:jw:=fun _ _ _ _ _ _ _ _=> .no
def F0 (eu:dR->er):Code->jw:=
 @Code.rec (fun _=>jw) S4 (aio eu) aip aiq air S5 (ais eu) ait aiu (fun _=>S4) RK aiv (fun _=>aiw)
def tp (eu:dR->er) (P:Program) (draw:oE) (fuel:Nat):dR:=
 @Nat.rec (fun _=>dR) (fun _ _ _ _ _ _=> .no) (fun _ ih c=>F0 eu c P draw ih) fuel
end
variable [Ground]
def CV (ρ:Env):Option Nat->Option Nat->Prop
 |none,none=>True
 |some i,some l=>∃c,ρ i=some (l,c)
 |_,_=>False
theorem CV.mono {ρ ρ':Env} (hl:cw ρ ρ'):∀{aK rd:Option Nat},CV ρ aK rd->CV ρ' aK rd
 |none,none,_=>trivial
 |some _,some _,⟨c,h⟩=>⟨c,hl _ _ h⟩
 |none,some _,h=>h.elim
 |some _,none,h=>h.elim
section
variable {P:Program} {B:Nat} {ρ:Env} {n:Nat} {T:av aa} {H:ai} {a:Act} {w:World}
variable {eu:dR->er}
structure jx (P:Program) (ih:dR):Prop where
 mono:∀c n aK T H m e aL H' m',(ih c n aK T H m).out=some (e,aL,H',m')->H.next<=H'.next
 ct:∀c n aK T H m e aL H' m',(ih c n aK T H m).out=some (e,aL,H',m')->∀B ρ a w rd k (Q:Exit->Act->World->Prop),CV ρ aK rd->ew P B ρ n T H a w->ey ρ m a.defers->Fr ρ H.next H'.next->
  (∀ρ' a' w',ew P B ρ' n aL H' a' w'->bL ρ H w ρ' H' w'->ey ρ' m' a'.defers->Q e a' w')->c.wpIn (dM rd) k P Q a w
theorem S6 {ih:dR} {f:FuncId} {args:List aa} {v:aa} {H':ai} (h:vW P ih f args H= .ok v H'):∃fn c,P.funcs[f]? =some fn/\fn.body=some c/\args.length<=fn.ntmps/\
  ∃e T1 H1 m1,(ih c fn.ntmps none (fG args .nil 0) H []).out=some (e,T1,H1,m1)/\(e= .normal\/e= .ret)/\jZ P fn T1 H1 m1= .ok v H':=by
 unfold vW at h;cases hf:P.funcs[f]? with
 |none=>rw [hf]at h;cases h
 |some fn=>
  rw [hf]at h;simp only at h;cases hb:fn.body with
  |none=>rw [hb]at h;cases h
  |some c=>
   rw [hb]at h;simp only at h;unfold S3 at h;cases hn:Nat.ble args.length fn.ntmps with
   |false=>rw [hn]at h;cases h
   |true=>
    rw [hn]at h;simp only at h;refine⟨fn,c,rfl,hb,bR hn, ?_⟩;cases hr:ih c fn.ntmps none (fG args .nil 0) H []with
    |no=>rw [hr]at h;cases h
    |normal T1 H1 m1=>rw [hr]at h;exact⟨_,_,_,_,rfl, .inl rfl,h⟩
    |exit _ _ _ _=>rw [hr]at h;cases h
    |goto _ _ _ _=>rw [hr]at h;cases h
    |ret T1 H1 m1=>rw [hr]at h;exact⟨_,_,_,_,rfl, .inr rfl,h⟩
theorem F1 {ih:dR} (hI:jx P ih):bB P (vW P ih) where
 mono f args H v H' h:=by
  obtain⟨fn,c,_,_,_,e,T1,H1,m1,ho,_,hl⟩:=S6 h;exact cX (hI.mono _ _ _ _ _ _ _ _ _ _ ho) (Nat.le_of_eq (zm hl))
 ct f args H v H' h B ρ xs w m hH cn hd hf:=by
  obtain⟨fn,c,hfn,hb,hn,e,T1,H1,m1,ho,he,hl⟩:=S6 h;have hnx:=zm hl;refine callsIn_of_wp_marks hfn hb trivial ?_;refine hI.ct _ _ _ _ _ _ _ _ _ _ ho B ρ _ w none m _ trivial ⟨BF hd hn,hH,cn⟩ rfl (by rw [hnx];exact hf) fun ρ' a' w' h1 h2 h3=> ?_
  have:LeavesInM (dM none) m P fn a'.tmps (mb P B ρ H w v H') a'.defers .returning w':=xd m1 h1 h3 hl fun y w2 r1 r2 r3=>⟨y,ρ',rfl,r1,r2,h2.trans r3⟩
  rcases he with rfl |rfl<;>exact this
theorem S7 {ih:dR} {i:Nat} {args:List aa} {v:aa} {H':ai} (h:FZ ih i args H= .ok v H'):∃r,H.get i=some (.loop r)/\args.length=r.params.size/\(∀t∈r.params.toList,t<r.size)/\
  ∃T1 H1 r',(ih r.assign r.size (some i) (wQ r.tmps (r.params.toList.zip args)) H []).out=some (.normal,T1,H1,[])/\H1.get i=some (.loop r')/\r'.state= .ready/\
   eh i (ih r.body r.size (some i) T1 (H1.set i (.loop {r' with state:= .busy})) [])= .ok v H':=by
 unfold FZ at h;split at h
 .rename_i r hg;split at h
  .cases hb:(Nat.beq args.length r.params.size&&r.params.toList.all fun t=>Nat.ble (t+1) r.size)with
   |false=>rw [hb]at h;cases h
   |true=>
    rw [hb]at h;rw [ae]at hb;simp only [cond_true]at h;refine⟨r,hg,ac hb.1,fun t ht=>bR (List.all_eq_true.1 hb.2 t ht), ?_⟩;split at h
    .rename_i T1 H1 hr;split at h
     .rename_i r' hg';split at h
      .rename_i hs;exact⟨T1,H1,r',by rw [hr];rfl,hg',hs,h⟩
      .cases h
     .cases h
    .cases h
  .cases h
 .cases h
theorem S8 {ih:dR} (hI:jx P ih):lq P (FZ ih) where
 mono i args H v H' h:=by
  obtain⟨r,_,_,_,T1,H1,r',h1,_,_,h2⟩:=S7 h;obtain⟨e,T2,H2,m2,r1,j,k1,_,_,rfl,_⟩:=D2 h2;have a1:=hI.mono _ _ _ _ _ _ _ _ _ _ h1;have a2:=hI.mono _ _ _ _ _ _ _ _ _ _ k1;exact cX a1 a2
 ct i args H v H' h B ρ xs w b c m hH cn hr hd hf:=by
  obtain⟨r,hg,hlen,hpar,T1,H1,r',h1,pZ,hst,h2⟩:=S7 h;obtain⟨e,T2,H2,m2,r1,j,k1,hg2,rfl,rfl,hj⟩:=D2 h2;have a1:=hI.mono _ _ _ _ _ _ _ _ _ _ h1;have a2:=hI.mono _ _ _ _ _ _ _ _ _ _ k1;have Ik:H1.next<=H2.next:=a2;obtain⟨R,hb,hR⟩:=qW hH hg hr;have hl:=hd.length;have hy:=run_yield (P:=P) (args:=xs.toArray) hb (by rw [hR.params];simp;omega);refine⟨_,_,_,_,hy,roundIn_of_wpIn trivial ?_⟩
  -- the slots of the round
  have Il:jE ρ (wQ r.tmps (r.params.toList.zip args)) r.size ((R.params.zip xs.toArray).foldl (fun tmps (t,a)=>tmps.setIfInBounds t a) R.tmps):=by
   have e1:(R.params.zip xs.toArray).foldl (fun tmps (t,a)=>tmps.setIfInBounds t a) R.tmps=(r.params.toList.zip xs).foldl (fun tmps p=>tmps.setIfInBounds p.1 p.2) R.tmps:=by
    rw [<-Array.foldl_toList,hR.params];congr 1;simp
   rw [e1];have hz:∀{α:Type} (l:List Nat) (ys:List α),ys.length=l.length->(l.zip ys).map Prod.fst=l/\(l.zip ys).map Prod.snd=ys:=fun l ys hh=>⟨by rw [List.map_fst_zip];omega,by rw [List.map_snd_zip];omega⟩
   have dD:=hz r.params.toList args (by simpa using hlen);have z2:=hz r.params.toList xs (by rw [hl];simpa using hlen);exact Ij _ _ (by rw [dD.1,z2.1]) (by rw [dD.2,z2.2];exact hd) (fun p hp=>hpar p.1 (List.of_mem_zip hp).1) hR.tmps
  rw [hR.assign,hR.body];refine hI.ct _ _ _ _ _ _ _ _ _ _ h1 B ρ _ w (some b) m _ ⟨c,hr⟩ ⟨Il,hH,cn⟩ rfl (fun x y z=>hf x y (Nat.lt_of_lt_of_le z Ik)) fun cK BI w1 hA hS hD=> ?_
  have hD:BI.defers=[]:=hD;have kE:cK i=some (b,c):=hS.le _ _ hr;obtain⟨Im,lp,lu⟩:=qW hA.H pZ kE;have Io:=run_beginRound (P:=P) lp (by rw [lu.state,hst]);refine⟨_,Io, ?_⟩;obtain⟨q1,aO⟩:=xe hA.H pZ kE rfl (r:={r' with state:= .busy}) (R:={Im with state:= .busy}) ⟨rfl,lu.pending,lu.params,lu.assign,lu.body,lu.tmps⟩;refine hI.ct _ _ _ _ _ _ _ _ _ _ k1 B cK BI _ (some b) m _ ⟨c,kE⟩ (hA.next hA.T q1 aO) hD ((hS.trans aO).fr hf) fun dW Zu w2 uR BJ _=> ?_
  have hr2:dW i=some (b,c):=BJ.le _ _ kE;obtain⟨Ip,kA,sZ⟩:=qW uR.H hg2 hr2;have Iq:=run_endRound (P:=P) j kA;obtain⟨bZ,ei⟩:=xe uR.H hg2 hr2 rfl (r:={r1 with state:=if j.isNone then .ready else .done,pending:=j}) (R:={Ip with state:=if j.isNone then .ready else .done,pending:=j}) ⟨rfl,rfl,sZ.params,sZ.assign,sZ.body,sZ.tmps⟩;have fin:∃v' w',(Instr.endRound b j).run P w2= .ok v' w'/\mb P B ρ H w (.raw (.bool j.isNone)) (H2.set i (.loop {r1 with state:=if j.isNone then .ready else .done,pending:=j})) (.returned v') w':=
   ⟨_,_,Iq,_,dW,rfl, .raw _,bZ,((hS.trans aO).trans BJ).trans ei⟩
  rcases hj with⟨rfl,rfl⟩|⟨rfl,rfl⟩|⟨id,rfl,rfl⟩|⟨l,rfl,rfl⟩<;>exact fin
theorem fb {ih:dR} {aK:Option Nat} {L:Nat} {m:List Nat} {ag:aI} {e:Exit} {aL:av aa} {H':ai} {m':List Nat} (h:(Ay ih n aK T L m ag).out=some (e,aL,H',m')):∃v H3 r,ag= .ok v H3/\H3.get L=some (.loop r)/\r.state≠ .busy/\
  (r.pending=none/\e= .normal/\aL=T/\H'=H3.set L (.loop {r with state:= .exhausted})/\m'=m\/
    ∃c,r.pending=some c/\(ih c n aK T (H3.set L (.loop {r with state:= .exhausted})) m).out=some (e,aL,H',m')):=by
 unfold Ay at h;split at h
 .rename_i v H3;split at h
  .rename_i r hg;split at h
   .cases h
   .rename_i hs;refine⟨v,H3,r,rfl,hg,fun hh=>hs hh, ?_⟩;split at h
    .rename_i hp;cases h;exact .inl ⟨hp,rfl,rfl,rfl,rfl⟩
    .rename_i c hp;exact .inr ⟨c,hp,h⟩
  .cases h
 .cases h
theorem S9 {ih:dR} {f:Operand} {params:Array Tmp} {assign body:Code} {m:List Nat} {e:Exit} {aL:av aa} {H':ai} {m':List Nat} (h:(CT eu P ih f params assign body n T H m).out=some (e,aL,H',m')):
  ∃g args H2,dE P (cc T f) [.yield (H.next+1)] ((H.new .deferred).new (.loop {tmps:=T,size:=n,params,assign,body,state:= .ready,pending:=none}))= .enter g args H2/\
   (Ay ih n none T (H.next+1) (H.next::m) (eu ih g args H2)).out=some (e,aL,H',m'):=by
 unfold CT at h;split at h
 .rename_i g args H2 hc;exact⟨g,args,H2,hc,h⟩
 .cases h
theorem Ta {ih:dR} {i:Nat} {f:Operand} {params:Array Tmp} {assign body:Code} {m:List Nat} {e:Exit} {aL:av aa} {H':ai} {m':List Nat} (h:(CU eu P ih i f params assign body n T H m).out=some (e,aL,H',m')):
  (∃cL,H.get i=some (.loop cL))/\∃g args H2,dE P (cc T f) [.yield H.next] (H.new (.loop {tmps:=T,size:=n,params,assign,body,state:= .ready,pending:=none}))= .enter g args H2/\
    (Ay ih n (some i) T H.next m (eu ih g args H2)).out=some (e,aL,H',m'):=by
 unfold CU at h;split at h
 .rename_i g args H2 hc;cases hb:LG (H.get i)with
  |false=>rw [hb]at h;cases h
  |true=>
   rw [hb]at h;refine⟨?_,g,args,H2,hc,h⟩;unfold LG at hb;split at hb
   .rename_i cL qf;exact⟨cL,qf⟩
   .cases hb
 .cases h
theorem Tb (gS:∀ih,jx P ih->bB P (eu ih)) {ih:dR} (hI:jx P ih) {f:Operand} {params:Array Tmp} {assign body:Code} {m:List Nat} {e:Exit} {aL:av aa} {H':ai} {m':List Nat} (h:(CT eu P ih f params assign body n T H m).out=some (e,aL,H',m')):H.next+2<=H'.next:=by
 obtain⟨g,args,H2,h1,h2⟩:=S9 h;have mW:=zn h1;obtain⟨v,H3,r,h3,h4,h5,h6⟩:=fb h2;have hc:=(gS ih hI).mono _ _ _ _ _ h3;have e2:H2.next=H.next+2:=by rw [mW];rfl
 rcases h6 with⟨_,_,_,rfl,_⟩|⟨c,_,h7⟩
 .show H.next+2<=H3.next;omega
 .have:=hI.mono _ _ _ _ _ _ _ _ _ _ h7;have e3:(H3.set (H.next+1) (bf.loop {r with state:= .exhausted})).next=H3.next:=rfl;omega
theorem Tc (gS:∀ih,jx P ih->bB P (eu ih)) {ih:dR} (hI:jx P ih) {i:Nat} {f:Operand} {params:Array Tmp} {assign body:Code} {m:List Nat} {e:Exit} {aL:av aa} {H':ai} {m':List Nat} (h:(CU eu P ih i f params assign body n T H m).out=some (e,aL,H',m')):H.next+1<=H'.next:=by
 obtain⟨_,g,args,H2,h1,h2⟩:=Ta h;have mW:=zn h1;obtain⟨v,H3,r,h3,h4,h5,h6⟩:=fb h2;have hc:=(gS ih hI).mono _ _ _ _ _ h3;have e2:H2.next=H.next+1:=by rw [mW];rfl
 rcases h6 with⟨_,_,_,rfl,_⟩|⟨c,_,h7⟩
 .show H.next+1<=H3.next;omega
 .have:=hI.mono _ _ _ _ _ _ _ _ _ _ h7;have e3:(H3.set H.next (bf.loop {r with state:= .exhausted})).next=H3.next:=rfl;omega
theorem aix (gS:∀ih,jx P ih->bB P (eu ih)) (hK:eW P) {ih:dR} (hI:jx P ih) {f:Operand} {params:Array Tmp} {assign body:Code} {m:List Nat} {e:Exit} {aL:av aa} {H':ai} {m':List Nat} (h:(CT eu P ih f params assign body n T H m).out=some (e,aL,H',m'))
  (k:Nat) {Q:Exit->Act->World->Prop} (aN:ew P B ρ n T H a w) (hD:ey ρ m a.defers) (hf:Fr ρ H.next H'.next)
  (hQ:∀ρ' a' w',ew P B ρ' n aL H' a' w'->bL ρ H w ρ' H' w'->ey ρ' m' a'.defers->Q e a' w'):(Code.rangeFunc f params assign body).wpIn (dM none) k P Q a w:=by
 have hmono:=Tb gS hI h;obtain⟨g,args,H2,h1,h2⟩:=S9 h;have mW:=zn h1;obtain⟨v,H3,r,h3,h4,h5,h6⟩:=fb h2;have hcm:=(gS ih hI).mono _ _ _ _ _ h3;have e2:H2.next=H.next+2:=by rw [mW];rfl
 have BK:H3.next<=H'.next:=by
  rcases h6 with⟨_,_,_,rfl,_⟩|⟨c,_,h7⟩
  .exact aE _
  .have:=hI.mono _ _ _ _ _ _ _ _ _ _ h7;exact this
 refine wpIn_rangeFunc fun fn _=> ?_
 -- the two blocks
 have hn0:ρ H.next=none:=hf _ (aE _) (by omega);obtain⟨p1,p2⟩:=sP aN.H (fun i x y=>hf i x (by omega)) 0 .deferred (.deferred (some [])) rfl;have xg:=p2.fr hf;have mX:(H.new .deferred).next=H.next+1:=rfl;have BL:=aN.T.mono p2.le;obtain⟨rec,hM⟩:∃rec:Loop,rec={state:= .ready,pending:=none,fn,tmps:=a.tmps,params,assign,body,defers:=w.heap.size}:=⟨_,rfl⟩;obtain⟨p3,ek⟩:=sP p1 (fun i x y=>xg i x (by rw [mX]at y;omega)) 0 (.loop {tmps:=T,size:=n,params,assign,body,state:= .ready,pending:=none}) (.loop rec) ⟨rec,rfl,by rw [hM],by rw [hM],by rw [hM],by rw [hM],by rw [hM],by
  rw [hM];exact BL.mono (Env.oH (xg _ (aE _) (by rw [mX];omega)))⟩
 have hle:=p2.trans ek;rw [<-mW]at p3 ek hle h1;obtain⟨dW,uS⟩:∃dW,dW=(ρ.put H.next w.heap.size 0).put (H.new .deferred).next (w.alloc (.deferred (some []))).heap.size 0:=⟨_,rfl⟩;rw [<-uS]at p3 ek hle;have hL:dW (H.next+1)=some (w.heap.size+1,0):=by rw [uS,<-mX,Env.dm];simp
 have Is:dW H.next=some (w.heap.size,0):=by
  refine ek.le _ _ ?_;rw [Env.dm]
 -- the function
 have uT:=(w9 aN.T aN.G f).mono hle.le;obtain⟨uU,first,captured,fI⟩:=Ir uT h1;have BM:aF dW [aa.yield (H.next+1)] [.func (.yield (w.heap.size+1)) #[] #[]]:= .cons (.yield hL) .nil;have hca:=DX (P:=P) (B:=B) (w:=(w.alloc (.deferred (some []))).alloc (.loop rec)) (fv:=cc T f) hK p3 uT BM (r:=(invoke (.fn uU captured) (first++ #[.func (.yield (w.heap.size+1)) #[] #[]])).run P ((w.alloc (.deferred (some []))).alloc (.loop rec)))
  (fun fn' first' captured' hh=>by rw [fI]at hh;cases hh;rfl)
 rw [h1]at hca;obtain⟨_,xs,hinv,hxs⟩:=hca;refine⟨w.heap.size+1,[{target:= .collected w.heap.size,args:= #[]}],(w.alloc (.deferred (some []))).alloc (.loop rec),{target:= .fn uU captured,args:=first++ #[.func (.yield (w.heap.size+1)) #[] #[]]},(w.alloc (.deferred (some []))).alloc (.loop rec),g,xs.toArray,
  (w.alloc (.deferred (some []))).alloc (.loop rec), ?_, ?_,fun _ _=>trivial,hinv,(fun hh=>by cases hh), ?_⟩
 .rw [hM];exact run_enterLoop_outer fn a.tmps params assign body
 .have hcv:∀v,a.eval (.const v)=v:=fun _=>rfl
  simp [resolve,fI,Deferred.ofValue,hcv]
 .refine((gS ih hI).ct g args H2 v H3 h3 B dW xs _ (k-1) p3 (aN.G.mono hle.le) hxs ((hle.fr hf).mono' BK)).mono ?_;rintro e0 w3 ⟨x,p0,rfl,_,q1,aO⟩;have uV:=aO.le _ _ hL;obtain⟨R,hb,hR⟩:=qW q1 h4 uV;have hel:=run_endLoop (P:=P) hb (by rw [hR.state];exact h5);obtain⟨bZ,ei⟩:=xe q1 h4 uV rfl (r:={r with state:= .exhausted}) (R:={R with state:= .exhausted}) ⟨rfl,hR.pending,hR.params,hR.assign,hR.body,hR.tmps⟩;have gN:=(hle.trans aO).trans ei;have mY:ey p0 (H.next::m) ([{target:= .collected w.heap.size,args:= #[]}]++a.defers):=⟨w.heap.size,0,a.defers,aO.le _ _ Is,rfl,(hD.mono (hle.trans aO).le)⟩;have key:∀jump,jump=r.pending->(match jump with
    |none=>Q .normal {a with defers:=[{target:= .collected w.heap.size,args:= #[]}]++a.defers} (w3.putObj (w.heap.size+1) (.loop {R with state:= .exhausted}))
    |some c=>c.wpIn (dM none) k P Q {a with defers:=[{target:= .collected w.heap.size,args:= #[]}]++a.defers} (w3.putObj (w.heap.size+1) (.loop {R with state:= .exhausted}))):=by
   rintro jump rfl;rcases h6 with⟨k1,rfl,rfl,rfl,rfl⟩|⟨c,k1,h7⟩
   .rw [k1];exact hQ p0 {a with defers:=[{target:= .collected w.heap.size,args:= #[]}]++a.defers} _ ⟨aN.T.mono gN.le,bZ,aN.G.mono gN.le⟩ gN mY
   .rw [k1];refine hI.ct _ _ _ _ _ _ _ _ _ _ h7 B p0 {a with defers:=[{target:= .collected w.heap.size,args:= #[]}]++a.defers} _ none k Q trivial ⟨aN.T.mono gN.le,bZ,aN.G.mono gN.le⟩ mY (gN.fr hf) fun ρ' a' w' r1 r2 r3=>hQ ρ' a' w' r1 (gN.trans r2) r3
  exact⟨R.pending,_,hel,key _ hR.pending⟩
theorem aiy (gS:∀ih,jx P ih->bB P (eu ih)) (hK:eW P) {ih:dR} (hI:jx P ih) {i l₀ c₀:Nat} (Td:ρ i=some (l₀,c₀)) {f:Operand} {params:Array Tmp} {assign body:Code} {m:List Nat} {e:Exit} {aL:av aa} {H':ai} {m':List Nat} (h:(CU eu P ih i f params assign body n T H m).out=some (e,aL,H',m'))
  (k:Nat) {Q:Exit->Act->World->Prop} (aN:ew P B ρ n T H a w) (hD:ey ρ m a.defers) (hf:Fr ρ H.next H'.next)
  (hQ:∀ρ' a' w',ew P B ρ' n aL H' a' w'->bL ρ H w ρ' H' w'->ey ρ' m' a'.defers->Q e a' w'):(Code.rangeFunc f params assign body).wpIn (dM (some l₀)) k P Q a w:=by
 have hmono:=Tc gS hI h;obtain⟨⟨cL,qf⟩,g,args,H2,h1,h2⟩:=Ta h;have mW:=zn h1;obtain⟨v,H3,r,h3,h4,h5,h6⟩:=fb h2;have hcm:=(gS ih hI).mono _ _ _ _ _ h3;have e2:H2.next=H.next+1:=by rw [mW];rfl
 have BK:H3.next<=H'.next:=by
  rcases h6 with⟨_,_,_,rfl,_⟩|⟨c,_,h7⟩
  .exact aE _
  .have:=hI.mono _ _ _ _ _ _ _ _ _ _ h7;exact this
 refine wpIn_rangeFunc fun fn _=> ?_
 obtain⟨R0,tO,_⟩:=qW aN.H qf Td
 -- the block
 have hn0:ρ H.next=none:=hf _ (aE _) (by omega);obtain⟨rec,hM⟩:∃rec:Loop,rec={state:= .ready,pending:=none,fn,tmps:=a.tmps,params,assign,body,defers:=R0.defers}:=⟨_,rfl⟩;obtain⟨p3,ek⟩:=sP aN.H (fun i x y=>hf i x (by omega)) 0 (.loop {tmps:=T,size:=n,params,assign,body,state:= .ready,pending:=none}) (.loop rec) ⟨rec,rfl,by rw [hM],by rw [hM],by rw [hM],by rw [hM],by rw [hM],by
  rw [hM];exact aN.T.mono (Env.oH hn0)⟩
 have hle:=ek;rw [<-mW]at p3 ek hle h1;obtain⟨dW,uS⟩:∃dW,dW=ρ.put H.next w.heap.size 0:=⟨_,rfl⟩;rw [<-uS]at p3 ek hle;have hL:dW H.next=some (w.heap.size,0):=by rw [uS,Env.dm]
 -- the function
 have uT:=(w9 aN.T aN.G f).mono hle.le;obtain⟨uU,first,captured,fI⟩:=Ir uT h1;have BM:aF dW [aa.yield H.next] [.func (.yield w.heap.size) #[] #[]]:= .cons (.yield hL) .nil;have hca:=DX (P:=P) (B:=B) (w:=w.alloc (.loop rec)) (fv:=cc T f) hK p3 uT BM (r:=(invoke (.fn uU captured) (first++ #[.func (.yield w.heap.size) #[] #[]])).run P (w.alloc (.loop rec)))
  (fun fn' first' captured' hh=>by rw [fI]at hh;cases hh;rfl)
 rw [h1]at hca;obtain⟨_,xs,hinv,hxs⟩:=hca;refine⟨w.heap.size,[],w.alloc (.loop rec),{target:= .fn uU captured,args:=first++ #[.func (.yield w.heap.size) #[] #[]]},w.alloc (.loop rec),g,xs.toArray,
  w.alloc (.loop rec), ?_, ?_,fun _ _=>trivial,hinv,(fun hh=>by cases hh), ?_⟩
 .rw [hM];exact run_enterLoop_inner tO fn a.tmps params assign body
 .have hcv:∀v,a.eval (.const v)=v:=fun _=>rfl
  simp [resolve,fI,Deferred.ofValue,hcv]
 .refine((gS ih hI).ct g args H2 v H3 h3 B dW xs _ (k-1) p3 (aN.G.mono hle.le) hxs ((hle.fr hf).mono' BK)).mono ?_;rintro e0 w3 ⟨x,p0,rfl,_,q1,aO⟩;have uV:=aO.le _ _ hL;obtain⟨R,hb,hR⟩:=qW q1 h4 uV;have hel:=run_endLoop (P:=P) hb (by rw [hR.state];exact h5);obtain⟨bZ,ei⟩:=xe q1 h4 uV rfl (r:={r with state:= .exhausted}) (R:={R with state:= .exhausted}) ⟨rfl,hR.pending,hR.params,hR.assign,hR.body,hR.tmps⟩;have gN:=(hle.trans aO).trans ei;have mY:ey p0 m a.defers:=hD.mono (hle.trans aO).le;have key:∀jump,jump=r.pending->(match jump with
    |none=>Q .normal a (w3.putObj w.heap.size (.loop {R with state:= .exhausted}))
    |some c=>c.wpIn (dM (some l₀)) k P Q a (w3.putObj w.heap.size (.loop {R with state:= .exhausted}))):=by
   rintro jump rfl;rcases h6 with⟨k1,rfl,rfl,rfl,rfl⟩|⟨c,k1,h7⟩
   .rw [k1];exact hQ p0 a _ ⟨aN.T.mono gN.le,bZ,aN.G.mono gN.le⟩ gN mY
   .rw [k1];refine hI.ct _ _ _ _ _ _ _ _ _ _ h7 B p0 a _ (some l₀) k Q ⟨c₀,gN.le _ _ Td⟩ ⟨aN.T.mono gN.le,bZ,aN.G.mono gN.le⟩ mY (gN.fr hf) fun ρ' a' w' r1 r2 r3=>hQ ρ' a' w' r1 (gN.trans r2) r3
  exact⟨R.pending,_,hel,key _ hR.pending⟩
theorem LH {ih:dR} (hI:jx P ih) {c:Code} {aK:Option Nat}:∀(j:Nat) {T:av aa} {H:ai} {m:List Nat} {e:Exit} {aL:av aa} {H':ai} {m':List Nat},(iter (ih c n aK) j T H m).out=some (e,aL,H',m')->H.next<=H'.next
 |0,_,_,_,_,_,_,_,h=>by cases h
 |j+1,T,H,m,e,aL,H',m',h=>by
  obtain⟨j',hj,e1,T1,H1,m1,h1,h2⟩:=D3 (j+1) h;cases hj;have a1:=hI.mono _ _ _ _ _ _ _ _ _ _ h1;rcases h2 with⟨_,h2⟩|⟨_,_,_,rfl,_⟩
  .exact cX a1 (LH hI j h2)
  .exact a1
theorem Te {ih:dR} (hI:jx P ih) {c:Code} {aK:Option Nat} {rd:Option Nat} {k:Nat} {Q:Exit->Act->World->Prop}:∀(j:Nat) {ρ:Env} {T:av aa} {H:ai} {m:List Nat} {a:Act} {w:World} {e:Exit} {aL:av aa} {H':ai} {m':List Nat},
  (iter (ih c n aK) j T H m).out=some (e,aL,H',m')->CV ρ aK rd->ew P B ρ n T H a w->ey ρ m a.defers->Fr ρ H.next H'.next->
  (∀ρ' a' w',ew P B ρ' n aL H' a' w'->bL ρ H w ρ' H' w'->ey ρ' m' a'.defers->Q e a' w')->Code.roundsIn (dM rd) k P c Q j a w
 |0,_,_,_,_,_,_,_,_,_,_,h,_,_,_,_,_=>by cases h
 |j+1,ρ,T,H,m,a,w,e,aL,H',m',h,hrd,aN,hD,hf,hQ=>by
  obtain⟨j',hj,e1,T1,H1,m1,h1,h2⟩:=D3 (j+1) h;cases hj;have hle:H1.next<=H'.next:=by
   rcases h2 with⟨_,h2⟩|⟨_,_,_,rfl,_⟩
   .exact LH hI j h2
   .exact aE _
  refine hI.ct _ _ _ _ _ _ _ _ _ _ h1 B ρ a w rd k _ hrd aN hD (hf.mono' hle) fun cK a1 w1 r1 r2 r3=> ?_
  rcases h2 with⟨rfl,h2⟩|⟨hn,rfl,rfl,rfl,rfl⟩
  .exact Te hI j h2 (hrd.mono r2.le) r1 r3 (r2.fr hf) fun ρ' a' w' q1 aO bZ=>hQ ρ' a' w' q1 (r2.trans aO) bZ
  .exact Pt hn (hQ cK a1 w1 r1 r2 r3)
theorem Tf {draw:oE} {ih:dR} {x:Code} {aK:Option Nat} {m:List Nat}:F0 eu (.loop x) P draw ih n aK T H m=iter (ih x n aK) rounds T H m:=by
 unfold F0;simp only [S5]
theorem aiz (gS:∀ih,jx P ih->bB P (eu ih)) (hK:eW P) {draw:oE} (hdr:∀d,xb P d (draw d)) {ih:dR} (hI:jx P ih):jx P (fun c=>F0 eu c P draw ih) where
 mono c n aK T H m e aL H' m' h:=by
  have hC:=gS ih hI;have hR:=S8 hI;cases c with
  |skip=>cases h;exact aE _
  |label l=>cases h;exact aE _
  |exit id=>cases h;exact aE _
  |goto l=>cases h;exact aE _
  |ret=>cases h;exact aE _
  |refuse why=>cases h
  |region id ops d=>
   obtain⟨h1,_,_⟩:=D4 h;exact(hdr d).mono _ _ hC hR _ _ _ _ _ _ h1
  |seq x y=>
   have h:(@R.rec (fun _=>R) .no (fun T H m=>ih y n aK T H m) .exit .goto .ret (ih x n aK T H m)).out=some (e,aL,H',m'):=h;cases hx:ih x n aK T H m with
   |no=>rw [hx]at h;cases h
   |normal T1 H1 m1=>rw [hx]at h;exact cX (hI.mono x n aK T H m _ _ _ _ (by rw [hx];rfl)) (hI.mono _ _ _ _ _ _ _ _ _ _ h)
   |exit id T1 H1 m1=>rw [hx]at h;cases h;exact hI.mono x n aK T H m _ _ _ _ (by rw [hx];rfl)
   |goto l T1 H1 m1=>rw [hx]at h;cases h;exact hI.mono x n aK T H m _ _ _ _ (by rw [hx];rfl)
   |ret T1 H1 m1=>rw [hx]at h;cases h;exact hI.mono x n aK T H m _ _ _ _ (by rw [hx];rfl)
  |cond c x y=>
   have h:(@mS.rec (fun _=>R) .no (fun b=> @Bool.rec (fun _=>R) (ih y n aK T H m) (ih x n aK T H m) b) (gq (cc T c))).out=some (e,aL,H',m'):=h;cases hb:gq (cc T c)with
   |no=>rw [hb]at h;cases h
   |mk b=>rw [hb]at h;cases b<;>exact hI.mono _ _ _ _ _ _ _ _ _ _ h
  |block id x=>
   have h:(@R.rec (fun _=>R) .no .normal (fun i T H m=> @Bool.rec (fun _=>R) (.exit i T H m) (.normal T H m) (Nat.beq i id)) .goto .ret (ih x n aK T H m)).out=some (e,aL,H',m'):=h;cases hx:ih x n aK T H m with
   |no=>rw [hx]at h;cases h
   |normal T1 H1 m1=>rw [hx]at h;cases h;exact hI.mono x n aK T H m _ _ _ _ (by rw [hx];rfl)
   |exit i T1 H1 m1=>
    rw [hx]at h;simp only at h;cases hb:Nat.beq i id with
    |true=>rw [hb]at h;cases h;exact hI.mono x n aK T H m _ _ _ _ (by rw [hx];rfl)
    |false=>rw [hb]at h;cases h;exact hI.mono x n aK T H m _ _ _ _ (by rw [hx];rfl)
   |goto l T1 H1 m1=>rw [hx]at h;cases h;exact hI.mono x n aK T H m _ _ _ _ (by rw [hx];rfl)
   |ret T1 H1 m1=>rw [hx]at h;cases h;exact hI.mono x n aK T H m _ _ _ _ (by rw [hx];rfl)
  |loop x=>rw [Tf]at h;exact LH hI rounds h
  |rangeFunc f ps x y=>
   cases aK with
   |some i=>have:=Tc gS hI (P:=P) h;omega
   |none=>have:=Tb gS hI (P:=P) h;omega
  |scope x=>
   have h:(@R.rec (fun _=>R) .no .normal .exit (fun _ _ _ _=> .no) .ret (ih x n aK T H m)).out=some (e,aL,H',m'):=h;cases hx:ih x n aK T H m with
   |no=>rw [hx]at h;cases h
   |normal T1 H1 m1=>rw [hx]at h;cases h;exact hI.mono x n aK T H m _ _ _ _ (by rw [hx];rfl)
   |exit id T1 H1 m1=>rw [hx]at h;cases h;exact hI.mono x n aK T H m _ _ _ _ (by rw [hx];rfl)
   |goto l T1 H1 m1=>rw [hx]at h;cases h
   |ret T1 H1 m1=>rw [hx]at h;cases h;exact hI.mono x n aK T H m _ _ _ _ (by rw [hx];rfl)
 ct c n aK T H m e aL H' m' h B ρ a w rd k Q hrd aN hD hf hQ:=by
  have hC:=gS ih hI;have hR:=S8 hI;have here:∀{x:Code} {e1 T1 H1 m1},(ih x n aK T H m).out=some (e1,T1,H1,m1)->H1=H'->∀Q':Exit->Act->World->Prop,(∀ρ' a' w',ew P B ρ' n T1 H1 a' w'->bL ρ H w ρ' H1 w'->ey ρ' m1 a'.defers->Q' e1 a' w')->x.wpIn (dM rd) k P Q' a w:=
   fun h1 hh Q' hq=>hI.ct _ _ _ _ _ _ _ _ _ _ h1 B ρ a w rd k Q' hrd aN hD (by rw [hh];exact hf) hq
  cases c with
  |skip=>cases h;exact wpIn_skip (hQ ρ a w aN (bL.refl _ _ _) hD)
  |label l=>cases h;exact wpIn_label (hQ ρ a w aN (bL.refl _ _ _) hD)
  |exit id=>cases h;exact wpIn_exit (hQ ρ a w aN (bL.refl _ _ _) hD)
  |goto l=>cases h;exact wpIn_goto (hQ ρ a w aN (bL.refl _ _ _) hD)
  |ret=>cases h;exact wpIn_ret (hQ ρ a w aN (bL.refl _ _ _) hD)
  |refuse why=>cases h
  |region id ops d=>
   obtain⟨h1,rfl,rfl⟩:=D4 h;have Iu:∀ρ' a' w',ew P B ρ' n aL H' a' w'->bL ρ H w ρ' H' w'->a'.defers=a.defers->Q .normal a' w':=fun ρ' a' w' r1 r2 r3=>hQ ρ' a' w' r1 r2 (by rw [r3];exact hD.mono r2.le)
   exact(hdr d).ct _ _ hC hR id _ _ _ _ _ _ h1 B ρ a w rd k Q aN hf Iu
  |seq x y=>
   have h:(@R.rec (fun _=>R) .no (fun T H m=>ih y n aK T H m) .exit .goto .ret (ih x n aK T H m)).out=some (e,aL,H',m'):=h;refine wpIn_seq ?_;cases hx:ih x n aK T H m with
   |no=>rw [hx]at h;cases h
   |normal T1 H1 m1=>
    rw [hx]at h;have hle:=hI.mono _ _ _ _ _ _ _ _ _ _ h;refine hI.ct x n aK T H m _ _ _ _ (by rw [hx];rfl) B ρ a w rd k _ hrd aN hD (hf.mono' hle) fun cK a1 w1 r1 r2 r3=> ?_
    exact hI.ct _ _ _ _ _ _ _ _ _ _ h B cK a1 w1 rd k Q (hrd.mono r2.le) r1 r3 (r2.fr hf) fun ρ' a' w' q1 aO bZ=>hQ ρ' a' w' q1 (r2.trans aO) bZ
   |exit id T1 H1 m1=>rw [hx]at h;cases h;exact here (x:=x) (by rw [hx];rfl) rfl _ hQ
   |goto l T1 H1 m1=>rw [hx]at h;cases h;exact here (x:=x) (by rw [hx];rfl) rfl _ hQ
   |ret T1 H1 m1=>rw [hx]at h;cases h;exact here (x:=x) (by rw [hx];rfl) rfl _ hQ
  |cond c x y=>
   have h:(@mS.rec (fun _=>R) .no (fun b=> @Bool.rec (fun _=>R) (ih y n aK T H m) (ih x n aK T H m) b) (gq (cc T c))).out=some (e,aL,H',m'):=h;cases hb:gq (cc T c)with
   |no=>rw [hb]at h;cases h
   |mk b=>
    rw [hb]at h;have hc:=w9 aN.T aN.G c;rw [DI hb]at hc;refine wpIn_cond hc.b7 ?_;cases b
    .exact hI.ct _ _ _ _ _ _ _ _ _ _ h B ρ a w rd k Q hrd aN hD hf hQ
    .exact hI.ct _ _ _ _ _ _ _ _ _ _ h B ρ a w rd k Q hrd aN hD hf hQ
  |block id x=>
   have h:(@R.rec (fun _=>R) .no .normal (fun i T H m=> @Bool.rec (fun _=>R) (.exit i T H m) (.normal T H m) (Nat.beq i id)) .goto .ret (ih x n aK T H m)).out=some (e,aL,H',m'):=h;refine wpIn_block ?_;cases hx:ih x n aK T H m with
   |no=>rw [hx]at h;cases h
   |normal T1 H1 m1=>rw [hx]at h;cases h;exact here (x:=x) (by rw [hx];rfl) rfl _ hQ
   |exit i T1 H1 m1=>
    rw [hx]at h;simp only at h;cases hb:Nat.beq i id with
    |true=>
     rw [hb]at h;cases h;have:=ac hb;subst this;exact here (x:=x) (by rw [hx];rfl) rfl _ fun ρ' a' w' r1 r2 r3=>by simp only [Exit.inBlock,if_true];exact hQ ρ' a' w' r1 r2 r3
    |false=>
     rw [hb]at h;cases h;have hne:i≠id:=fun hh=>by subst hh;rw [Nat.beq_refl]at hb;cases hb
     exact here (x:=x) (by rw [hx];rfl) rfl _ fun ρ' a' w' r1 r2 r3=>by simp only [Exit.inBlock,if_neg hne];exact hQ ρ' a' w' r1 r2 r3
   |goto l T1 H1 m1=>rw [hx]at h;cases h;exact here (x:=x) (by rw [hx];rfl) rfl _ hQ
   |ret T1 H1 m1=>rw [hx]at h;cases h;exact here (x:=x) (by rw [hx];rfl) rfl _ hQ
  |loop x=>rw [Tf]at h;exact wpIn_loop_rounds rounds (Te hI rounds h hrd aN hD hf hQ)
  |rangeFunc f ps x y=>
   cases aK with
   |some i=>
    cases rd with
    |some l=>obtain⟨c,hc⟩:=hrd;exact aiy gS hK hI hc h k aN hD hf hQ
    |none=>exact hrd.elim
   |none=>
    cases rd with
    |some l=>exact hrd.elim
    |none=>exact aix gS hK hI h k aN hD hf hQ
  |scope x=>
   have h:(@R.rec (fun _=>R) .no .normal .exit (fun _ _ _ _=> .no) .ret (ih x n aK T H m)).out=some (e,aL,H',m'):=h;refine Ig ?_;cases hx:ih x n aK T H m with
   |no=>rw [hx]at h;cases h
   |normal T1 H1 m1=>rw [hx]at h;cases h;exact here (x:=x) (by rw [hx];rfl) rfl _ hQ
   |exit id T1 H1 m1=>rw [hx]at h;cases h;exact here (x:=x) (by rw [hx];rfl) rfl _ hQ
   |goto l T1 H1 m1=>rw [hx]at h;cases h
   |ret T1 H1 m1=>rw [hx]at h;cases h;exact here (x:=x) (by rw [hx];rfl) rfl _ hQ
theorem F2 (gS:∀ih,jx P ih->bB P (eu ih)) (hK:eW P) {draw:oE} (hdr:∀d,xb P d (draw d)):∀fuel,jx P (tp eu P draw fuel)
 |0=>⟨(fun _ _ _ _ _ _ _ _ _ _ h=>by cases h),(fun _ _ _ _ _ _ _ _ _ _ h=>by cases h)⟩
 |f+1=>aiz gS hK hdr (F2 gS hK hdr f)
end
end Go.Proofs.YtibikmmdbdlafaaGreatDoor.Sv
/- Package gear: trains: the keys of a map are collected and sorted. -/
namespace Go.Proofs.YtibikmmdbdlafaaGreatDoor
open Go.RowKit Sv Go.Proofs.Tryz
structure oh (w:World) (b r:Nat) (es:Array MapEntry) (clock:Nat) (rem:List MapEntry):Prop where
 m:w.heap[b]? =some (.map es clock)
 it:∃seen c0,w.heap[r]? =some (.mapIter (some b) clock seen c0)/\clock<=c0/\(leftOf es seen).toList=rem
theorem Tg (e:MapEntry):∀{l:List MapEntry},(l.map (·.born)).Nodup->e∈l->l.Perm (e::l.filter fun x=>x.born != e.born)
 |[],_,h=>by cases h
 |x::l,hn,h=>by
  rw [List.map_cons,List.nodup_cons]at hn;by_cases hx:x.born=e.born
  .have fV:x=e:=by
    rcases dV.1 h with h|h
    .exact h.symm
    .exact absurd (List.mem_map.2 ⟨e,h,hx.symm⟩) hn.1
   subst fV;have:l.filter (fun y=>y.born != x.born)=l:=List.filter_eq_self.2 fun y hy=>by
    rw [gJ];intro he;exact hn.1 (List.mem_map.2 ⟨y,hy,he⟩)
   rw [List.filter_cons,if_neg (by simp),this]
  .have he:e∈l:=by
    rcases dV.1 h with h|h
    .exact absurd (by rw [h]) hx
    .exact h
   rw [List.filter_cons,if_pos (by simpa using hx)];exact((Tg e hn.2 he).cons x).trans (List.Perm.swap _ _ _)
theorem aiA (es:Array MapEntry) (seen:Array Nat) (k:Nat):(leftOf es (seen.push k)).toList=(leftOf es seen).toList.filter fun x=>x.born != k:=by
 unfold leftOf;rw [Array.toList_filter,Array.toList_filter,List.filter_filter];refine List.filter_congr fun x _=> ?_
 rw [contains_push];cases seen.contains x.born<;>simp [bne]
theorem oh.next {P:Program} {w:World} {b r:Nat} {es:Array MapEntry} {clock:Nat} {rem:List MapEntry} (Az:∀x∈es.toList,x.born<clock) (hn:(es.toList.map (·.born)).Nodup) (h:oh w b r es clock rem) (ty:TypeId):
  (rem=[]/\(Instr.next (.pointer (some ⟨r,0,none⟩)) false ty).run P w= .ok (.tuple #[.bool false]) w)\/
  ∃e rS w',rem.Perm (e::rS)/\e∈es.toList/\(Instr.next (.pointer (some ⟨r,0,none⟩)) false ty).run P w= .ok (.tuple #[.bool true,e.key,e.val]) w'/\oh w' b r es clock rS/\w.grownBy w' (some r)/\w'.heap.size=w.heap.size/\
   (Instr.entry (.pointer (some ⟨r,0,none⟩))).run P w'= .ok (.tuple #[e.key,e.val]) w':=by
 obtain⟨hb,seen,c0,hr,hc,rfl⟩:=h;have hne:b≠r:=fun e=>by subst e;rw [hb]at hr;cases hr
 rcases run_next_at (P:=P) w ty r b clock c0 seen es clock hr hb Az hc with⟨h0,hrun⟩|⟨e,he,w1,hal,hrun⟩
 .exact .inl ⟨by rw [Array.eq_empty_of_size_eq_zero h0],hrun⟩
 .have hem:e∈es.toList:=by
   unfold leftOf at he;rw [Array.toList_filter]at he;exact(List.mem_filter.1 he).1
  have hnl:((leftOf es seen).toList.map (·.born)).Nodup:=by
   unfold leftOf;rw [Array.toList_filter];exact(List.filter_sublist.map _).nodup hn
  have kE:w1.heap[r]? =some (.mapIter (some b) clock seen c0):=by rcases hal with rfl |rfl<;>exact hr
  have lp:w1.heap[b]? =some (.map es clock):=by rcases hal with rfl |rfl<;>exact hb
  have qi:=MapKept.heap_set (o':= .mapIter (some b) clock (seen.push e.born) clock) kE;have hb':(ChangeMaps.setBlock w1 r (.mapIter (some b) clock (seen.push e.born) clock)).heap[b]? =some (.map es clock):=(qi.2 b hne).trans lp;refine .inr ⟨e,_,_,Tg e hnl he,hem,hrun,⟨hb',_,_,qi.1,aE _,aiA es seen e.born⟩, ?_, ?_,run_entry_at _ r b clock seen es clock e qi.1 hb' hem hn⟩
  .rcases hal with rfl |rfl<;>exact⟨rfl,rfl,rfl,by simp [ChangeMaps.setBlock],fun i _ hi=>qi.2 i (fun e1=>hi (by rw [e1]))⟩
  .rcases hal with rfl |rfl<;>simp [ChangeMaps.setBlock]
theorem oh.kept {w w':World} {b r:Nat} {es:Array MapEntry} {clock:Nat} {rem:List MapEntry} (h:oh w b r es clock rem) (h1:w'.heap[b]? =w.heap[b]?) (h2:w'.heap[r]? =w.heap[r]?):oh w' b r es clock rem:=
 ⟨by rw [h1];exact h.m,by rw [h2];exact h.it⟩
section
variable {F:Fence} {n:Nat} {P:Program} (w:World) {ops:Array Oper} {rest:List Oper} {o:Oper} {a:Act} {Q:Exit->Act->World->Prop}
theorem m0 (hg:o.guard=none) (m:Operand) (t:TypeId) (hop:o.op=Op.range t m) (k e:TypeId) (ht:P.underlying t=some (.map k e)) (b:Nat) (es:Array MapEntry) (clock:Nat) (hm:a.eval m= .map (some b)) (hb:w.heap[b]? =some (.map es clock)) (r:Nat) (hr:w.heap.size=r)
  (hK:oh (w.alloc (.mapIter (some b) clock #[] clock)) b r es clock es.toList->wpListIn F n P ops Q rest (a.put o.dst (.pointer (some ⟨r,0,none⟩))) (w.alloc (.mapIter (some b) clock #[] clock))):
  wpListIn F n P ops Q (o::rest) a w:=by
 subst hr;refine wpListIn_plain hg fun K' hK'=> ?_
 have hrun:=run_range_map (P:=P) w t k e b es clock ht hb;have hlt:b<w.heap.size:=(dx.1 hb).1;unfold Oper.wpIn;refine⟨?_, ?_⟩
 .simp [Oper.about,hop]
 .rw [Oper.semAt_plain F _ _ (by rw [hop];intro c sV;cases sV)];simp [execOp,hop,hm,hrun,Result.andThen];refine hK' _ _ (hK ⟨(heap_alloc_old w _ hlt).trans hb, #[],clock,heap_alloc_new w _,aE _, ?_⟩);unfold leftOf;rw [Array.toList_filter];exact List.filter_eq_self.2 fun x _=>by simp
theorem aiB (hg:o.guard=none) (it:Operand) (hop:o.op=Op.next it false) (b r:Nat) (es:Array MapEntry) (clock:Nat) (rem:List MapEntry) (Az:∀x∈es.toList,x.born<clock) (hn:(es.toList.map (·.born)).Nodup)
  (hit:a.eval it= .pointer (some ⟨r,0,none⟩)) (h:oh w b r es clock rem) (hDone:rem=[]->wpListIn F n P ops Q rest (a.put o.dst (.tuple #[.bool false])) w)
  (hMore:∀e rS w',rem.Perm (e::rS)->e∈es.toList->oh w' b r es clock rS->w.grownBy w' (some r)->w'.heap.size=w.heap.size->(Instr.entry (.pointer (some ⟨r,0,none⟩))).run P w'= .ok (.tuple #[e.key,e.val]) w'->
    wpListIn F n P ops Q rest (a.put o.dst (.tuple #[.bool true,e.key,e.val])) w'):
  wpListIn F n P ops Q (o::rest) a w:=by
 refine wpListIn_plain hg fun K' hK'=> ?_
 unfold Oper.wpIn;refine⟨by simp [Oper.about,hop], ?_⟩;rw [Oper.semAt_plain F _ _ (by rw [hop];intro c sV;cases sV)];rcases h.next (P:=P) Az hn o.type with⟨h0,hrun⟩|⟨e,rS,w',g1,g2,hrun,g3,g4,g5,g6⟩
 .simp [execOp,hop,hit,hrun,Result.andThen];exact hK' _ _ (hDone h0)
 .simp [execOp,hop,hit,hrun,Result.andThen];exact hK' _ _ (hMore e rS w' g1 g2 g3 g4 g5 g6)
end
end Go.Proofs.YtibikmmdbdlafaaGreatDoor
/- What a slice reads as: words of my own, over any program. 'Row w B A vs': the cells vs lie from the address A on, in a block below B (nothing is asked if there is no cell). -/
namespace Go.Proofs.YtibikmmdbdlafaaGreatDoor
open Go.RowKit
def Row (w:World) (B:Nat) (A:Option Addr) (vs:List Value):Prop:=
 vs=[]\/∃b off,A=some ⟨b,off,none⟩/\b<B/\∀i,i<vs.length->w.cell? ⟨b,off+i,none⟩=some (vs.getD i (.bool false))
theorem Row.nil {w:World} {B:Nat} {A:Option Addr}:Row w B A []:= .inl rfl
theorem Row.open {w:World} {B:Nat} {A:Option Addr} {vs:List Value} (h:Row w B A vs) (hn:0<vs.length):
  ∃b off,A=some ⟨b,off,none⟩/\b<B/\∀i,i<vs.length->w.cell? ⟨b,off+i,none⟩=some (vs.getD i (.bool false)):=by
 rcases h with rfl |h
 .simp at hn
 .exact h
theorem Row.below {w w':World} {B B':Nat} {A:Option Addr} {vs:List Value} (h:Row w B A vs) (hb:Below B' w w') (hB:B<=B'):Row w' B A vs:=by
 rcases h with rfl |⟨b,off,rfl,hlt,hc⟩
 .exact .inl rfl
 .exact .inr ⟨b,off,rfl,hlt,fun i hi=>(hb.cell (p:=⟨b,off+i,none⟩) (by simp;omega)).trans (hc i hi)⟩
theorem Row.drewN {w:World} {B:Nat} {A:Option Addr} {vs:List Value} (h:Row w B A vs) (k:Nat):Row (w.drewN k) B A vs:=h
theorem Row.drew {w:World} {B:Nat} {A:Option Addr} {vs:List Value} (h:Row w B A vs):Row w.drew B A vs:=h
theorem Row.alloc {w:World} {B:Nat} {A:Option Addr} {vs:List Value} (h:Row w B A vs) (hB:B<=w.heap.size) (o:Obj):Row (w.alloc o) B A vs:=
 h.below ((Below.refl B w).alloc hB o) (aE _)
theorem Row.new (w:World) (e:TypeId) (vs:List Value):Row (w.alloc (.cells vs.toArray e)) (w.heap.size+1) (some ⟨w.heap.size,0,none⟩) vs:=
 .inr ⟨w.heap.size,0,rfl,by omega,fun i hi=>by
   rw [World.cell?_alloc_at _ _ _ _ rfl];simp [ao,hi]⟩
theorem Row.int {w:World} {B:Nat} {A:Option Addr} {xs:List Int} (h:Row w B A (xs.map (Value.int .i64))) (k:Nat) (hk:k<xs.length):
  ∃b off x,A=some ⟨b,off,none⟩/\b<B/\xs[k]? =some x/\w.cell? ⟨b,off+k,none⟩=some (.int .i64 x):=by
 obtain⟨b,off,h1,h2,h3⟩:=h.open (by simp;omega);refine⟨b,off,xs[k],h1,h2,mP hk, ?_⟩;rw [h3 k (by simpa using hk)];simp [ao,hk]
def eD (w:World) (g:Nat) (t:TypeId) (cs:Array Value):Prop:=w.heap[g]? =some (.cells cs t (0,0))
section
variable {w w':World} {g:Nat} {t:TypeId} {cs:Array Value}
theorem eD.lt (h:eD w g t cs):g<w.heap.size:=by
 rcases Nat.lt_or_ge g w.heap.size with hlt|hge
 .exact hlt
 .unfold eD at h;rw [Array.getElem?_eq_none hge]at h;cases h
theorem eD.cell (h:eD w g t cs) (i:Nat):w.cell? ⟨g,i,none⟩=cs[i]? :=cell_of_row w g i cs t (0,0) h
theorem eD.frozen (h:eD w g t cs) (i:Nat):w.frozen? ⟨g,i,none⟩=false:=by
 unfold eD at h;simp [World.frozen?,h]
theorem eD.new (w:World) (t:TypeId) (cs:Array Value):eD (w.alloc (.cells cs t)) w.heap.size t cs:=heap_alloc_new w _
theorem eD.drew (h:eD w g t cs):eD w.drew g t cs:=h
theorem eD.drewN (h:eD w g t cs) (n:Nat):eD (w.drewN n) g t cs:=h
theorem eD.alloc (h:eD w g t cs) (o:Obj):eD (w.alloc o) g t cs:=(Below.heap_alloc w o g h.lt).trans h
theorem eD.below {B:Nat} (h:eD w g t cs) (hb:Below B w w') (hg:g<B):eD w' g t cs:=(hb.block g hg).trans h
theorem eD.set (h:eD w g t cs) (i:Nat) (u:Value):eD (w.setCell ⟨g,i,none⟩ u) g t (cs.setIfInBounds i u):=by
 unfold eD at h ⊢;simp [World.setCell,Array.getElem?_modify,h]
theorem eD.gh (h:eD w g t cs) {p:Addr} (hp:g≠p.block) (u:Value):eD (w.setCell p u) g t cs:=(Below.heap_setCell w p u g hp).trans h
end
end Go.Proofs.YtibikmmdbdlafaaGreatDoor
/- Package gear: trains: its head: the kinds of wheels, ascending. -/
namespace Go.Proofs.YtibikmmdbdlafaaGreatDoor
open Go.RowKit Sv Go.Proofs.Tryz
theorem Tryz.Th:(prog.info? 3).map (fun i=>(i.zero,i.size,i.bytes))=some (some (.int .i64 0),1,8):=by kernel_rfl
noncomputable def Ti:Code:=(f157.body).getD .skip
structure aiC (yv:Value) (tY AA:Nat) (w:World) (ks:List Int) (a':Act) (W:World):Prop where
 size:a'.tmps.size=48
 t0:a'.tmps.getD 0 undef=yv
 t1:a'.tmps.getD 1 undef= .pointer (some ⟨tY,0,none⟩)
 t2:a'.tmps.getD 2 undef= .pointer (some ⟨AA,0,none⟩)
 t3:a'.tmps.getD 3 undef= .pointer (some ⟨w.heap.size,0,none⟩)
 t4:a'.tmps.getD 4 undef= .pointer (some ⟨w.heap.size+1,0,none⟩)
 un:∀t,t<48->t∉[0,1,2,3,4,5,10,11,12,13,14,15,16,17,18,19,20,21]->a'.tmps.getD t undef=undef
 df:a'.defers=[]
 b3:W.heap[w.heap.size]? =some (.cells #[yv] 148 (0,0))
 b4:∃v,W.heap[w.heap.size+1]? =some (.cells #[v] 93 (0,0))/\W.ownsRow (w.heap.size+3) 3 1 v ks.length (gH (ks.mergeSort fun x y=>decide (x<=y)))
 gr:w.grownBy W none
structure aiD (yv:Value) (w:World) (b:Nat) (es:Array MapEntry) (clock:Nat) (ks:List Int) (wr:World) (v:Value) (ss:List Int) (rem:List MapEntry):Prop where
 rg:oh wr b (w.heap.size+2) es clock rem
 pm:(gH ss++rem.map (·.key)).Perm (gH ks)
 b3:wr.heap[w.heap.size]? =some (.cells #[yv] 148 (0,0))
 b4:wr.heap[w.heap.size+1]? =some (.cells #[v] 93 (0,0))
 own:wr.ownsRow (w.heap.size+3) 3 1 v ss.length (gH ss)
 gr:w.grownBy wr none
 sz:w.heap.size+3<=wr.heap.size
theorem aiE {a b:List Int} (h:a.Perm b):(a.mergeSort fun x y=>decide (x<=y))=b.mergeSort fun x y=>decide (x<=y):=by
 have F3:∀x y z:Int,decide (x<=y)=true->decide (y<=z)=true->decide (x<=z)=true:=fun x y z h1 h2=>by rw [bz]at*;omega
 have tt:∀x y:Int,(decide (x<=y)||decide (y<=x))=true:=fun x y=>by rw [Bool.or_eq_true,bz,bz];omega
 refine List.Perm.eq_of_pairwise (le:=fun x y=>decide (x<=y)=true) (fun x y _ _ h1 h2=>by rw [bz]at*;omega) (List.pairwise_mergeSort F3 tt a) (List.pairwise_mergeSort F3 tt b) ?_;exact(List.mergeSort_perm a _).trans (h.trans (List.mergeSort_perm b _).symm)
theorem aiF {a b:List Int} (h:(gH a).Perm (gH b)):a.Perm b:=by
 have h2:=h.map (fun v:Value=>match v with | .int _ n=>n|_=>0);have e:∀l:List Int,(gH l).map (fun v:Value=>match v with | .int _ n=>n|_=>0)=l:=fun l=>by
  unfold gH;rw [List.map_map];exact List.map_id' l
 rwa [e,e]at h2
theorem aiG {w w':World} {base size n:Nat} {e:TypeId} {v:Value} {vs:List Value} (h:w.ownsRow base e size v n vs) (hk:∀b,some b=v.ownBlock->w'.heap[b]? =w.heap[b]?):w'.ownsRow base e size v n vs:=by
 refine⟨h.1, ?_⟩;rcases h.2 with hn|⟨g,cap,cur,rfl,LD,hg,rest⟩
 .exact .inl hn
 .exact .inr ⟨g,cap,cur,rfl,LD,(hk g rfl).trans hg,rest⟩
theorem aiH {w:World} {base size n:Nat} {e:TypeId} {v:Value} {vs:List Value} (h:w.ownsRow base e size v n vs):∃A c,v= .slice A n c:=by
 rcases h.2 with⟨rfl,rfl⟩|⟨g,cap,cur,rfl,_⟩
 .exact⟨_,_,rfl⟩
 .exact⟨_,_,rfl⟩
theorem oh.left {w:World} {b r:Nat} {es:Array MapEntry} {clock:Nat} {rem:List MapEntry} (h:oh w b r es clock rem):w.rangeLeft b r=rem.length:=by
 obtain⟨seen,c0,h1,_,h3⟩:=h.it;unfold World.rangeLeft;rw [h.m,h1];simp only;rw [<-h3,Array.length_toList]
theorem Tj {n m:Nat} {P:Program} {f:FuncId} {args:Array Value} {w:World} {R:Ending->World->Prop} (h:CallsIn Fence.wide n P f args w R):CallsIn Fence.wide m P f args w R:=callsIn_wide.2 (callsIn_wide.1 h)
theorem aiI {w:World} {b:Nat} {o:Nat} {v:Value} (h:w.cell? ⟨b,o,none⟩=some v):b<w.heap.size:=by
 unfold World.cell? at h;cases hb:w.heap[b]? with
 |none=>simp [hb]at h
 |some x=>exact(dx.1 hb).1
set_option maxRecDepth 100000 in
set_option maxHeartbeats 4000000 in
theorem aiJ (m ym:Nat) (tY AA b:Nat) (es:Array MapEntry) (clock:Nat) (ks:List Int) (w:World) (R:Ending->World->Prop) (x0:w.cell? ⟨tY,0,none⟩=some (.map (some b))) (hb:w.heap[b]? =some (.map es clock))
  (Az:∀x∈es.toList,x.born<clock) (hn:(es.toList.map (·.born)).Nodup) (hk:es.toList.map (·.key)=gH ks) (hsz:ks.length<=100000)
  (hK:∀a' W,aiC (.func (.yield ym) #[] #[]) tY AA w ks a' W->(cat Ti [1,1,1,1]).wpIn Fence.wide m prog (bodyPostM Fence.wide m prog f157 R) a' W):
  CallsIn Fence.wide m prog 157 #[.func (.yield ym) #[] #[], .pointer (some ⟨tY,0,none⟩), .pointer (some ⟨AA,0,none⟩)] w R:=by
 have aiK:=Lib.hid hK;have aiL:=Lib.hid Az;have LI:=Lib.hid hn;have Tk:=Lib.hid hk;have gZ:b<w.heap.size:=(dx.1 hb).1;have aiM:=Lib.hid hb;have arc:tY<w.heap.size:=aiI x0;obtain⟨i0,sU,LJ,LK,Tl⟩:=info_parts Tryz.Th;clear hK Az hn hk hb;refine callsIn_of_wp_marks func157 rfl trivial ?_;simp only [Tryz.ntmps157,List.size_toArray,List.length_cons,List.length_nil,Nat.reduceAdd,Nat.reduceSub,Array.replicate_succ,Array.replicate_zero,List.push_toArray,List.append_toArray,List.nil_append,List.cons_append]
 gi_wp2_with (first
  |(gi_at_range;refine m0 _ rfl _ 135 rfl 3 3 Tryz.underlying135 b es clock rfl (by rw [heap_alloc_old _ _ (by simp;omega),heap_alloc_old _ _ gZ];exact aiM.out) (w.heap.size+2) (by simp) ?_;intro aiN)
  |gi_in)
 go_frame
 gi_loopw [] (fun wr=>∃v ss rem,aiD (.func (.yield ym) #[] #[]) w b es clock ks wr v ss rem) (fun wr=>wr.rangeLeft b (w.heap.size+2))
 case atStart=>
  refine⟨.slice none 0 0,[],es.toList,aiN, ?_, ?_, ?_,World.ownsRow_nil _ _ _ _, ?_,by simp⟩
  .rw [Tk.out];exact List.Perm.refl _
  .rw [heap_alloc_old _ _ (by simp;omega),heap_alloc_old _ _ (by simp),heap_alloc_new]
  .rw [heap_alloc_old _ _ (by simp)];have:=heap_alloc_new (w.alloc (.cells #[Value.func (Fn.yield ym) #[] #[]] 148)) (.cells #[Value.slice none 0 0] 93);rwa [show(w.alloc (.cells #[Value.func (Fn.yield ym) #[] #[]] 148)).heap.size=w.heap.size+1 by simp]at this
  .exact((World.grownBy_alloc w _ none).andThen (World.grownBy_alloc _ _ none) fun j hj=>by cases hj).andThen (World.grownBy_alloc _ _ none) fun j hj=>by cases hj
 case round=>
  obtain⟨v,ss,rem,hL⟩:=hrel;have iK:=Lib.hid hL;have Tm:=hL.rg;clear hL
  gi_wp2_with (first
   |(gi_at_next;refine aiB _ rfl _ rfl b (w.heap.size+2) es clock rem aiL.out LI.out rfl Tm ?_ ?_)
   |gi_in)
  .intro aiO;have qh:wr.cell? ⟨w.heap.size+1,0,none⟩=some v:=cell_of_row _ _ 0 #[v] _ _ iK.out.b4;have hst:=(callsIn_wide.2 (ain _ _ v ss wr iK.out.own ?hlen):CallsIn Fence.wide 0 _ _ _ _ _)
   case hlen=>
    have h1:=iK.out.pm.length_eq;simp at h1;omega
   have aiP:=Lib.hid hst;clear hst
   gi_wp2
   refine⟨trivial,(fun h=>by cases h),(Tj aiP.out).mono ?_⟩;rintro e w' ⟨rfl,hown,hgr⟩;rename_i ard h1 arf h2;refine h2 _ _ ?_;refine wpListIn_nil ?_;refine h1 _ _ ?_;refine aiK.out _ _ ?_;refine⟨rfl,rfl,rfl,rfl,rfl,rfl, ?_,rfl, ?_,⟨v, ?_, ?_⟩, ?_⟩
   .intro t ht hnt;simp only [dV,jY,or_false,not_or]at hnt;have ht2:t=6\/t=7\/t=8\/t=9\/t=22\/t=23\/t=24\/t=25\/t=26\/t=27\/t=28\/t=29\/t=30\/t=31\/t=32\/t=33\/t=34\/t=35\/t=36\/t=37\/t=38\/t=39\/t=40\/t=41\/t=42\/t=43\/t=44\/t=45\/t=46\/t=47:=by omega
    rcases ht2 with rfl |rfl |rfl |rfl |rfl |rfl |rfl |rfl |rfl |rfl |rfl |rfl |rfl |rfl |rfl |rfl |rfl |rfl |rfl |rfl |rfl |rfl |rfl |rfl |rfl |rfl |rfl |rfl |rfl |rfl<;>rfl
   .exact(hgr.block _ (Nat.lt_of_lt_of_le (Nat.lt_add_of_pos_right (by decide)) iK.out.sz) fun e=>by have:=(iK.out.own.lt _ e.symm).1;omega).trans iK.out.b3
   .exact(hgr.block _ (by have:=iK.out.sz;omega) fun e=>by have:=(iK.out.own.lt _ e.symm).1;omega).trans iK.out.b4
   .have rT:=iK.out.pm;rw [aiO,List.map_nil,List.append_nil]at rT;have rT:=aiF rT;rw [<-rT.length_eq,<-aiE rT];exact hown
   .exact iK.out.gr.andThen hgr fun j hj=> .inl (by have:=(iK.out.own.lt j hj).1;omega)
  .intro e rS w2 rT hmem Tn F4 hs2 aiQ;obtain⟨x,hx⟩:∃x,e.key= .int .i64 x:=by
    have:e.key∈gH ks:=by rw [<-Tk.out];exact List.mem_map.2 ⟨e,by simpa using hmem,rfl⟩
    obtain⟨x,_,hx⟩:=List.mem_map.1 this;exact⟨x,hx.symm⟩
   have To:=iK.out.pm;have hlen:ss.length+1<=100000:=by
    have h1:=To.length_eq;have h2:=rT.length_eq;simp at h1 h2;omega
   have aiR:=Lib.hid hx;rw [hx]at aiQ ⊢;have hlt:∀k,v.ownBlock=some k->w.heap.size+3<=k/\k<wr.heap.size:=iK.out.own.lt;have iF:v.ownBlock=none\/v.ownBlock≠some (w.heap.size+2):=by
    cases aiS:v.ownBlock with
    |none=>exact .inl rfl
    |some k=>right;intro e;cases e;have:=(hlt _ aiS).1;omega
   have aiT:=iK.out.own.kept F4 iF;have CW:eD w2 (w.heap.size+1) 93 #[v]:=(F4.block _ (by have:=iK.out.sz;omega) (by simp)).trans iK.out.b4;have aiU:=Lib.hid (show w2.heap[w.heap.size+1]? =_ from CW);have qh:=CW.cell 0;have arh:=CW.frozen 0;have Tp:=Lib.hid Tn;have LL:=Lib.hid F4;have Tq:=Lib.hid rT;have LM:=Lib.hid hs2;clear rT To hmem Tn F4 hs2 hx iF
   gi_wp2_with (first
    |(gi_at_builtin;refine wpListIn_append_own _ rfl _ _ 93 rfl (w.heap.size+3) 3 i0 (.int .i64 0) 1 8 Tryz.underlying93 sU LJ LK Tl rfl (by decide) _ _ _ rfl (aiT.alloc _) ⟨w2.heap.size,0,none⟩ 1 1 [.int .i64 x] rfl rfl (cell_one_new _ _ _) ?hone ?c3 ?c4 ?c5 ?_)
    |gi_in)
   case hone=>intro u hu;simp at hu;subst hu;rfl
   case c3=>unfold maxLen;omega
   case c4=>omega
   case c5=>have:=iK.out.sz;have:=LM.out;simp;omega
   intro v5 yo LN LP aiV;obtain⟨F5,c5,rfl⟩:=aiH LN;have hs2:=LM.out;have ari:=iK.out.sz;have hlo:∀k,k<w.heap.size+3->some k≠v.ownBlock:=fun k hk e=>by have:=(hlt _ e.symm).1;omega
   have up:∀k,k<w.heap.size+3->yo.heap[k]? =w2.heap[k]? :=fun k hk=>(LP.block k (by simp;omega) (hlo k hk)).trans (heap_alloc_old _ _ (by omega))
   have F6:eD yo (w.heap.size+1) 93 #[v]:=(up _ (by omega)).trans CW;have vg:=F6.cell 0;have arj:=F6.frozen 0;have LQ:=Lib.hid up;have aiW:=Lib.hid F6;have aiX:=Lib.hid LN;have LR:=Lib.hid LP;clear up F6 LN LP aiV hlo hs2;have gh:∀k,k≠w.heap.size+1->(yo.setCell ⟨w.heap.size+1,0,none⟩ (.slice F5 (ss.length+1) c5)).heap[k]? =yo.heap[k]? :=fun k hk=>Below.heap_setCell _ _ _ k hk
   have aiY:=Lib.hid gh;have Tr:=Lib.hid (show oh (yo.setCell ⟨w.heap.size+1,0,none⟩ (.slice F5 (ss.length+1) c5)) b (w.heap.size+2) es clock rS from Tp.out.kept
    (by rw [gh _ (fun e=>by have:=Tp.out.m;rw [e,aiU.out]at this;cases this),LQ.out _ (by omega)])
    (by rw [gh _ (by omega),LQ.out _ (by omega)]))
   clear gh
   gi_wp2
   go_roundw
   case rel=>
    have gh:=aiY.out;have e1:gH ss++[Value.int .i64 x]=gH (ss++[x]):=by simp [gH]
    have h5:=aiX.out;have aiZ:∀k,(Value.slice F5 (ss.length+1) c5).ownBlock=some k->w.heap.size+3<=k/\k<yo.heap.size:=h5.lt;refine⟨.slice F5 (ss.length+1) c5,ss++[x],rS,Tr.out, ?_, ?_, ?_, ?_, ?_, ?_⟩
    .have hp2:=Tq.out.map (·.key);rw [List.map_cons,aiR.out]at hp2;have:=(List.Perm.append_left (gH ss) hp2).symm.trans iK.out.pm;rw [<-e1,ou];exact this
    .rw [gh _ (by omega),LQ.out _ (by omega),LL.out.block _ (by omega) (by simp)];exact iK.out.b3
    .exact aiW.out.set 0 _
    .have e2:(ss++[x]).length=ss.length+1:=by simp
     rw [e2,<-e1];exact aiG h5 fun k hk=>gh k (by have:=(aiZ k hk.symm).1;omega)
    .have s1:=LR.out.size;have s2:=LL.out.size;refine(((iK.out.gr.andThen LL.out fun j hj=>by cases hj;exact .inl (by omega)).andThen (World.grownBy_alloc _ _ none) fun j hj=>by cases hj).andThen LR.out fun j hj=> .inl (by have:=(hlt j hj).1;omega)).andThen (grownBy_setCell' yo (w.heap.size+1) _) fun j hj=>by cases hj;exact .inl (by omega)
    .have s1:=LR.out.size;have s2:=LM.out;simp at s1;simp [World.setCell];omega
   case measure=>
    rw [Tr.out.left,Tm.left];have:=Tq.out.length_eq;simp at this;omega
section
variable {P:Program} {B:Nat} {ρ eG:Env} {H H0:ai} {w w0 W:World}
theorem ai0 (hH:aX P B ρ H w) (hg:w.grownBy W none):aX P B ρ H W/\bL ρ H w ρ H W:=by
 have old:∀b o,w.heap[b]? =some o->W.heap[b]? =some o:=fun b o h=>(hg.block b (dx.1 h).1 (by simp)).trans h
 refine⟨⟨fun i k hi=> ?_,hH.inj,hH.lt,cX hH.base hg.size,fun b A hb=> ?_⟩,⟨cw.refl _,fun _ _=>rfl,aE _,hg.size,hg.os,hg.tape,hg.output,fun b hb _=>hg.block b hb (by simp),fun _ _ h=>h,fun _ _ h=>h,fun _ _ h=> .inl h⟩⟩
 .obtain⟨b,c,o,e1,e2,e3,bP⟩:=hH.blk i k hi;exact⟨b,c,o,e1,old b o e2,e3,bP⟩
 .obtain⟨⟨e,fr,h1⟩,h2⟩:=hH.fz b A hb;exact⟨⟨e,fr,old b _ h1⟩,h2⟩
theorem LS (hH:aX P B ρ H W) (hs:bL eG H0 w0 ρ H W) (hB:B<=w0.heap.size) {b c:Nat} {k:bf} {o:Obj} (hb0:w0.heap.size<=b) (hni:¬oF ρ H b) (hfz:∀A,ρ.fz b=some A->False) (hn:ρ H.next=none) (hn0:H0.next<=H.next) (hb:W.heap[b]? =some o) (hk:gv P (ρ.put H.next b c) H.next k o):
  aX P B (ρ.put H.next b c) (H.new k) W/\bL eG H0 w0 (ρ.put H.next b c) (H.new k) W:=by
 have hle:cw ρ (ρ.put H.next b c):=Env.oH hn;have hput:∀i,i≠H.next->ρ.put H.next b c i=ρ i:=fun i hi=>by simp [Env.put,hi]
 have hne:∀i k,H.get i=some k->i≠H.next:=fun i k hi=>Nat.ne_of_lt (hH.lt i k hi)
 refine⟨⟨fun i k' hi=> ?_,fun i j eB eO b' ci b9 hi hj jk fu=> ?_,fun i k' hi=> ?_,hH.base,fun b' A hb'=>⟨(hH.fz b' A hb').1,fun i k' c' hi hr=> ?_⟩⟩,
  ⟨hs.le.trans hle,fun i hi=> ?_,Nat.le_succ_of_le hs.next,hs.size,hs.os,hs.tape,hs.output,hs.frame,fun b' hl ho=> ?_,fun b' hl ho=> ?_,hs.mV⟩⟩
 .rw [ai.gb]at hi;split at hi
  .rename_i e;subst e;cases hi;exact⟨b,c,o,Env.dm ..,hb,hk,fun _=>cX hB hb0⟩
  .obtain⟨b',c',o',e1,e2,e3,bP⟩:=hH.blk i k' hi;exact⟨b',c',o',hle _ _ e1,e2,e3.mono hle,bP⟩
 .rw [ai.gb]at hi hj;split at hi<;>split at hj
  .rename_i e1 e2;rw [<-e1,<-e2]
  .rename_i e1 e2;subst e1;rw [Env.dm]at jk;rw [hput j (fun x=>e2 x.symm)]at fu;cases jk;exact(hni ⟨j,eO,b9,hj,fu⟩).elim
  .rename_i e1 e2;subst e2;rw [Env.dm]at fu;rw [hput i (fun x=>e1 x.symm)]at jk;cases fu;exact(hni ⟨i,eB,ci,hi,jk⟩).elim
  .rename_i e1 e2;rw [hput i (fun x=>e1 x.symm)]at jk;rw [hput j (fun x=>e2 x.symm)]at fu;exact hH.inj i j eB eO b' ci b9 hi hj jk fu
 .rw [ai.gb]at hi;rw [ai.HE];split at hi
  .rename_i e;omega
  .have:=hH.lt i k' hi;omega
 .rw [ai.gb]at hi;split at hi
  .rename_i e;subst e;rw [Env.dm]at hr;cases hr;exact(hfz A hb').elim
  .rename_i e;rw [hput i (fun x=>e x.symm)]at hr;exact(hH.fz b' A hb').2 i k' c' hi hr
 .rw [ai.HE]at hi;rw [hput i (by omega)];exact hs.ext i (by omega)
 .obtain⟨i,k',c',h1,h2,h3⟩:=ho;rw [ai.gb]at h1;split at h1
  .rename_i e;subst e;rw [Env.dm]at h3;cases h3;omega
  .rename_i e;rw [hput i (fun x=>e x.symm)]at h3;exact hs.own b' hl ⟨i,k',c',h1,h2,h3⟩
 .obtain⟨i,k',c',h1,h3⟩:=ho;rw [ai.gb]at h1;split at h1
  .rename_i e;subst e;rw [Env.dm]at h3;cases h3;omega
  .rename_i e;rw [hput i (fun x=>e x.symm)]at h3;exact hs.lY b' hl ⟨i,k',c',h1,h3⟩
end
noncomputable section
def LU (e:MapEntry):Option Int:=match e.key with | .int .i64 n=>some n|_=>none
def AB:List MapEntry->Option (List Int)
 |[]=>some []
 |e::l=>match LU e,AB l with |some n,some r=>some (n::r)|_,_=>none
def AD:List Nat->Bool
 |[]=>true
 |a::l=>cond (kF a l) false (AD l)
def pD (clock:Nat):List MapEntry->Bool
 |[]=>true
 |e::l=>cond (Nat.ble (e.born+1) clock) (pD clock l) false
def yp (x:Int):List Int->List Int
 |[]=>[x]
 |y::l=>cond (decide (x<=y)) (x::y::l) (y::yp x l)
def nx:List Int->List Int
 |[]=>[]
 |x::l=>yp x (nx l)
def F7 (args:List aa) (i:Nat):av aa:=[5,10,11,12,13,14,15,16,17,18,19,20,21].foldl (fun T t=>T.set t (some .bot)) (((fG args .nil 0).set 3 (some (.ptr i 0))).set 4 (some (.ptr (Nat.succ (Nat.succ i)) 0)))
def Ts (yi:Nat) (ks:List Int) (H:ai):ai:=
 ((H.new (.cells 148 [.yield yi] true false false)).new (.cells 3 (ks.map fun n=> .raw (.int .i64 n)) false false false)).new (.cells 93 [.slice (Nat.succ H.next) 0 ks.length .any] true false false)
def LV (P:Program) (fn:Func) (r:R):aI:= @R.rec (fun _=>aI) .no (fun T H m=>jZ P fn T H m) (fun _ _ _ _=> .no) (fun _ _ _ _=> .no) (fun T H m=>jZ P fn T H m) r
def Tt (ih:dR) (args:List aa) (yi:Nat) (ks:List Int) (H:ai):aI:=
 LV prog f157 (ih (cat Ti [1,1,1,1]) 48 none (F7 args H.next) (Ts yi ks H) [])
def Tu (ih:dR) (args:List aa) (yi:Nat) (H:ai) (b:Option bf):aI:=match b with
 |some (.map es clock)=>match AB es.toList with
  |some ks=>cond (Nat.ble 1 ks.length&&(Nat.ble ks.length 100000&&(pD clock es.toList&&AD (es.toList.map (·.born))))) (Tt ih args yi (nx ks) H) .no
  |none=> .no
 |_=> .no
def CX (ih:dR) (args:List aa) (H:ai):aI:=match args with
 |[.yield yi, .ptr om 0, .ptr jp 0]=>match H.get om with
  |some (.cells _ [.map lm] _ _ _)=>Tu ih [.yield yi, .ptr om 0, .ptr jp 0] yi H (H.get lm)
  |_=> .no
 |_=> .no
def yq (ih:dR):er:=fun f args H=> @Bool.rec (fun _=>aI) (vW prog ih f args H) (CX ih args H) (Nat.beq f 157)
theorem Tv:∀{l:List MapEntry} {ks:List Int},AB l=some ks->l.map (·.key)=gH ks
 |[],ks,h=>by cases h;rfl
 |e::l,ks,h=>by
  unfold AB at h;cases h1:LU e with
  |none=>rw [h1]at h;cases h
  |some n=>
   cases h2:AB l with
   |none=>rw [h1,h2]at h;cases h
   |some r=>
    rw [h1,h2]at h;cases h;have he:e.key= .int .i64 n:=by
     unfold LU at h1;split at h1
     .rename_i x hx;cases h1;exact hx
     .cases h1
    show e.key::l.map (·.key)=_;rw [he,Tv h2];rfl
theorem Tw {a:Nat}:∀{l:List Nat},kF a l=false->a∉l
 |[],_=>by simp
 |b::l,h=>by
  have h:(@Bool.rec (fun _=>Bool) (kF a l) true (Nat.beq b a))=false:=h;cases hb:Nat.beq b a with
  |true=>rw [hb]at h;cases h
  |false=>
   rw [hb]at h;rw [dV];rintro(rfl |hm)
   .rw [Nat.beq_refl]at hb;cases hb
   .exact Tw h hm
theorem Tx:∀{l:List Nat},AD l=true->l.Nodup
 |[],_=>List.nodup_nil
 |a::l,h=>by
  unfold AD at h;cases hm:kF a l with
  |true=>rw [hm]at h;cases h
  |false=>rw [hm]at h;exact List.nodup_cons.2 ⟨Tw hm,Tx h⟩
theorem Ty {clock:Nat}:∀{l:List MapEntry},pD clock l=true->∀x∈l,x.born<clock
 |[],_,x,hx=>by cases hx
 |e::l,h,x,hx=>by
  unfold pD at h;cases hb:Nat.ble (e.born+1) clock with
  |false=>rw [hb]at h;cases h
  |true=>
   rw [hb]at h;rcases dV.1 hx with rfl |hx
   .exact bR hb
   .exact Ty h x hx
theorem LW (x:Int):∀l:List Int,(yp x l).Perm (x::l)
 |[]=>List.Perm.refl _
 |y::l=>by
  unfold yp;cases hd:decide (x<=y)with
  |true=>exact List.Perm.refl _
  |false=>exact((LW x l).cons y).trans (List.Perm.swap _ _ _)
theorem m4:∀l:List Int,(nx l).Perm l
 |[]=>List.Perm.refl _
 |x::l=>(LW x (nx l)).trans ((m4 l).cons x)
theorem Tz (x:Int):∀{l:List Int},l.Pairwise (fun a b=>decide (a<=b)=true)->(yp x l).Pairwise (fun a b=>decide (a<=b)=true)
 |[],_=>by unfold yp;simp
 |y::l,h=>by
  unfold yp;rw [List.pairwise_cons]at h;cases hd:decide (x<=y)with
  |true=>
   refine List.pairwise_cons.2 ⟨fun z hz=> ?_,List.pairwise_cons.2 h⟩;rcases dV.1 hz with rfl |hz
   .exact hd
   .have:=h.1 z hz;rw [bz]at*;omega
  |false=>
   refine List.pairwise_cons.2 ⟨fun z hz=> ?_,Tz x h.2⟩;rcases dV.1 ((LW x l).mem_iff.1 hz)with rfl |hz
   .rw [decide_eq_false_iff_not]at hd;rw [bz];omega
   .exact h.1 z hz
theorem TA:∀l:List Int,(nx l).Pairwise (fun a b=>decide (a<=b)=true)
 |[]=>List.Pairwise.nil
 |x::l=>Tz x (TA l)
theorem ai1 (l:List Int):(l.mergeSort fun x y=>decide (x<=y))=nx l:=by
 have F3:∀x y z:Int,decide (x<=y)=true->decide (y<=z)=true->decide (x<=z)=true:=fun x y z h1 h2=>by rw [bz]at*;omega
 have tt:∀x y:Int,(decide (x<=y)||decide (y<=x))=true:=fun x y=>by rw [Bool.or_eq_true,bz,bz];omega
 refine List.Perm.eq_of_pairwise (le:=fun x y=>decide (x<=y)=true) (fun x y _ _ h1 h2=>by rw [bz]at*;omega) (List.pairwise_mergeSort F3 tt l) (TA l) ?_;exact(List.mergeSort_perm l _).trans (m4 l).symm
theorem TB {P:Program} {fn:Func} {r:R} {v:aa} {H':ai} (h:LV P fn r= .ok v H'):∃e T1 H1 m1,r.out=some (e,T1,H1,m1)/\(e= .normal\/e= .ret)/\jZ P fn T1 H1 m1= .ok v H':=by
 unfold LV at h;cases r with
 |no=>cases h
 |normal T H m=>exact⟨_,_,_,_,rfl, .inl rfl,h⟩
 |exit _ _ _ _=>cases h
 |goto _ _ _ _=>cases h
 |ret T H m=>exact⟨_,_,_,_,rfl, .inr rfl,h⟩
theorem As {ih:dR} {args:List aa} {H:ai} {v:aa} {H':ai} (h:CX ih args H= .ok v H'):∃yi om jp lm es clock ks el ex fz ro,args=[.yield yi, .ptr om 0, .ptr jp 0]/\H.get om=some (.cells el [.map lm] ex fz ro)/\H.get lm=some (.map es clock)/\AB es.toList=some ks/\
  1<=ks.length/\ks.length<=100000/\pD clock es.toList=true/\AD (es.toList.map (·.born))=true/\Tt ih args yi (nx ks) H= .ok v H':=by
 unfold CX at h;split at h
 .rename_i yi om jp;split at h
  .rename_i el lm ex fz ro hg;unfold Tu at h;split at h
   .rename_i es clock hm;split at h
    .rename_i ks hk;cases hb:(Nat.ble 1 ks.length&&(Nat.ble ks.length 100000&&(pD clock es.toList&&AD (es.toList.map (·.born)))))with
     |false=>rw [hb]at h;cases h
     |true=>
      rw [hb]at h;simp only [ae]at hb;exact⟨yi,om,jp,lm,es,clock,ks,el,ex,fz,ro,rfl,hg,hm,hk,bR hb.1,bR hb.2.1,hb.2.2.1,hb.2.2.2,h⟩
    .cases h
   .cases h
  .cases h
 .cases h
end
end Go.Proofs.YtibikmmdbdlafaaGreatDoor
namespace Go.Proofs.YtibikmmdbdlafaaGreatDoor
open Go.RowKit Sv Go.Proofs.Tryz
variable [Sv.Ground]
theorem At {ih:dR} (hI:jx prog ih) {args:List aa} {H:ai} {v:aa} {H':ai} (h:CX ih args H= .ok v H'):H.next+3<=H'.next:=by
 obtain⟨yi,om,jp,lm,es,clock,ks,el,ex,fz,ro,rfl,h1,h2,h3,h4,h5,h6,h7,h8⟩:=As h;obtain⟨e,T1,H1,m1,ho,he,hl⟩:=TB h8;have a1:=hI.mono _ _ _ _ _ _ _ _ _ _ ho;have a2:=zm hl;have a3:(Ts yi (nx ks) H).next=H.next+3:=rfl;omega
theorem ai2 {ρ:Env} {yi om jp i:Nat} {a':Act} (hs:a'.tmps.size=48) (h0:Den ρ (.yield yi) (a'.tmps.getD 0 undef)) (h1:Den ρ (.ptr om 0) (a'.tmps.getD 1 undef)) (h2:Den ρ (.ptr jp 0) (a'.tmps.getD 2 undef)) (h3:Den ρ (.ptr i 0) (a'.tmps.getD 3 undef)) (h4:Den ρ (.ptr (i+2) 0) (a'.tmps.getD 4 undef))
  (hu:∀t,t<48->t∉[0,1,2,3,4,5,10,11,12,13,14,15,16,17,18,19,20,21]->a'.tmps.getD t undef=undef):jE ρ (F7 [.yield yi, .ptr om 0, .ptr jp 0] i) 48 a'.tmps:=by
 refine⟨hs,fun t=> ?_⟩;unfold F7;simp only [List.foldl_cons,List.foldl_nil,av.fQ,Ih,av.get_nil,List.length_cons,List.length_nil,Nat.zero_le,true_and,aw,Nat.reduceAdd,Nat.sub_zero];by_cases hb:t∈[5,10,11,12,13,14,15,16,17,18,19,20,21]
 .simp only [dV,jY,or_false]at hb;rcases hb with rfl |rfl |rfl |rfl |rfl |rfl |rfl |rfl |rfl |rfl |rfl |rfl |rfl<;>exact .bot _
 .simp only [dV,jY,or_false,not_or]at hb;obtain⟨b1,b2,b3,b4,fW,EW,xR,ai3,ai4,ai5,ai6,ai7,ai8⟩:=hb;rw [if_neg (Ne.symm ai8),if_neg (Ne.symm ai7),if_neg (Ne.symm ai6),if_neg (Ne.symm ai5),if_neg (Ne.symm ai4),if_neg (Ne.symm ai3),if_neg (Ne.symm xR),if_neg (Ne.symm EW),if_neg (Ne.symm fW),if_neg (Ne.symm b4),if_neg (Ne.symm b3),if_neg (Ne.symm b2),if_neg (Ne.symm b1)];by_cases bP:t=4
  .subst bP;exact h4
  .rw [if_neg (Ne.symm bP)];by_cases e3:t=3
   .subst e3;exact h3
   .rw [if_neg (Ne.symm e3)];by_cases hlt:t<3
    .rw [if_pos hlt];rcases t with _|_|_|t
     .exact h0
     .exact h1
     .exact h2
     .omega
    .rw [if_neg hlt];by_cases h48:t<48
     .rw [hu t h48 (by simp;omega)];exact .raw _
     .rw [Array.getD_eq_getD_getElem?,Array.getElem?_eq_none (by omega)];exact .raw _
theorem LX {ρ:Env} {H:ai} {b b' c:Nat} {k:bf} (h:¬oF ρ H b') (hne:b'≠b):¬oF (ρ.put H.next b c) (H.new k) b':=fun⟨i,k',c',e1,e2⟩=>by
 rw [ai.gb]at e1;split at e1
 .rename_i hi;rw [<-hi,Env.dm]at e2;cases e2;exact hne rfl
 .rename_i hi;have:ρ.put H.next b c i=ρ i:=by simp [Env.put,Ne.symm hi]
  rw [this]at e2;exact h ⟨i,k',c',e1,e2⟩
theorem CY {ρ:Env} {i j b c:Nat} (h:j≠i):ρ.put i b c j=ρ j:=by simp [Env.put,h]
theorem ai9 {cap:Nat}:cap*1=cap*prog.cellsOf 3:=by rw [show prog.cellsOf 3=1 by kernel_rfl]
theorem aja {ρ:Env} (l:List Int):aF ρ (l.map fun n=>aa.raw (.int .i64 n)) (gH l):=by
 unfold gH;induction l with
 |nil=>exact .nil
 |cons x l ih=>exact .cons (.raw _) ih
theorem M1 {ih:dR} (hI:jx prog ih) {args:List aa} {H:ai} {v:aa} {H':ai} (h:CX ih args H= .ok v H') (B:Nat) (ρ:Env) (xs:List Value) (w:World) (m:Nat) (hH:aX prog B ρ H w) (cn:nP ρ) (hd:aF ρ args xs) (hf:Fr ρ H.next H'.next):
  CallsIn (dM none) m prog 157 xs.toArray w (mb prog B ρ H w v H'):=by
 have hmono:=At hI h;obtain⟨yi,om,jp,lm,es,clock,ks,el,ex,fz,ro,rfl,h1,h2,h3,h4,h5,h6,h7,h8⟩:=As h;obtain⟨e,T1,H1,m1,ho,he,hl⟩:=TB h8;have hnx:=zm hl
 match xs,hd with
 |[x0,x1,x2], .cons d0 (.cons d1 (.cons d2 .nil))=>
  obtain⟨ym,c0,cL,rfl⟩:=d0.HB;obtain⟨tY,c1,r1,rfl⟩:=d1.kz;obtain⟨AA,c2,r2,rfl⟩:=d2.kz;obtain⟨ys,ark,g1,_,g3,_,_,g6⟩:=l6 hH h1 r1;obtain⟨y,hy1,hy2⟩:=g3.get (i:=0) rfl;obtain⟨b,cb,rb,rfl⟩:=hy2.uJ;have hcell:w.cell? ⟨tY,0,none⟩=some (.map (some b)):=by
   have e1:(ys.toList.take 1)[0]? =some (Value.map (some b)):=hy1;rw [List.getElem?_take,if_pos (by decide),Array.getElem?_toList]at e1;rw [cell_of_row _ _ 0 ys _ _ g1];exact e1
  obtain⟨o,q1,aO,_⟩:=hH.at h2 rb;have aO:o= .map es clock:=aO;subst aO;refine aiJ m ym tY AA b es clock ks w _ hcell q1 (Ty h6) (Tx h7) (Tv h3) h5 fun a' W qG=> ?_
  obtain⟨arl,k1,k2⟩:=qG.b4;rw [ai1]at k2;have hlen:(nx ks).length=ks.length:=(m4 ks).length_eq;rcases k2.2 with⟨_,dB⟩|⟨g,cap,cur,rfl,dB,l8,oJ,w5,Ew,ajb⟩
  .omega
  .have ajc:cur.toList.take (nx ks).length=gH (nx ks):=by rw [hlen];simpa using ajb
   have hn0:∀i,H.next<=i->i<H.next+3->ρ i=none:=fun i a1 a2=>hf i a1 (by omega)
   have hBw:=hH.base;have LY:∀b' A,w.heap.size<=b'->ρ.fz b'=some A->False:=fun b' A hb' hz=>by
    obtain⟨⟨e',fr,e2⟩,_⟩:=hH.fz b' A hz;have:=(dx.1 e2).1;omega
   have LZ:∀b',w.heap.size<=b'->¬oF ρ H b':=fun b' hb' ⟨i,k,c,e1,e2⟩=>by
    obtain⟨o,e3,_⟩:=hH.at e1 e2;have:=(dx.1 e3).1;omega
   obtain⟨p1,p2⟩:=ai0 hH qG.gr
   -- the box of yield
   obtain⟨s1,t1⟩:=LS (b:=w.heap.size) (c:=0) (k:= .cells 148 [.yield yi] true false false) p1 p2 hBw (aE _) (LZ _ (aE _)) (fun A=>LY _ A (aE _)) (hn0 _ (aE _) (by omega)) (aE _) qG.b3
    ⟨_,_,rfl,fun _=>rfl, .cons ((Den.yield cL).mono (Env.oH (hn0 _ (aE _) (by omega)))) .nil,fun _=>rfl,fun hh=>by cases hh⟩
   have n1:=LX (b':=g) (b:=w.heap.size) (c:=0) (k:= .cells 148 [.yield yi] true false false) (LZ g (by omega)) (by omega);have ajd:=LX (b':=w.heap.size+1) (b:=w.heap.size) (c:=0) (k:= .cells 148 [.yield yi] true false false) (LZ _ (by omega)) (by omega)
   -- the row
   have f1:(ρ.put H.next w.heap.size 0) (H.next+1)=none:=by rw [CY (by omega)];exact hn0 _ (by omega) (by omega)
   obtain⟨s2,t2⟩:=LS (b:=g) (c:=cap) (k:= .cells 3 ((nx ks).map fun n=> .raw (.int .i64 n)) false false false) s1 t1 hBw (by omega) n1 (fun A=>LY _ A (by omega)) f1 (Nat.le_succ _) l8
    ⟨cur,_,rfl,fun _=>rfl,by rw [gW,ajc];exact aja _,(fun hh=>by cases hh),fun _=>⟨g,cap,Env.dm ..,by rw [Ew];exact ai9⟩⟩
   have n2:=LX (b':=w.heap.size+1) (b:=g) (c:=cap) (k:= .cells 3 ((nx ks).map fun n=> .raw (.int .i64 n)) false false false) ajd (by omega)
   -- the cell of kinds
   have f2:((ρ.put H.next w.heap.size 0).put (H.next+1) g cap) (H.next+2)=none:=by rw [CY (by omega),CY (by omega)];exact hn0 _ (by omega) (by omega)
   have rg:((ρ.put H.next w.heap.size 0).put (H.next+1) g cap) (H.next+1)=some (g,cap):=Env.dm ..;obtain⟨s3,t3⟩:=LS (b:=w.heap.size+1) (c:=0) (k:= .cells 93 [.slice (Nat.succ H.next) 0 (nx ks).length .any] true false false) s2 t2 hBw (by omega) n2 (fun A=>LY _ A (by omega)) f2 (by show H.next<=H.next+2;omega) k1
    ⟨_,_,rfl,fun _=>rfl, .cons (by rw [hlen];exact(Den.slice (cap:= .any) rg trivial oJ).mono (Env.oH f2)) .nil,fun _=>rfl,fun hh=>by cases hh⟩
   have hfr:=(t3.fr (H':=H1) (by rw [hnx];exact hf));have hT:jE (((ρ.put H.next w.heap.size 0).put (H.next+1) g cap).put (H.next+2) (w.heap.size+1) 0) (F7 [.yield yi, .ptr om 0, .ptr jp 0] H.next) 48 a'.tmps:=by
    refine ai2 qG.size ?_ ?_ ?_ ?_ ?_ qG.un
    .rw [qG.t0];exact(Den.yield cL).mono t3.le
    .rw [qG.t1];exact(Den.ptr r1).mono t3.le
    .rw [qG.t2];exact(Den.ptr r2).mono t3.le
    .rw [qG.t3];exact .ptr (c:=0) (by rw [CY (by omega),CY (by omega)];exact Env.dm ..)
    .rw [qG.t4];exact .ptr (c:=0) (Env.dm ..)
   refine hI.ct _ _ _ _ _ _ _ _ _ _ ho B _ a' W none m _ trivial ⟨hT,s3,cn.mono t3.le⟩ qG.df hfr fun ρ' a2 w2 dD z2 z3=> ?_
   have:LeavesInM (dM none) m prog f157 a2.tmps (mb prog B ρ H w v H') a2.defers .returning w2:=xd m1 dD z3 hl fun y w3 u1 u2 u3=>⟨y,ρ',rfl,u1,u2,(t3.trans z2).trans u3⟩
   rcases he with rfl |rfl<;>exact this
theorem F8 {ih:dR} (hI:jx prog ih):bB prog (yq ih) where
 mono f args H v H' h:=by
  unfold yq at h;cases hb:Nat.beq f 157 with
  |false=>rw [hb]at h;exact(F1 hI).mono _ _ _ _ _ h
  |true=>rw [hb]at h;have:=At hI h;omega
 ct f args H v H' h B ρ xs w m hH cn hd hf:=by
  unfold yq at h;cases hb:Nat.beq f 157 with
  |false=>rw [hb]at h;exact(F1 hI).ct _ _ _ _ _ h B ρ xs w m hH cn hd hf
  |true=>
   rw [hb]at h;obtain rfl:=ac hb;exact M1 hI h B ρ xs w m hH cn hd hf
end Go.Proofs.YtibikmmdbdlafaaGreatDoor
/- Package num: fractions in lowest terms: Make. -/
namespace Go.Proofs.YtibikmmdbdlafaaGreatDoor
open Go.RowKit Sv Go.Proofs.Tryz
noncomputable section
abbrev fZ:au:= .pair cV cV
abbrev bS:=(Int×List Int)×(Int×List Int)
abbrev cj (a:bS):aa:= .agg [iv a.1.1, .bk true aB a.1.2,iv a.2.1, .bk true aB a.2.2]
abbrev aje:fy:= .blk (.cells 85 [iv 0, .raw (.slice none 0 0),iv 0, .raw (.slice none 0 0)] true false false)
def rU (a b:aM):bC:={n:=34,sl:=[(2, .ptr 64 0),(3, .ptr 65 0),(4, .ptr 66 0)],bG:=[(64,mI a),(65,mI b),(66,aje)],next:=67}
noncomputable def AE:bF:=a7 [vD,xU,FN,Lr]
theorem ajf (a b:aM) (h1:(aD b)=true) (h2:eY b<0) (h3:(aD a)=true):
  cT AE (fl ti []) 3 34 [aH a,aH b] 3 .normal s3 (rU (eS a) (eS b)):=
 wy [af h1,ah h2,af (aW (v:=aH a) (by kernel_rfl)),af h3,af (aW (v:=aH b) (by kernel_rfl))] 74173132929
theorem ajg (a b:aM) (h1:(aD b)=true) (h2:¬eY b<0):
  cT AE (fl ti []) 3 34 [aH a,aH b] 2 .normal s3 (rU a b):=
 wy [af h1,aJ h2] 129
theorem ajh (a b:aM) (h1:b.2.isEmpty=true) (h2:b.1=1):
  bQ AE ((fl ti []).drop 3) (rU a b) 63 f83 false (cj (a,b)):=
 wy [af (aQ (aQ (h1))),af (aQ (h1)),c8 h2] 50860097
theorem aji (a b:aM) (h1:b.2.isEmpty=true) (h2:¬b.1=1) (h3:(aD a&&aD b)=true) (h4:(gQ a (ep a b))=true) (h5:(gQ b (ep a b))=true):
  bQ AE ((fl ti []).drop 3) (rU a b) 47 f83 false (cj (jd a (ep a b),jd b (ep a b))):=
 wy [af (aQ (aQ (h1))),af (aQ (h1)),yn h2,af h3,af (aW (v:=aH a) (by kernel_rfl)),af (aW (v:=aH (ep a b)) (by kernel_rfl)),af h4,af (aW (v:=aH b) (by kernel_rfl)),af h5] 2748869384372188533493825
theorem ajj (a b:aM) (h1:b.2.isEmpty=false) (h2:(aD a&&aD b)=true) (h3:(gQ a (ep a b))=true) (h4:(gQ b (ep a b))=true):
  bQ AE ((fl ti []).drop 3) (rU a b) 32 f83 false (cj (jd a (ep a b),jd b (ep a b))):=
 wy [af (aQ (aQ (h1))),af (aQ (h1)),af h2,af (aW (v:=aH a) (by kernel_rfl)),af (aW (v:=aH (ep a b)) (by kernel_rfl)),af h3,af (aW (v:=aH b) (by kernel_rfl)),af h4] 2441840604787520773296193
noncomputable def AF (a b:aM):(Int×List Int)×(Int×List Int):=if ic b&&(b.1==1)then(a,b)else(jd a (ep a b),jd b (ep a b))
noncomputable def jU (a b:aM):(Int×List Int)×(Int×List Int):=if eY b<0 then AF (eS a) (eS b)else AF a b
noncomputable def CZ:bn:={f:=83,ps:=[cV,cV],rs:=[fZ],fresh:=false,pre:=fun d=>gQ d.1 d.2.1,fn:=fun d=>(jU d.1 d.2.1,())}
theorem Pi:bB prog (bD AE):=cR (aT xY (aT z6 (aT Ls (aT SI dY))))
theorem F9 (a b:aM):aq (ep a b)=(Int.gcd (aq a) (aq b):Int):=val_mk _
theorem TC {n:Nat} {a b:aM} (g:bH n b=true) (hn:1<=n) (hb:aq b≠0):bH n (ep a b)=true:=by
 have h1:=dp g hn;have h2:((Int.gcd (aq a) (aq b):Nat):Int)<=((aq b).natAbs:Int):=by
  have:Int.gcd (aq a) (aq b)<=(aq b).natAbs:=Nat.gcd_le_right _ (by omega);omega
 exact(kV (by rw [Int.natAbs_natCast];omega)).1
theorem ajk {a b:aM} (h:aD a=true) (g:aD b=true) (hb:aq b≠0):gQ a (ep a b)=true/\gQ b (ep a b)=true:=by
 have h0:0<Int.gcd (aq a) (aq b):=Int.gcd_pos_of_ne_zero_right _ hb;have h1:aq (ep a b)≠0:=by rw [F9];omega
 have h2:aD (ep a b)=true:=TC g (by decide) hb;exact⟨tU.2 ⟨h,h2,h1⟩,tU.2 ⟨g,h2,h1⟩⟩
theorem TD {a:aM}:ic a=true↔a.2=[]:=by
 unfold ic;exact List.isEmpty_iff
theorem TE (a b:aM) (h:aD a=true) (g:aD b=true) (hb:aq b≠0) (w:World) (F:Sv.Env):
  aR prog w F 34 ((fl ti []).drop 3) (rU a b).T (rU a b).H (gk prog false f83 (cj (AF a b))):=by
 have hS:=Pi;obtain⟨q1,aO⟩:=ajk h g hb;have hab:(aD a&&aD b)=true:=by rw [h,g];rfl
 unfold AF;by_cases he:b.2.isEmpty=true
 .by_cases h1:b.1=1
  .rw [if_pos (by rw [show ic b=true from he,h1];rfl)];exact bT (s:=rU a b) hS (ajh a b he h1)
  .rw [if_neg (by rw [show ic b=true from he];simpa using h1)];exact bT (s:=rU a b) hS (aji a b he h1 hab q1 aO)
 .rw [if_neg (by rw [show ic b=b.2.isEmpty from rfl];simp [he])];exact bT (s:=rU a b) hS (ajj a b (by simpa using he) hab q1 aO)
theorem ajl (a b:aM) (h:aD a=true) (g:aD b=true) (hb:aq b≠0):Holds prog false 83 [aH a,aH b] (cj (jU a b)):=by
 have hS:=Pi;refine bJ (c:=ti) func83 rfl rfl fun w F=> ?_
 unfold jU;by_cases hs:eY b<0
 .rw [if_pos hs];refine cE hS 3 (ajf a b g hs h) ?_;exact TE _ _ (n7 h (by decide)) (n7 g (by decide)) (by rw [n8];omega) w F
 .rw [if_neg hs];refine cE hS 3 (ajg a b g hs) ?_;exact TE _ _ h g hb w F
theorem Ga:CZ.Ok prog:=fun⟨a,b,_⟩ h=>by
 obtain⟨h1,h2,h3⟩:=tU.1 (show gQ a b=true from h);exact ajl a b h1 h2 h3
structure AG (n:Nat) (q:bS) (x y:Int):Prop where
 o1:bH n q.1=true
 o2:bH n q.2=true
 pos:0<aq q.2
 low:Int.gcd (aq q.1) (aq q.2)=1
 val:aq q.1*y=x*aq q.2
theorem TF {n:Nat} {a b:aM} (h:bH n a=true) (g:bH n b=true) (hn:1<=n) (hb:0<aq b):AG n (AF a b) (aq a) (aq b):=by
 unfold AF;split
 .rename_i hc;rw [ae]at hc;have hv:aq b=1:=by unfold aq;rw [if_pos (TD.1 hc.1)];simpa using hc.2
  exact⟨h,g,hb,by show Int.gcd (aq a) (aq b)=1;rw [hv];exact Int.gcd_one,rfl⟩
 .have hg:0<Int.gcd (aq a) (aq b):=Int.gcd_pos_of_ne_zero_right _ (by omega);have Gb:=TC (a:=a) g hn (by omega);have Gc:aq (ep a b)≠0:=by rw [F9];omega
  have e1:aq a=aq (ep a b)*(aq a/(Int.gcd (aq a) (aq b):Int)):=by rw [F9];exact(Int.mul_ediv_cancel' (Int.gcd_dvd_left _ _)).symm
  have e2:aq b=aq (ep a b)*(aq b/(Int.gcd (aq a) (aq b):Int)):=by rw [F9];exact(Int.mul_ediv_cancel' (Int.gcd_dvd_right _ _)).symm
  have v1:=SJ h Gb hn Gc e1;have v2:=SJ g Gb hn Gc e2;refine⟨SK h Gb hn Gc,SK g Gb hn Gc, ?_, ?_, ?_⟩
  .show 0<aq (jd b (ep a b));rw [v2];exact Int.ediv_pos_of_pos_of_dvd hb (by omega) (Int.gcd_dvd_right _ _)
  .show Int.gcd (aq (jd a (ep a b))) (aq (jd b (ep a b)))=1;rw [v1,v2];exact Int.gcd_ediv_gcd_ediv_gcd hg
  .show aq (jd a (ep a b))*aq b=aq a*aq (jd b (ep a b));rw [v1,v2];generalize aq a/(Int.gcd (aq a) (aq b):Int)=x at*;generalize aq b/(Int.gcd (aq a) (aq b):Int)=y at*;grind
theorem Gd {n:Nat} {a b:aM} (h:bH n a=true) (g:bH n b=true) (hn:1<=n) (hb:aq b≠0):AG n (jU a b) (aq a) (aq b):=by
 unfold jU;split
 .rename_i hs;have hs:=FO.1 hs;have:=TF (n7 h hn) (n7 g hn) hn (by rw [n8];omega);refine⟨this.o1,this.o2,this.pos,this.low, ?_⟩;have hv:=this.val;rw [n8,n8]at hv;rw [Int.mul_neg,Int.neg_mul]at hv;omega
 .rename_i hs;have h0:¬aq b<0:=fun hh=>hs (FO.2 hh)
  exact TF h g hn (by omega)
theorem TG {x y u v:Int} (hy:0<y) (hv:0<v) (g1:Int.gcd x y=1) (g2:Int.gcd u v=1) (h:x*v=u*y):x=u/\y=v:=by
 have d1:y∣v:=by
  have h1:y.natAbs∣v.natAbs:=by
   refine Nat.Coprime.dvd_of_dvd_mul_left (k:=y.natAbs) (m:=x.natAbs) (n:=v.natAbs) ?_ ?_
   .show Nat.gcd _ _=1;rw [Nat.gcd_comm];exact g1
   .rw [<-Int.natAbs_mul,h,Int.natAbs_mul];exact Nat.dvd_mul_left _ _
  exact Int.natAbs_dvd_natAbs.1 h1
 have d2:v∣y:=by
  have h1:v.natAbs∣y.natAbs:=by
   refine Nat.Coprime.dvd_of_dvd_mul_left (k:=v.natAbs) (m:=u.natAbs) (n:=y.natAbs) ?_ ?_
   .show Nat.gcd _ _=1;rw [Nat.gcd_comm];exact g2
   .rw [<-Int.natAbs_mul,<-h,Int.natAbs_mul];exact Nat.dvd_mul_left _ _
  exact Int.natAbs_dvd_natAbs.1 h1
 have e:=Int.dvd_antisymm (by omega) (by omega) d1 d2;subst e;exact⟨Int.eq_of_mul_eq_mul_right (by omega) h,rfl⟩
end
end Go.Proofs.YtibikmmdbdlafaaGreatDoor
