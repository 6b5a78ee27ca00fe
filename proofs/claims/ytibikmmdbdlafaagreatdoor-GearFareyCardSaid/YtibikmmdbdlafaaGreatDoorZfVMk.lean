import Derived.Test.YtibikmmdbdlafaaGreatDoorZfRq
import Derived.RangeFuncNested
import Derived.Maps.OwnIn
import Derived.WalkSmall
set_option linter.defProp false
set_option linter.unusedSectionVars false
set_option linter.unusedSimpArgs false
set_option linter.unusedVariables false
set_option maxRecDepth 100000
namespace Go.Proofs.YtibikmmdbdlafaaGreatDoor
open Go.RowKit Sv Go.Proofs.Tryz
noncomputable section
def Nh:=a8 [Nb,G6]
def wO (p q:Int):AT:=⟨(co 20 p 1 []++(if q>1 then 47::co 20 q 1 []else [])).toArray⟩
section
variable (n d:Int) (h1:¬n< -4000000000000000000) (h2:¬n>4000000000000000000) (h3:¬d< -4000000000000000000) (h4:¬d>4000000000000000000) (h5:¬d<0) (h6:i6 (0-n)) (h7:(decide ((0:av.den (.int .i64))<=if 0-n>n then 0-n else n)&&decide ((0:av.den (.int .i64))<=d))=true) (h8:(bC n d)≠0) (h9:i6 (Int.tdiv n (bC n d))) (h10:i6 (Int.tdiv d (bC n d))) (h11:¬Int.tdiv n (bC n d)<0) (h12:i6 (0-Int.tdiv n (bC n d))) (dL:(decide ((0:av.den (.int .i64))<=if 0-Int.tdiv n (bC n d)>Int.tdiv n (bC n d)then 0-Int.tdiv n (bC n d)else Int.tdiv n (bC n d))&&(decide ((if 0-Int.tdiv n (bC n d)>Int.tdiv n (bC n d)then 0-Int.tdiv n (bC n d)else Int.tdiv n (bC n d))<=(9223372036854775807:av.den (.int .i64)))&&decide (1<=(20:av.den (.int .i64)))))=true) (gQ:(ByteArray.mk #[]).size+(ByteArray.mk (List.toArray (co 20 (if 0-Int.tdiv n (bC n d)>Int.tdiv n (bC n d)then 0-Int.tdiv n (bC n d)else Int.tdiv n (bC n d)) 1 []))).size<=9223372036854775807)
def aks (je:Int.tdiv d (bC n d)>1) (mL:(ByteArray.mk #[]++ByteArray.mk (List.toArray (co 20 (if 0-Int.tdiv n (bC n d)>Int.tdiv n (bC n d)then 0-Int.tdiv n (bC n d)else Int.tdiv n (bC n d)) 1 []))).size+(ByteArray.mk #[47]).size<=9223372036854775807) (yC:(decide ((0:av.den (.int .i64))<=Int.tdiv d (bC n d))&&(decide (Int.tdiv d (bC n d)<=(9223372036854775807:av.den (.int .i64)))&&decide (1<=(20:av.den (.int .i64)))))=true) (yD:(ByteArray.mk #[]++ByteArray.mk (List.toArray (co 20 (if 0-Int.tdiv n (bC n d)>Int.tdiv n (bC n d)then 0-Int.tdiv n (bC n d)else Int.tdiv n (bC n d)) 1 []))++ByteArray.mk #[47]).size+(ByteArray.mk (List.toArray (co 20 (Int.tdiv d (bC n d)) 1 []))).size<=9223372036854775807) (h19:(ByteArray.mk #[]++ByteArray.mk (List.toArray (co 20 (if 0-Int.tdiv n (bC n d)>Int.tdiv n (bC n d)then 0-Int.tdiv n (bC n d)else Int.tdiv n (bC n d)) 1 []))++ByteArray.mk #[47]++ByteArray.mk (List.toArray (co 20 (Int.tdiv d (bC n d)) 1 [])))=(wO (n/(↑(Int.gcd n d):Int)) (d/(↑(Int.gcd n d):Int)))):
  bf Nh (fl Ng []) 30 (f44.ntmps) [iv n,iv d] 12507 f44 true (sv (wO (n/Int.gcd n d) (d/Int.gcd n d))):=
 wy [aa (bw (ab h1)),aK h1,aa (bw (ab h2)),aK h2,aa (bw (ab h3)),aK h3,aK h4,aK h5,yi h6,aa h7,ah h8,yi h9,yi h10,aK h11,yi h12,aa dL,ah gQ,ah je,ah mL,aa yC,ah yD,ax h19] 31874838871619119136349477082024326987223146561
def akt (je:¬Int.tdiv d (bC n d)>1) (mL:(ByteArray.mk #[]++ByteArray.mk (List.toArray (co 20 (if 0-Int.tdiv n (bC n d)>Int.tdiv n (bC n d)then 0-Int.tdiv n (bC n d)else Int.tdiv n (bC n d)) 1 [])))=(wO (n/(↑(Int.gcd n d):Int)) (d/(↑(Int.gcd n d):Int)))):
  bf Nh (fl Ng []) 30 (f44.ntmps) [iv n,iv d] 8411 f44 true (sv (wO (n/Int.gcd n d) (d/Int.gcd n d))):=
 wy [aa (bw (ab h1)),aK h1,aa (bw (ab h2)),aK h2,aa (bw (ab h3)),aK h3,aK h4,aK h5,yi h6,aa h7,ah h8,yi h9,yi h10,aK h11,yi h12,aa dL,ah gQ,aK je,ax mL] 105000044317847363205758449615782206513217
end
def UZ:bD prog (bF Nh):=cM (aP UT (aP Nf dV))
def mf:∀(f:Nat) (n m:Int) (s:List UInt8),(co f n m s).length<=s.length+f
 |0,_,_,s=>aJ _
 |f+1,n,m,s=>by
  unfold co;split
  .have:=mf f (n/10) m (oC n::s);simp at this;omega
  .omega
def G7 (l:List UInt8):(ByteArray.mk l.toArray).size=l.length:=rfl
def aku (n d:Int) (hn:0<=n) (hn2:n<=4000000000000000000) (hd:0<d) (gw:d<=4000000000000000000):Holds prog true 44 [iv n,iv d] (sv (wO (n/Int.gcd n d) (d/Int.gcd n d))):=by
 refine bL (c:=Ng) func44 rfl rfl fun w F=> ?_
 have k1:=akt n d;have k2:=aks n d;have hm:(if(0:Int)-n>n then(0:Int)-n else n)=n:=if_neg ω;have hg:0<Int.gcd n d:=Int.gcd_pos_of_ne_zero_right _ ω;simp only [bC,hm]at k1 k2;have e1:Int.tdiv n (Int.gcd n d:Int)=n/(Int.gcd n d:Int):=Int.tdiv_eq_ediv_of_nonneg hn;have e2:Int.tdiv d (Int.gcd n d:Int)=d/(Int.gcd n d:Int):=Int.tdiv_eq_ediv_of_nonneg ω;simp only [e1,e2]at k1 k2;generalize auH:(Int.gcd n d:Int)=g at*;have qt:1<=g:=by omega
 have b1:0<=n/g:=Int.ediv_nonneg hn ω;have b2:n/g<=n:=Int.ediv_le_self _ hn;have b3:0<=d/g:=Int.ediv_nonneg ω ω;have b4:d/g<=d:=Int.ediv_le_self _ ω;have hm2:(if(0:Int)-n/g>n/g then(0:Int)-n/g else n/g)=n/g:=if_neg ω;simp only [hm2]at k1 k2;have l1:=mf 20 (n/g) 1 [];have l2:=mf 20 (d/g) 1 [];have dx:=G7 (co 20 (n/g) 1 []);have z2:=G7 (co 20 (d/g) 1 []);simp only [List.length_nil,aw]at l1 l2;by_cases h1:d/g>1
 .have y1:(ByteArray.mk #[]++ByteArray.mk (co 20 (n/g) 1 []).toArray).size=(co 20 (n/g) 1 []).length:=by rw [uE,dq];rfl
  have y2:(ByteArray.mk #[]++ByteArray.mk (co 20 (n/g) 1 []).toArray++ByteArray.mk #[47]).size=(co 20 (n/g) 1 []).length+1:=by rw [uE,dq,cW,<-uE,y1];rfl
  refine bg UZ 30 (k2 ω ω ω ω ω ω ?_ ω ω ω ω ω ?_ ?_ h1 ?_ ?_ ?_ ?_)
  .rw [ae];exact⟨ay hn,ay (show(0:Int)<=d by omega)⟩
  .rw [ae,ae];exact⟨ay b1,ay ω,by decide⟩
  .rw [dx];show 0+_<=_;omega
  .rw [y1];show _+1<=_;omega
  .rw [ae,ae];exact⟨ay b3,ay ω,by decide⟩
  .rw [y2,z2];omega
  .apply fN;rw [dq,dq,dq];unfold wO;rw [if_pos h1];show(([]++co 20 (n/g) 1 [])++[47])++co 20 (d/g) 1 []=co 20 (n/g) 1 []++47::co 20 (d/g) 1 [];simp
 .refine bg UZ 30 (k1 ω ω ω ω ω ω ?_ ω ω ω ω ω ?_ ?_ h1 ?_)
  .rw [ae];exact⟨ay hn,ay (show(0:Int)<=d by omega)⟩
  .rw [ae,ae];exact⟨ay b1,ay ω,by decide⟩
  .rw [dx];show 0+_<=_;omega
  .apply fN;rw [dq];unfold wO;rw [if_neg h1,List.append_nil];rfl
def Ba {b:UInt8} {l:List UInt8}:b6 (b::l)=(decide (48<=b.toNat)&&decide (b.toNat<=57)&&b6 l):=rfl
def akv (a b:List UInt8):∀n:Int,(a++b).foldl (fun n b=>10*n+((b.toNat:Int)-48)) n=b.foldl (fun n b=>10*n+((b.toNat:Int)-48)) (a.foldl (fun n b=>10*n+((b.toNat:Int)-48)) n):=fun n=>List.foldl_append ..
def G8:∀(l:List UInt8) (n:Int),l.foldl (fun n b=>10*n+((b.toNat:Int)-48)) n=n*10^l.length+bl l
 |[],n=>by simp [bl]
 |b::r,n=>by
  have h1:=G8 r (10*n+((b.toNat:Int)-48));have h2:=G8 r (10*0+((b.toNat:Int)-48));unfold bl at*;simp only [List.foldl_cons,List.length_cons];rw [h1,h2,Int.pow_succ];grind
def rk (b:UInt8) (r:List UInt8):bl (b::r)=((b.toNat:Int)-48)*10^r.length+bl r:=by
 have:=G8 r (10*0+((b.toNat:Int)-48));unfold bl at*;simp only [List.foldl_cons];rw [this];simp
def Dz:∀(l:List UInt8),b6 l=true->bk l=l.length
 |[],_=>rfl
 |b::r,h=>by
  rw [Ba]at h;simp only [ae,bA]at h;unfold bk;rw [if_neg ω,Dz r h.2,List.length_cons]
def DA:∀(l r:List UInt8),b6 l=true->bk (l++47::r)=l.length
 |[],r,_=>by show bk (47::r)=0;unfold bk;rw [if_pos δ]
 |b::l,r,h=>by
  rw [Ba]at h;simp only [ae,bA]at h;rw [List.cons_append];unfold bk;rw [if_neg ω,DA l r h.2,List.length_cons]
def jF (s:AT) (i j:Nat):aq (s.extract i j)=((aq s).take j).drop i:=by
 show(s.extract i j).data.toList=_;rw [ByteArray.data_extract,Array.toList_extract];simp [List.extract,List.drop_take]
abbrev g0 (s:List (Int×Int)) (k:Nat):Int×Int:=s.getD k (0,0)
def G9 (n d:Int):Int:=n/Int.gcd n d
def Bb (n d:Int):Int:=d/Int.gcd n d
end
end Go.Proofs.YtibikmmdbdlafaaGreatDoor
namespace Go.Proofs.YtibikmmdbdlafaaGreatDoor
open Go.RowKit
abbrev gT (l:List Int):List Value:=l.map (Value.int .i64)
def akw {w:World} {base n:Nat} {v:Value} {xs:List Int} (h:w.ownsRow base 3 1 v n (gT xs)):xs.length=n/\((v= .slice none 0 0/\n=0)\/∃g cap cur,v= .slice (some ⟨g,0,none⟩) n cap/\base<=g/\w.heap[g]? =some (.cells cur 3 (0,0))/\n<=cap/\cap<=maxLen/\cur.size=cap/\cur.toList.take n=gT xs):=by
 obtain⟨h1,h2⟩:=h;simp only [Nat.mul_one,zk]at h1 h2;exact⟨h1,h2⟩
section
variable {w:World} {g n:Nat} {cur:Array Value}
def akx {xs:List Int} (hg:w.heap[g]? =some (.cells cur 3 (0,0))) (ht:cur.toList.take n=gT xs):Sort.Holds (Value.int .i64) w g 0 xs.toArray:=fun j hj=>by
 have hj:j<xs.length:=by simpa using hj
 refine⟨?_, ?_⟩
 .rw [aw,cell_of_row w g j cur _ _ hg];have h1:(cur.toList.take n)[j]? =some (Value.int .i64 xs[j]):=by rw [ht];simp [hj]
  rw [List.getElem?_take]at h1;split at h1
  .simpa [hj]using h1
  .cases h1
 .simp [World.frozen?,hg]
def aky {xs ys:List Int} (hg:w.heap[g]? =some (.cells cur 3 (0,0))) (ht:cur.toList.take n=gT xs) (hl:ys.length=xs.length) (q:Nat):
  (Sort.putRow (Value.int .i64) (Sort.ahead w q) g 0 ys.toArray).heap[g]? =some (.cells (Sort.putCells (Value.int .i64) 0 ys.toArray cur) 3 (0,0))/\(Sort.putCells (Value.int .i64) 0 ys.toArray cur).size=cur.size/\(Sort.putCells (Value.int .i64) 0 ys.toArray cur).toList.take ys.length=gT ys:=by
 refine⟨?_,by simp [Sort.putCells], ?_⟩
 .show(w.heap.modify g (Sort.onCells _))[g]? =_;rw [Array.getElem?_modify,if_pos rfl,hg];rfl
 .have hlen:ys.length<=cur.size:=by
   have h1:=congrArg List.length ht;simp at h1;omega
  apply List.ext_getElem?;intro j;rw [List.getElem?_take];by_cases hj:j<ys.length
  .rw [if_pos hj,Array.getElem?_toList];have hc:j<cur.size:=by omega
   simp [Sort.putCells,hj,hc]
  .rw [if_neg hj,List.getElem?_eq_none (by simpa using hj)]
end
def akz {w:World} {g q:Nat} {d:Array Int}:w.grownBy (Sort.putRow (Value.int .i64) (Sort.ahead w q) g 0 d) (some g):=
 ⟨rfl,rfl,rfl,Nat.le_of_eq τ,fun k _ hk=>by
   show(w.heap.modify g (Sort.onCells _))[k]? =_;rw [Array.getElem?_modify,if_neg (fun e=>hk (by rw [e]))]⟩
def akA (w:World) (r:Option Nat):w.grownBy w r:=⟨rfl,rfl,rfl,aJ _,fun _ _ _=>rfl⟩
def akB {w w':World} {r:Option Nat} (h:w.grownBy w' r) (os:Array Obj):w.grownBy (Sort.grow w' os) r:=
 ⟨h.os,h.tape,h.output,c6 h.size τ,fun k hk hn=>(Sort.heap_grow_old w' os (Nat.lt_of_lt_of_le hk h.size)).trans (h.block k hk hn)⟩
def akC (base n:Nat) (v:Value) (xs:List Int) (w:World) (h:w.ownsRow base 3 1 v n (gT xs)) (hl:xs.length<=1000000):
  Calls Tryz.prog 102 #[v] w fun e w'=>e= .returned (.tuple #[])/\w'.ownsRow base 3 1 v n (gT (xs.mergeSort fun x y=>decide (x<=y)))/\w.grownBy w' v.ownBlock:=by
 obtain⟨h0,h1⟩:=akw h;rcases h1 with⟨rfl,rfl⟩|⟨g,cap,cur,rfl,Ni,hg,hn,hcap,hcs,ht⟩
 .obtain rfl:xs=[]:=List.length_eq_zero_iff.1 h0;exact(Tryz.slices_Sort_int_none none 0 w).mono fun e w' ⟨h1,h2⟩=>by subst h2;exact⟨h1,by simpa using h,akA _ _⟩
 .subst h0;have FL:g<w.heap.size:=(dz.1 hg).1;refine(Tryz.slices_Sort_int g 0 cap xs w (akx hg ht) FL ω).mono fun e w' ⟨h1,q,os,h2⟩=> ?_
  subst h2;have Nj:(xs.mergeSort fun x y=>decide (x<=y)).length=xs.length:=List.length_mergeSort _;obtain⟨p1,p2,p3⟩:=aky hg ht Nj q;refine⟨h1,⟨by simp [Nj], .inr ⟨g,cap,_,rfl,Ni,(Sort.heap_grow_old _ os (by simpa using FL)).trans p1,hn,hcap,by rw [p2,hcs,Nat.mul_one], ?_⟩⟩,akB akz os⟩;rw [Nat.mul_one,<-Nj];exact p3
end Go.Proofs.YtibikmmdbdlafaaGreatDoor
namespace Go.Proofs.YtibikmmdbdlafaaGreatDoor.Sv
open Go.RowKit
noncomputable section
abbrev dX:=Code->(n:Nat)->(aN:Option Nat)->au af->ai->List Nat->R
def U0 (P:Program) (ih:dX) (args:List af) (H:ai) (fn:Func) (c:Code):aM:=
 @Bool.rec (fun _=>aM) .no (@R.rec (fun _=>aM) .no (fun T H m=>kg P fn T H m) (fun _ _ _ _=> .no) (fun _ _ _ _=> .no) (fun T H m=>kg P fn T H m)
   (ih c fn.ntmps none (dt args .nil 0) H [])) (Nat.ble args.length fn.ntmps)
def mi (P:Program) (ih:dX):ew:=fun f args H=>
 @Option.rec Func (fun _=>aM) .no (fun fn=> @Option.rec Code (fun _=>aM) .no (fun c=>U0 P ih args H fn c) fn.body) (P.funcs[f]?)
def tc (ih:dX):jQ:=fun i args H=>
 match H.get i with
 |some (.loop r)=>
  match r.state with
  | .ready=>cond (Nat.beq args.length r.params.size&&r.params.toList.all fun t=>Nat.ble (t+1) r.size)
    (match ih r.assign r.size (some i) (xp r.tmps (r.params.toList.zip args)) H []with
      | .normal T H []=>match H.get i with
        |some (.loop r')=>match r'.state with
         | .ready=>tB i (ih r.body r.size (some i) T (H.set i (.loop {r' with state:= .busy})) [])
         |_=> .no
        |_=> .no
      |_=> .no) .no
  |_=> .no
 |_=> .no
def Bc (ih:dX) (n:Nat) (aN:Option Nat) (T:au af) (L:Nat) (m:List Nat):aM->R
 | .ok _ H3=>match H3.get L with
   |some (.loop r)=>match r.state with
    | .busy=> .no
    |_=>match r.pending with
     |none=> .normal T (H3.set L (.loop {r with state:= .exhausted})) m
     |some c=>ih c n aN T (H3.set L (.loop {r with state:= .exhausted})) m
   |_=> .no
 |_=> .no
def Nk (b:Option bq):Bool:=match b with |some (.loop _)=>true|_=>false
def pf (cJ:dX->ew) (P:Program) (ih:dX) (f:Operand) (params:Array Tmp) (assign body:Code) (n:Nat) (T:au af) (H:ai) (m:List Nat):R:=
 match lZ P (cm T f) [.yield (Nat.succ H.next)] ((H.new .deferred).new (.loop {tmps:=T,size:=n,params,assign,body,state:= .ready,pending:=none}))with
 | .enter g args H2=>Bc ih n none T (Nat.succ H.next) (H.next::m) (cJ ih g args H2)
 |_=> .no
def ph (cJ:dX->ew) (P:Program) (ih:dX) (i:Nat) (f:Operand) (params:Array Tmp) (assign body:Code) (n:Nat) (T:au af) (H:ai) (m:List Nat):R:=
 match lZ P (cm T f) [.yield H.next] (H.new (.loop {tmps:=T,size:=n,params,assign,body,state:= .ready,pending:=none}))with
 | .enter g args H2=>cond (Nk (H.get i)) (Bc ih n (some i) T H.next m (cJ ih g args H2)) .no
 |_=> .no
abbrev jG:=Program->oY->dX->(n:Nat)->(aN:Option Nat)->au af->ai->List Nat->R
def U1:jG:=fun _ _ _ _ _ T H m=> .normal T H m
def akD (cJ:dX->ew) (_id:Nat) (ops:Array Oper) (d:Bool):jG:=fun _ draw ih n _ T H m=>
 zE m (draw d (cJ ih) (tc ih) ops n T H)
def akE (a b:Code) (_ _:jG):jG:=fun _ _ ih n aN T H m=> @R.rec (fun _=>R) .no (fun T H m=>ih b n aN T H m) .exit .goto .ret (ih a n aN T H m)
def akF (c:Operand) (x y:Code) (_ _:jG):jG:=fun _ _ ih n aN T H m=>
 @mU.rec (fun _=>R) .no (fun b=> @Bool.rec (fun _=>R) (ih y n aN T H m) (ih x n aN T H m) b) (gI (cm T c))
def akG (id:Nat) (b:Code) (_:jG):jG:=fun _ _ ih n aN T H m=>
 @R.rec (fun _=>R) .no .normal (fun i T H m=> @Bool.rec (fun _=>R) (.exit i T H m) (.normal T H m) (Nat.beq i id)) .goto .ret (ih b n aN T H m)
def U2 (b:Code) (_:jG):jG:=fun _ _ ih n aN T H m=>iter (ih b n aN) rounds T H m
def akH (cJ:dX->ew) (f:Operand) (params:Array Tmp) (assign body:Code) (_ _:jG):jG:=fun P _ ih n aN T H m=>
 @Option.rec Nat (fun _=>R) (pf cJ P ih f params assign body n T H m) (fun i=>ph cJ P ih i f params assign body n T H m) aN
def akI (id:Nat):jG:=fun _ _ _ _ _ T H m=> .exit id T H m
def akJ (b:Code) (_:jG):jG:=fun _ _ ih n aN T H m=> @R.rec (fun _=>R) .no .normal .exit (fun _ _ _ _=> .no) .ret (ih b n aN T H m)
def akK (l:Nat):jG:=fun _ _ _ _ _ T H m=> .goto l T H m
def akL:jG:=fun _ _ _ _ _ T H m=> .ret T H m
def akM:jG:=fun _ _ _ _ _ _ _ _=> .no
def pi (cJ:dX->ew):Code->jG:=
 @Code.rec (fun _=>jG) U1 (akD cJ) akE akF akG U2 (akH cJ) akI akJ (fun _=>U1) akK akL (fun _=>akM)
def DB (cJ:dX->ew) (P:Program) (draw:oY) (fuel:Nat):dX:=
 @Nat.rec (fun _=>dX) (fun _ _ _ _ _ _=> .no) (fun _ ih c=>pi cJ c P draw ih) fuel
end
variable [Ground]
def DC (ρ:Env):Option Nat->Option Nat->Prop
 |none,none=>True
 |some i,some l=>∃c,ρ i=some (l,c)
 |_,_=>False
def DC.mono {ρ ρ':Env} (hl:cA ρ ρ'):∀{aN rd:Option Nat},DC ρ aN rd->DC ρ' aN rd
 |none,none,_=>trivial
 |some _,some _,⟨c,h⟩=>⟨c,hl _ _ h⟩
 |none,some _,h=>h.elim
 |some _,none,h=>h.elim
section
variable {P:Program} {B:Nat} {ρ:Env} {n:Nat} {T:au af} {H:ai} {a:Act} {w:World}
variable {cJ:dX->ew}
structure jH (P:Program) (ih:dX):Prop where
 mono:∀c n aN T H m e aO H' m',(ih c n aN T H m).out=some (e,aO,H',m')->H.next<=H'.next
 cw:∀c n aN T H m e aO H' m',(ih c n aN T H m).out=some (e,aO,H',m')->∀B ρ a w rd k (Q:Exit->Act->World->Prop),DC ρ aN rd->ez P B ρ n T H a w->eA ρ m a.defers->Fr ρ H.next H'.next->
  (∀ρ' a' w',ez P B ρ' n aO H' a' w'->bS ρ H w ρ' H' w'->eA ρ' m' a'.defers->Q e a' w')->c.wpIn (dO rd) k P Q a w
section
variable {ih:dX}
def U3 {f:FuncId} {args:List af} {v:af} {H':ai} (h:mi P ih f args H= .ok v H'):∃fn c,P.funcs[f]? =some fn/\fn.body=some c/\args.length<=fn.ntmps/\
  ∃e T1 H1 m1,(ih c fn.ntmps none (dt args .nil 0) H []).out=some (e,T1,H1,m1)/\(e= .normal\/e= .ret)/\kg P fn T1 H1 m1= .ok v H':=by
 unfold mi at h;cases hf:P.funcs[f]? with
 |none=>rw [hf]at h;cases h
 |some fn=>
  rw [hf]at h;simp only at h;cases hb:fn.body with
  |none=>rw [hb]at h;cases h
  |some c=>
   rw [hb]at h;simp only at h;unfold U0 at h;cases hn:Nat.ble args.length fn.ntmps with
   |false=>rw [hn]at h;cases h
   |true=>
    rw [hn]at h;simp only at h;refine⟨fn,c,rfl,hb,bU hn, ?_⟩;cases hr:ih c fn.ntmps none (dt args .nil 0) H []with
    |no=>rw [hr]at h;cases h
    |normal T1 H1 m1=>rw [hr]at h;exact⟨_,_,_,_,rfl, .inl rfl,h⟩
    |exit _ _ _ _=>rw [hr]at h;cases h
    |goto _ _ _ _=>rw [hr]at h;cases h
    |ret T1 H1 m1=>rw [hr]at h;exact⟨_,_,_,_,rfl, .inr rfl,h⟩
def He (hI:jH P ih):bD P (mi P ih) where
 mono f args H v H' h:=by
  obtain⟨fn,c,_,_,_,e,T1,H1,m1,ho,_,hl⟩:=U3 h;exact c6 (hI.mono _ _ _ _ _ _ _ _ _ _ ho) (Nat.le_of_eq (zV hl))
 cw f args H v H' h B ρ xs w m hH ct hd hf:=by
  obtain⟨fn,c,hfn,hb,hn,e,T1,H1,m1,ho,he,hl⟩:=U3 h;have hnx:=zV hl;refine callsIn_of_wp_marks hfn hb trivial ?_;refine hI.cw _ _ _ _ _ _ _ _ _ _ ho B ρ _ w none m _ trivial ⟨Ci hd hn,hH,ct⟩ rfl (by rw [hnx];exact hf) fun ρ' a' w' h1 h2 h3=> ?_
  have:LeavesInM (dO none) m P fn a'.tmps (mm P B ρ H w v H') a'.defers .returning w':=xH m1 h1 h3 hl fun y w2 r1 r2 r3=>⟨y,ρ',rfl,r1,r2,h2.trans r3⟩
  rcases he with rfl |rfl<;>exact this
def pj {i:Nat} {args:List af} {v:af} {H':ai} (h:tc ih i args H= .ok v H'):∃r,H.get i=some (.loop r)/\args.length=r.params.size/\(∀t∈r.params.toList,t<r.size)/\
  ∃T1 H1 r',(ih r.assign r.size (some i) (xp r.tmps (r.params.toList.zip args)) H []).out=some (.normal,T1,H1,[])/\H1.get i=some (.loop r')/\r'.state= .ready/\
   tB i (ih r.body r.size (some i) T1 (H1.set i (.loop {r' with state:= .busy})) [])= .ok v H':=by
 unfold tc at h;split at h
 .rename_i r hg;split at h
  .cases hb:(Nat.beq args.length r.params.size&&r.params.toList.all fun t=>Nat.ble (t+1) r.size)with
   |false=>rw [hb]at h;cases h
   |true=>
    rw [hb]at h;rw [ae]at hb;simp only [cond_true]at h;refine⟨r,hg,ac hb.1,fun t ht=>bU (List.all_eq_true.1 hb.2 t ht), ?_⟩;split at h
    .rename_i T1 H1 hr;split at h
     .rename_i r' hg';split at h
      .rename_i hs;exact⟨T1,H1,r',by rw [hr];rfl,hg',hs,h⟩
      .cases h
     .cases h
    .cases h
  .cases h
 .cases h
def U4 (hI:jH P ih):lG P (tc ih) where
 mono i args H v H' h:=by
  obtain⟨r,_,_,_,T1,H1,r',h1,_,_,h2⟩:=pj h;obtain⟨e,T2,H2,m2,r1,j,k1,_,_,rfl,_⟩:=E1 h2;have a1:=hI.mono _ _ _ _ _ _ _ _ _ _ h1;have a2:=hI.mono _ _ _ _ _ _ _ _ _ _ k1;exact c6 a1 a2
 cw i args H v H' h B ρ xs w b c m hH ct hr hd hf:=by
  obtain⟨r,hg,hlen,hpar,T1,H1,r',h1,qt,hst,h2⟩:=pj h;obtain⟨e,T2,H2,m2,r1,j,k1,hg2,rfl,rfl,hj⟩:=E1 h2;have a1:=hI.mono _ _ _ _ _ _ _ _ _ _ h1;have a2:=hI.mono _ _ _ _ _ _ _ _ _ _ k1;have JT:H1.next<=H2.next:=a2;obtain⟨R,hb,hR⟩:=rO hH hg hr;have hl:=hd.length;have hy:=run_yield (P:=P) (args:=xs.toArray) hb (by rw [hR.params];simp;omega);refine⟨_,_,_,_,hy,roundIn_of_wpIn trivial ?_⟩
  -- the slots of the round
  have JU:jS ρ (xp r.tmps (r.params.toList.zip args)) r.size ((R.params.zip xs.toArray).foldl (fun tmps (t,a)=>tmps.setIfInBounds t a) R.tmps):=by
   have e1:(R.params.zip xs.toArray).foldl (fun tmps (t,a)=>tmps.setIfInBounds t a) R.tmps=(r.params.toList.zip xs).foldl (fun tmps p=>tmps.setIfInBounds p.1 p.2) R.tmps:=by
    rw [<-Array.foldl_toList,hR.params];congr 1;simp
   rw [e1];have hz:∀{α:Type} (l:List Nat) (ys:List α),ys.length=l.length->(l.zip ys).map Prod.fst=l/\(l.zip ys).map Prod.snd=ys:=fun l ys hh=>⟨by rw [List.map_fst_zip];omega,by rw [List.map_snd_zip];omega⟩
   have dx:=hz r.params.toList args (by simpa using hlen);have z2:=hz r.params.toList xs (by rw [hl];simpa using hlen);exact JS _ _ (by rw [dx.1,z2.1]) (by rw [dx.2,z2.2];exact hd) (fun p hp=>hpar p.1 (List.of_mem_zip hp).1) hR.tmps
  rw [hR.assign,hR.body];refine hI.cw _ _ _ _ _ _ _ _ _ _ h1 B ρ _ w (some b) m _ ⟨c,hr⟩ ⟨JU,hH,ct⟩ rfl (fun x y z=>hf x y (Nat.lt_of_lt_of_le z JT)) fun cL Ck w1 hA hS hD=> ?_
  have hD:Ck.defers=[]:=hD;have kL:cL i=some (b,c):=hS.le _ _ hr;obtain⟨JV,ju,lH⟩:=rO hA.H qt kL;have JW:=run_beginRound (P:=P) ju (by rw [lH.state,hst]);refine⟨_,JW, ?_⟩;obtain⟨q1,aQ⟩:=iS hA.H qt kL rfl (r:={r' with state:= .busy}) (R:={JV with state:= .busy}) ⟨rfl,lH.pending,lH.params,lH.assign,lH.body,lH.tmps⟩;refine hI.cw _ _ _ _ _ _ _ _ _ _ k1 B cL Ck _ (some b) m _ ⟨c,kL⟩ (hA.next hA.T q1 aQ) hD ((hS.trans aQ).fr hf) fun ec abH w2 vw Cl _=> ?_
  have hr2:ec i=some (b,c):=Cl.le _ _ kL;obtain⟨JX,kI,tO⟩:=rO vw.H hg2 hr2;have JY:=run_endRound (P:=P) j kI;obtain⟨b8,eo⟩:=iS vw.H hg2 hr2 rfl (r:={r1 with state:=if j.isNone then .ready else .done,pending:=j}) (R:={JX with state:=if j.isNone then .ready else .done,pending:=j}) ⟨rfl,rfl,tO.params,tO.assign,tO.body,tO.tmps⟩;have fin:∃v' w',(Instr.endRound b j).run P w2= .ok v' w'/\mm P B ρ H w (.raw (.bool j.isNone)) (H2.set i (.loop {r1 with state:=if j.isNone then .ready else .done,pending:=j})) (.returned v') w':=
   ⟨_,_,JY,_,ec,rfl, .raw _,b8,((hS.trans aQ).trans Cl).trans eo⟩
  rcases hj with⟨rfl,rfl⟩|⟨rfl,rfl⟩|⟨id,rfl,rfl⟩|⟨l,rfl,rfl⟩<;>exact fin
def Hf {aN:Option Nat} {L:Nat} {m:List Nat} {ag:aM} {e:Exit} {aO:au af} {H':ai} {m':List Nat} (h:(Bc ih n aN T L m ag).out=some (e,aO,H',m')):∃v H3 r,ag= .ok v H3/\H3.get L=some (.loop r)/\r.state≠ .busy/\
  (r.pending=none/\e= .normal/\aO=T/\H'=H3.set L (.loop {r with state:= .exhausted})/\m'=m\/
    ∃c,r.pending=some c/\(ih c n aN T (H3.set L (.loop {r with state:= .exhausted})) m).out=some (e,aO,H',m')):=by
 unfold Bc at h;split at h
 .rename_i v H3;split at h
  .rename_i r hg;split at h
   .cases h
   .rename_i hs;refine⟨v,H3,r,rfl,hg,fun hh=>hs hh, ?_⟩;split at h
    .rename_i hp;cases h;exact .inl ⟨hp,rfl,rfl,rfl,rfl⟩
    .rename_i c hp;exact .inr ⟨c,hp,h⟩
  .cases h
 .cases h
def pk {f:Operand} {params:Array Tmp} {assign body:Code} {m:List Nat} {e:Exit} {aO:au af} {H':ai} {m':List Nat} (h:(pf cJ P ih f params assign body n T H m).out=some (e,aO,H',m')):
  ∃g args H2,lZ P (cm T f) [.yield (H.next+1)] ((H.new .deferred).new (.loop {tmps:=T,size:=n,params,assign,body,state:= .ready,pending:=none}))= .enter g args H2/\
   (Bc ih n none T (H.next+1) (H.next::m) (cJ ih g args H2)).out=some (e,aO,H',m'):=by
 unfold pf at h;split at h
 .rename_i g args H2 hc;exact⟨g,args,H2,hc,h⟩
 .cases h
def pl {i:Nat} {f:Operand} {params:Array Tmp} {assign body:Code} {m:List Nat} {e:Exit} {aO:au af} {H':ai} {m':List Nat} (h:(ph cJ P ih i f params assign body n T H m).out=some (e,aO,H',m')):
  (∃ef,H.get i=some (.loop ef))/\∃g args H2,lZ P (cm T f) [.yield H.next] (H.new (.loop {tmps:=T,size:=n,params,assign,body,state:= .ready,pending:=none}))= .enter g args H2/\
    (Bc ih n (some i) T H.next m (cJ ih g args H2)).out=some (e,aO,H',m'):=by
 unfold ph at h;split at h
 .rename_i g args H2 hc;cases hb:Nk (H.get i)with
  |false=>rw [hb]at h;cases h
  |true=>
   rw [hb]at h;refine⟨?_,g,args,H2,hc,h⟩;unfold Nk at hb;split at hb
   .rename_i ef qH;exact⟨ef,qH⟩
   .cases hb
 .cases h
end
section
variable (hO:∀ih,jH P ih->bD P (cJ ih))
def po {ih:dX} (hI:jH P ih) {f:Operand} {params:Array Tmp} {assign body:Code} {m:List Nat} {e:Exit} {aO:au af} {H':ai} {m':List Nat} (h:(pf cJ P ih f params assign body n T H m).out=some (e,aO,H',m')):H.next+2<=H'.next:=by
 obtain⟨g,args,H2,h1,h2⟩:=pk h;have mZ:=gk h1;obtain⟨v,H3,r,h3,h4,h5,h6⟩:=Hf h2;have hc:=(hO ih hI).mono _ _ _ _ _ h3;have e2:H2.next=H.next+2:=by rw [mZ];rfl
 rcases h6 with⟨_,_,_,rfl,_⟩|⟨c,_,h7⟩
 .show H.next+2<=H3.next;omega
 .have:=hI.mono _ _ _ _ _ _ _ _ _ _ h7;have e3:(H3.set (H.next+1) (bq.loop {r with state:= .exhausted})).next=H3.next:=rfl;omega
def U5 {ih:dX} (hI:jH P ih) {i:Nat} {f:Operand} {params:Array Tmp} {assign body:Code} {m:List Nat} {e:Exit} {aO:au af} {H':ai} {m':List Nat} (h:(ph cJ P ih i f params assign body n T H m).out=some (e,aO,H',m')):H.next+1<=H'.next:=by
 obtain⟨_,g,args,H2,h1,h2⟩:=pl h;have mZ:=gk h1;obtain⟨v,H3,r,h3,h4,h5,h6⟩:=Hf h2;have hc:=(hO ih hI).mono _ _ _ _ _ h3;have e2:H2.next=H.next+1:=by rw [mZ];rfl
 rcases h6 with⟨_,_,_,rfl,_⟩|⟨c,_,h7⟩
 .show H.next+1<=H3.next;omega
 .have:=hI.mono _ _ _ _ _ _ _ _ _ _ h7;have e3:(H3.set H.next (bq.loop {r with state:= .exhausted})).next=H3.next:=rfl;omega
def akN (hK:e7 P) {ih:dX} (hI:jH P ih) {f:Operand} {params:Array Tmp} {assign body:Code} {m:List Nat} {e:Exit} {aO:au af} {H':ai} {m':List Nat} (h:(pf cJ P ih f params assign body n T H m).out=some (e,aO,H',m'))
  (k:Nat) {Q:Exit->Act->World->Prop} (aR:ez P B ρ n T H a w) (hD:eA ρ m a.defers) (hf:Fr ρ H.next H'.next)
  (hQ:∀ρ' a' w',ez P B ρ' n aO H' a' w'->bS ρ H w ρ' H' w'->eA ρ' m' a'.defers->Q e a' w'):(Code.rangeFunc f params assign body).wpIn (dO none) k P Q a w:=by
 have hmono:=po hO hI h;obtain⟨g,args,H2,h1,h2⟩:=pk h;have mZ:=gk h1;obtain⟨v,H3,r,h3,h4,h5,h6⟩:=Hf h2;have hcm:=(hO ih hI).mono _ _ _ _ _ h3;have e2:H2.next=H.next+2:=by rw [mZ];rfl
 have Cm:H3.next<=H'.next:=by
  rcases h6 with⟨_,_,_,rfl,_⟩|⟨c,_,h7⟩
  .exact aJ _
  .have:=hI.mono _ _ _ _ _ _ _ _ _ _ h7;exact this
 refine wpIn_rangeFunc fun fn _=> ?_
 -- the two blocks
 have hn0:ρ H.next=none:=hf _ (aJ _) ω;obtain⟨p1,p2⟩:=tE aR.H (fun i x y=>hf i x ω) 0 .deferred (.deferred (some [])) rfl;have xI:=p2.fr hf;have nc:(H.new .deferred).next=H.next+1:=rfl;have Cn:=aR.T.mono p2.le;obtain⟨rec,iu⟩:∃rec:Loop,rec={state:= .ready,pending:=none,fn,tmps:=a.tmps,params,assign,body,defers:=w.heap.size}:=⟨_,rfl⟩;obtain⟨p3,dS⟩:=tE p1 (fun i x y=>xI i x (by rw [nc]at y;omega)) 0 (.loop {tmps:=T,size:=n,params,assign,body,state:= .ready,pending:=none}) (.loop rec) ⟨rec,rfl,by rw [iu],by rw [iu],by rw [iu],by rw [iu],by rw [iu],by
  rw [iu];exact Cn.mono (Env.o5 (xI _ (aJ _) (by rw [nc];omega)))⟩
 have hle:=p2.trans dS;rw [<-mZ]at p3 dS hle h1;obtain⟨ec,vA⟩:∃ec,ec=(ρ.put H.next w.heap.size 0).put (H.new .deferred).next (w.alloc (.deferred (some []))).heap.size 0:=⟨_,rfl⟩;rw [<-vA]at p3 dS hle;have hL:ec (H.next+1)=some (w.heap.size+1,0):=by rw [vA,<-nc,Env.dn];simp
 have J0:ec H.next=some (w.heap.size,0):=by
  refine dS.le _ _ ?_;rw [Env.dn]
 -- the function
 have vB:=(nF aR.T aR.G f).mono hle.le;obtain⟨vC,first,captured,fR⟩:=JZ vB h1;have Co:aH ec [af.yield (H.next+1)] [.func (.yield (w.heap.size+1)) #[] #[]]:= .cons (.yield hL) .nil;have hca:=EX (P:=P) (B:=B) (w:=(w.alloc (.deferred (some []))).alloc (.loop rec)) (fv:=cm T f) hK p3 vB Co (r:=(invoke (.fn vC captured) (first++ #[.func (.yield (w.heap.size+1)) #[] #[]])).run P ((w.alloc (.deferred (some []))).alloc (.loop rec)))
  (fun fn' first' captured' hh=>by rw [fR]at hh;cases hh;rfl)
 rw [h1]at hca;obtain⟨_,xs,hinv,hxs⟩:=hca;refine⟨w.heap.size+1,[{target:= .collected w.heap.size,args:= #[]}],(w.alloc (.deferred (some []))).alloc (.loop rec),{target:= .fn vC captured,args:=first++ #[.func (.yield (w.heap.size+1)) #[] #[]]},(w.alloc (.deferred (some []))).alloc (.loop rec),g,xs.toArray,
  (w.alloc (.deferred (some []))).alloc (.loop rec), ?_, ?_,fun _ _=>trivial,hinv,(fun hh=>by cases hh), ?_⟩
 .rw [iu];exact run_enterLoop_outer fn a.tmps params assign body
 .have hcv:∀v,a.eval (.const v)=v:=fun _=>rfl
  simp [resolve,fR,Deferred.ofValue,hcv]
 .refine((hO ih hI).cw g args H2 v H3 h3 B ec xs _ (k-1) p3 (aR.G.mono hle.le) hxs ((hle.fr hf).mono' Cm)).mono ?_;rintro e0 w3 ⟨x,qu,rfl,_,q1,aQ⟩;have vD:=aQ.le _ _ hL;obtain⟨R,hb,hR⟩:=rO q1 h4 vD;have hel:=run_endLoop (P:=P) hb (by rw [hR.state];exact h5);obtain⟨b8,eo⟩:=iS q1 h4 vD rfl (r:={r with state:= .exhausted}) (R:={R with state:= .exhausted}) ⟨rfl,hR.pending,hR.params,hR.assign,hR.body,hR.tmps⟩;have gW:=(hle.trans aQ).trans eo;have ng:eA qu (H.next::m) ([{target:= .collected w.heap.size,args:= #[]}]++a.defers):=⟨w.heap.size,0,a.defers,aQ.le _ _ J0,rfl,(hD.mono (hle.trans aQ).le)⟩;have key:∀jump,jump=r.pending->(match jump with
    |none=>Q .normal {a with defers:=[{target:= .collected w.heap.size,args:= #[]}]++a.defers} (w3.putObj (w.heap.size+1) (.loop {R with state:= .exhausted}))
    |some c=>c.wpIn (dO none) k P Q {a with defers:=[{target:= .collected w.heap.size,args:= #[]}]++a.defers} (w3.putObj (w.heap.size+1) (.loop {R with state:= .exhausted}))):=by
   rintro jump rfl;rcases h6 with⟨k1,rfl,rfl,rfl,rfl⟩|⟨c,k1,h7⟩
   .rw [k1];exact hQ qu {a with defers:=[{target:= .collected w.heap.size,args:= #[]}]++a.defers} _ ⟨aR.T.mono gW.le,b8,aR.G.mono gW.le⟩ gW ng
   .rw [k1];refine hI.cw _ _ _ _ _ _ _ _ _ _ h7 B qu {a with defers:=[{target:= .collected w.heap.size,args:= #[]}]++a.defers} _ none k Q trivial ⟨aR.T.mono gW.le,b8,aR.G.mono gW.le⟩ ng (gW.fr hf) fun ρ' a' w' r1 r2 r3=>hQ ρ' a' w' r1 (gW.trans r2) r3
  exact⟨R.pending,_,hel,key _ hR.pending⟩
def akO (hK:e7 P) {ih:dX} (hI:jH P ih) {i l₀ c₀:Nat} (U6:ρ i=some (l₀,c₀)) {f:Operand} {params:Array Tmp} {assign body:Code} {m:List Nat} {e:Exit} {aO:au af} {H':ai} {m':List Nat} (h:(ph cJ P ih i f params assign body n T H m).out=some (e,aO,H',m'))
  (k:Nat) {Q:Exit->Act->World->Prop} (aR:ez P B ρ n T H a w) (hD:eA ρ m a.defers) (hf:Fr ρ H.next H'.next)
  (hQ:∀ρ' a' w',ez P B ρ' n aO H' a' w'->bS ρ H w ρ' H' w'->eA ρ' m' a'.defers->Q e a' w'):(Code.rangeFunc f params assign body).wpIn (dO (some l₀)) k P Q a w:=by
 have hmono:=U5 hO hI h;obtain⟨⟨ef,qH⟩,g,args,H2,h1,h2⟩:=pl h;have mZ:=gk h1;obtain⟨v,H3,r,h3,h4,h5,h6⟩:=Hf h2;have hcm:=(hO ih hI).mono _ _ _ _ _ h3;have e2:H2.next=H.next+1:=by rw [mZ];rfl
 have Cm:H3.next<=H'.next:=by
  rcases h6 with⟨_,_,_,rfl,_⟩|⟨c,_,h7⟩
  .exact aJ _
  .have:=hI.mono _ _ _ _ _ _ _ _ _ _ h7;exact this
 refine wpIn_rangeFunc fun fn _=> ?_
 obtain⟨R0,uy,_⟩:=rO aR.H qH U6
 -- the block
 have hn0:ρ H.next=none:=hf _ (aJ _) ω;obtain⟨rec,iu⟩:∃rec:Loop,rec={state:= .ready,pending:=none,fn,tmps:=a.tmps,params,assign,body,defers:=R0.defers}:=⟨_,rfl⟩;obtain⟨p3,dS⟩:=tE aR.H (fun i x y=>hf i x ω) 0 (.loop {tmps:=T,size:=n,params,assign,body,state:= .ready,pending:=none}) (.loop rec) ⟨rec,rfl,by rw [iu],by rw [iu],by rw [iu],by rw [iu],by rw [iu],by
  rw [iu];exact aR.T.mono (Env.o5 hn0)⟩
 have hle:=dS;rw [<-mZ]at p3 dS hle h1;obtain⟨ec,vA⟩:∃ec,ec=ρ.put H.next w.heap.size 0:=⟨_,rfl⟩;rw [<-vA]at p3 dS hle;have hL:ec H.next=some (w.heap.size,0):=by rw [vA,Env.dn]
 -- the function
 have vB:=(nF aR.T aR.G f).mono hle.le;obtain⟨vC,first,captured,fR⟩:=JZ vB h1;have Co:aH ec [af.yield H.next] [.func (.yield w.heap.size) #[] #[]]:= .cons (.yield hL) .nil;have hca:=EX (P:=P) (B:=B) (w:=w.alloc (.loop rec)) (fv:=cm T f) hK p3 vB Co (r:=(invoke (.fn vC captured) (first++ #[.func (.yield w.heap.size) #[] #[]])).run P (w.alloc (.loop rec)))
  (fun fn' first' captured' hh=>by rw [fR]at hh;cases hh;rfl)
 rw [h1]at hca;obtain⟨_,xs,hinv,hxs⟩:=hca;refine⟨w.heap.size,[],w.alloc (.loop rec),{target:= .fn vC captured,args:=first++ #[.func (.yield w.heap.size) #[] #[]]},w.alloc (.loop rec),g,xs.toArray,
  w.alloc (.loop rec), ?_, ?_,fun _ _=>trivial,hinv,(fun hh=>by cases hh), ?_⟩
 .rw [iu];exact run_enterLoop_inner uy fn a.tmps params assign body
 .have hcv:∀v,a.eval (.const v)=v:=fun _=>rfl
  simp [resolve,fR,Deferred.ofValue,hcv]
 .refine((hO ih hI).cw g args H2 v H3 h3 B ec xs _ (k-1) p3 (aR.G.mono hle.le) hxs ((hle.fr hf).mono' Cm)).mono ?_;rintro e0 w3 ⟨x,qu,rfl,_,q1,aQ⟩;have vD:=aQ.le _ _ hL;obtain⟨R,hb,hR⟩:=rO q1 h4 vD;have hel:=run_endLoop (P:=P) hb (by rw [hR.state];exact h5);obtain⟨b8,eo⟩:=iS q1 h4 vD rfl (r:={r with state:= .exhausted}) (R:={R with state:= .exhausted}) ⟨rfl,hR.pending,hR.params,hR.assign,hR.body,hR.tmps⟩;have gW:=(hle.trans aQ).trans eo;have ng:eA qu m a.defers:=hD.mono (hle.trans aQ).le;have key:∀jump,jump=r.pending->(match jump with
    |none=>Q .normal a (w3.putObj w.heap.size (.loop {R with state:= .exhausted}))
    |some c=>c.wpIn (dO (some l₀)) k P Q a (w3.putObj w.heap.size (.loop {R with state:= .exhausted}))):=by
   rintro jump rfl;rcases h6 with⟨k1,rfl,rfl,rfl,rfl⟩|⟨c,k1,h7⟩
   .rw [k1];exact hQ qu a _ ⟨aR.T.mono gW.le,b8,aR.G.mono gW.le⟩ gW ng
   .rw [k1];refine hI.cw _ _ _ _ _ _ _ _ _ _ h7 B qu a _ (some l₀) k Q ⟨c₀,gW.le _ _ U6⟩ ⟨aR.T.mono gW.le,b8,aR.G.mono gW.le⟩ ng (gW.fr hf) fun ρ' a' w' r1 r2 r3=>hQ ρ' a' w' r1 (gW.trans r2) r3
  exact⟨R.pending,_,hel,key _ hR.pending⟩
end
def Nl {ih:dX} (hI:jH P ih) {c:Code} {aN:Option Nat}:∀(j:Nat) {T:au af} {H:ai} {m:List Nat} {e:Exit} {aO:au af} {H':ai} {m':List Nat},(iter (ih c n aN) j T H m).out=some (e,aO,H',m')->H.next<=H'.next
 |0,_,_,_,_,_,_,_,h=>by cases h
 |j+1,T,H,m,e,aO,H',m',h=>by
  obtain⟨j',hj,e1,T1,H1,m1,h1,h2⟩:=E2 (j+1) h;cases hj;have a1:=hI.mono _ _ _ _ _ _ _ _ _ _ h1;rcases h2 with⟨_,h2⟩|⟨_,_,_,rfl,_⟩
  .exact c6 a1 (Nl hI j h2)
  .exact a1
def U7 {ih:dX} (hI:jH P ih) {c:Code} {aN:Option Nat} {rd:Option Nat} {k:Nat} {Q:Exit->Act->World->Prop}:∀(j:Nat) {ρ:Env} {T:au af} {H:ai} {m:List Nat} {a:Act} {w:World} {e:Exit} {aO:au af} {H':ai} {m':List Nat},
  (iter (ih c n aN) j T H m).out=some (e,aO,H',m')->DC ρ aN rd->ez P B ρ n T H a w->eA ρ m a.defers->Fr ρ H.next H'.next->
  (∀ρ' a' w',ez P B ρ' n aO H' a' w'->bS ρ H w ρ' H' w'->eA ρ' m' a'.defers->Q e a' w')->Code.roundsIn (dO rd) k P c Q j a w
 |0,_,_,_,_,_,_,_,_,_,_,h,_,_,_,_,_=>by cases h
 |j+1,ρ,T,H,m,a,w,e,aO,H',m',h,hrd,aR,hD,hf,hQ=>by
  obtain⟨j',hj,e1,T1,H1,m1,h1,h2⟩:=E2 (j+1) h;cases hj;have hle:H1.next<=H'.next:=by
   rcases h2 with⟨_,h2⟩|⟨_,_,_,rfl,_⟩
   .exact Nl hI j h2
   .exact aJ _
  refine hI.cw _ _ _ _ _ _ _ _ _ _ h1 B ρ a w rd k _ hrd aR hD (hf.mono' hle) fun cL a1 w1 r1 r2 r3=> ?_
  rcases h2 with⟨rfl,h2⟩|⟨hn,rfl,rfl,rfl,rfl⟩
  .exact U7 hI j h2 (hrd.mono r2.le) r1 r3 (r2.fr hf) fun ρ' a' w' q1 aQ b8=>hQ ρ' a' w' q1 (r2.trans aQ) b8
  .exact Ro hn (hQ cL a1 w1 r1 r2 r3)
def U8 {draw:oY} {ih:dX} {x:Code} {aN:Option Nat} {m:List Nat}:pi cJ (.loop x) P draw ih n aN T H m=iter (ih x n aN) rounds T H m:=by
 unfold pi;simp only [U2]
def akP (hO:∀ih,jH P ih->bD P (cJ ih)) (hK:e7 P) {draw:oY} (hdr:∀d,xG P d (draw d)) {ih:dX} (hI:jH P ih):jH P (fun c=>pi cJ c P draw ih) where
 mono c n aN T H m e aO H' m' h:=by
  have hC:=hO ih hI;have hR:=U4 hI;cases c with
  |skip=>cases h;exact aJ _
  |label l=>cases h;exact aJ _
  |exit id=>cases h;exact aJ _
  |goto l=>cases h;exact aJ _
  |ret=>cases h;exact aJ _
  |refuse why=>cases h
  |region id ops d=>
   obtain⟨h1,_,_⟩:=E3 h;exact(hdr d).mono _ _ hC hR _ _ _ _ _ _ h1
  |seq x y=>
   have h:(@R.rec (fun _=>R) .no (fun T H m=>ih y n aN T H m) .exit .goto .ret (ih x n aN T H m)).out=some (e,aO,H',m'):=h;cases hx:ih x n aN T H m with
   |no=>rw [hx]at h;cases h
   |normal T1 H1 m1=>rw [hx]at h;exact c6 (hI.mono x n aN T H m _ _ _ _ (by rw [hx];rfl)) (hI.mono _ _ _ _ _ _ _ _ _ _ h)
   |exit id T1 H1 m1=>rw [hx]at h;cases h;exact hI.mono x n aN T H m _ _ _ _ (by rw [hx];rfl)
   |goto l T1 H1 m1=>rw [hx]at h;cases h;exact hI.mono x n aN T H m _ _ _ _ (by rw [hx];rfl)
   |ret T1 H1 m1=>rw [hx]at h;cases h;exact hI.mono x n aN T H m _ _ _ _ (by rw [hx];rfl)
  |cond c x y=>
   have h:(@mU.rec (fun _=>R) .no (fun b=> @Bool.rec (fun _=>R) (ih y n aN T H m) (ih x n aN T H m) b) (gI (cm T c))).out=some (e,aO,H',m'):=h;cases hb:gI (cm T c)with
   |no=>rw [hb]at h;cases h
   |mk b=>rw [hb]at h;cases b<;>exact hI.mono _ _ _ _ _ _ _ _ _ _ h
  |block id x=>
   have h:(@R.rec (fun _=>R) .no .normal (fun i T H m=> @Bool.rec (fun _=>R) (.exit i T H m) (.normal T H m) (Nat.beq i id)) .goto .ret (ih x n aN T H m)).out=some (e,aO,H',m'):=h;cases hx:ih x n aN T H m with
   |no=>rw [hx]at h;cases h
   |normal T1 H1 m1=>rw [hx]at h;cases h;exact hI.mono x n aN T H m _ _ _ _ (by rw [hx];rfl)
   |exit i T1 H1 m1=>
    rw [hx]at h;simp only at h;cases hb:Nat.beq i id with
    |true=>rw [hb]at h;cases h;exact hI.mono x n aN T H m _ _ _ _ (by rw [hx];rfl)
    |false=>rw [hb]at h;cases h;exact hI.mono x n aN T H m _ _ _ _ (by rw [hx];rfl)
   |goto l T1 H1 m1=>rw [hx]at h;cases h;exact hI.mono x n aN T H m _ _ _ _ (by rw [hx];rfl)
   |ret T1 H1 m1=>rw [hx]at h;cases h;exact hI.mono x n aN T H m _ _ _ _ (by rw [hx];rfl)
  |loop x=>rw [U8]at h;exact Nl hI rounds h
  |rangeFunc f ps x y=>
   cases aN with
   |some i=>have:=U5 hO hI (P:=P) h;omega
   |none=>have:=po hO hI (P:=P) h;omega
  |scope x=>
   have h:(@R.rec (fun _=>R) .no .normal .exit (fun _ _ _ _=> .no) .ret (ih x n aN T H m)).out=some (e,aO,H',m'):=h;cases hx:ih x n aN T H m with
   |no=>rw [hx]at h;cases h
   |normal T1 H1 m1=>rw [hx]at h;cases h;exact hI.mono x n aN T H m _ _ _ _ (by rw [hx];rfl)
   |exit id T1 H1 m1=>rw [hx]at h;cases h;exact hI.mono x n aN T H m _ _ _ _ (by rw [hx];rfl)
   |goto l T1 H1 m1=>rw [hx]at h;cases h
   |ret T1 H1 m1=>rw [hx]at h;cases h;exact hI.mono x n aN T H m _ _ _ _ (by rw [hx];rfl)
 cw c n aN T H m e aO H' m' h B ρ a w rd k Q hrd aR hD hf hQ:=by
  have hC:=hO ih hI;have hR:=U4 hI;have here:∀{x:Code} {e1 T1 H1 m1},(ih x n aN T H m).out=some (e1,T1,H1,m1)->H1=H'->∀Q':Exit->Act->World->Prop,(∀ρ' a' w',ez P B ρ' n T1 H1 a' w'->bS ρ H w ρ' H1 w'->eA ρ' m1 a'.defers->Q' e1 a' w')->x.wpIn (dO rd) k P Q' a w:=
   fun h1 hh Q' hq=>hI.cw _ _ _ _ _ _ _ _ _ _ h1 B ρ a w rd k Q' hrd aR hD (by rw [hh];exact hf) hq
  cases c with
  |skip=>cases h;exact wpIn_skip (hQ ρ a w aR (bS.refl _ _ _) hD)
  |label l=>cases h;exact wpIn_label (hQ ρ a w aR (bS.refl _ _ _) hD)
  |exit id=>cases h;exact wpIn_exit (hQ ρ a w aR (bS.refl _ _ _) hD)
  |goto l=>cases h;exact wpIn_goto (hQ ρ a w aR (bS.refl _ _ _) hD)
  |ret=>cases h;exact wpIn_ret (hQ ρ a w aR (bS.refl _ _ _) hD)
  |refuse why=>cases h
  |region id ops d=>
   obtain⟨h1,rfl,rfl⟩:=E3 h;have J1:∀ρ' a' w',ez P B ρ' n aO H' a' w'->bS ρ H w ρ' H' w'->a'.defers=a.defers->Q .normal a' w':=fun ρ' a' w' r1 r2 r3=>hQ ρ' a' w' r1 r2 (by rw [r3];exact hD.mono r2.le)
   exact(hdr d).cw _ _ hC hR id _ _ _ _ _ _ h1 B ρ a w rd k Q aR hf J1
  |seq x y=>
   have h:(@R.rec (fun _=>R) .no (fun T H m=>ih y n aN T H m) .exit .goto .ret (ih x n aN T H m)).out=some (e,aO,H',m'):=h;refine wpIn_seq ?_;cases hx:ih x n aN T H m with
   |no=>rw [hx]at h;cases h
   |normal T1 H1 m1=>
    rw [hx]at h;have hle:=hI.mono _ _ _ _ _ _ _ _ _ _ h;refine hI.cw x n aN T H m _ _ _ _ (by rw [hx];rfl) B ρ a w rd k _ hrd aR hD (hf.mono' hle) fun cL a1 w1 r1 r2 r3=> ?_
    exact hI.cw _ _ _ _ _ _ _ _ _ _ h B cL a1 w1 rd k Q (hrd.mono r2.le) r1 r3 (r2.fr hf) fun ρ' a' w' q1 aQ b8=>hQ ρ' a' w' q1 (r2.trans aQ) b8
   |exit id T1 H1 m1=>rw [hx]at h;cases h;exact here (x:=x) (by rw [hx];rfl) rfl _ hQ
   |goto l T1 H1 m1=>rw [hx]at h;cases h;exact here (x:=x) (by rw [hx];rfl) rfl _ hQ
   |ret T1 H1 m1=>rw [hx]at h;cases h;exact here (x:=x) (by rw [hx];rfl) rfl _ hQ
  |cond c x y=>
   have h:(@mU.rec (fun _=>R) .no (fun b=> @Bool.rec (fun _=>R) (ih y n aN T H m) (ih x n aN T H m) b) (gI (cm T c))).out=some (e,aO,H',m'):=h;cases hb:gI (cm T c)with
   |no=>rw [hb]at h;cases h
   |mk b=>
    rw [hb]at h;have hc:=nF aR.T aR.G c;rw [EG hb]at hc;refine wpIn_cond hc.cc ?_;cases b
    .exact hI.cw _ _ _ _ _ _ _ _ _ _ h B ρ a w rd k Q hrd aR hD hf hQ
    .exact hI.cw _ _ _ _ _ _ _ _ _ _ h B ρ a w rd k Q hrd aR hD hf hQ
  |block id x=>
   have h:(@R.rec (fun _=>R) .no .normal (fun i T H m=> @Bool.rec (fun _=>R) (.exit i T H m) (.normal T H m) (Nat.beq i id)) .goto .ret (ih x n aN T H m)).out=some (e,aO,H',m'):=h;refine wpIn_block ?_;cases hx:ih x n aN T H m with
   |no=>rw [hx]at h;cases h
   |normal T1 H1 m1=>rw [hx]at h;cases h;exact here (x:=x) (by rw [hx];rfl) rfl _ hQ
   |exit i T1 H1 m1=>
    rw [hx]at h;simp only at h;cases hb:Nat.beq i id with
    |true=>
     rw [hb]at h;cases h;have:=ac hb;subst this;exact here (x:=x) (by rw [hx];rfl) rfl _ fun ρ' a' w' r1 r2 r3=>by simp only [Exit.inBlock,if_true];exact hQ ρ' a' w' r1 r2 r3
    |false=>
     rw [hb]at h;cases h;have hne:i≠id:=fun hh=>by subst hh;rw [Nat.beq_refl]at hb;cases hb
     exact here (x:=x) (by rw [hx];rfl) rfl _ fun ρ' a' w' r1 r2 r3=>by simp only [Exit.inBlock,if_neg hne];exact hQ ρ' a' w' r1 r2 r3
   |goto l T1 H1 m1=>rw [hx]at h;cases h;exact here (x:=x) (by rw [hx];rfl) rfl _ hQ
   |ret T1 H1 m1=>rw [hx]at h;cases h;exact here (x:=x) (by rw [hx];rfl) rfl _ hQ
  |loop x=>rw [U8]at h;exact wpIn_loop_rounds rounds (U7 hI rounds h hrd aR hD hf hQ)
  |rangeFunc f ps x y=>
   cases aN with
   |some i=>
    cases rd with
    |some l=>obtain⟨c,hc⟩:=hrd;exact akO hO hK hI hc h k aR hD hf hQ
    |none=>exact hrd.elim
   |none=>
    cases rd with
    |some l=>exact hrd.elim
    |none=>exact akN hO hK hI h k aR hD hf hQ
  |scope x=>
   have h:(@R.rec (fun _=>R) .no .normal .exit (fun _ _ _ _=> .no) .ret (ih x n aN T H m)).out=some (e,aO,H',m'):=h;refine JP ?_;cases hx:ih x n aN T H m with
   |no=>rw [hx]at h;cases h
   |normal T1 H1 m1=>rw [hx]at h;cases h;exact here (x:=x) (by rw [hx];rfl) rfl _ hQ
   |exit id T1 H1 m1=>rw [hx]at h;cases h;exact here (x:=x) (by rw [hx];rfl) rfl _ hQ
   |goto l T1 H1 m1=>rw [hx]at h;cases h
   |ret T1 H1 m1=>rw [hx]at h;cases h;exact here (x:=x) (by rw [hx];rfl) rfl _ hQ
def Hg (hO:∀ih,jH P ih->bD P (cJ ih)) (hK:e7 P) {draw:oY} (hdr:∀d,xG P d (draw d)):∀fuel,jH P (DB cJ P draw fuel)
 |0=>⟨(fun _ _ _ _ _ _ _ _ _ _ h=>by cases h),(fun _ _ _ _ _ _ _ _ _ _ h=>by cases h)⟩
 |f+1=>akP hO hK hdr (Hg hO hK hdr f)
end
end Go.Proofs.YtibikmmdbdlafaaGreatDoor.Sv
namespace Go.Proofs.YtibikmmdbdlafaaGreatDoor
open Go.RowKit Sv Go.Proofs.Tryz
structure oD (w:World) (b r:Nat) (es:Array MapEntry) (clock:Nat) (rem:List MapEntry):Prop where
 m:w.heap[b]? =some (.map es clock)
 it:∃seen c0,w.heap[r]? =some (.mapIter (some b) clock seen c0)/\clock<=c0/\(leftOf es seen).toList=rem
def U9 (e:MapEntry):∀{l:List MapEntry},(l.map (·.born)).Nodup->e∈l->l.Perm (e::l.filter fun x=>x.born != e.born)
 |[],_,h=>by cases h
 |x::l,hn,h=>by
  rw [List.map_cons,List.nodup_cons]at hn;by_cases hx:x.born=e.born
  .have gq:x=e:=by
    rcases ek.1 h with h|h
    .exact h.symm
    .exact absurd (List.mem_map.2 ⟨e,h,hx.symm⟩) hn.1
   subst gq;have:l.filter (fun y=>y.born != x.born)=l:=List.filter_eq_self.2 fun y hy=>by
    rw [gz];intro he;exact hn.1 (List.mem_map.2 ⟨y,hy,he⟩)
   rw [List.filter_cons,if_neg τ,this]
  .have he:e∈l:=by
    rcases ek.1 h with h|h
    .exact absurd (by rw [h]) hx
    .exact h
   rw [List.filter_cons,if_pos (by simpa using hx)];exact((U9 e hn.2 he).cons x).trans (List.Perm.swap _ _ _)
def akQ (es:Array MapEntry) (seen:Array Nat) (k:Nat):(leftOf es (seen.push k)).toList=(leftOf es seen).toList.filter fun x=>x.born != k:=by
 unfold leftOf;rw [Array.toList_filter,Array.toList_filter,List.filter_filter];refine List.filter_congr fun x _=> ?_
 rw [contains_push];cases seen.contains x.born<;>simp [bne]
def oD.next {P:Program} {w:World} {b r:Nat} {es:Array MapEntry} {clock:Nat} {rem:List MapEntry} (Bd:∀x∈es.toList,x.born<clock) (hn:(es.toList.map (·.born)).Nodup) (h:oD w b r es clock rem) (ty:TypeId):
  (rem=[]/\(Instr.next (.pointer (some ⟨r,0,none⟩)) false ty).run P w= .ok (.tuple #[.bool false]) w)\/
  ∃e sN w',rem.Perm (e::sN)/\e∈es.toList/\(Instr.next (.pointer (some ⟨r,0,none⟩)) false ty).run P w= .ok (.tuple #[.bool true,e.key,e.val]) w'/\oD w' b r es clock sN/\w.grownBy w' (some r)/\w'.heap.size=w.heap.size/\
   (Instr.entry (.pointer (some ⟨r,0,none⟩))).run P w'= .ok (.tuple #[e.key,e.val]) w':=by
 obtain⟨hb,seen,c0,hr,hc,rfl⟩:=h;have hne:b≠r:=fun e=>by subst e;rw [hb]at hr;cases hr
 rcases run_next_at (P:=P) w ty r b clock c0 seen es clock hr hb Bd hc with⟨h0,hrun⟩|⟨e,he,w1,hal,hrun⟩
 .exact .inl ⟨by rw [Array.eq_empty_of_size_eq_zero h0],hrun⟩
 .have hem:e∈es.toList:=by
   unfold leftOf at he;rw [Array.toList_filter]at he;exact(List.mem_filter.1 he).1
  have hnl:((leftOf es seen).toList.map (·.born)).Nodup:=by
   unfold leftOf;rw [Array.toList_filter];exact(List.filter_sublist.map _).nodup hn
  have kL:w1.heap[r]? =some (.mapIter (some b) clock seen c0):=by rcases hal with rfl |rfl<;>exact hr
  have ju:w1.heap[b]? =some (.map es clock):=by rcases hal with rfl |rfl<;>exact hb
  have qL:=MapKept.heap_set (o':= .mapIter (some b) clock (seen.push e.born) clock) kL;have hb':(ChangeMaps.setBlock w1 r (.mapIter (some b) clock (seen.push e.born) clock)).heap[b]? =some (.map es clock):=(qL.2 b hne).trans ju;refine .inr ⟨e,_,_,U9 e hnl he,hem,hrun,⟨hb',_,_,qL.1,aJ _,akQ es seen e.born⟩, ?_, ?_,run_entry_at _ r b clock seen es clock e qL.1 hb' hem hn⟩
  .rcases hal with rfl |rfl<;>exact⟨rfl,rfl,rfl,by simp [ChangeMaps.setBlock],fun i _ hi=>qL.2 i (fun e1=>hi (by rw [e1]))⟩
  .rcases hal with rfl |rfl<;>simp [ChangeMaps.setBlock]
def oD.kept {w w':World} {b r:Nat} {es:Array MapEntry} {clock:Nat} {rem:List MapEntry} (h:oD w b r es clock rem) (h1:w'.heap[b]? =w.heap[b]?) (h2:w'.heap[r]? =w.heap[r]?):oD w' b r es clock rem:=
 ⟨by rw [h1];exact h.m,by rw [h2];exact h.it⟩
section
variable {F:Fence} {n:Nat} {P:Program} (w:World) {ops:Array Oper} {rest:List Oper} {o:Oper} {a:Act} {Q:Exit->Act->World->Prop}
def akR (hg:o.guard=none) (m:Operand) (t:TypeId) (hop:o.op=Op.range t m) (k e:TypeId) (ht:P.underlying t=some (.map k e)) (b:Nat) (es:Array MapEntry) (clock:Nat) (hm:a.eval m= .map (some b)) (hb:w.heap[b]? =some (.map es clock)) (r:Nat) (hr:w.heap.size=r)
  (hK:oD (w.alloc (.mapIter (some b) clock #[] clock)) b r es clock es.toList->wpListIn F n P ops Q rest (a.put o.dst (.pointer (some ⟨r,0,none⟩))) (w.alloc (.mapIter (some b) clock #[] clock))):
  wpListIn F n P ops Q (o::rest) a w:=by
 subst hr;refine wpListIn_plain hg fun K' hK'=> ?_
 have hrun:=run_range_map (P:=P) w t k e b es clock ht hb;have hlt:b<w.heap.size:=(dz.1 hb).1;unfold Oper.wpIn;refine⟨?_, ?_⟩
 .simp [Oper.about,hop]
 .rw [Oper.semAt_plain F _ _ (by rw [hop];intro c tK;cases tK)];simp [execOp,hop,hm,hrun,Result.andThen];refine hK' _ _ (hK ⟨(heap_alloc_old w _ hlt).trans hb, #[],clock,heap_alloc_new w _,aJ _, ?_⟩);unfold leftOf;rw [Array.toList_filter];exact List.filter_eq_self.2 fun x _=>by simp
def pr (hg:o.guard=none) (it:Operand) (hop:o.op=Op.next it false) (b r:Nat) (es:Array MapEntry) (clock:Nat) (rem:List MapEntry) (Bd:∀x∈es.toList,x.born<clock) (hn:(es.toList.map (·.born)).Nodup)
  (hit:a.eval it= .pointer (some ⟨r,0,none⟩)) (h:oD w b r es clock rem) (hDone:rem=[]->wpListIn F n P ops Q rest (a.put o.dst (.tuple #[.bool false])) w)
  (hMore:∀e sN w',rem.Perm (e::sN)->e∈es.toList->oD w' b r es clock sN->w.grownBy w' (some r)->w'.heap.size=w.heap.size->(Instr.entry (.pointer (some ⟨r,0,none⟩))).run P w'= .ok (.tuple #[e.key,e.val]) w'->
    wpListIn F n P ops Q rest (a.put o.dst (.tuple #[.bool true,e.key,e.val])) w'):
  wpListIn F n P ops Q (o::rest) a w:=by
 refine wpListIn_plain hg fun K' hK'=> ?_
 unfold Oper.wpIn;refine⟨by simp [Oper.about,hop], ?_⟩;rw [Oper.semAt_plain F _ _ (by rw [hop];intro c tK;cases tK)];rcases h.next (P:=P) Bd hn o.type with⟨h0,hrun⟩|⟨e,sN,w',g1,g2,hrun,g3,g4,g5,g6⟩
 .simp [execOp,hop,hit,hrun,Result.andThen];exact hK' _ _ (hDone h0)
 .simp [execOp,hop,hit,hrun,Result.andThen];exact hK' _ _ (hMore e sN w' g1 g2 g3 g4 g5 g6)
end
end Go.Proofs.YtibikmmdbdlafaaGreatDoor
namespace Go.Proofs.YtibikmmdbdlafaaGreatDoor
open Go.RowKit
def Row (w:World) (B:Nat) (A:Option Addr) (vs:List Value):Prop:=
 vs=[]\/∃b off,A=some ⟨b,off,none⟩/\b<B/\∀i,i<vs.length->w.cell? ⟨b,off+i,none⟩=some (vs.getD i (.bool false))
def Row.nil {w:World} {B:Nat} {A:Option Addr}:Row w B A []:= .inl rfl
def Row.open {w:World} {B:Nat} {A:Option Addr} {vs:List Value} (h:Row w B A vs) (hn:0<vs.length):
  ∃b off,A=some ⟨b,off,none⟩/\b<B/\∀i,i<vs.length->w.cell? ⟨b,off+i,none⟩=some (vs.getD i (.bool false)):=by
 rcases h with rfl |h
 .simp at hn
 .exact h
def Row.below {w w':World} {B B':Nat} {A:Option Addr} {vs:List Value} (h:Row w B A vs) (hb:Below B' w w') (hB:B<=B'):Row w' B A vs:=by
 rcases h with rfl |⟨b,off,rfl,hlt,hc⟩
 .exact .inl rfl
 .exact .inr ⟨b,off,rfl,hlt,fun i hi=>(hb.cell (p:=⟨b,off+i,none⟩) (by simp;omega)).trans (hc i hi)⟩
def Row.drewN {w:World} {B:Nat} {A:Option Addr} {vs:List Value} (h:Row w B A vs) (k:Nat):Row (w.drewN k) B A vs:=h
def Row.drew {w:World} {B:Nat} {A:Option Addr} {vs:List Value} (h:Row w B A vs):Row w.drew B A vs:=h
def Row.alloc {w:World} {B:Nat} {A:Option Addr} {vs:List Value} (h:Row w B A vs) (hB:B<=w.heap.size) (o:Obj):Row (w.alloc o) B A vs:=
 h.below ((Below.refl B w).alloc hB o) (aJ _)
def Row.new (w:World) (e:TypeId) (vs:List Value):Row (w.alloc (.cells vs.toArray e)) (w.heap.size+1) (some ⟨w.heap.size,0,none⟩) vs:=
 .inr ⟨w.heap.size,0,rfl,by omega,fun i hi=>by
   rw [World.cell?_alloc_at _ _ _ _ rfl];simp [ao,hi]⟩
def Row.int {w:World} {B:Nat} {A:Option Addr} {xs:List Int} (h:Row w B A (xs.map (Value.int .i64))) (k:Nat) (hk:k<xs.length):
  ∃b off x,A=some ⟨b,off,none⟩/\b<B/\xs[k]? =some x/\w.cell? ⟨b,off+k,none⟩=some (.int .i64 x):=by
 obtain⟨b,off,h1,h2,h3⟩:=h.open (by simp;omega);refine⟨b,off,xs[k],h1,h2,BL hk, ?_⟩;rw [h3 k (by simpa using hk)];simp [ao,hk]
def eM (w:World) (g:Nat) (t:TypeId) (cs:Array Value):Prop:=w.heap[g]? =some (.cells cs t (0,0))
section
variable {w w':World} {g:Nat} {t:TypeId} {cs:Array Value}
def eM.lt (h:eM w g t cs):g<w.heap.size:=by
 rcases Nat.lt_or_ge g w.heap.size with hlt|hge
 .exact hlt
 .unfold eM at h;rw [Array.getElem?_eq_none hge]at h;cases h
def eM.cell (h:eM w g t cs) (i:Nat):w.cell? ⟨g,i,none⟩=cs[i]? :=cell_of_row w g i cs t (0,0) h
def eM.frozen (h:eM w g t cs) (i:Nat):w.frozen? ⟨g,i,none⟩=false:=by
 unfold eM at h;simp [World.frozen?,h]
def eM.new (w:World) (t:TypeId) (cs:Array Value):eM (w.alloc (.cells cs t)) w.heap.size t cs:=heap_alloc_new w _
def eM.drew (h:eM w g t cs):eM w.drew g t cs:=h
def eM.drewN (h:eM w g t cs) (n:Nat):eM (w.drewN n) g t cs:=h
def eM.alloc (h:eM w g t cs) (o:Obj):eM (w.alloc o) g t cs:=(Below.heap_alloc w o g h.lt).trans h
def eM.below {B:Nat} (h:eM w g t cs) (hb:Below B w w') (hg:g<B):eM w' g t cs:=(hb.block g hg).trans h
def eM.set (h:eM w g t cs) (i:Nat) (u:Value):eM (w.setCell ⟨g,i,none⟩ u) g t (cs.setIfInBounds i u):=by
 unfold eM at h ⊢;simp [World.setCell,Array.getElem?_modify,h]
def eM.gB (h:eM w g t cs) {p:Addr} (hp:g≠p.block) (u:Value):eM (w.setCell p u) g t cs:=(Below.heap_setCell w p u g hp).trans h
end
end Go.Proofs.YtibikmmdbdlafaaGreatDoor
namespace Go.Proofs.YtibikmmdbdlafaaGreatDoor
open Go.RowKit Sv Go.Proofs.Tryz
def Tryz.U':(prog.info? 3).map (fun i=>(i.zero,i.size,i.bytes))=some (some (.int .i64 0),1,8):=by kernel_rfl
noncomputable def Va:=k_a f157
structure akS (yv:Value) (uF nB:Nat) (w:World) (ks:List Int) (a':Act) (W:World):Prop where
 size:a'.tmps.size=48
 t0:a'.tmps.getD 0 undef=yv
 t1:a'.tmps.getD 1 undef= .pointer (some ⟨uF,0,none⟩)
 t2:a'.tmps.getD 2 undef= .pointer (some ⟨nB,0,none⟩)
 t3:a'.tmps.getD 3 undef= .pointer (some ⟨w.heap.size,0,none⟩)
 t4:a'.tmps.getD 4 undef= .pointer (some ⟨w.heap.size+1,0,none⟩)
 un:∀t,t<48->t∉[0,1,2,3,4,5,10,11,12,13,14,15,16,17,18,19,20,21]->a'.tmps.getD t undef=undef
 df:a'.defers=[]
 b3:W.heap[w.heap.size]? =some (.cells #[yv] 148 (0,0))
 b4:∃v,W.heap[w.heap.size+1]? =some (.cells #[v] 93 (0,0))/\W.ownsRow (w.heap.size+3) 3 1 v ks.length (gT (ks.mergeSort fun x y=>decide (x<=y)))
 gr:w.grownBy W none
structure akT (yv:Value) (w:World) (b:Nat) (es:Array MapEntry) (clock:Nat) (ks:List Int) (wr:World) (v:Value) (ss:List Int) (rem:List MapEntry):Prop where
 rg:oD wr b (w.heap.size+2) es clock rem
 pm:(gT ss++rem.map (·.key)).Perm (gT ks)
 b3:wr.heap[w.heap.size]? =some (.cells #[yv] 148 (0,0))
 b4:wr.heap[w.heap.size+1]? =some (.cells #[v] 93 (0,0))
 own:wr.ownsRow (w.heap.size+3) 3 1 v ss.length (gT ss)
 gr:w.grownBy wr none
 sz:w.heap.size+3<=wr.heap.size
def akU {a b:List Int} (h:a.Perm b):(a.mergeSort fun x y=>decide (x<=y))=b.mergeSort fun x y=>decide (x<=y):=by
 have Hh:∀x y z:Int,decide (x<=y)=true->decide (y<=z)=true->decide (x<=z)=true:=fun x y z h1 h2=>by rw [bA]at*;omega
 have tt:∀x y:Int,(decide (x<=y)||decide (y<=x))=true:=fun x y=>by rw [Bool.or_eq_true,bA,bA];omega
 refine List.Perm.eq_of_pairwise (le:=fun x y=>decide (x<=y)=true) (fun x y _ _ h1 h2=>by rw [bA]at*;omega) (List.pairwise_mergeSort Hh tt a) (List.pairwise_mergeSort Hh tt b) ?_;exact(List.mergeSort_perm a _).trans (h.trans (List.mergeSort_perm b _).symm)
def akV {a b:List Int} (h:(gT a).Perm (gT b)):a.Perm b:=by
 have h2:=h.map (fun v:Value=>match v with | .int _ n=>n|_=>0);have e:∀l:List Int,(gT l).map (fun v:Value=>match v with | .int _ n=>n|_=>0)=l:=fun l=>by
  unfold gT;rw [List.map_map];exact List.map_id' l
 rwa [e,e]at h2
def LO {w w':World} {base size n:Nat} {e:TypeId} {v:Value} {vs:List Value} (h:w.ownsRow base e size v n vs) (hk:∀b,some b=v.ownBlock->w'.heap[b]? =w.heap[b]?):w'.ownsRow base e size v n vs:=by
 refine⟨h.1, ?_⟩;rcases h.2 with hn|⟨g,cap,cur,rfl,Ni,hg,rest⟩
 .exact .inl hn
 .exact .inr ⟨g,cap,cur,rfl,Ni,(hk g rfl).trans hg,rest⟩
def akW {w:World} {base size n:Nat} {e:TypeId} {v:Value} {vs:List Value} (h:w.ownsRow base e size v n vs):∃A c,v= .slice A n c:=by
 rcases h.2 with⟨rfl,rfl⟩|⟨g,cap,cur,rfl,_⟩
 .exact⟨_,_,rfl⟩
 .exact⟨_,_,rfl⟩
def oD.left {w:World} {b r:Nat} {es:Array MapEntry} {clock:Nat} {rem:List MapEntry} (h:oD w b r es clock rem):w.rangeLeft b r=rem.length:=by
 obtain⟨seen,c0,h1,_,h3⟩:=h.it;unfold World.rangeLeft;rw [h.m,h1];simp only;rw [<-h3,Array.length_toList]
def Vb {n m:Nat} {P:Program} {f:FuncId} {args:Array Value} {w:World} {R:Ending->World->Prop} (h:CallsIn Fence.wide n P f args w R):CallsIn Fence.wide m P f args w R:=callsIn_wide.2 (callsIn_wide.1 h)
def akX {w:World} {b:Nat} {o:Nat} {v:Value} (h:w.cell? ⟨b,o,none⟩=some v):b<w.heap.size:=by
 unfold World.cell? at h;cases hb:w.heap[b]? with
 |none=>simp [hb]at h
 |some x=>exact(dz.1 hb).1
set_option maxRecDepth 100000 in
set_option maxHeartbeats 4000000 in
def akY (m yQ:Nat) (uF nB b:Nat) (es:Array MapEntry) (clock:Nat) (ks:List Int) (w:World) (R:Ending->World->Prop) (x0:w.cell? ⟨uF,0,none⟩=some (.map (some b))) (hb:w.heap[b]? =some (.map es clock))
  (Bd:∀x∈es.toList,x.born<clock) (hn:(es.toList.map (·.born)).Nodup) (hk:es.toList.map (·.key)=gT ks) (hsz:ks.length<=100000)
  (hK:∀a' W,akS (.func (.yield yQ) #[] #[]) uF nB w ks a' W->(cat Va [1,1,1,1]).wpIn Fence.wide m prog (bodyPostM Fence.wide m prog f157 R) a' W):
  CallsIn Fence.wide m prog 157 #[.func (.yield yQ) #[] #[], .pointer (some ⟨uF,0,none⟩), .pointer (some ⟨nB,0,none⟩)] w R:=by
 have akZ:=Lib.hid hK;have ak0:=Lib.hid Bd;have Nn:=Lib.hid hn;have Vc:=Lib.hid hk;have iq:b<w.heap.size:=(dz.1 hb).1;have ak1:=Lib.hid hb;have auI:uF<w.heap.size:=akX x0;obtain⟨i0,tJ,Np,Nq,Vd⟩:=info_parts Tryz.U';clear hK Bd hn hk hb;refine callsIn_of_wp_marks func157 rfl trivial ?_;simp only [Tryz.ntmps157,List.size_toArray,List.length_cons,List.length_nil,Nat.reduceAdd,Nat.reduceSub,Array.replicate_succ,Array.replicate_zero,List.push_toArray,List.append_toArray,List.nil_append,List.cons_append]
 gi_wp2_with (first
  |(gi_at_range;refine akR _ rfl _ 135 rfl 3 3 Tryz.underlying135 b es clock rfl (by rw [heap_alloc_old _ _ (by simp;omega),heap_alloc_old _ _ iq];exact ak1.out) (w.heap.size+2) τ ?_;intro ak2)
  |gi_in)
 go_frame
 gi_loopw [] (fun wr=>∃v ss rem,akT (.func (.yield yQ) #[] #[]) w b es clock ks wr v ss rem) (fun wr=>wr.rangeLeft b (w.heap.size+2))
 case atStart=>
  refine⟨.slice none 0 0,[],es.toList,ak2, ?_, ?_, ?_,World.ownsRow_nil _ _ _ _, ?_,by simp⟩
  .rw [Vc.out];exact List.Perm.refl _
  .rw [heap_alloc_old _ _ (by simp;omega),heap_alloc_old _ _ τ,heap_alloc_new]
  .rw [heap_alloc_old _ _ τ];have:=heap_alloc_new (w.alloc (.cells #[Value.func (Fn.yield yQ) #[] #[]] 148)) (.cells #[Value.slice none 0 0] 93);rwa [show(w.alloc (.cells #[Value.func (Fn.yield yQ) #[] #[]] 148)).heap.size=w.heap.size+1 by simp]at this
  .exact((World.grownBy_alloc w _ none).andThen (World.grownBy_alloc _ _ none) fun j hj=>by cases hj).andThen (World.grownBy_alloc _ _ none) fun j hj=>by cases hj
 case round=>
  obtain⟨v,ss,rem,hL⟩:=hrel;have iQ:=Lib.hid hL;have Ve:=hL.rg;clear hL
  gi_wp2_with (first
   |(gi_at_next;refine pr _ rfl _ rfl b (w.heap.size+2) es clock rem ak0.out Nn.out rfl Ve ?_ ?_)
   |gi_in)
  .intro ak3;have qJ:wr.cell? ⟨w.heap.size+1,0,none⟩=some v:=cell_of_row _ _ 0 #[v] _ _ iQ.out.b4;have hst:=(callsIn_wide.2 (akC _ _ v ss wr iQ.out.own ?hlen):CallsIn Fence.wide 0 _ _ _ _ _)
   case hlen=>
    have h1:=iQ.out.pm.length_eq;simp at h1;omega
   have ak4:=Lib.hid hst;clear hst
   gi_wp2
   refine⟨trivial,(fun h=>by cases h),(Vb ak4.out).mono ?_⟩;rintro e w' ⟨rfl,hown,hgr⟩;rename_i DD h1 Vf h2;refine h2 _ _ ?_;refine wpListIn_nil ?_;refine h1 _ _ ?_;refine akZ.out _ _ ?_;refine⟨rfl,rfl,rfl,rfl,rfl,rfl, ?_,rfl, ?_,⟨v, ?_, ?_⟩, ?_⟩
   .intro t ht hnt;simp only [ek,jO,or_false,not_or]at hnt;have ht2:t=6\/t=7\/t=8\/t=9\/t=22\/t=23\/t=24\/t=25\/t=26\/t=27\/t=28\/t=29\/t=30\/t=31\/t=32\/t=33\/t=34\/t=35\/t=36\/t=37\/t=38\/t=39\/t=40\/t=41\/t=42\/t=43\/t=44\/t=45\/t=46\/t=47:=by omega
    rcases ht2 with rfl |rfl |rfl |rfl |rfl |rfl |rfl |rfl |rfl |rfl |rfl |rfl |rfl |rfl |rfl |rfl |rfl |rfl |rfl |rfl |rfl |rfl |rfl |rfl |rfl |rfl |rfl |rfl |rfl |rfl<;>rfl
   .exact(hgr.block _ (Nat.lt_of_lt_of_le (Nat.lt_add_of_pos_right δ) iQ.out.sz) fun e=>by have:=(iQ.out.own.lt _ e.symm).1;omega).trans iQ.out.b3
   .exact(hgr.block _ (by have:=iQ.out.sz;omega) fun e=>by have:=(iQ.out.own.lt _ e.symm).1;omega).trans iQ.out.b4
   .have sO:=iQ.out.pm;rw [ak3,List.map_nil,List.append_nil]at sO;have sO:=akV sO;rw [<-sO.length_eq,<-akU sO];exact hown
   .exact iQ.out.gr.andThen hgr fun j hj=> .inl (by have:=(iQ.out.own.lt j hj).1;omega)
  .intro e sN w2 sO hmem Vg Hi hs2 ak5;obtain⟨x,hx⟩:∃x,e.key= .int .i64 x:=by
    have:e.key∈gT ks:=by rw [<-Vc.out];exact List.mem_map.2 ⟨e,by simpa using hmem,rfl⟩
    obtain⟨x,_,hx⟩:=List.mem_map.1 this;exact⟨x,hx.symm⟩
   have Vh:=iQ.out.pm;have hlen:ss.length+1<=100000:=by
    have h1:=Vh.length_eq;have h2:=sO.length_eq;simp at h1 h2;omega
   have ak6:=Lib.hid hx;rw [hx]at ak5 ⊢;have hlt:∀k,v.ownBlock=some k->w.heap.size+3<=k/\k<wr.heap.size:=iQ.out.own.lt;have iM:v.ownBlock=none\/v.ownBlock≠some (w.heap.size+2):=by
    cases ak7:v.ownBlock with
    |none=>exact .inl rfl
    |some k=>right;intro e;cases e;have:=(hlt _ ak7).1;omega
   have ak8:=iQ.out.own.kept Hi iM;have DE:eM w2 (w.heap.size+1) 93 #[v]:=(Hi.block _ (by have:=iQ.out.sz;omega) τ).trans iQ.out.b4;have ak9:=Lib.hid (show w2.heap[w.heap.size+1]? =_ from DE);have qJ:=DE.cell 0;have auJ:=DE.frozen 0;have Vi:=Lib.hid Vg;have Nr:=Lib.hid Hi;have Vj:=Lib.hid sO;have Ns:=Lib.hid hs2;clear sO Vh hmem Vg Hi hs2 hx iM
   gi_wp2_with (first
    |(gi_at_builtin;refine wpListIn_append_own _ rfl _ _ 93 rfl (w.heap.size+3) 3 i0 (.int .i64 0) 1 8 Tryz.underlying93 tJ Np Nq Vd rfl δ _ _ _ rfl (ak8.alloc _) ⟨w2.heap.size,0,none⟩ 1 1 [.int .i64 x] rfl rfl (cell_one_new _ _ _) ?hone ?c3 ?c4 ?c5 ?_)
    |gi_in)
   case hone=>intro u hu;simp at hu;subst hu;rfl
   case c3=>unfold maxLen;omega
   case c4=>omega
   case c5=>have:=iQ.out.sz;have:=Ns.out;simp;omega
   intro v5 yR Nt Nu ala;obtain⟨Hj,c5,rfl⟩:=akW Nt;have hs2:=Ns.out;have auK:=iQ.out.sz;have hlo:∀k,k<w.heap.size+3->some k≠v.ownBlock:=fun k hk e=>by have:=(hlt _ e.symm).1;omega
   have up:∀k,k<w.heap.size+3->yR.heap[k]? =w2.heap[k]? :=fun k hk=>(Nu.block k (by simp;omega) (hlo k hk)).trans (heap_alloc_old _ _ ω)
   have Hl:eM yR (w.heap.size+1) 93 #[v]:=(up _ ω).trans DE;have vT:=Hl.cell 0;have auL:=Hl.frozen 0;have Nv:=Lib.hid up;have alb:=Lib.hid Hl;have alc:=Lib.hid Nt;have Nw:=Lib.hid Nu;clear up Hl Nt Nu ala hlo hs2;have gB:∀k,k≠w.heap.size+1->(yR.setCell ⟨w.heap.size+1,0,none⟩ (.slice Hj (ss.length+1) c5)).heap[k]? =yR.heap[k]? :=fun k hk=>Below.heap_setCell _ _ _ k hk
   have ald:=Lib.hid gB;have Vk:=Lib.hid (show oD (yR.setCell ⟨w.heap.size+1,0,none⟩ (.slice Hj (ss.length+1) c5)) b (w.heap.size+2) es clock sN from Vi.out.kept
    (by rw [gB _ (fun e=>by have:=Vi.out.m;rw [e,ak9.out]at this;cases this),Nv.out _ ω])
    (by rw [gB _ ω,Nv.out _ ω]))
   clear gB
   gi_wp2
   go_roundw
   case rel=>
    have gB:=ald.out;have e1:gT ss++[Value.int .i64 x]=gT (ss++[x]):=by simp [gT]
    have h5:=alc.out;have ale:∀k,(Value.slice Hj (ss.length+1) c5).ownBlock=some k->w.heap.size+3<=k/\k<yR.heap.size:=h5.lt;refine⟨.slice Hj (ss.length+1) c5,ss++[x],sN,Vk.out, ?_, ?_, ?_, ?_, ?_, ?_⟩
    .have hp2:=Vj.out.map (·.key);rw [List.map_cons,ak6.out]at hp2;have:=(List.Perm.append_left (gT ss) hp2).symm.trans iQ.out.pm;rw [<-e1,rB];exact this
    .rw [gB _ ω,Nv.out _ ω,Nr.out.block _ ω τ];exact iQ.out.b3
    .exact alb.out.set 0 _
    .have e2:(ss++[x]).length=ss.length+1:=by simp
     rw [e2,<-e1];exact LO h5 fun k hk=>gB k (by have:=(ale k hk.symm).1;omega)
    .have s1:=Nw.out.size;have s2:=Nr.out.size;refine(((iQ.out.gr.andThen Nr.out fun j hj=>by cases hj;exact .inl ω).andThen (World.grownBy_alloc _ _ none) fun j hj=>by cases hj).andThen Nw.out fun j hj=> .inl (by have:=(hlt j hj).1;omega)).andThen (grownBy_setCell' yR (w.heap.size+1) _) fun j hj=>by cases hj;exact .inl ω
    .have s1:=Nw.out.size;have s2:=Ns.out;simp at s1;simp [World.setCell];omega
   case measure=>
    rw [Vk.out.left,Ve.left];have:=Vj.out.length_eq;simp at this;omega
section
variable {P:Program} {B:Nat} {ρ eP:Env} {H H0:ai} {w w0 W:World}
def Id (hH:bh P B ρ H w) (hg:w.grownBy W none):bh P B ρ H W/\bS ρ H w ρ H W:=by
 have old:∀b o,w.heap[b]? =some o->W.heap[b]? =some o:=fun b o h=>(hg.block b (dz.1 h).1 τ).trans h
 refine⟨⟨fun i k hi=> ?_,hH.inj,hH.lt,c6 hH.base hg.size,fun b A hb=> ?_⟩,⟨cA.refl _,fun _ _=>rfl,aJ _,hg.size,hg.os,hg.tape,hg.output,fun b hb _=>hg.block b hb τ,fun _ _ h=>h,fun _ _ h=>h,fun _ _ h=> .inl h⟩⟩
 .obtain⟨b,c,o,e1,e2,e3,bV⟩:=hH.blk i k hi;exact⟨b,c,o,e1,old b o e2,e3,bV⟩
 .obtain⟨⟨e,fr,h1⟩,h2⟩:=hH.fz b A hb;exact⟨⟨e,fr,old b _ h1⟩,h2⟩
def Nx (hH:bh P B ρ H W) (hs:bS eP H0 w0 ρ H W) (hB:B<=w0.heap.size) {b c:Nat} {k:bq} {o:Obj} (hb0:w0.heap.size<=b) (hni:¬oZ ρ H b) (hfz:∀A,ρ.fz b=some A->False) (hn:ρ H.next=none) (hn0:H0.next<=H.next) (hb:W.heap[b]? =some o) (hk:gK P (ρ.put H.next b c) H.next k o):
  bh P B (ρ.put H.next b c) (H.new k) W/\bS eP H0 w0 (ρ.put H.next b c) (H.new k) W:=by
 have hle:cA ρ (ρ.put H.next b c):=Env.o5 hn;have hput:∀i,i≠H.next->ρ.put H.next b c i=ρ i:=fun i hi=>by simp [Env.put,hi]
 have hne:∀i k,H.get i=some k->i≠H.next:=fun i k hi=>Nat.ne_of_lt (hH.lt i k hi)
 refine⟨⟨fun i k' hi=> ?_,fun i j eG eW b' ci cl hi hj js fD=> ?_,fun i k' hi=> ?_,hH.base,fun b' A hb'=>⟨(hH.fz b' A hb').1,fun i k' c' hi hr=> ?_⟩⟩,
  ⟨hs.le.trans hle,fun i hi=> ?_,Nat.le_succ_of_le hs.next,hs.size,hs.os,hs.tape,hs.output,hs.frame,fun b' hl ho=> ?_,fun b' hl ho=> ?_,hs.mX⟩⟩
 .rw [ai.gA]at hi;split at hi
  .rename_i e;subst e;cases hi;exact⟨b,c,o,Env.dn ..,hb,hk,fun _=>c6 hB hb0⟩
  .obtain⟨b',c',o',e1,e2,e3,bV⟩:=hH.blk i k' hi;exact⟨b',c',o',hle _ _ e1,e2,e3.mono hle,bV⟩
 .rw [ai.gA]at hi hj;split at hi<;>split at hj
  .rename_i e1 e2;rw [<-e1,<-e2]
  .rename_i e1 e2;subst e1;rw [Env.dn]at js;rw [hput j (fun x=>e2 x.symm)]at fD;cases js;exact(hni ⟨j,eW,cl,hj,fD⟩).elim
  .rename_i e1 e2;subst e2;rw [Env.dn]at fD;rw [hput i (fun x=>e1 x.symm)]at js;cases fD;exact(hni ⟨i,eG,ci,hi,js⟩).elim
  .rename_i e1 e2;rw [hput i (fun x=>e1 x.symm)]at js;rw [hput j (fun x=>e2 x.symm)]at fD;exact hH.inj i j eG eW b' ci cl hi hj js fD
 .rw [ai.gA]at hi;rw [ai.Jj];split at hi
  .rename_i e;omega
  .have:=hH.lt i k' hi;omega
 .rw [ai.gA]at hi;split at hi
  .rename_i e;subst e;rw [Env.dn]at hr;cases hr;exact(hfz A hb').elim
  .rename_i e;rw [hput i (fun x=>e x.symm)]at hr;exact(hH.fz b' A hb').2 i k' c' hi hr
 .rw [ai.Jj]at hi;rw [hput i ω];exact hs.ext i ω
 .obtain⟨i,k',c',h1,h2,h3⟩:=ho;rw [ai.gA]at h1;split at h1
  .rename_i e;subst e;rw [Env.dn]at h3;cases h3;omega
  .rename_i e;rw [hput i (fun x=>e x.symm)]at h3;exact hs.own b' hl ⟨i,k',c',h1,h2,h3⟩
 .obtain⟨i,k',c',h1,h3⟩:=ho;rw [ai.gA]at h1;split at h1
  .rename_i e;subst e;rw [Env.dn]at h3;cases h3;omega
  .rename_i e;rw [hput i (fun x=>e x.symm)]at h3;exact hs.l6 b' hl ⟨i,k',c',h1,h3⟩
end
noncomputable section
def Ny (e:MapEntry):Option Int:=match e.key with | .int .i64 n=>some n|_=>none
def Be:List MapEntry->Option (List Int)
 |[]=>some []
 |e::l=>match Ny e,Be l with |some n,some r=>some (n::r)|_,_=>none
def Bf:List Nat->Bool
 |[]=>true
 |a::l=>cond (kM a l) false (Bf l)
def rm (clock:Nat):List MapEntry->Bool
 |[]=>true
 |e::l=>cond (Nat.ble (e.born+1) clock) (rm clock l) false
def yS (x:Int):List Int->List Int
 |[]=>[x]
 |y::l=>cond (decide (x<=y)) (x::y::l) (y::yS x l)
def nC:List Int->List Int
 |[]=>[]
 |x::l=>yS x (nC l)
def Ho (args:List af) (i:Nat):au af:=[5,10,11,12,13,14,15,16,17,18,19,20,21].foldl (fun T t=>T.set t (some .bot)) (((dt args .nil 0).set 3 (some (.ptr i 0))).set 4 (some (.ptr (Nat.succ (Nat.succ i)) 0)))
def Vl (yi:Nat) (ks:List Int) (H:ai):ai:=
 ((H.new (.cells 148 [.yield yi] true false false)).new (.cells 3 (ks.map fun n=> .raw (.int .i64 n)) false false false)).new (.cells 93 [.slice (Nat.succ H.next) 0 ks.length .any] true false false)
def Nz (P:Program) (fn:Func) (r:R):aM:= @R.rec (fun _=>aM) .no (fun T H m=>kg P fn T H m) (fun _ _ _ _=> .no) (fun _ _ _ _=> .no) (fun T H m=>kg P fn T H m) r
section
variable (ih:dX) (args:List af)
def Vm (yi:Nat) (ks:List Int) (H:ai):aM:=
 Nz prog f157 (ih (cat Va [1,1,1,1]) 48 none (Ho args H.next) (Vl yi ks H) [])
def Vn (yi:Nat) (H:ai) (b:Option bq):aM:=match b with
 |some (.map es clock)=>match Be es.toList with
  |some ks=>cond (Nat.ble 1 ks.length&&(Nat.ble ks.length 100000&&(rm clock es.toList&&Bf (es.toList.map (·.born))))) (Vm ih args yi (nC ks) H) .no
  |none=> .no
 |_=> .no
def DF (H:ai):aM:=match args with
 |[.yield yi, .ptr oE 0, .ptr jp 0]=>match H.get oE with
  |some (.cells _ [.map lm] _ _ _)=>Vn ih [.yield yi, .ptr oE 0, .ptr jp 0] yi H (H.get lm)
  |_=> .no
 |_=> .no
end
def yT (ih:dX):ew:=fun f args H=> @Bool.rec (fun _=>aM) (mi prog ih f args H) (DF ih args H) (Nat.beq f 157)
def Vo:∀{l:List MapEntry} {ks:List Int},Be l=some ks->l.map (·.key)=gT ks
 |[],ks,h=>by cases h;rfl
 |e::l,ks,h=>by
  unfold Be at h;cases h1:Ny e with
  |none=>rw [h1]at h;cases h
  |some n=>
   cases h2:Be l with
   |none=>rw [h1,h2]at h;cases h
   |some r=>
    rw [h1,h2]at h;cases h;have he:e.key= .int .i64 n:=by
     unfold Ny at h1;split at h1
     .rename_i x hx;cases h1;exact hx
     .cases h1
    show e.key::l.map (·.key)=_;rw [he,Vo h2];rfl
def Vp {a:Nat}:∀{l:List Nat},kM a l=false->a∉l
 |[],_=>by simp
 |b::l,h=>by
  have h:(@Bool.rec (fun _=>Bool) (kM a l) true (Nat.beq b a))=false:=h;cases hb:Nat.beq b a with
  |true=>rw [hb]at h;cases h
  |false=>
   rw [hb]at h;rw [ek];rintro(rfl |hm)
   .rw [Nat.beq_refl]at hb;cases hb
   .exact Vp h hm
def Vq:∀{l:List Nat},Bf l=true->l.Nodup
 |[],_=>List.nodup_nil
 |a::l,h=>by
  unfold Bf at h;cases hm:kM a l with
  |true=>rw [hm]at h;cases h
  |false=>rw [hm]at h;exact List.nodup_cons.2 ⟨Vp hm,Vq h⟩
def xa {clock:Nat}:∀{l:List MapEntry},rm clock l=true->∀x∈l,x.born<clock
 |[],_,x,hx=>by cases hx
 |e::l,h,x,hx=>by
  unfold rm at h;cases hb:Nat.ble (e.born+1) clock with
  |false=>rw [hb]at h;cases h
  |true=>
   rw [hb]at h;rcases ek.1 hx with rfl |hx
   .exact bU hb
   .exact xa h x hx
def rn (x:Int):∀l:List Int,(yS x l).Perm (x::l)
 |[]=>List.Perm.refl _
 |y::l=>by
  unfold yS;cases hd:decide (x<=y)with
  |true=>exact List.Perm.refl _
  |false=>exact((rn x l).cons y).trans (List.Perm.swap _ _ _)
def NA:∀l:List Int,(nC l).Perm l
 |[]=>List.Perm.refl _
 |x::l=>(rn x (nC l)).trans ((NA l).cons x)
def Vr (x:Int):∀{l:List Int},l.Pairwise (fun a b=>decide (a<=b)=true)->(yS x l).Pairwise (fun a b=>decide (a<=b)=true)
 |[],_=>by unfold yS;simp
 |y::l,h=>by
  unfold yS;rw [List.pairwise_cons]at h;cases hd:decide (x<=y)with
  |true=>
   refine List.pairwise_cons.2 ⟨fun z hz=> ?_,List.pairwise_cons.2 h⟩;rcases ek.1 hz with rfl |hz
   .exact hd
   .have:=h.1 z hz;rw [bA]at*;omega
  |false=>
   refine List.pairwise_cons.2 ⟨fun z hz=> ?_,Vr x h.2⟩;rcases ek.1 ((rn x l).mem_iff.1 hz)with rfl |hz
   .rw [decide_eq_false_iff_not]at hd;rw [bA];omega
   .exact h.1 z hz
def pu:∀l:List Int,(nC l).Pairwise (fun a b=>decide (a<=b)=true)
 |[]=>List.Pairwise.nil
 |x::l=>Vr x (pu l)
def alf (l:List Int):(l.mergeSort fun x y=>decide (x<=y))=nC l:=by
 have Hh:∀x y z:Int,decide (x<=y)=true->decide (y<=z)=true->decide (x<=z)=true:=fun x y z h1 h2=>by rw [bA]at*;omega
 have tt:∀x y:Int,(decide (x<=y)||decide (y<=x))=true:=fun x y=>by rw [Bool.or_eq_true,bA,bA];omega
 refine List.Perm.eq_of_pairwise (le:=fun x y=>decide (x<=y)=true) (fun x y _ _ h1 h2=>by rw [bA]at*;omega) (List.pairwise_mergeSort Hh tt l) (pu l) ?_;exact(List.mergeSort_perm l _).trans (NA l).symm
def pv {P:Program} {fn:Func} {r:R} {v:af} {H':ai} (h:Nz P fn r= .ok v H'):∃e T1 H1 m1,r.out=some (e,T1,H1,m1)/\(e= .normal\/e= .ret)/\kg P fn T1 H1 m1= .ok v H':=by
 unfold Nz at h;cases r with
 |no=>cases h
 |normal T H m=>exact⟨_,_,_,_,rfl, .inl rfl,h⟩
 |exit _ _ _ _=>cases h
 |goto _ _ _ _=>cases h
 |ret T H m=>exact⟨_,_,_,_,rfl, .inr rfl,h⟩
def Vs {ih:dX} {args:List af} {H:ai} {v:af} {H':ai} (h:DF ih args H= .ok v H'):∃yi oE jp lm es clock ks el ex fz ro,args=[.yield yi, .ptr oE 0, .ptr jp 0]/\H.get oE=some (.cells el [.map lm] ex fz ro)/\H.get lm=some (.map es clock)/\Be es.toList=some ks/\
  1<=ks.length/\ks.length<=100000/\rm clock es.toList=true/\Bf (es.toList.map (·.born))=true/\Vm ih args yi (nC ks) H= .ok v H':=by
 unfold DF at h;split at h
 .rename_i yi oE jp;split at h
  .rename_i el lm ex fz ro hg;unfold Vn at h;split at h
   .rename_i es clock hm;split at h
    .rename_i ks hk;cases hb:(Nat.ble 1 ks.length&&(Nat.ble ks.length 100000&&(rm clock es.toList&&Bf (es.toList.map (·.born)))))with
     |false=>rw [hb]at h;cases h
     |true=>
      rw [hb]at h;simp only [ae]at hb;exact⟨yi,oE,jp,lm,es,clock,ks,el,ex,fz,ro,rfl,hg,hm,hk,bU hb.1,bU hb.2.1,hb.2.2.1,hb.2.2.2,h⟩
    .cases h
   .cases h
  .cases h
 .cases h
end
section
variable [Sv.Ground]
def BT {ih:dX} (hI:jH prog ih) {args:List af} {H:ai} {v:af} {H':ai} (h:DF ih args H= .ok v H'):H.next+3<=H'.next:=by
 obtain⟨yi,oE,jp,lm,es,clock,ks,el,ex,fz,ro,rfl,h1,h2,h3,h4,h5,h6,h7,h8⟩:=Vs h;obtain⟨e,T1,H1,m1,ho,he,hl⟩:=pv h8;have a1:=hI.mono _ _ _ _ _ _ _ _ _ _ ho;have a2:=zV hl;have a3:(Vl yi (nC ks) H).next=H.next+3:=rfl;omega
def alg {ρ:Env} {yi oE jp i:Nat} {a':Act} (hs:a'.tmps.size=48) (h0:Den ρ (.yield yi) (a'.tmps.getD 0 undef)) (h1:Den ρ (.ptr oE 0) (a'.tmps.getD 1 undef)) (h2:Den ρ (.ptr jp 0) (a'.tmps.getD 2 undef)) (h3:Den ρ (.ptr i 0) (a'.tmps.getD 3 undef)) (h4:Den ρ (.ptr (i+2) 0) (a'.tmps.getD 4 undef))
  (hu:∀t,t<48->t∉[0,1,2,3,4,5,10,11,12,13,14,15,16,17,18,19,20,21]->a'.tmps.getD t undef=undef):jS ρ (Ho [.yield yi, .ptr oE 0, .ptr jp 0] i) 48 a'.tmps:=by
 refine⟨hs,fun t=> ?_⟩;unfold Ho;simp only [List.foldl_cons,List.foldl_nil,au.fY,JQ,au.get_nil,List.length_cons,List.length_nil,Nat.zero_le,true_and,aw,Nat.reduceAdd,Nat.sub_zero];by_cases hb:t∈[5,10,11,12,13,14,15,16,17,18,19,20,21]
 .simp only [ek,jO,or_false]at hb;rcases hb with rfl |rfl |rfl |rfl |rfl |rfl |rfl |rfl |rfl |rfl |rfl |rfl |rfl<;>exact .bot _
 .simp only [ek,jO,or_false,not_or]at hb;obtain⟨b1,b2,b3,b4,gu,F3,yl,alh,ali,alj,alk,alm,aln⟩:=hb;rw [if_neg (Ne.symm aln),if_neg (Ne.symm alm),if_neg (Ne.symm alk),if_neg (Ne.symm alj),if_neg (Ne.symm ali),if_neg (Ne.symm alh),if_neg (Ne.symm yl),if_neg (Ne.symm F3),if_neg (Ne.symm gu),if_neg (Ne.symm b4),if_neg (Ne.symm b3),if_neg (Ne.symm b2),if_neg (Ne.symm b1)];by_cases bV:t=4
  .subst bV;exact h4
  .rw [if_neg (Ne.symm bV)];by_cases e3:t=3
   .subst e3;exact h3
   .rw [if_neg (Ne.symm e3)];by_cases hlt:t<3
    .rw [if_pos hlt];rcases t with _|_|_|t
     .exact h0
     .exact h1
     .exact h2
     .omega
    .rw [if_neg hlt];by_cases h48:t<48
     .rw [hu t h48 (by simp;omega)];exact .raw _
     .rw [Array.getD_eq_getD_getElem?,Array.getElem?_eq_none ω];exact .raw _
def NB {ρ:Env} {H:ai} {b b' c:Nat} {k:bq} (h:¬oZ ρ H b') (hne:b'≠b):¬oZ (ρ.put H.next b c) (H.new k) b':=fun⟨i,k',c',e1,e2⟩=>by
 rw [ai.gA]at e1;split at e1
 .rename_i hi;rw [<-hi,Env.dn]at e2;cases e2;exact hne rfl
 .rename_i hi;have:ρ.put H.next b c i=ρ i:=by simp [Env.put,Ne.symm hi]
  rw [this]at e2;exact h ⟨i,k',c',e1,e2⟩
def pw {ρ:Env} {i j b c:Nat} (h:j≠i):ρ.put i b c j=ρ j:=by simp [Env.put,h]
def T0 {cap:Nat}:cap*1=cap*prog.cellsOf 3:=by rw [show prog.cellsOf 3=1 by kernel_rfl]
def If {ρ:Env} (l:List Int):aH ρ (l.map fun n=>af.raw (.int .i64 n)) (gT l):=by
 unfold gT;induction l with
 |nil=>exact .nil
 |cons x l ih=>exact .cons (.raw _) ih
def Pi {ih:dX} (hI:jH prog ih) {args:List af} {H:ai} {v:af} {H':ai} (h:DF ih args H= .ok v H') (B:Nat) (ρ:Env) (xs:List Value) (w:World) (m:Nat) (hH:bh prog B ρ H w) (ct:nZ ρ) (hd:aH ρ args xs) (hf:Fr ρ H.next H'.next):
  CallsIn (dO none) m prog 157 xs.toArray w (mm prog B ρ H w v H'):=by
 have hmono:=BT hI h;obtain⟨yi,oE,jp,lm,es,clock,ks,el,ex,fz,ro,rfl,h1,h2,h3,h4,h5,h6,h7,h8⟩:=Vs h;obtain⟨e,T1,H1,m1,ho,he,hl⟩:=pv h8;have hnx:=zV hl
 match xs,hd with
 |[x0,x1,x2], .cons d0 (.cons d1 (.cons d2 .nil))=>
  obtain⟨yQ,c0,ef,rfl⟩:=d0.Jh;obtain⟨uF,c1,r1,rfl⟩:=d1.kH;obtain⟨nB,c2,r2,rfl⟩:=d2.kH;obtain⟨ys,auM,g1,_,g3,_,_,g6⟩:=l9 hH h1 r1;obtain⟨y,hy1,hy2⟩:=g3.get (i:=0) rfl;obtain⟨b,cb,rb,rfl⟩:=hy2.vk;have hcell:w.cell? ⟨uF,0,none⟩=some (.map (some b)):=by
   have e1:(ys.toList.take 1)[0]? =some (Value.map (some b)):=hy1;rw [List.getElem?_take,if_pos δ,Array.getElem?_toList]at e1;rw [cell_of_row _ _ 0 ys _ _ g1];exact e1
  obtain⟨o,q1,aQ,_⟩:=hH.at h2 rb;have aQ:o= .map es clock:=aQ;subst aQ;refine akY m yQ uF nB b es clock ks w _ hcell q1 (xa h6) (Vq h7) (Vo h3) h5 fun a' W q9=> ?_
  obtain⟨auN,k1,k2⟩:=q9.b4;rw [alf]at k2;have hlen:(nC ks).length=ks.length:=(NA ks).length_eq;rcases k2.2 with⟨_,dG⟩|⟨g,cap,cur,rfl,dG,mg,o7,xD,Fy,alo⟩
  .omega
  .have alp:cur.toList.take (nC ks).length=gT (nC ks):=by rw [hlen];simpa using alo
   have hn0:∀i,H.next<=i->i<H.next+3->ρ i=none:=fun i a1 a2=>hf i a1 ω
   have hBw:=hH.base;have NC:∀b' A,w.heap.size<=b'->ρ.fz b'=some A->False:=fun b' A hb' hz=>by
    obtain⟨⟨e',fr,e2⟩,_⟩:=hH.fz b' A hz;have:=(dz.1 e2).1;omega
   have ND:∀b',w.heap.size<=b'->¬oZ ρ H b':=fun b' hb' ⟨i,k,c,e1,e2⟩=>by
    obtain⟨o,e3,_⟩:=hH.at e1 e2;have:=(dz.1 e3).1;omega
   obtain⟨p1,p2⟩:=Id hH q9.gr
   -- the box of yield
   obtain⟨s1,t1⟩:=Nx (b:=w.heap.size) (c:=0) (k:= .cells 148 [.yield yi] true false false) p1 p2 hBw (aJ _) (ND _ (aJ _)) (fun A=>NC _ A (aJ _)) (hn0 _ (aJ _) ω) (aJ _) q9.b3
    ⟨_,_,rfl,fun _=>rfl, .cons ((Den.yield ef).mono (Env.o5 (hn0 _ (aJ _) ω))) .nil,fun _=>rfl,fun hh=>by cases hh⟩
   have n1:=NB (b':=g) (b:=w.heap.size) (c:=0) (k:= .cells 148 [.yield yi] true false false) (ND g ω) ω;have alq:=NB (b':=w.heap.size+1) (b:=w.heap.size) (c:=0) (k:= .cells 148 [.yield yi] true false false) (ND _ ω) ω
   -- the row
   have f1:(ρ.put H.next w.heap.size 0) (H.next+1)=none:=by rw [pw ω];exact hn0 _ ω ω
   obtain⟨s2,t2⟩:=Nx (b:=g) (c:=cap) (k:= .cells 3 ((nC ks).map fun n=> .raw (.int .i64 n)) false false false) s1 t1 hBw ω n1 (fun A=>NC _ A ω) f1 (Nat.le_succ _) mg
    ⟨cur,_,rfl,fun _=>rfl,by rw [zk,alp];exact If _,(fun hh=>by cases hh),fun _=>⟨g,cap,Env.dn ..,by rw [Fy];exact T0⟩⟩
   have n2:=NB (b':=w.heap.size+1) (b:=g) (c:=cap) (k:= .cells 3 ((nC ks).map fun n=> .raw (.int .i64 n)) false false false) alq ω
   -- the cell of kinds
   have f2:((ρ.put H.next w.heap.size 0).put (H.next+1) g cap) (H.next+2)=none:=by rw [pw ω,pw ω];exact hn0 _ ω ω
   have rg:((ρ.put H.next w.heap.size 0).put (H.next+1) g cap) (H.next+1)=some (g,cap):=Env.dn ..;obtain⟨s3,t3⟩:=Nx (b:=w.heap.size+1) (c:=0) (k:= .cells 93 [.slice (Nat.succ H.next) 0 (nC ks).length .any] true false false) s2 t2 hBw ω n2 (fun A=>NC _ A ω) f2 (by show H.next<=H.next+2;omega) k1
    ⟨_,_,rfl,fun _=>rfl, .cons (by rw [hlen];exact(Den.slice (cap:= .any) rg trivial o7).mono (Env.o5 f2)) .nil,fun _=>rfl,fun hh=>by cases hh⟩
   have hfr:=(t3.fr (H':=H1) (by rw [hnx];exact hf));have hT:jS (((ρ.put H.next w.heap.size 0).put (H.next+1) g cap).put (H.next+2) (w.heap.size+1) 0) (Ho [.yield yi, .ptr oE 0, .ptr jp 0] H.next) 48 a'.tmps:=by
    refine alg q9.size ?_ ?_ ?_ ?_ ?_ q9.un
    .rw [q9.t0];exact(Den.yield ef).mono t3.le
    .rw [q9.t1];exact(Den.ptr r1).mono t3.le
    .rw [q9.t2];exact(Den.ptr r2).mono t3.le
    .rw [q9.t3];exact .ptr (c:=0) (by rw [pw ω,pw ω];exact Env.dn ..)
    .rw [q9.t4];exact .ptr (c:=0) (Env.dn ..)
   refine hI.cw _ _ _ _ _ _ _ _ _ _ ho B _ a' W none m _ trivial ⟨hT,s3,ct.mono t3.le⟩ q9.df hfr fun ρ' a2 w2 dx z2 z3=> ?_
   have:LeavesInM (dO none) m prog f157 a2.tmps (mm prog B ρ H w v H') a2.defers .returning w2:=xH m1 dx z3 hl fun y w3 u1 u2 u3=>⟨y,ρ',rfl,u1,u2,(t3.trans z2).trans u3⟩
   rcases he with rfl |rfl<;>exact this
def Hp {ih:dX} (hI:jH prog ih):bD prog (yT ih) where
 mono f args H v H' h:=by
  unfold yT at h;cases hb:Nat.beq f 157 with
  |false=>rw [hb]at h;exact(He hI).mono _ _ _ _ _ h
  |true=>rw [hb]at h;have:=BT hI h;omega
 cw f args H v H' h B ρ xs w m hH ct hd hf:=by
  unfold yT at h;cases hb:Nat.beq f 157 with
  |false=>rw [hb]at h;exact(He hI).cw _ _ _ _ _ h B ρ xs w m hH ct hd hf
  |true=>
   rw [hb]at h;obtain rfl:=ac hb;exact Pi hI h B ρ xs w m hH ct hd hf
end
noncomputable section
abbrev fV:av:= .pair dF dF
abbrev bO:=(Int×List Int)×(Int×List Int)
abbrev bM (a:bO):af:= .agg [iv a.1.1, .bt true aE a.1.2,iv a.2.1, .bt true aE a.2.2]
abbrev uG:fE:= .blk (.cells 85 [iv 0, .raw (.slice none 0 0),iv 0, .raw (.slice none 0 0)] true false false)
def sP (a b:aC):bH:={n:=34,sl:=[(2, .ptr 64 0),(3, .ptr 65 0),(4, .ptr 66 0)],bJ:=[(64,eR a),(65,eR b),(66,uG)],next:=67}
def Bg:=a8 [wq,yp,GY,GZ]
section
variable (a b:aC)
def alr (h1:(az b)=true) (h2:gG b<0) (h3:(az a)=true):
  dy Bg (fl yJ []) 3 34 [aB a,aB b] 3 .normal s3 (sP (eZ a) (eZ b)):=
 wy [aa h1,ah h2,aa (aF (v:=aB a)),aa h3,aa (aF (v:=aB b))] 74173132929
def als (h1:(az b)=true) (h2:¬gG b<0):
  dy Bg (fl yJ []) 3 34 [aB a,aB b] 2 .normal s3 (sP a b):=
 wy [aa h1,aK h2] 129
def alu (h1:b.2.isEmpty=true) (h2:b.1=1):
  bW Bg ((fl yJ []).drop 3) (sP a b) 63 f83 false (bM (a,b)):=
 wy [aa (aL (aL (h1))),aa (aL (h1)),cT h2] 50860097
def alv (h1:b.2.isEmpty=true) (h2:¬b.1=1) (h3:(az a&&az b)=true) (h4:(fu a (d9 a b))=true) (h5:(fu b (d9 a b))=true):
  bW Bg ((fl yJ []).drop 3) (sP a b) 47 f83 false (bM (fx a (d9 a b),fx b (d9 a b))):=
 wy [aa (aL (aL (h1))),aa (aL (h1)),yn h2,aa h3,aa (aF (v:=aB a)),aa (aF (v:=aB (d9 a b))),aa h4,aa (aF (v:=aB b)),aa h5] 2748869384372188533493825
def alw (h1:b.2.isEmpty=false) (h2:(az a&&az b)=true) (h3:(fu a (d9 a b))=true) (h4:(fu b (d9 a b))=true):
  bW Bg ((fl yJ []).drop 3) (sP a b) 32 f83 false (bM (fx a (d9 a b),fx b (d9 a b))):=
 wy [aa (aL (aL (h1))),aa (aL (h1)),aa h2,aa (aF (v:=aB a)),aa (aF (v:=aB (d9 a b))),aa h3,aa (aF (v:=aB b)),aa h4] 2441840604787520773296193
noncomputable def Bh:(Int×List Int)×(Int×List Int):=if iz b&&(b.1==1)then(a,b)else(fx a (d9 a b),fx b (d9 a b))
noncomputable def ce:(Int×List Int)×(Int×List Int):=if gG b<0 then Bh (eZ a) (eZ b)else Bh a b
end
def DG:=IN 83 [dF,dF] [fV] false (fun d=>fu d.1 d.2.1) fun d=>(ce d.1 d.2.1,())
def Vt:bD prog (bF Bg):=cM (aP yw (aP AJ (aP M5 (aP M6 dV))))
def te (a b:aC):aj (d9 a b)=(Int.gcd (aj a) (aj b):Int):=val_mk _
def Vu {n:Nat} {a b:aC} (g:aV n b=true) (hn:1<=n) (hb:aj b≠0):aV n (d9 a b)=true:=by
 have h1:=jB g hn;have h2:((Int.gcd (aj a) (aj b):Nat):Int)<=((aj b).natAbs:Int):=by
  have:Int.gcd (aj a) (aj b)<=(aj b).natAbs:=Nat.gcd_le_right _ ω;omega
 exact(jC (by rw [Int.natAbs_natCast];omega)).1
def alx {a b:aC} (h:az a=true) (g:az b=true) (hb:aj b≠0):fu a (d9 a b)=true/\fu b (d9 a b)=true:=by
 have h0:0<Int.gcd (aj a) (aj b):=Int.gcd_pos_of_ne_zero_right _ hb;have h1:aj (d9 a b)≠0:=by rw [te];omega
 have h2:az (d9 a b)=true:=Vu g δ hb;exact⟨yL.2 ⟨h,h2,h1⟩,yL.2 ⟨g,h2,h1⟩⟩
def px {a:aC}:iz a=true↔a.2=[]:=by
 unfold iz;exact List.isEmpty_iff
section
variable (a b:aC) (h:az a=true) (g:az b=true) (hb:aj b≠0)
def Vv (w:World) (F:Sv.Env):
  aW prog w F 34 ((fl yJ []).drop 3) (sP a b).T (sP a b).H (gZ prog false f83 (bM (Bh a b))):=by
 have hS:=Vt;obtain⟨q1,aQ⟩:=alx h g hb;have hab:(az a&&az b)=true:=by rw [h,g];rfl
 unfold Bh;by_cases he:b.2.isEmpty=true
 .by_cases h1:b.1=1
  .rw [if_pos (by rw [show iz b=true from he,h1];rfl)];exact b5 (s:=sP a b) hS (alu a b he h1)
  .rw [if_neg (by rw [show iz b=true from he];simpa using h1)];exact b5 (s:=sP a b) hS (alv a b he h1 hab q1 aQ)
 .rw [if_neg (by rw [show iz b=b.2.isEmpty from rfl];simp [he])];exact b5 (s:=sP a b) hS (alw a b (by simpa using he) hab q1 aQ)
def aly:Holds prog false 83 [aB a,aB b] (bM (ce a b)):=by
 have hS:=Vt;refine bL (c:=yJ) func83 rfl rfl fun w F=> ?_
 unfold ce;by_cases hs:gG b<0
 .rw [if_pos hs];refine cP hS 3 (alr a b g hs h) ?_;exact Vv _ _ (ov h δ) (ov g δ) (by rw [nu];omega) w F
 .rw [if_neg hs];refine cP hS 3 (als a b g hs) ?_;exact Vv _ _ h g hb w F
end
def pC:DG.Ok prog:=fun⟨a,b,_⟩ h=>by
 obtain⟨h1,h2,h3⟩:=yL.1 (show fu a b=true from h);exact aly a b h1 h2 h3
structure Bi (n:Nat) (q:bO) (x y:Int):Prop where
 o1:aV n q.1=true
 o2:aV n q.2=true
 pos:0<aj q.2
 low:Int.gcd (aj q.1) (aj q.2)=1
 val:aj q.1*y=x*aj q.2
section
variable {n:Nat} {a b:aC} (h:aV n a=true) (g:aV n b=true) (hn:1<=n)
def Vw (hb:0<aj b):Bi n (Bh a b) (aj a) (aj b):=by
 unfold Bh;split
 .rename_i hc;rw [ae]at hc;have hv:aj b=1:=by unfold aj;rw [if_pos (px.1 hc.1)];simpa using hc.2
  exact⟨h,g,hb,by show Int.gcd (aj a) (aj b)=1;rw [hv];exact Int.gcd_one,rfl⟩
 .have hg:0<Int.gcd (aj a) (aj b):=Int.gcd_pos_of_ne_zero_right _ ω;have Hq:=Vu (a:=a) g hn ω;have Hr:aj (d9 a b)≠0:=by rw [te];omega
  have e1:aj a=aj (d9 a b)*(aj a/(Int.gcd (aj a) (aj b):Int)):=by rw [te];exact(Int.mul_ediv_cancel' (Int.gcd_dvd_left _ _)).symm
  have e2:aj b=aj (d9 a b)*(aj b/(Int.gcd (aj a) (aj b):Int)):=by rw [te];exact(Int.mul_ediv_cancel' (Int.gcd_dvd_right _ _)).symm
  have v1:=UI h Hq hn Hr e1;have v2:=UI g Hq hn Hr e2;refine⟨M7 h Hq hn Hr,M7 g Hq hn Hr, ?_, ?_, ?_⟩
  .show 0<aj (fx b (d9 a b));rw [v2];exact Int.ediv_pos_of_pos_of_dvd hb ω (Int.gcd_dvd_right _ _)
  .show Int.gcd (aj (fx a (d9 a b))) (aj (fx b (d9 a b)))=1;rw [v1,v2];exact Int.gcd_ediv_gcd_ediv_gcd hg
  .show aj (fx a (d9 a b))*aj b=aj a*aj (fx b (d9 a b));rw [v1,v2];generalize aj a/(Int.gcd (aj a) (aj b):Int)=x at*;generalize aj b/(Int.gcd (aj a) (aj b):Int)=y at*;grind
def DH (hb:aj b≠0):Bi n (ce a b) (aj a) (aj b):=by
 unfold ce;split
 .rename_i hs;have hs:=G0.1 hs;have:=Vw (ov h hn) (ov g hn) hn (by rw [nu];omega);refine⟨this.o1,this.o2,this.pos,this.low, ?_⟩;have hv:=this.val;rw [nu,nu]at hv;rw [Int.mul_neg,Int.neg_mul]at hv;omega
 .rename_i hs;have h0:¬aj b<0:=fun hh=>hs (G0.2 hh)
  exact Vw h g hn ω
end
def va {x y u v:Int} (hy:0<y) (hv:0<v) (g1:Int.gcd x y=1) (g2:Int.gcd u v=1) (h:x*v=u*y):x=u/\y=v:=by
 have d1:y∣v:=by
  have h1:y.natAbs∣v.natAbs:=by
   refine Nat.Coprime.dvd_of_dvd_mul_left (k:=y.natAbs) (m:=x.natAbs) (n:=v.natAbs) ?_ ?_
   .show Nat.gcd _ _=1;rw [Nat.gcd_comm];exact g1
   .rw [<-Int.natAbs_mul,h,Int.natAbs_mul];exact Nat.dvd_mul_left _ _
  exact Int.natAbs_dvd_natAbs.1 h1
 have d2:v∣y:=by
  have h1:v.natAbs∣y.natAbs:=by
   refine Nat.Coprime.dvd_of_dvd_mul_left (k:=v.natAbs) (m:=u.natAbs) (n:=y.natAbs) ?_ ?_
   .show Nat.gcd _ _=1;rw [Nat.gcd_comm];exact g2
   .rw [<-Int.natAbs_mul,<-h,Int.natAbs_mul];exact Nat.dvd_mul_left _ _
  exact Int.natAbs_dvd_natAbs.1 h1
 have e:=Int.dvd_antisymm ω ω d1 d2;subst e;exact⟨Int.eq_of_mul_eq_mul_right ω h,rfl⟩
end
end Go.Proofs.YtibikmmdbdlafaaGreatDoor
