import Derived.Test.YtibikmmdbdlafaaGreatDoorZnRq
import Derived.RangeFuncNested
import Derived.Maps.OwnIn
import Derived.WalkSmall
set_option linter.defProp false
set_option linter.unusedSectionVars false
set_option linter.unusedSimpArgs false
set_option linter.unusedVariables false
set_option maxRecDepth 100000
namespace Go.Proofs.YtibikmmdbdlafaaGreatDoor
open Go.RowKit Sv Go.Proofs.Tryz
noncomputable section
def M4:=a7 [MX,G0]
def wE (p q:Int):AT:=⟨(cy 20 p 1 []++(if q>1 then 47::cy 20 q 1 []else [])).toArray⟩
section
variable (n d:Int) (h1:¬n< -4000000000000000000) (h2:¬n>4000000000000000000) (h3:¬d< -4000000000000000000) (h4:¬d>4000000000000000000) (h5:¬d<0) (h6:i6 (0-n)) (h7:(decide ((0:av.den (.int .i64))<=if 0-n>n then 0-n else n)&&decide ((0:av.den (.int .i64))<=d))=true) (h8:(bB n d)≠0) (h9:i6 (Int.tdiv n (bB n d))) (h10:i6 (Int.tdiv d (bB n d))) (h11:¬Int.tdiv n (bB n d)<0) (h12:i6 (0-Int.tdiv n (bB n d))) (dZ:(decide ((0:av.den (.int .i64))<=if 0-Int.tdiv n (bB n d)>Int.tdiv n (bB n d)then 0-Int.tdiv n (bB n d)else Int.tdiv n (bB n d))&&(decide ((if 0-Int.tdiv n (bB n d)>Int.tdiv n (bB n d)then 0-Int.tdiv n (bB n d)else Int.tdiv n (bB n d))<=(9223372036854775807:av.den (.int .i64)))&&decide (1<=(20:av.den (.int .i64)))))=true) (iH:(ByteArray.mk #[]).size+(ByteArray.mk (List.toArray (cy 20 (if 0-Int.tdiv n (bB n d)>Int.tdiv n (bB n d)then 0-Int.tdiv n (bB n d)else Int.tdiv n (bB n d)) 1 []))).size<=9223372036854775807)
def akj (ke:Int.tdiv d (bB n d)>1) (mV:(ByteArray.mk #[]++ByteArray.mk (List.toArray (cy 20 (if 0-Int.tdiv n (bB n d)>Int.tdiv n (bB n d)then 0-Int.tdiv n (bB n d)else Int.tdiv n (bB n d)) 1 []))).size+(ByteArray.mk #[47]).size<=9223372036854775807) (yA:(decide ((0:av.den (.int .i64))<=Int.tdiv d (bB n d))&&(decide (Int.tdiv d (bB n d)<=(9223372036854775807:av.den (.int .i64)))&&decide (1<=(20:av.den (.int .i64)))))=true) (yB:(ByteArray.mk #[]++ByteArray.mk (List.toArray (cy 20 (if 0-Int.tdiv n (bB n d)>Int.tdiv n (bB n d)then 0-Int.tdiv n (bB n d)else Int.tdiv n (bB n d)) 1 []))++ByteArray.mk #[47]).size+(ByteArray.mk (List.toArray (cy 20 (Int.tdiv d (bB n d)) 1 []))).size<=9223372036854775807) (h19:(ByteArray.mk #[]++ByteArray.mk (List.toArray (cy 20 (if 0-Int.tdiv n (bB n d)>Int.tdiv n (bB n d)then 0-Int.tdiv n (bB n d)else Int.tdiv n (bB n d)) 1 []))++ByteArray.mk #[47]++ByteArray.mk (List.toArray (cy 20 (Int.tdiv d (bB n d)) 1 [])))=(wE (n/(↑(Int.gcd n d):Int)) (d/(↑(Int.gcd n d):Int)))):
  aV M4 (fl M3 []) 30 (f44.ntmps) [iv n,iv d] 12507 f44 true (sv (wE (n/Int.gcd n d) (d/Int.gcd n d))):=
 wy [aa (bg (ab h1)),aF h1,aa (bg (ab h2)),aF h2,aa (bg (ab h3)),aF h3,aF h4,aF h5,yi h6,aa h7,ah h8,yi h9,yi h10,aF h11,yi h12,aa dZ,ah iH,ah ke,ah mV,aa yA,ah yB,ax h19] 31874838871619119136349477082024326987223146561
def T0 (ke:¬Int.tdiv d (bB n d)>1) (mV:(ByteArray.mk #[]++ByteArray.mk (List.toArray (cy 20 (if 0-Int.tdiv n (bB n d)>Int.tdiv n (bB n d)then 0-Int.tdiv n (bB n d)else Int.tdiv n (bB n d)) 1 [])))=(wE (n/(↑(Int.gcd n d):Int)) (d/(↑(Int.gcd n d):Int)))):
  aV M4 (fl M3 []) 30 (f44.ntmps) [iv n,iv d] 8411 f44 true (sv (wE (n/Int.gcd n d) (d/Int.gcd n d))):=
 wy [aa (bg (ab h1)),aF h1,aa (bg (ab h2)),aF h2,aa (bg (ab h3)),aF h3,aF h4,aF h5,yi h6,aa h7,ah h8,yi h9,yi h10,aF h11,yi h12,aa dZ,ah iH,aF ke,ax mV] 105000044317847363205758449615782206513217
end
def UL:bD prog (bF M4):=cN (aQ UF (aQ M0 dW))
def mw:∀(f:Nat) (n m:Int) (s:List UInt8),(cy f n m s).length<=s.length+f
 |0,_,_,s=>aK _
 |f+1,n,m,s=>by
  unfold cy;split
  .have:=mw f (n/10) m (oJ n::s);simp at this;omega
  .omega
def te (l:List UInt8):(ByteArray.mk l.toArray).size=l.length:=rfl
def akk (n d:Int) (hn:0<=n) (hn2:n<=4000000000000000000) (hd:0<d) (gH:d<=4000000000000000000):Holds prog true 44 [iv n,iv d] (sv (wE (n/Int.gcd n d) (d/Int.gcd n d))):=by
 refine bL (c:=M3) func44 rfl rfl fun w F=> ?_
 have k1:=T0 n d;have k2:=akj n d;have hm:(if(0:Int)-n>n then(0:Int)-n else n)=n:=if_neg (by omega);have hg:0<Int.gcd n d:=Int.gcd_pos_of_ne_zero_right _ (by omega);simp only [bB,hm]at k1 k2;have e1:Int.tdiv n (Int.gcd n d:Int)=n/(Int.gcd n d:Int):=Int.tdiv_eq_ediv_of_nonneg hn;have e2:Int.tdiv d (Int.gcd n d:Int)=d/(Int.gcd n d:Int):=Int.tdiv_eq_ediv_of_nonneg (by omega);simp only [e1,e2]at k1 k2;generalize auS:(Int.gcd n d:Int)=g at*;have qt:1<=g:=by omega
 have b1:0<=n/g:=Int.ediv_nonneg hn (by omega);have b2:n/g<=n:=Int.ediv_le_self _ hn;have b3:0<=d/g:=Int.ediv_nonneg (by omega) (by omega);have b4:d/g<=d:=Int.ediv_le_self _ (by omega);have hm2:(if(0:Int)-n/g>n/g then(0:Int)-n/g else n/g)=n/g:=if_neg (by omega);simp only [hm2]at k1 k2;have l1:=mw 20 (n/g) 1 [];have l2:=mw 20 (d/g) 1 [];have cT:=te (cy 20 (n/g) 1 []);have z2:=te (cy 20 (d/g) 1 []);simp only [List.length_nil,aw]at l1 l2;by_cases h1:d/g>1
 .have y1:(ByteArray.mk #[]++ByteArray.mk (cy 20 (n/g) 1 []).toArray).size=(cy 20 (n/g) 1 []).length:=by rw [uG,ja];rfl
  have y2:(ByteArray.mk #[]++ByteArray.mk (cy 20 (n/g) 1 []).toArray++ByteArray.mk #[47]).size=(cy 20 (n/g) 1 []).length+1:=by rw [uG,ja,dy,<-uG,y1];rfl
  refine aY UL 30 (k2 (by omega) (by omega) (by omega) (by omega) (by omega) (by omega) ?_ (by omega) (by omega) (by omega) (by omega) (by omega) ?_ ?_ h1 ?_ ?_ ?_ ?_)
  .rw [ae];exact⟨az hn,az (show(0:Int)<=d by omega)⟩
  .rw [ae,ae];exact⟨az b1,az (by omega),by decide⟩
  .rw [cT];show 0+_<=_;omega
  .rw [y1];show _+1<=_;omega
  .rw [ae,ae];exact⟨az b3,az (by omega),by decide⟩
  .rw [y2,z2];omega
  .apply gy;rw [ja,ja,ja];unfold wE;rw [if_pos h1];show(([]++cy 20 (n/g) 1 [])++[47])++cy 20 (d/g) 1 []=cy 20 (n/g) 1 []++47::cy 20 (d/g) 1 [];simp
 .refine aY UL 30 (k1 (by omega) (by omega) (by omega) (by omega) (by omega) (by omega) ?_ (by omega) (by omega) (by omega) (by omega) (by omega) ?_ ?_ h1 ?_)
  .rw [ae];exact⟨az hn,az (show(0:Int)<=d by omega)⟩
  .rw [ae,ae];exact⟨az b1,az (by omega),by decide⟩
  .rw [cT];show 0+_<=_;omega
  .apply gy;rw [ja];unfold wE;rw [if_neg h1,List.append_nil];rfl
def A7 {b:UInt8} {l:List UInt8}:b6 (b::l)=(decide (48<=b.toNat)&&decide (b.toNat<=57)&&b6 l):=rfl
def akl (a b:List UInt8):∀n:Int,(a++b).foldl (fun n b=>10*n+((b.toNat:Int)-48)) n=b.foldl (fun n b=>10*n+((b.toNat:Int)-48)) (a.foldl (fun n b=>10*n+((b.toNat:Int)-48)) n):=fun n=>List.foldl_append ..
def m6:∀(l:List UInt8) (n:Int),l.foldl (fun n b=>10*n+((b.toNat:Int)-48)) n=n*10^l.length+bt l
 |[],n=>by simp [bt]
 |b::r,n=>by
  have h1:=m6 r (10*n+((b.toNat:Int)-48));have h2:=m6 r (10*0+((b.toNat:Int)-48));unfold bt at*;simp only [List.foldl_cons,List.length_cons];rw [h1,h2,Int.pow_succ];grind
def M5 (b:UInt8) (r:List UInt8):bt (b::r)=((b.toNat:Int)-48)*10^r.length+bt r:=by
 have:=m6 r (10*0+((b.toNat:Int)-48));unfold bt at*;simp only [List.foldl_cons];rw [this];simp
def G1:∀(l:List UInt8),b6 l=true->bl l=l.length
 |[],_=>rfl
 |b::r,h=>by
  rw [A7]at h;simp only [ae,bE]at h;unfold bl;rw [if_neg (by omega),G1 r h.2,List.length_cons]
def po:∀(l r:List UInt8),b6 l=true->bl (l++47::r)=l.length
 |[],r,_=>by show bl (47::r)=0;unfold bl;rw [if_pos (by decide)]
 |b::l,r,h=>by
  rw [A7]at h;simp only [ae,bE]at h;rw [List.cons_append];unfold bl;rw [if_neg (by omega),po l r h.2,List.length_cons]
def lp (s:AT) (i j:Nat):aq (s.extract i j)=((aq s).take j).drop i:=by
 show(s.extract i j).data.toList=_;rw [ByteArray.data_extract,Array.toList_extract];simp [List.extract,List.drop_take]
abbrev g0 (s:List (Int×Int)) (k:Nat):Int×Int:=s.getD k (0,0)
def G2 (n d:Int):Int:=n/Int.gcd n d
def A8 (n d:Int):Int:=d/Int.gcd n d
end
end Go.Proofs.YtibikmmdbdlafaaGreatDoor
namespace Go.Proofs.YtibikmmdbdlafaaGreatDoor
open Go.RowKit
abbrev gz (l:List Int):List Value:=l.map (Value.int .i64)
def Id {w:World} {base n:Nat} {v:Value} {xs:List Int} (h:w.ownsRow base 3 1 v n (gz xs)):xs.length=n/\((v= .slice none 0 0/\n=0)\/∃g cap cur,v= .slice (some ⟨g,0,none⟩) n cap/\base<=g/\w.heap[g]? =some (.cells cur 3 (0,0))/\n<=cap/\cap<=maxLen/\cur.size=cap/\cur.toList.take n=gz xs):=by
 obtain⟨h1,h2⟩:=h;simp only [Nat.mul_one,zi]at h1 h2;exact⟨h1,h2⟩
section
variable {w:World} {g n:Nat} {cur:Array Value}
def akm {xs:List Int} (hg:w.heap[g]? =some (.cells cur 3 (0,0))) (ht:cur.toList.take n=gz xs):Sort.Holds (Value.int .i64) w g 0 xs.toArray:=fun j hj=>by
 have hj:j<xs.length:=by simpa using hj
 refine⟨?_, ?_⟩
 .rw [aw,cell_of_row w g j cur _ _ hg];have h1:(cur.toList.take n)[j]? =some (Value.int .i64 xs[j]):=by rw [ht];simp [hj]
  rw [List.getElem?_take]at h1;split at h1
  .simpa [hj]using h1
  .cases h1
 .simp [World.frozen?,hg]
def If {xs ys:List Int} (hg:w.heap[g]? =some (.cells cur 3 (0,0))) (ht:cur.toList.take n=gz xs) (hl:ys.length=xs.length) (q:Nat):
  (Sort.putRow (Value.int .i64) (Sort.ahead w q) g 0 ys.toArray).heap[g]? =some (.cells (Sort.putCells (Value.int .i64) 0 ys.toArray cur) 3 (0,0))/\(Sort.putCells (Value.int .i64) 0 ys.toArray cur).size=cur.size/\(Sort.putCells (Value.int .i64) 0 ys.toArray cur).toList.take ys.length=gz ys:=by
 refine⟨?_,by simp [Sort.putCells], ?_⟩
 .show(w.heap.modify g (Sort.onCells _))[g]? =_;rw [Array.getElem?_modify,if_pos rfl,hg];rfl
 .have hlen:ys.length<=cur.size:=by
   have h1:=congrArg List.length ht;simp at h1;omega
  apply List.ext_getElem?;intro j;rw [List.getElem?_take];by_cases hj:j<ys.length
  .rw [if_pos hj,Array.getElem?_toList];have hc:j<cur.size:=by omega
   simp [Sort.putCells,hj,hc]
  .rw [if_neg hj,List.getElem?_eq_none (by simpa using hj)]
end
def akn {w:World} {g q:Nat} {d:Array Int}:w.grownBy (Sort.putRow (Value.int .i64) (Sort.ahead w q) g 0 d) (some g):=
 ⟨rfl,rfl,rfl,Nat.le_of_eq (by simp),fun k _ hk=>by
   show(w.heap.modify g (Sort.onCells _))[k]? =_;rw [Array.getElem?_modify,if_neg (fun e=>hk (by rw [e]))]⟩
def ako (w:World) (r:Option Nat):w.grownBy w r:=⟨rfl,rfl,rfl,aK _,fun _ _ _=>rfl⟩
def akp {w w':World} {r:Option Nat} (h:w.grownBy w' r) (os:Array Obj):w.grownBy (Sort.grow w' os) r:=
 ⟨h.os,h.tape,h.output,dc h.size (by simp),fun k hk hn=>(Sort.heap_grow_old w' os (Nat.lt_of_lt_of_le hk h.size)).trans (h.block k hk hn)⟩
def akq (base n:Nat) (v:Value) (xs:List Int) (w:World) (h:w.ownsRow base 3 1 v n (gz xs)) (hl:xs.length<=1000000):
  Calls Tryz.prog 102 #[v] w fun e w'=>e= .returned (.tuple #[])/\w'.ownsRow base 3 1 v n (gz (xs.mergeSort fun x y=>decide (x<=y)))/\w.grownBy w' v.ownBlock:=by
 obtain⟨h0,h1⟩:=Id h;rcases h1 with⟨rfl,rfl⟩|⟨g,cap,cur,rfl,M6,hg,hn,hcap,hcs,ht⟩
 .obtain rfl:xs=[]:=List.length_eq_zero_iff.1 h0;exact(Tryz.slices_Sort_int_none none 0 w).mono fun e w' ⟨h1,h2⟩=>by subst h2;exact⟨h1,by simpa using h,ako _ _⟩
 .subst h0;have FM:g<w.heap.size:=(dG.1 hg).1;refine(Tryz.slices_Sort_int g 0 cap xs w (akm hg ht) FM (by omega)).mono fun e w' ⟨h1,q,os,h2⟩=> ?_
  subst h2;have M7:(xs.mergeSort fun x y=>decide (x<=y)).length=xs.length:=List.length_mergeSort _;obtain⟨p1,p2,p3⟩:=If hg ht M7 q;refine⟨h1,⟨by simp [M7], .inr ⟨g,cap,_,rfl,M6,(Sort.heap_grow_old _ os (by simpa using FM)).trans p1,hn,hcap,by rw [p2,hcs,Nat.mul_one], ?_⟩⟩,akp akn os⟩;rw [Nat.mul_one,<-M7];exact p3
end Go.Proofs.YtibikmmdbdlafaaGreatDoor
namespace Go.Proofs.YtibikmmdbdlafaaGreatDoor.Sv
open Go.RowKit
noncomputable section
abbrev ek:=Code->(n:Nat)->(aN:Option Nat)->au af->ai->List Nat->R
def UM (P:Program) (ih:ek) (args:List af) (H:ai) (fn:Func) (c:Code):aM:=
 @Bool.rec (fun _=>aM) .no (@R.rec (fun _=>aM) .no (fun T H m=>ko P fn T H m) (fun _ _ _ _=> .no) (fun _ _ _ _=> .no) (fun T H m=>ko P fn T H m)
   (ih c fn.ntmps none (fX args .nil 0) H [])) (Nat.ble args.length fn.ntmps)
def wF (P:Program) (ih:ek):eC:=fun f args H=>
 @Option.rec Func (fun _=>aM) .no (fun fn=> @Option.rec Code (fun _=>aM) .no (fun c=>UM P ih args H fn c) fn.body) (P.funcs[f]?)
def ti (ih:ek):jW:=fun i args H=>
 match H.get i with
 |some (.loop r)=>
  match r.state with
  | .ready=>cond (Nat.beq args.length r.params.size&&r.params.toList.all fun t=>Nat.ble (t+1) r.size)
    (match ih r.assign r.size (some i) (xj r.tmps (r.params.toList.zip args)) H []with
      | .normal T H []=>match H.get i with
        |some (.loop r')=>match r'.state with
         | .ready=>fa i (ih r.body r.size (some i) T (H.set i (.loop {r' with state:= .busy})) [])
         |_=> .no
        |_=> .no
      |_=> .no) .no
  |_=> .no
 |_=> .no
def gE (ih:ek) (n:Nat) (aN:Option Nat) (T:au af) (L:Nat) (m:List Nat):aM->R
 | .ok _ H3=>match H3.get L with
   |some (.loop r)=>match r.state with
    | .busy=> .no
    |_=>match r.pending with
     |none=> .normal T (H3.set L (.loop {r with state:= .exhausted})) m
     |some c=>ih c n aN T (H3.set L (.loop {r with state:= .exhausted})) m
   |_=> .no
 |_=> .no
def M8 (b:Option bq):Bool:=match b with |some (.loop _)=>true|_=>false
def Dx (cX:ek->eC) (P:Program) (ih:ek) (f:Operand) (params:Array Tmp) (assign body:Code) (n:Nat) (T:au af) (H:ai) (m:List Nat):R:=
 match mz P (cq T f) [.yield (Nat.succ H.next)] ((H.new .deferred).new (.loop {tmps:=T,size:=n,params,assign,body,state:= .ready,pending:=none}))with
 | .enter g args H2=>gE ih n none T (Nat.succ H.next) (H.next::m) (cX ih g args H2)
 |_=> .no
def pr (cX:ek->eC) (P:Program) (ih:ek) (i:Nat) (f:Operand) (params:Array Tmp) (assign body:Code) (n:Nat) (T:au af) (H:ai) (m:List Nat):R:=
 match mz P (cq T f) [.yield H.next] (H.new (.loop {tmps:=T,size:=n,params,assign,body,state:= .ready,pending:=none}))with
 | .enter g args H2=>cond (M8 (H.get i)) (gE ih n (some i) T H.next m (cX ih g args H2)) .no
 |_=> .no
abbrev ce:=Program->o6->ek->(n:Nat)->(aN:Option Nat)->au af->ai->List Nat->R
def UN:ce:=fun _ _ _ _ _ T H m=> .normal T H m
def LT (cX:ek->eC) (_id:Nat) (ops:Array Oper) (d:Bool):ce:=fun _ draw ih n _ T H m=>
 zD m (draw d (cX ih) (ti ih) ops n T H)
def akr (a b:Code) (_ _:ce):ce:=fun _ _ ih n aN T H m=> @R.rec (fun _=>R) .no (fun T H m=>ih b n aN T H m) .exit .goto .ret (ih a n aN T H m)
def aks (c:Operand) (x y:Code) (_ _:ce):ce:=fun _ _ ih n aN T H m=>
 @ni.rec (fun _=>R) .no (fun b=> @Bool.rec (fun _=>R) (ih y n aN T H m) (ih x n aN T H m) b) (gR (cq T c))
def akt (id:Nat) (b:Code) (_:ce):ce:=fun _ _ ih n aN T H m=>
 @R.rec (fun _=>R) .no .normal (fun i T H m=> @Bool.rec (fun _=>R) (.exit i T H m) (.normal T H m) (Nat.beq i id)) .goto .ret (ih b n aN T H m)
def UO (b:Code) (_:ce):ce:=fun _ _ ih n aN T H m=>iter (ih b n aN) rounds T H m
def Pi (cX:ek->eC) (f:Operand) (params:Array Tmp) (assign body:Code) (_ _:ce):ce:=fun P _ ih n aN T H m=>
 @Option.rec Nat (fun _=>R) (Dx cX P ih f params assign body n T H m) (fun i=>pr cX P ih i f params assign body n T H m) aN
def aku (id:Nat):ce:=fun _ _ _ _ _ T H m=> .exit id T H m
def akv (b:Code) (_:ce):ce:=fun _ _ ih n aN T H m=> @R.rec (fun _=>R) .no .normal .exit (fun _ _ _ _=> .no) .ret (ih b n aN T H m)
def akw (l:Nat):ce:=fun _ _ _ _ _ T H m=> .goto l T H m
def akx:ce:=fun _ _ _ _ _ T H m=> .ret T H m
def aky:ce:=fun _ _ _ _ _ _ _ _=> .no
def pu (cX:ek->eC):Code->ce:=
 @Code.rec (fun _=>ce) UN (LT cX) akr aks akt UO (Pi cX) aku akv (fun _=>UN) akw akx (fun _=>aky)
def vi (cX:ek->eC) (P:Program) (draw:o6) (fuel:Nat):ek:=
 @Nat.rec (fun _=>ek) (fun _ _ _ _ _ _=> .no) (fun _ ih c=>pu cX c P draw ih) fuel
end
variable [Ground]
def Dy (ρ:Env):Option Nat->Option Nat->Prop
 |none,none=>True
 |some i,some l=>∃c,ρ i=some (l,c)
 |_,_=>False
def Dy.mono {ρ ρ':Env} (hl:cD ρ ρ'):∀{aN rd:Option Nat},Dy ρ aN rd->Dy ρ' aN rd
 |none,none,_=>trivial
 |some _,some _,⟨c,h⟩=>⟨c,hl _ _ h⟩
 |none,some _,h=>h.elim
 |some _,none,h=>h.elim
section
variable {P:Program} {B:Nat} {ρ:Env} {n:Nat} {T:au af} {H:ai} {a:Act} {w:World}
variable {cX:ek->eC}
structure jM (P:Program) (ih:ek):Prop where
 mono:∀c n aN T H m e aO H' m',(ih c n aN T H m).out=some (e,aO,H',m')->H.next<=H'.next
 cz:∀c n aN T H m e aO H' m',(ih c n aN T H m).out=some (e,aO,H',m')->∀B ρ a w rd k (Q:Exit->Act->World->Prop),Dy ρ aN rd->eE P B ρ n T H a w->eF ρ m a.defers->Fr ρ H.next H'.next->
  (∀ρ' a' w',eE P B ρ' n aO H' a' w'->bR ρ H w ρ' H' w'->eF ρ' m' a'.defers->Q e a' w')->c.wpIn (dU rd) k P Q a w
section
variable {ih:ek}
def sf {f:FuncId} {args:List af} {v:af} {H':ai} (h:wF P ih f args H= .ok v H'):∃fn c,P.funcs[f]? =some fn/\fn.body=some c/\args.length<=fn.ntmps/\
  ∃e T1 H1 m1,(ih c fn.ntmps none (fX args .nil 0) H []).out=some (e,T1,H1,m1)/\(e= .normal\/e= .ret)/\ko P fn T1 H1 m1= .ok v H':=by
 unfold wF at h;cases hf:P.funcs[f]? with
 |none=>rw [hf]at h;cases h
 |some fn=>
  rw [hf]at h;simp only at h;cases hb:fn.body with
  |none=>rw [hb]at h;cases h
  |some c=>
   rw [hb]at h;simp only at h;unfold UM at h;cases hn:Nat.ble args.length fn.ntmps with
   |false=>rw [hn]at h;cases h
   |true=>
    rw [hn]at h;simp only at h;refine⟨fn,c,rfl,hb,bV hn, ?_⟩;cases hr:ih c fn.ntmps none (fX args .nil 0) H []with
    |no=>rw [hr]at h;cases h
    |normal T1 H1 m1=>rw [hr]at h;exact⟨_,_,_,_,rfl, .inl rfl,h⟩
    |exit _ _ _ _=>rw [hr]at h;cases h
    |goto _ _ _ _=>rw [hr]at h;cases h
    |ret T1 H1 m1=>rw [hr]at h;exact⟨_,_,_,_,rfl, .inr rfl,h⟩
def m7 (hI:jM P ih):bD P (wF P ih) where
 mono f args H v H' h:=by
  obtain⟨fn,c,_,_,_,e,T1,H1,m1,ho,_,hl⟩:=sf h;exact dc (hI.mono _ _ _ _ _ _ _ _ _ _ ho) (Nat.le_of_eq (zU hl))
 cz f args H v H' h B ρ xs w m hH cv hd hf:=by
  obtain⟨fn,c,hfn,hb,hn,e,T1,H1,m1,ho,he,hl⟩:=sf h;have hnx:=zU hl;refine callsIn_of_wp_marks hfn hb trivial ?_;refine hI.cz _ _ _ _ _ _ _ _ _ _ ho B ρ _ w none m _ trivial ⟨Ce hd hn,hH,cv⟩ rfl (by rw [hnx];exact hf) fun ρ' a' w' h1 h2 h3=> ?_
  have:LeavesInM (dU none) m P fn a'.tmps (dt P B ρ H w v H') a'.defers .returning w':=xG m1 h1 h3 hl fun y w2 r1 r2 r3=>⟨y,ρ',rfl,r1,r2,h2.trans r3⟩
  rcases he with rfl |rfl<;>exact this
def pv {i:Nat} {args:List af} {v:af} {H':ai} (h:ti ih i args H= .ok v H'):∃r,H.get i=some (.loop r)/\args.length=r.params.size/\(∀t∈r.params.toList,t<r.size)/\
  ∃T1 H1 r',(ih r.assign r.size (some i) (xj r.tmps (r.params.toList.zip args)) H []).out=some (.normal,T1,H1,[])/\H1.get i=some (.loop r')/\r'.state= .ready/\
   fa i (ih r.body r.size (some i) T1 (H1.set i (.loop {r' with state:= .busy})) [])= .ok v H':=by
 unfold ti at h;split at h
 .rename_i r hg;split at h
  .cases hb:(Nat.beq args.length r.params.size&&r.params.toList.all fun t=>Nat.ble (t+1) r.size)with
   |false=>rw [hb]at h;cases h
   |true=>
    rw [hb]at h;rw [ae]at hb;simp only [cond_true]at h;refine⟨r,hg,ac hb.1,fun t ht=>bV (List.all_eq_true.1 hb.2 t ht), ?_⟩;split at h
    .rename_i T1 H1 hr;split at h
     .rename_i r' hg';split at h
      .rename_i hs;exact⟨T1,H1,r',by rw [hr];rfl,hg',hs,h⟩
      .cases h
     .cases h
    .cases h
  .cases h
 .cases h
def vj (hI:jM P ih):lN P (ti ih) where
 mono i args H v H' h:=by
  obtain⟨r,_,_,_,T1,H1,r',h1,_,_,h2⟩:=pv h;obtain⟨e,T2,H2,m2,r1,j,k1,_,_,rfl,_⟩:=E0 h2;have a1:=hI.mono _ _ _ _ _ _ _ _ _ _ h1;have a2:=hI.mono _ _ _ _ _ _ _ _ _ _ k1;exact dc a1 a2
 cz i args H v H' h B ρ xs w b c m hH cv hr hd hf:=by
  obtain⟨r,hg,hlen,hpar,T1,H1,r',h1,qt,hst,h2⟩:=pv h;obtain⟨e,T2,H2,m2,r1,j,k1,hg2,rfl,rfl,hj⟩:=E0 h2;have a1:=hI.mono _ _ _ _ _ _ _ _ _ _ h1;have a2:=hI.mono _ _ _ _ _ _ _ _ _ _ k1;have JN:H1.next<=H2.next:=a2;obtain⟨R,hb,hR⟩:=rM hH hg hr;have hl:=hd.length;have hy:=run_yield (P:=P) (args:=xs.toArray) hb (by rw [hR.params];simp;omega);refine⟨_,_,_,_,hy,roundIn_of_wpIn trivial ?_⟩
  -- the slots of the round
  have JO:jY ρ (xj r.tmps (r.params.toList.zip args)) r.size ((R.params.zip xs.toArray).foldl (fun tmps (t,a)=>tmps.setIfInBounds t a) R.tmps):=by
   have e1:(R.params.zip xs.toArray).foldl (fun tmps (t,a)=>tmps.setIfInBounds t a) R.tmps=(r.params.toList.zip xs).foldl (fun tmps p=>tmps.setIfInBounds p.1 p.2) R.tmps:=by
    rw [<-Array.foldl_toList,hR.params];congr 1;simp
   rw [e1];have hz:∀{α:Type} (l:List Nat) (ys:List α),ys.length=l.length->(l.zip ys).map Prod.fst=l/\(l.zip ys).map Prod.snd=ys:=fun l ys hh=>⟨by rw [List.map_fst_zip];omega,by rw [List.map_snd_zip];omega⟩
   have cT:=hz r.params.toList args (by simpa using hlen);have z2:=hz r.params.toList xs (by rw [hl];simpa using hlen);exact JM _ _ (by rw [cT.1,z2.1]) (by rw [cT.2,z2.2];exact hd) (fun p hp=>hpar p.1 (List.of_mem_zip hp).1) hR.tmps
  rw [hR.assign,hR.body];refine hI.cz _ _ _ _ _ _ _ _ _ _ h1 B ρ _ w (some b) m _ ⟨c,hr⟩ ⟨JO,hH,cv⟩ rfl (fun x y z=>hf x y (Nat.lt_of_lt_of_le z JN)) fun cS Ch w1 hA hS hD=> ?_
  have hD:Ch.defers=[]:=hD;have kU:cS i=some (b,c):=hS.le _ _ hr;obtain⟨JP,kq,lQ⟩:=rM hA.H qt kU;have JQ:=run_beginRound (P:=P) kq (by rw [lQ.state,hst]);refine⟨_,JQ, ?_⟩;obtain⟨q1,aP⟩:=i7 hA.H qt kU rfl (r:={r' with state:= .busy}) (R:={JP with state:= .busy}) ⟨rfl,lQ.pending,lQ.params,lQ.assign,lQ.body,lQ.tmps⟩;refine hI.cz _ _ _ _ _ _ _ _ _ _ k1 B cS Ch _ (some b) m _ ⟨c,kU⟩ (hA.next hA.T q1 aP) hD ((hS.trans aP).fr hf) fun en abD w2 vA Ci _=> ?_
  have hr2:en i=some (b,c):=Ci.le _ _ kU;obtain⟨JR,kS,tQ⟩:=rM vA.H hg2 hr2;have JS:=run_endRound (P:=P) j kS;obtain⟨b8,ez⟩:=i7 vA.H hg2 hr2 rfl (r:={r1 with state:=if j.isNone then .ready else .done,pending:=j}) (R:={JR with state:=if j.isNone then .ready else .done,pending:=j}) ⟨rfl,rfl,tQ.params,tQ.assign,tQ.body,tQ.tmps⟩;have fin:∃v' w',(Instr.endRound b j).run P w2= .ok v' w'/\dt P B ρ H w (.raw (.bool j.isNone)) (H2.set i (.loop {r1 with state:=if j.isNone then .ready else .done,pending:=j})) (.returned v') w':=
   ⟨_,_,JS,_,en,rfl, .raw _,b8,((hS.trans aP).trans Ci).trans ez⟩
  rcases hj with⟨rfl,rfl⟩|⟨rfl,rfl⟩|⟨id,rfl,rfl⟩|⟨l,rfl,rfl⟩<;>exact fin
def G3 {aN:Option Nat} {L:Nat} {m:List Nat} {ag:aM} {e:Exit} {aO:au af} {H':ai} {m':List Nat} (h:(gE ih n aN T L m ag).out=some (e,aO,H',m')):∃v H3 r,ag= .ok v H3/\H3.get L=some (.loop r)/\r.state≠ .busy/\
  (r.pending=none/\e= .normal/\aO=T/\H'=H3.set L (.loop {r with state:= .exhausted})/\m'=m\/
    ∃c,r.pending=some c/\(ih c n aN T (H3.set L (.loop {r with state:= .exhausted})) m).out=some (e,aO,H',m')):=by
 unfold gE at h;split at h
 .rename_i v H3;split at h
  .rename_i r hg;split at h
   .cases h
   .rename_i hs;refine⟨v,H3,r,rfl,hg,fun hh=>hs hh, ?_⟩;split at h
    .rename_i hp;cases h;exact .inl ⟨hp,rfl,rfl,rfl,rfl⟩
    .rename_i c hp;exact .inr ⟨c,hp,h⟩
  .cases h
 .cases h
def pw {f:Operand} {params:Array Tmp} {assign body:Code} {m:List Nat} {e:Exit} {aO:au af} {H':ai} {m':List Nat} (h:(Dx cX P ih f params assign body n T H m).out=some (e,aO,H',m')):
  ∃g args H2,mz P (cq T f) [.yield (H.next+1)] ((H.new .deferred).new (.loop {tmps:=T,size:=n,params,assign,body,state:= .ready,pending:=none}))= .enter g args H2/\
   (gE ih n none T (H.next+1) (H.next::m) (cX ih g args H2)).out=some (e,aO,H',m'):=by
 unfold Dx at h;split at h
 .rename_i g args H2 hc;exact⟨g,args,H2,hc,h⟩
 .cases h
def px {i:Nat} {f:Operand} {params:Array Tmp} {assign body:Code} {m:List Nat} {e:Exit} {aO:au af} {H':ai} {m':List Nat} (h:(pr cX P ih i f params assign body n T H m).out=some (e,aO,H',m')):
  (∃eo,H.get i=some (.loop eo))/\∃g args H2,mz P (cq T f) [.yield H.next] (H.new (.loop {tmps:=T,size:=n,params,assign,body,state:= .ready,pending:=none}))= .enter g args H2/\
    (gE ih n (some i) T H.next m (cX ih g args H2)).out=some (e,aO,H',m'):=by
 unfold pr at h;split at h
 .rename_i g args H2 hc;cases hb:M8 (H.get i)with
  |false=>rw [hb]at h;cases h
  |true=>
   rw [hb]at h;refine⟨?_,g,args,H2,hc,h⟩;unfold M8 at hb;split at hb
   .rename_i eo qG;exact⟨eo,qG⟩
   .cases hb
 .cases h
end
section
variable (gX:∀ih,jM P ih->bD P (cX ih))
def pC {ih:ek} (hI:jM P ih) {f:Operand} {params:Array Tmp} {assign body:Code} {m:List Nat} {e:Exit} {aO:au af} {H':ai} {m':List Nat} (h:(Dx cX P ih f params assign body n T H m).out=some (e,aO,H',m')):H.next+2<=H'.next:=by
 obtain⟨g,args,H2,h1,h2⟩:=pw h;have nv:=zV h1;obtain⟨v,H3,r,h3,h4,h5,h6⟩:=G3 h2;have hc:=(gX ih hI).mono _ _ _ _ _ h3;have e2:H2.next=H.next+2:=by rw [nv];rfl
 rcases h6 with⟨_,_,_,rfl,_⟩|⟨c,_,h7⟩
 .show H.next+2<=H3.next;omega
 .have:=hI.mono _ _ _ _ _ _ _ _ _ _ h7;have e3:(H3.set (H.next+1) (bq.loop {r with state:= .exhausted})).next=H3.next:=rfl;omega
def pD {ih:ek} (hI:jM P ih) {i:Nat} {f:Operand} {params:Array Tmp} {assign body:Code} {m:List Nat} {e:Exit} {aO:au af} {H':ai} {m':List Nat} (h:(pr cX P ih i f params assign body n T H m).out=some (e,aO,H',m')):H.next+1<=H'.next:=by
 obtain⟨_,g,args,H2,h1,h2⟩:=px h;have nv:=zV h1;obtain⟨v,H3,r,h3,h4,h5,h6⟩:=G3 h2;have hc:=(gX ih hI).mono _ _ _ _ _ h3;have e2:H2.next=H.next+1:=by rw [nv];rfl
 rcases h6 with⟨_,_,_,rfl,_⟩|⟨c,_,h7⟩
 .show H.next+1<=H3.next;omega
 .have:=hI.mono _ _ _ _ _ _ _ _ _ _ h7;have e3:(H3.set H.next (bq.loop {r with state:= .exhausted})).next=H3.next:=rfl;omega
def akz (hK:ff P) {ih:ek} (hI:jM P ih) {f:Operand} {params:Array Tmp} {assign body:Code} {m:List Nat} {e:Exit} {aO:au af} {H':ai} {m':List Nat} (h:(Dx cX P ih f params assign body n T H m).out=some (e,aO,H',m'))
  (k:Nat) {Q:Exit->Act->World->Prop} (aR:eE P B ρ n T H a w) (hD:eF ρ m a.defers) (hf:Fr ρ H.next H'.next)
  (hQ:∀ρ' a' w',eE P B ρ' n aO H' a' w'->bR ρ H w ρ' H' w'->eF ρ' m' a'.defers->Q e a' w'):(Code.rangeFunc f params assign body).wpIn (dU none) k P Q a w:=by
 have hmono:=pC gX hI h;obtain⟨g,args,H2,h1,h2⟩:=pw h;have nv:=zV h1;obtain⟨v,H3,r,h3,h4,h5,h6⟩:=G3 h2;have hcm:=(gX ih hI).mono _ _ _ _ _ h3;have e2:H2.next=H.next+2:=by rw [nv];rfl
 have Cj:H3.next<=H'.next:=by
  rcases h6 with⟨_,_,_,rfl,_⟩|⟨c,_,h7⟩
  .exact aK _
  .have:=hI.mono _ _ _ _ _ _ _ _ _ _ h7;exact this
 refine wpIn_rangeFunc fun fn _=> ?_
 -- the two blocks
 have hn0:ρ H.next=none:=hf _ (aK _) (by omega);obtain⟨p1,p2⟩:=tH aR.H (fun i x y=>hf i x (by omega)) 0 .deferred (.deferred (some [])) rfl;have xH:=p2.fr hf;have nw:(H.new .deferred).next=H.next+1:=rfl;have Ck:=aR.T.mono p2.le;obtain⟨rec,iC⟩:∃rec:Loop,rec={state:= .ready,pending:=none,fn,tmps:=a.tmps,params,assign,body,defers:=w.heap.size}:=⟨_,rfl⟩;obtain⟨p3,dM⟩:=tH p1 (fun i x y=>xH i x (by rw [nw]at y;omega)) 0 (.loop {tmps:=T,size:=n,params,assign,body,state:= .ready,pending:=none}) (.loop rec) ⟨rec,rfl,by rw [iC],by rw [iC],by rw [iC],by rw [iC],by rw [iC],by
  rw [iC];exact Ck.mono (Env.o9 (xH _ (aK _) (by rw [nw];omega)))⟩
 have hle:=p2.trans dM;rw [<-nv]at p3 dM hle h1;obtain⟨en,vB⟩:∃en,en=(ρ.put H.next w.heap.size 0).put (H.new .deferred).next (w.alloc (.deferred (some []))).heap.size 0:=⟨_,rfl⟩;rw [<-vB]at p3 dM hle;have hL:en (H.next+1)=some (w.heap.size+1,0):=by rw [vB,<-nw,Env.dA];simp
 have JU:en H.next=some (w.heap.size,0):=by
  refine dM.le _ _ ?_;rw [Env.dA]
 -- the function
 have vC:=(xE aR.T aR.G f).mono hle.le;obtain⟨vD,first,captured,fZ⟩:=JT vC h1;have Cl:aI en [af.yield (H.next+1)] [.func (.yield (w.heap.size+1)) #[] #[]]:= .cons (.yield hL) .nil;have hca:=EV (P:=P) (B:=B) (w:=(w.alloc (.deferred (some []))).alloc (.loop rec)) (fv:=cq T f) hK p3 vC Cl (r:=(invoke (.fn vD captured) (first++ #[.func (.yield (w.heap.size+1)) #[] #[]])).run P ((w.alloc (.deferred (some []))).alloc (.loop rec)))
  (fun fn' first' captured' hh=>by rw [fZ]at hh;cases hh;rfl)
 rw [h1]at hca;obtain⟨_,xs,hinv,hxs⟩:=hca;refine⟨w.heap.size+1,[{target:= .collected w.heap.size,args:= #[]}],(w.alloc (.deferred (some []))).alloc (.loop rec),{target:= .fn vD captured,args:=first++ #[.func (.yield (w.heap.size+1)) #[] #[]]},(w.alloc (.deferred (some []))).alloc (.loop rec),g,xs.toArray,
  (w.alloc (.deferred (some []))).alloc (.loop rec), ?_, ?_,fun _ _=>trivial,hinv,(fun hh=>by cases hh), ?_⟩
 .rw [iC];exact run_enterLoop_outer fn a.tmps params assign body
 .have hcv:∀v,a.eval (.const v)=v:=fun _=>rfl
  simp [resolve,fZ,Deferred.ofValue,hcv]
 .refine((gX ih hI).cz g args H2 v H3 h3 B en xs _ (k-1) p3 (aR.G.mono hle.le) hxs ((hle.fr hf).mono' Cj)).mono ?_;rintro e0 w3 ⟨x,qu,rfl,_,q1,aP⟩;have vE:=aP.le _ _ hL;obtain⟨R,hb,hR⟩:=rM q1 h4 vE;have hel:=run_endLoop (P:=P) hb (by rw [hR.state];exact h5);obtain⟨b8,ez⟩:=i7 q1 h4 vE rfl (r:={r with state:= .exhausted}) (R:={R with state:= .exhausted}) ⟨rfl,hR.pending,hR.params,hR.assign,hR.body,hR.tmps⟩;have ia:=(hle.trans aP).trans ez;have nx:eF qu (H.next::m) ([{target:= .collected w.heap.size,args:= #[]}]++a.defers):=⟨w.heap.size,0,a.defers,aP.le _ _ JU,rfl,(hD.mono (hle.trans aP).le)⟩;have key:∀jump,jump=r.pending->(match jump with
    |none=>Q .normal {a with defers:=[{target:= .collected w.heap.size,args:= #[]}]++a.defers} (w3.putObj (w.heap.size+1) (.loop {R with state:= .exhausted}))
    |some c=>c.wpIn (dU none) k P Q {a with defers:=[{target:= .collected w.heap.size,args:= #[]}]++a.defers} (w3.putObj (w.heap.size+1) (.loop {R with state:= .exhausted}))):=by
   rintro jump rfl;rcases h6 with⟨k1,rfl,rfl,rfl,rfl⟩|⟨c,k1,h7⟩
   .rw [k1];exact hQ qu {a with defers:=[{target:= .collected w.heap.size,args:= #[]}]++a.defers} _ ⟨aR.T.mono ia.le,b8,aR.G.mono ia.le⟩ ia nx
   .rw [k1];refine hI.cz _ _ _ _ _ _ _ _ _ _ h7 B qu {a with defers:=[{target:= .collected w.heap.size,args:= #[]}]++a.defers} _ none k Q trivial ⟨aR.T.mono ia.le,b8,aR.G.mono ia.le⟩ nx (ia.fr hf) fun ρ' a' w' r1 r2 r3=>hQ ρ' a' w' r1 (ia.trans r2) r3
  exact⟨R.pending,_,hel,key _ hR.pending⟩
def akA (hK:ff P) {ih:ek} (hI:jM P ih) {i l₀ c₀:Nat} (UQ:ρ i=some (l₀,c₀)) {f:Operand} {params:Array Tmp} {assign body:Code} {m:List Nat} {e:Exit} {aO:au af} {H':ai} {m':List Nat} (h:(pr cX P ih i f params assign body n T H m).out=some (e,aO,H',m'))
  (k:Nat) {Q:Exit->Act->World->Prop} (aR:eE P B ρ n T H a w) (hD:eF ρ m a.defers) (hf:Fr ρ H.next H'.next)
  (hQ:∀ρ' a' w',eE P B ρ' n aO H' a' w'->bR ρ H w ρ' H' w'->eF ρ' m' a'.defers->Q e a' w'):(Code.rangeFunc f params assign body).wpIn (dU (some l₀)) k P Q a w:=by
 have hmono:=pD gX hI h;obtain⟨⟨eo,qG⟩,g,args,H2,h1,h2⟩:=px h;have nv:=zV h1;obtain⟨v,H3,r,h3,h4,h5,h6⟩:=G3 h2;have hcm:=(gX ih hI).mono _ _ _ _ _ h3;have e2:H2.next=H.next+1:=by rw [nv];rfl
 have Cj:H3.next<=H'.next:=by
  rcases h6 with⟨_,_,_,rfl,_⟩|⟨c,_,h7⟩
  .exact aK _
  .have:=hI.mono _ _ _ _ _ _ _ _ _ _ h7;exact this
 refine wpIn_rangeFunc fun fn _=> ?_
 obtain⟨R0,uz,_⟩:=rM aR.H qG UQ
 -- the block
 have hn0:ρ H.next=none:=hf _ (aK _) (by omega);obtain⟨rec,iC⟩:∃rec:Loop,rec={state:= .ready,pending:=none,fn,tmps:=a.tmps,params,assign,body,defers:=R0.defers}:=⟨_,rfl⟩;obtain⟨p3,dM⟩:=tH aR.H (fun i x y=>hf i x (by omega)) 0 (.loop {tmps:=T,size:=n,params,assign,body,state:= .ready,pending:=none}) (.loop rec) ⟨rec,rfl,by rw [iC],by rw [iC],by rw [iC],by rw [iC],by rw [iC],by
  rw [iC];exact aR.T.mono (Env.o9 hn0)⟩
 have hle:=dM;rw [<-nv]at p3 dM hle h1;obtain⟨en,vB⟩:∃en,en=ρ.put H.next w.heap.size 0:=⟨_,rfl⟩;rw [<-vB]at p3 dM hle;have hL:en H.next=some (w.heap.size,0):=by rw [vB,Env.dA]
 -- the function
 have vC:=(xE aR.T aR.G f).mono hle.le;obtain⟨vD,first,captured,fZ⟩:=JT vC h1;have Cl:aI en [af.yield H.next] [.func (.yield w.heap.size) #[] #[]]:= .cons (.yield hL) .nil;have hca:=EV (P:=P) (B:=B) (w:=w.alloc (.loop rec)) (fv:=cq T f) hK p3 vC Cl (r:=(invoke (.fn vD captured) (first++ #[.func (.yield w.heap.size) #[] #[]])).run P (w.alloc (.loop rec)))
  (fun fn' first' captured' hh=>by rw [fZ]at hh;cases hh;rfl)
 rw [h1]at hca;obtain⟨_,xs,hinv,hxs⟩:=hca;refine⟨w.heap.size,[],w.alloc (.loop rec),{target:= .fn vD captured,args:=first++ #[.func (.yield w.heap.size) #[] #[]]},w.alloc (.loop rec),g,xs.toArray,
  w.alloc (.loop rec), ?_, ?_,fun _ _=>trivial,hinv,(fun hh=>by cases hh), ?_⟩
 .rw [iC];exact run_enterLoop_inner uz fn a.tmps params assign body
 .have hcv:∀v,a.eval (.const v)=v:=fun _=>rfl
  simp [resolve,fZ,Deferred.ofValue,hcv]
 .refine((gX ih hI).cz g args H2 v H3 h3 B en xs _ (k-1) p3 (aR.G.mono hle.le) hxs ((hle.fr hf).mono' Cj)).mono ?_;rintro e0 w3 ⟨x,qu,rfl,_,q1,aP⟩;have vE:=aP.le _ _ hL;obtain⟨R,hb,hR⟩:=rM q1 h4 vE;have hel:=run_endLoop (P:=P) hb (by rw [hR.state];exact h5);obtain⟨b8,ez⟩:=i7 q1 h4 vE rfl (r:={r with state:= .exhausted}) (R:={R with state:= .exhausted}) ⟨rfl,hR.pending,hR.params,hR.assign,hR.body,hR.tmps⟩;have ia:=(hle.trans aP).trans ez;have nx:eF qu m a.defers:=hD.mono (hle.trans aP).le;have key:∀jump,jump=r.pending->(match jump with
    |none=>Q .normal a (w3.putObj w.heap.size (.loop {R with state:= .exhausted}))
    |some c=>c.wpIn (dU (some l₀)) k P Q a (w3.putObj w.heap.size (.loop {R with state:= .exhausted}))):=by
   rintro jump rfl;rcases h6 with⟨k1,rfl,rfl,rfl,rfl⟩|⟨c,k1,h7⟩
   .rw [k1];exact hQ qu a _ ⟨aR.T.mono ia.le,b8,aR.G.mono ia.le⟩ ia nx
   .rw [k1];refine hI.cz _ _ _ _ _ _ _ _ _ _ h7 B qu a _ (some l₀) k Q ⟨c₀,ia.le _ _ UQ⟩ ⟨aR.T.mono ia.le,b8,aR.G.mono ia.le⟩ nx (ia.fr hf) fun ρ' a' w' r1 r2 r3=>hQ ρ' a' w' r1 (ia.trans r2) r3
  exact⟨R.pending,_,hel,key _ hR.pending⟩
end
def M9 {ih:ek} (hI:jM P ih) {c:Code} {aN:Option Nat}:∀(j:Nat) {T:au af} {H:ai} {m:List Nat} {e:Exit} {aO:au af} {H':ai} {m':List Nat},(iter (ih c n aN) j T H m).out=some (e,aO,H',m')->H.next<=H'.next
 |0,_,_,_,_,_,_,_,h=>by cases h
 |j+1,T,H,m,e,aO,H',m',h=>by
  obtain⟨j',hj,e1,T1,H1,m1,h1,h2⟩:=E1 (j+1) h;cases hj;have a1:=hI.mono _ _ _ _ _ _ _ _ _ _ h1;rcases h2 with⟨_,h2⟩|⟨_,_,_,rfl,_⟩
  .exact dc a1 (M9 hI j h2)
  .exact a1
def UR {ih:ek} (hI:jM P ih) {c:Code} {aN:Option Nat} {rd:Option Nat} {k:Nat} {Q:Exit->Act->World->Prop}:∀(j:Nat) {ρ:Env} {T:au af} {H:ai} {m:List Nat} {a:Act} {w:World} {e:Exit} {aO:au af} {H':ai} {m':List Nat},
  (iter (ih c n aN) j T H m).out=some (e,aO,H',m')->Dy ρ aN rd->eE P B ρ n T H a w->eF ρ m a.defers->Fr ρ H.next H'.next->
  (∀ρ' a' w',eE P B ρ' n aO H' a' w'->bR ρ H w ρ' H' w'->eF ρ' m' a'.defers->Q e a' w')->Code.roundsIn (dU rd) k P c Q j a w
 |0,_,_,_,_,_,_,_,_,_,_,h,_,_,_,_,_=>by cases h
 |j+1,ρ,T,H,m,a,w,e,aO,H',m',h,hrd,aR,hD,hf,hQ=>by
  obtain⟨j',hj,e1,T1,H1,m1,h1,h2⟩:=E1 (j+1) h;cases hj;have hle:H1.next<=H'.next:=by
   rcases h2 with⟨_,h2⟩|⟨_,_,_,rfl,_⟩
   .exact M9 hI j h2
   .exact aK _
  refine hI.cz _ _ _ _ _ _ _ _ _ _ h1 B ρ a w rd k _ hrd aR hD (hf.mono' hle) fun cS a1 w1 r1 r2 r3=> ?_
  rcases h2 with⟨rfl,h2⟩|⟨hn,rfl,rfl,rfl,rfl⟩
  .exact UR hI j h2 (hrd.mono r2.le) r1 r3 (r2.fr hf) fun ρ' a' w' q1 aP b8=>hQ ρ' a' w' q1 (r2.trans aP) b8
  .exact Re hn (hQ cS a1 w1 r1 r2 r3)
def US {draw:o6} {ih:ek} {x:Code} {aN:Option Nat} {m:List Nat}:pu cX (.loop x) P draw ih n aN T H m=iter (ih x n aN) rounds T H m:=by
 unfold pu;simp only [UO]
def akB (gX:∀ih,jM P ih->bD P (cX ih)) (hK:ff P) {draw:o6} (hdr:∀d,xF P d (draw d)) {ih:ek} (hI:jM P ih):jM P (fun c=>pu cX c P draw ih) where
 mono c n aN T H m e aO H' m' h:=by
  have hC:=gX ih hI;have hR:=vj hI;cases c with
  |skip=>cases h;exact aK _
  |label l=>cases h;exact aK _
  |exit id=>cases h;exact aK _
  |goto l=>cases h;exact aK _
  |ret=>cases h;exact aK _
  |refuse why=>cases h
  |region id ops d=>
   obtain⟨h1,_,_⟩:=E2 h;exact(hdr d).mono _ _ hC hR _ _ _ _ _ _ h1
  |seq x y=>
   have h:(@R.rec (fun _=>R) .no (fun T H m=>ih y n aN T H m) .exit .goto .ret (ih x n aN T H m)).out=some (e,aO,H',m'):=h;cases hx:ih x n aN T H m with
   |no=>rw [hx]at h;cases h
   |normal T1 H1 m1=>rw [hx]at h;exact dc (hI.mono x n aN T H m _ _ _ _ (by rw [hx];rfl)) (hI.mono _ _ _ _ _ _ _ _ _ _ h)
   |exit id T1 H1 m1=>rw [hx]at h;cases h;exact hI.mono x n aN T H m _ _ _ _ (by rw [hx];rfl)
   |goto l T1 H1 m1=>rw [hx]at h;cases h;exact hI.mono x n aN T H m _ _ _ _ (by rw [hx];rfl)
   |ret T1 H1 m1=>rw [hx]at h;cases h;exact hI.mono x n aN T H m _ _ _ _ (by rw [hx];rfl)
  |cond c x y=>
   have h:(@ni.rec (fun _=>R) .no (fun b=> @Bool.rec (fun _=>R) (ih y n aN T H m) (ih x n aN T H m) b) (gR (cq T c))).out=some (e,aO,H',m'):=h;cases hb:gR (cq T c)with
   |no=>rw [hb]at h;cases h
   |mk b=>rw [hb]at h;cases b<;>exact hI.mono _ _ _ _ _ _ _ _ _ _ h
  |block id x=>
   have h:(@R.rec (fun _=>R) .no .normal (fun i T H m=> @Bool.rec (fun _=>R) (.exit i T H m) (.normal T H m) (Nat.beq i id)) .goto .ret (ih x n aN T H m)).out=some (e,aO,H',m'):=h;cases hx:ih x n aN T H m with
   |no=>rw [hx]at h;cases h
   |normal T1 H1 m1=>rw [hx]at h;cases h;exact hI.mono x n aN T H m _ _ _ _ (by rw [hx];rfl)
   |exit i T1 H1 m1=>
    rw [hx]at h;simp only at h;cases hb:Nat.beq i id with
    |true=>rw [hb]at h;cases h;exact hI.mono x n aN T H m _ _ _ _ (by rw [hx];rfl)
    |false=>rw [hb]at h;cases h;exact hI.mono x n aN T H m _ _ _ _ (by rw [hx];rfl)
   |goto l T1 H1 m1=>rw [hx]at h;cases h;exact hI.mono x n aN T H m _ _ _ _ (by rw [hx];rfl)
   |ret T1 H1 m1=>rw [hx]at h;cases h;exact hI.mono x n aN T H m _ _ _ _ (by rw [hx];rfl)
  |loop x=>rw [US]at h;exact M9 hI rounds h
  |rangeFunc f ps x y=>
   cases aN with
   |some i=>have:=pD gX hI (P:=P) h;omega
   |none=>have:=pC gX hI (P:=P) h;omega
  |scope x=>
   have h:(@R.rec (fun _=>R) .no .normal .exit (fun _ _ _ _=> .no) .ret (ih x n aN T H m)).out=some (e,aO,H',m'):=h;cases hx:ih x n aN T H m with
   |no=>rw [hx]at h;cases h
   |normal T1 H1 m1=>rw [hx]at h;cases h;exact hI.mono x n aN T H m _ _ _ _ (by rw [hx];rfl)
   |exit id T1 H1 m1=>rw [hx]at h;cases h;exact hI.mono x n aN T H m _ _ _ _ (by rw [hx];rfl)
   |goto l T1 H1 m1=>rw [hx]at h;cases h
   |ret T1 H1 m1=>rw [hx]at h;cases h;exact hI.mono x n aN T H m _ _ _ _ (by rw [hx];rfl)
 cz c n aN T H m e aO H' m' h B ρ a w rd k Q hrd aR hD hf hQ:=by
  have hC:=gX ih hI;have hR:=vj hI;have here:∀{x:Code} {e1 T1 H1 m1},(ih x n aN T H m).out=some (e1,T1,H1,m1)->H1=H'->∀Q':Exit->Act->World->Prop,(∀ρ' a' w',eE P B ρ' n T1 H1 a' w'->bR ρ H w ρ' H1 w'->eF ρ' m1 a'.defers->Q' e1 a' w')->x.wpIn (dU rd) k P Q' a w:=
   fun h1 hh Q' hq=>hI.cz _ _ _ _ _ _ _ _ _ _ h1 B ρ a w rd k Q' hrd aR hD (by rw [hh];exact hf) hq
  cases c with
  |skip=>cases h;exact wpIn_skip (hQ ρ a w aR (bR.refl _ _ _) hD)
  |label l=>cases h;exact wpIn_label (hQ ρ a w aR (bR.refl _ _ _) hD)
  |exit id=>cases h;exact wpIn_exit (hQ ρ a w aR (bR.refl _ _ _) hD)
  |goto l=>cases h;exact wpIn_goto (hQ ρ a w aR (bR.refl _ _ _) hD)
  |ret=>cases h;exact wpIn_ret (hQ ρ a w aR (bR.refl _ _ _) hD)
  |refuse why=>cases h
  |region id ops d=>
   obtain⟨h1,rfl,rfl⟩:=E2 h;have JW:∀ρ' a' w',eE P B ρ' n aO H' a' w'->bR ρ H w ρ' H' w'->a'.defers=a.defers->Q .normal a' w':=fun ρ' a' w' r1 r2 r3=>hQ ρ' a' w' r1 r2 (by rw [r3];exact hD.mono r2.le)
   exact(hdr d).cz _ _ hC hR id _ _ _ _ _ _ h1 B ρ a w rd k Q aR hf JW
  |seq x y=>
   have h:(@R.rec (fun _=>R) .no (fun T H m=>ih y n aN T H m) .exit .goto .ret (ih x n aN T H m)).out=some (e,aO,H',m'):=h;refine wpIn_seq ?_;cases hx:ih x n aN T H m with
   |no=>rw [hx]at h;cases h
   |normal T1 H1 m1=>
    rw [hx]at h;have hle:=hI.mono _ _ _ _ _ _ _ _ _ _ h;refine hI.cz x n aN T H m _ _ _ _ (by rw [hx];rfl) B ρ a w rd k _ hrd aR hD (hf.mono' hle) fun cS a1 w1 r1 r2 r3=> ?_
    exact hI.cz _ _ _ _ _ _ _ _ _ _ h B cS a1 w1 rd k Q (hrd.mono r2.le) r1 r3 (r2.fr hf) fun ρ' a' w' q1 aP b8=>hQ ρ' a' w' q1 (r2.trans aP) b8
   |exit id T1 H1 m1=>rw [hx]at h;cases h;exact here (x:=x) (by rw [hx];rfl) rfl _ hQ
   |goto l T1 H1 m1=>rw [hx]at h;cases h;exact here (x:=x) (by rw [hx];rfl) rfl _ hQ
   |ret T1 H1 m1=>rw [hx]at h;cases h;exact here (x:=x) (by rw [hx];rfl) rfl _ hQ
  |cond c x y=>
   have h:(@ni.rec (fun _=>R) .no (fun b=> @Bool.rec (fun _=>R) (ih y n aN T H m) (ih x n aN T H m) b) (gR (cq T c))).out=some (e,aO,H',m'):=h;cases hb:gR (cq T c)with
   |no=>rw [hb]at h;cases h
   |mk b=>
    rw [hb]at h;have hc:=xE aR.T aR.G c;rw [EE hb]at hc;refine wpIn_cond hc.cc ?_;cases b
    .exact hI.cz _ _ _ _ _ _ _ _ _ _ h B ρ a w rd k Q hrd aR hD hf hQ
    .exact hI.cz _ _ _ _ _ _ _ _ _ _ h B ρ a w rd k Q hrd aR hD hf hQ
  |block id x=>
   have h:(@R.rec (fun _=>R) .no .normal (fun i T H m=> @Bool.rec (fun _=>R) (.exit i T H m) (.normal T H m) (Nat.beq i id)) .goto .ret (ih x n aN T H m)).out=some (e,aO,H',m'):=h;refine wpIn_block ?_;cases hx:ih x n aN T H m with
   |no=>rw [hx]at h;cases h
   |normal T1 H1 m1=>rw [hx]at h;cases h;exact here (x:=x) (by rw [hx];rfl) rfl _ hQ
   |exit i T1 H1 m1=>
    rw [hx]at h;simp only at h;cases hb:Nat.beq i id with
    |true=>
     rw [hb]at h;cases h;have:=ac hb;subst this;exact here (x:=x) (by rw [hx];rfl) rfl _ fun ρ' a' w' r1 r2 r3=>by simp only [Exit.inBlock,if_true];exact hQ ρ' a' w' r1 r2 r3
    |false=>
     rw [hb]at h;cases h;have hne:i≠id:=fun hh=>by subst hh;rw [Nat.beq_refl]at hb;cases hb
     exact here (x:=x) (by rw [hx];rfl) rfl _ fun ρ' a' w' r1 r2 r3=>by simp only [Exit.inBlock,if_neg hne];exact hQ ρ' a' w' r1 r2 r3
   |goto l T1 H1 m1=>rw [hx]at h;cases h;exact here (x:=x) (by rw [hx];rfl) rfl _ hQ
   |ret T1 H1 m1=>rw [hx]at h;cases h;exact here (x:=x) (by rw [hx];rfl) rfl _ hQ
  |loop x=>rw [US]at h;exact wpIn_loop_rounds rounds (UR hI rounds h hrd aR hD hf hQ)
  |rangeFunc f ps x y=>
   cases aN with
   |some i=>
    cases rd with
    |some l=>obtain⟨c,hc⟩:=hrd;exact akA gX hK hI hc h k aR hD hf hQ
    |none=>exact hrd.elim
   |none=>
    cases rd with
    |some l=>exact hrd.elim
    |none=>exact akz gX hK hI h k aR hD hf hQ
  |scope x=>
   have h:(@R.rec (fun _=>R) .no .normal .exit (fun _ _ _ _=> .no) .ret (ih x n aN T H m)).out=some (e,aO,H',m'):=h;refine JK ?_;cases hx:ih x n aN T H m with
   |no=>rw [hx]at h;cases h
   |normal T1 H1 m1=>rw [hx]at h;cases h;exact here (x:=x) (by rw [hx];rfl) rfl _ hQ
   |exit id T1 H1 m1=>rw [hx]at h;cases h;exact here (x:=x) (by rw [hx];rfl) rfl _ hQ
   |goto l T1 H1 m1=>rw [hx]at h;cases h
   |ret T1 H1 m1=>rw [hx]at h;cases h;exact here (x:=x) (by rw [hx];rfl) rfl _ hQ
def m8 (gX:∀ih,jM P ih->bD P (cX ih)) (hK:ff P) {draw:o6} (hdr:∀d,xF P d (draw d)):∀fuel,jM P (vi cX P draw fuel)
 |0=>⟨(fun _ _ _ _ _ _ _ _ _ _ h=>by cases h),(fun _ _ _ _ _ _ _ _ _ _ h=>by cases h)⟩
 |f+1=>akB gX hK hdr (m8 gX hK hdr f)
end
end Go.Proofs.YtibikmmdbdlafaaGreatDoor.Sv
namespace Go.Proofs.YtibikmmdbdlafaaGreatDoor
open Go.RowKit Sv Go.Proofs.Tryz
structure oK (w:World) (b r:Nat) (es:Array MapEntry) (clock:Nat) (rem:List MapEntry):Prop where
 m:w.heap[b]? =some (.map es clock)
 it:∃seen c0,w.heap[r]? =some (.mapIter (some b) clock seen c0)/\clock<=c0/\(leftOf es seen).toList=rem
def UT (e:MapEntry):∀{l:List MapEntry},(l.map (·.born)).Nodup->e∈l->l.Perm (e::l.filter fun x=>x.born != e.born)
 |[],_,h=>by cases h
 |x::l,hn,h=>by
  rw [List.map_cons,List.nodup_cons]at hn;by_cases hx:x.born=e.born
  .have gD:x=e:=by
    rcases ew.1 h with h|h
    .exact h.symm
    .exact absurd (List.mem_map.2 ⟨e,h,hx.symm⟩) hn.1
   subst gD;have:l.filter (fun y=>y.born != x.born)=l:=List.filter_eq_self.2 fun y hy=>by
    rw [fA];intro he;exact hn.1 (List.mem_map.2 ⟨y,hy,he⟩)
   rw [List.filter_cons,if_neg (by simp),this]
  .have he:e∈l:=by
    rcases ew.1 h with h|h
    .exact absurd (by rw [h]) hx
    .exact h
   rw [List.filter_cons,if_pos (by simpa using hx)];exact((UT e hn.2 he).cons x).trans (List.Perm.swap _ _ _)
def akC (es:Array MapEntry) (seen:Array Nat) (k:Nat):(leftOf es (seen.push k)).toList=(leftOf es seen).toList.filter fun x=>x.born != k:=by
 unfold leftOf;rw [Array.toList_filter,Array.toList_filter,List.filter_filter];refine List.filter_congr fun x _=> ?_
 rw [contains_push];cases seen.contains x.born<;>simp [bne]
def oK.next {P:Program} {w:World} {b r:Nat} {es:Array MapEntry} {clock:Nat} {rem:List MapEntry} (A9:∀x∈es.toList,x.born<clock) (hn:(es.toList.map (·.born)).Nodup) (h:oK w b r es clock rem) (ty:TypeId):
  (rem=[]/\(Instr.next (.pointer (some ⟨r,0,none⟩)) false ty).run P w= .ok (.tuple #[.bool false]) w)\/
  ∃e sL w',rem.Perm (e::sL)/\e∈es.toList/\(Instr.next (.pointer (some ⟨r,0,none⟩)) false ty).run P w= .ok (.tuple #[.bool true,e.key,e.val]) w'/\oK w' b r es clock sL/\w.grownBy w' (some r)/\w'.heap.size=w.heap.size/\
   (Instr.entry (.pointer (some ⟨r,0,none⟩))).run P w'= .ok (.tuple #[e.key,e.val]) w':=by
 obtain⟨hb,seen,c0,hr,hc,rfl⟩:=h;have hne:b≠r:=fun e=>by subst e;rw [hb]at hr;cases hr
 rcases run_next_at (P:=P) w ty r b clock c0 seen es clock hr hb A9 hc with⟨h0,hrun⟩|⟨e,he,w1,hal,hrun⟩
 .exact .inl ⟨by rw [Array.eq_empty_of_size_eq_zero h0],hrun⟩
 .have hem:e∈es.toList:=by
   unfold leftOf at he;rw [Array.toList_filter]at he;exact(List.mem_filter.1 he).1
  have hnl:((leftOf es seen).toList.map (·.born)).Nodup:=by
   unfold leftOf;rw [Array.toList_filter];exact(List.filter_sublist.map _).nodup hn
  have kU:w1.heap[r]? =some (.mapIter (some b) clock seen c0):=by rcases hal with rfl |rfl<;>exact hr
  have kq:w1.heap[b]? =some (.map es clock):=by rcases hal with rfl |rfl<;>exact hb
  have qK:=MapKept.heap_set (o':= .mapIter (some b) clock (seen.push e.born) clock) kU;have hb':(ChangeMaps.setBlock w1 r (.mapIter (some b) clock (seen.push e.born) clock)).heap[b]? =some (.map es clock):=(qK.2 b hne).trans kq;refine .inr ⟨e,_,_,UT e hnl he,hem,hrun,⟨hb',_,_,qK.1,aK _,akC es seen e.born⟩, ?_, ?_,run_entry_at _ r b clock seen es clock e qK.1 hb' hem hn⟩
  .rcases hal with rfl |rfl<;>exact⟨rfl,rfl,rfl,by simp [ChangeMaps.setBlock],fun i _ hi=>qK.2 i (fun e1=>hi (by rw [e1]))⟩
  .rcases hal with rfl |rfl<;>simp [ChangeMaps.setBlock]
def oK.kept {w w':World} {b r:Nat} {es:Array MapEntry} {clock:Nat} {rem:List MapEntry} (h:oK w b r es clock rem) (h1:w'.heap[b]? =w.heap[b]?) (h2:w'.heap[r]? =w.heap[r]?):oK w' b r es clock rem:=
 ⟨by rw [h1];exact h.m,by rw [h2];exact h.it⟩
section
variable {F:Fence} {n:Nat} {P:Program} (w:World) {ops:Array Oper} {rest:List Oper} {o:Oper} {a:Act} {Q:Exit->Act->World->Prop}
def akD (hg:o.guard=none) (m:Operand) (t:TypeId) (hop:o.op=Op.range t m) (k e:TypeId) (ht:P.underlying t=some (.map k e)) (b:Nat) (es:Array MapEntry) (clock:Nat) (hm:a.eval m= .map (some b)) (hb:w.heap[b]? =some (.map es clock)) (r:Nat) (hr:w.heap.size=r)
  (hK:oK (w.alloc (.mapIter (some b) clock #[] clock)) b r es clock es.toList->wpListIn F n P ops Q rest (a.put o.dst (.pointer (some ⟨r,0,none⟩))) (w.alloc (.mapIter (some b) clock #[] clock))):
  wpListIn F n P ops Q (o::rest) a w:=by
 subst hr;refine wpListIn_plain hg fun K' hK'=> ?_
 have hrun:=run_range_map (P:=P) w t k e b es clock ht hb;have hlt:b<w.heap.size:=(dG.1 hb).1;unfold Oper.wpIn;refine⟨?_, ?_⟩
 .simp [Oper.about,hop]
 .rw [Oper.semAt_plain F _ _ (by rw [hop];intro c tM;cases tM)];simp [execOp,hop,hm,hrun,Result.andThen];refine hK' _ _ (hK ⟨(heap_alloc_old w _ hlt).trans hb, #[],clock,heap_alloc_new w _,aK _, ?_⟩);unfold leftOf;rw [Array.toList_filter];exact List.filter_eq_self.2 fun x _=>by simp
def akE (hg:o.guard=none) (it:Operand) (hop:o.op=Op.next it false) (b r:Nat) (es:Array MapEntry) (clock:Nat) (rem:List MapEntry) (A9:∀x∈es.toList,x.born<clock) (hn:(es.toList.map (·.born)).Nodup)
  (hit:a.eval it= .pointer (some ⟨r,0,none⟩)) (h:oK w b r es clock rem) (hDone:rem=[]->wpListIn F n P ops Q rest (a.put o.dst (.tuple #[.bool false])) w)
  (hMore:∀e sL w',rem.Perm (e::sL)->e∈es.toList->oK w' b r es clock sL->w.grownBy w' (some r)->w'.heap.size=w.heap.size->(Instr.entry (.pointer (some ⟨r,0,none⟩))).run P w'= .ok (.tuple #[e.key,e.val]) w'->
    wpListIn F n P ops Q rest (a.put o.dst (.tuple #[.bool true,e.key,e.val])) w'):
  wpListIn F n P ops Q (o::rest) a w:=by
 refine wpListIn_plain hg fun K' hK'=> ?_
 unfold Oper.wpIn;refine⟨by simp [Oper.about,hop], ?_⟩;rw [Oper.semAt_plain F _ _ (by rw [hop];intro c tM;cases tM)];rcases h.next (P:=P) A9 hn o.type with⟨h0,hrun⟩|⟨e,sL,w',g1,g2,hrun,g3,g4,g5,g6⟩
 .simp [execOp,hop,hit,hrun,Result.andThen];exact hK' _ _ (hDone h0)
 .simp [execOp,hop,hit,hrun,Result.andThen];exact hK' _ _ (hMore e sL w' g1 g2 g3 g4 g5 g6)
end
end Go.Proofs.YtibikmmdbdlafaaGreatDoor
namespace Go.Proofs.YtibikmmdbdlafaaGreatDoor
open Go.RowKit
def Row (w:World) (B:Nat) (A:Option Addr) (vs:List Value):Prop:=
 vs=[]\/∃b off,A=some ⟨b,off,none⟩/\b<B/\∀i,i<vs.length->w.cell? ⟨b,off+i,none⟩=some (vs.getD i (.bool false))
def Row.nil {w:World} {B:Nat} {A:Option Addr}:Row w B A []:= .inl rfl
def Row.open {w:World} {B:Nat} {A:Option Addr} {vs:List Value} (h:Row w B A vs) (hn:0<vs.length):
  ∃b off,A=some ⟨b,off,none⟩/\b<B/\∀i,i<vs.length->w.cell? ⟨b,off+i,none⟩=some (vs.getD i (.bool false)):=by
 rcases h with rfl |h
 .simp at hn
 .exact h
def Row.below {w w':World} {B B':Nat} {A:Option Addr} {vs:List Value} (h:Row w B A vs) (hb:Below B' w w') (hB:B<=B'):Row w' B A vs:=by
 rcases h with rfl |⟨b,off,rfl,hlt,hc⟩
 .exact .inl rfl
 .exact .inr ⟨b,off,rfl,hlt,fun i hi=>(hb.cell (p:=⟨b,off+i,none⟩) (by simp;omega)).trans (hc i hi)⟩
def Row.drewN {w:World} {B:Nat} {A:Option Addr} {vs:List Value} (h:Row w B A vs) (k:Nat):Row (w.drewN k) B A vs:=h
def Row.drew {w:World} {B:Nat} {A:Option Addr} {vs:List Value} (h:Row w B A vs):Row w.drew B A vs:=h
def Row.alloc {w:World} {B:Nat} {A:Option Addr} {vs:List Value} (h:Row w B A vs) (hB:B<=w.heap.size) (o:Obj):Row (w.alloc o) B A vs:=
 h.below ((Below.refl B w).alloc hB o) (aK _)
def Row.new (w:World) (e:TypeId) (vs:List Value):Row (w.alloc (.cells vs.toArray e)) (w.heap.size+1) (some ⟨w.heap.size,0,none⟩) vs:=
 .inr ⟨w.heap.size,0,rfl,by omega,fun i hi=>by
   rw [World.cell?_alloc_at _ _ _ _ rfl];simp [ao,hi]⟩
def Row.int {w:World} {B:Nat} {A:Option Addr} {xs:List Int} (h:Row w B A (xs.map (Value.int .i64))) (k:Nat) (hk:k<xs.length):
  ∃b off x,A=some ⟨b,off,none⟩/\b<B/\xs[k]? =some x/\w.cell? ⟨b,off+k,none⟩=some (.int .i64 x):=by
 obtain⟨b,off,h1,h2,h3⟩:=h.open (by simp;omega);refine⟨b,off,xs[k],h1,h2,BH hk, ?_⟩;rw [h3 k (by simpa using hk)];simp [ao,hk]
def eR (w:World) (g:Nat) (t:TypeId) (cs:Array Value):Prop:=w.heap[g]? =some (.cells cs t (0,0))
section
variable {w w':World} {g:Nat} {t:TypeId} {cs:Array Value}
def eR.lt (h:eR w g t cs):g<w.heap.size:=by
 rcases Nat.lt_or_ge g w.heap.size with hlt|hge
 .exact hlt
 .unfold eR at h;rw [Array.getElem?_eq_none hge]at h;cases h
def eR.cell (h:eR w g t cs) (i:Nat):w.cell? ⟨g,i,none⟩=cs[i]? :=cell_of_row w g i cs t (0,0) h
def eR.frozen (h:eR w g t cs) (i:Nat):w.frozen? ⟨g,i,none⟩=false:=by
 unfold eR at h;simp [World.frozen?,h]
def eR.new (w:World) (t:TypeId) (cs:Array Value):eR (w.alloc (.cells cs t)) w.heap.size t cs:=heap_alloc_new w _
def eR.drew (h:eR w g t cs):eR w.drew g t cs:=h
def eR.drewN (h:eR w g t cs) (n:Nat):eR (w.drewN n) g t cs:=h
def eR.alloc (h:eR w g t cs) (o:Obj):eR (w.alloc o) g t cs:=(Below.heap_alloc w o g h.lt).trans h
def eR.below {B:Nat} (h:eR w g t cs) (hb:Below B w w') (hg:g<B):eR w' g t cs:=(hb.block g hg).trans h
def eR.set (h:eR w g t cs) (i:Nat) (u:Value):eR (w.setCell ⟨g,i,none⟩ u) g t (cs.setIfInBounds i u):=by
 unfold eR at h ⊢;simp [World.setCell,Array.getElem?_modify,h]
def eR.gL (h:eR w g t cs) {p:Addr} (hp:g≠p.block) (u:Value):eR (w.setCell p u) g t cs:=(Below.heap_setCell w p u g hp).trans h
end
end Go.Proofs.YtibikmmdbdlafaaGreatDoor
namespace Go.Proofs.YtibikmmdbdlafaaGreatDoor
open Go.RowKit Sv Go.Proofs.Tryz
def Tryz.UU:(prog.info? 3).map (fun i=>(i.zero,i.size,i.bytes))=some (some (.int .i64 0),1,8):=by kernel_rfl
noncomputable def UW:=k_a f157
structure akF (yv:Value) (uH pZ:Nat) (w:World) (ks:List Int) (a':Act) (W:World):Prop where
 size:a'.tmps.size=48
 t0:a'.tmps.getD 0 undef=yv
 t1:a'.tmps.getD 1 undef= .pointer (some ⟨uH,0,none⟩)
 t2:a'.tmps.getD 2 undef= .pointer (some ⟨pZ,0,none⟩)
 t3:a'.tmps.getD 3 undef= .pointer (some ⟨w.heap.size,0,none⟩)
 t4:a'.tmps.getD 4 undef= .pointer (some ⟨w.heap.size+1,0,none⟩)
 un:∀t,t<48->t∉[0,1,2,3,4,5,10,11,12,13,14,15,16,17,18,19,20,21]->a'.tmps.getD t undef=undef
 df:a'.defers=[]
 b3:W.heap[w.heap.size]? =some (.cells #[yv] 148 (0,0))
 b4:∃v,W.heap[w.heap.size+1]? =some (.cells #[v] 93 (0,0))/\W.ownsRow (w.heap.size+3) 3 1 v ks.length (gz (ks.mergeSort fun x y=>decide (x<=y)))
 gr:w.grownBy W none
structure akG (yv:Value) (w:World) (b:Nat) (es:Array MapEntry) (clock:Nat) (ks:List Int) (wr:World) (v:Value) (ss:List Int) (rem:List MapEntry):Prop where
 rg:oK wr b (w.heap.size+2) es clock rem
 pm:(gz ss++rem.map (·.key)).Perm (gz ks)
 b3:wr.heap[w.heap.size]? =some (.cells #[yv] 148 (0,0))
 b4:wr.heap[w.heap.size+1]? =some (.cells #[v] 93 (0,0))
 own:wr.ownsRow (w.heap.size+3) 3 1 v ss.length (gz ss)
 gr:w.grownBy wr none
 sz:w.heap.size+3<=wr.heap.size
def akH {a b:List Int} (h:a.Perm b):(a.mergeSort fun x y=>decide (x<=y))=b.mergeSort fun x y=>decide (x<=y):=by
 have G4:∀x y z:Int,decide (x<=y)=true->decide (y<=z)=true->decide (x<=z)=true:=fun x y z h1 h2=>by rw [bE]at*;omega
 have tt:∀x y:Int,(decide (x<=y)||decide (y<=x))=true:=fun x y=>by rw [Bool.or_eq_true,bE,bE];omega
 refine List.Perm.eq_of_pairwise (le:=fun x y=>decide (x<=y)=true) (fun x y _ _ h1 h2=>by rw [bE]at*;omega) (List.pairwise_mergeSort G4 tt a) (List.pairwise_mergeSort G4 tt b) ?_;exact(List.mergeSort_perm a _).trans (h.trans (List.mergeSort_perm b _).symm)
def akI {a b:List Int} (h:(gz a).Perm (gz b)):a.Perm b:=by
 have h2:=h.map (fun v:Value=>match v with | .int _ n=>n|_=>0);have e:∀l:List Int,(gz l).map (fun v:Value=>match v with | .int _ n=>n|_=>0)=l:=fun l=>by
  unfold gz;rw [List.map_map];exact List.map_id' l
 rwa [e,e]at h2
def akJ {w w':World} {base size n:Nat} {e:TypeId} {v:Value} {vs:List Value} (h:w.ownsRow base e size v n vs) (hk:∀b,some b=v.ownBlock->w'.heap[b]? =w.heap[b]?):w'.ownsRow base e size v n vs:=by
 refine⟨h.1, ?_⟩;rcases h.2 with hn|⟨g,cap,cur,rfl,M6,hg,rest⟩
 .exact .inl hn
 .exact .inr ⟨g,cap,cur,rfl,M6,(hk g rfl).trans hg,rest⟩
def akK {w:World} {base size n:Nat} {e:TypeId} {v:Value} {vs:List Value} (h:w.ownsRow base e size v n vs):∃A c,v= .slice A n c:=by
 rcases h.2 with⟨rfl,rfl⟩|⟨g,cap,cur,rfl,_⟩
 .exact⟨_,_,rfl⟩
 .exact⟨_,_,rfl⟩
def oK.left {w:World} {b r:Nat} {es:Array MapEntry} {clock:Nat} {rem:List MapEntry} (h:oK w b r es clock rem):w.rangeLeft b r=rem.length:=by
 obtain⟨seen,c0,h1,_,h3⟩:=h.it;unfold World.rangeLeft;rw [h.m,h1];simp only;rw [<-h3,Array.length_toList]
def UX {n m:Nat} {P:Program} {f:FuncId} {args:Array Value} {w:World} {R:Ending->World->Prop} (h:CallsIn Fence.wide n P f args w R):CallsIn Fence.wide m P f args w R:=callsIn_wide.2 (callsIn_wide.1 h)
def akL {w:World} {b:Nat} {o:Nat} {v:Value} (h:w.cell? ⟨b,o,none⟩=some v):b<w.heap.size:=by
 unfold World.cell? at h;cases hb:w.heap[b]? with
 |none=>simp [hb]at h
 |some x=>exact(dG.1 hb).1
set_option maxRecDepth 100000 in
set_option maxHeartbeats 4000000 in
def akM (m yO:Nat) (uH pZ b:Nat) (es:Array MapEntry) (clock:Nat) (ks:List Int) (w:World) (R:Ending->World->Prop) (x0:w.cell? ⟨uH,0,none⟩=some (.map (some b))) (hb:w.heap[b]? =some (.map es clock))
  (A9:∀x∈es.toList,x.born<clock) (hn:(es.toList.map (·.born)).Nodup) (hk:es.toList.map (·.key)=gz ks) (hsz:ks.length<=100000)
  (hK:∀a' W,akF (.func (.yield yO) #[] #[]) uH pZ w ks a' W->(cat UW [1,1,1,1]).wpIn Fence.wide m prog (bodyPostM Fence.wide m prog f157 R) a' W):
  CallsIn Fence.wide m prog 157 #[.func (.yield yO) #[] #[], .pointer (some ⟨uH,0,none⟩), .pointer (some ⟨pZ,0,none⟩)] w R:=by
 have akN:=Lib.hid hK;have akO:=Lib.hid A9;have Na:=Lib.hid hn;have UY:=Lib.hid hk;have iA:b<w.heap.size:=(dG.1 hb).1;have akP:=Lib.hid hb;have auT:uH<w.heap.size:=akL x0;obtain⟨i0,tL,Nb,Nc,UZ⟩:=info_parts Tryz.UU;clear hK A9 hn hk hb;refine callsIn_of_wp_marks func157 rfl trivial ?_;simp only [Tryz.ntmps157,List.size_toArray,List.length_cons,List.length_nil,Nat.reduceAdd,Nat.reduceSub,Array.replicate_succ,Array.replicate_zero,List.push_toArray,List.append_toArray,List.nil_append,List.cons_append]
 gi_wp2_with (first
  |(gi_at_range;refine akD _ rfl _ 135 rfl 3 3 Tryz.underlying135 b es clock rfl (by rw [heap_alloc_old _ _ (by simp;omega),heap_alloc_old _ _ iA];exact akP.out) (w.heap.size+2) (by simp) ?_;intro akQ)
  |gi_in)
 go_frame
 gi_loopw [] (fun wr=>∃v ss rem,akG (.func (.yield yO) #[] #[]) w b es clock ks wr v ss rem) (fun wr=>wr.rangeLeft b (w.heap.size+2))
 case atStart=>
  refine⟨.slice none 0 0,[],es.toList,akQ, ?_, ?_, ?_,World.ownsRow_nil _ _ _ _, ?_,by simp⟩
  .rw [UY.out];exact List.Perm.refl _
  .rw [heap_alloc_old _ _ (by simp;omega),heap_alloc_old _ _ (by simp),heap_alloc_new]
  .rw [heap_alloc_old _ _ (by simp)];have:=heap_alloc_new (w.alloc (.cells #[Value.func (Fn.yield yO) #[] #[]] 148)) (.cells #[Value.slice none 0 0] 93);rwa [show(w.alloc (.cells #[Value.func (Fn.yield yO) #[] #[]] 148)).heap.size=w.heap.size+1 by simp]at this
  .exact((World.grownBy_alloc w _ none).andThen (World.grownBy_alloc _ _ none) fun j hj=>by cases hj).andThen (World.grownBy_alloc _ _ none) fun j hj=>by cases hj
 case round=>
  obtain⟨v,ss,rem,hL⟩:=hrel;have jb:=Lib.hid hL;have U0:=hL.rg;clear hL
  gi_wp2_with (first
   |(gi_at_next;refine akE _ rfl _ rfl b (w.heap.size+2) es clock rem akO.out Na.out rfl U0 ?_ ?_)
   |gi_in)
  .intro akR;have qI:wr.cell? ⟨w.heap.size+1,0,none⟩=some v:=cell_of_row _ _ 0 #[v] _ _ jb.out.b4;have hst:=(callsIn_wide.2 (akq _ _ v ss wr jb.out.own ?hlen):CallsIn Fence.wide 0 _ _ _ _ _)
   case hlen=>
    have h1:=jb.out.pm.length_eq;simp at h1;omega
   have akS:=Lib.hid hst;clear hst
   gi_wp2
   refine⟨trivial,(fun h=>by cases h),(UX akS.out).mono ?_⟩;rintro e w' ⟨rfl,hown,hgr⟩;rename_i auU h1 auV h2;refine h2 _ _ ?_;refine wpListIn_nil ?_;refine h1 _ _ ?_;refine akN.out _ _ ?_;refine⟨rfl,rfl,rfl,rfl,rfl,rfl, ?_,rfl, ?_,⟨v, ?_, ?_⟩, ?_⟩
   .intro t ht hnt;simp only [ew,jU,or_false,not_or]at hnt;have ht2:t=6\/t=7\/t=8\/t=9\/t=22\/t=23\/t=24\/t=25\/t=26\/t=27\/t=28\/t=29\/t=30\/t=31\/t=32\/t=33\/t=34\/t=35\/t=36\/t=37\/t=38\/t=39\/t=40\/t=41\/t=42\/t=43\/t=44\/t=45\/t=46\/t=47:=by omega
    rcases ht2 with rfl |rfl |rfl |rfl |rfl |rfl |rfl |rfl |rfl |rfl |rfl |rfl |rfl |rfl |rfl |rfl |rfl |rfl |rfl |rfl |rfl |rfl |rfl |rfl |rfl |rfl |rfl |rfl |rfl |rfl<;>rfl
   .exact(hgr.block _ (Nat.lt_of_lt_of_le (Nat.lt_add_of_pos_right (by decide)) jb.out.sz) fun e=>by have:=(jb.out.own.lt _ e.symm).1;omega).trans jb.out.b3
   .exact(hgr.block _ (by have:=jb.out.sz;omega) fun e=>by have:=(jb.out.own.lt _ e.symm).1;omega).trans jb.out.b4
   .have sM:=jb.out.pm;rw [akR,List.map_nil,List.append_nil]at sM;have sM:=akI sM;rw [<-sM.length_eq,<-akH sM];exact hown
   .exact jb.out.gr.andThen hgr fun j hj=> .inl (by have:=(jb.out.own.lt j hj).1;omega)
  .intro e sL w2 sM hmem U1 G5 hs2 akT;obtain⟨x,hx⟩:∃x,e.key= .int .i64 x:=by
    have:e.key∈gz ks:=by rw [<-UY.out];exact List.mem_map.2 ⟨e,by simpa using hmem,rfl⟩
    obtain⟨x,_,hx⟩:=List.mem_map.1 this;exact⟨x,hx.symm⟩
   have U2:=jb.out.pm;have hlen:ss.length+1<=100000:=by
    have h1:=U2.length_eq;have h2:=sM.length_eq;simp at h1 h2;omega
   have akU:=Lib.hid hx;rw [hx]at akT ⊢;have hlt:∀k,v.ownBlock=some k->w.heap.size+3<=k/\k<wr.heap.size:=jb.out.own.lt;have iV:v.ownBlock=none\/v.ownBlock≠some (w.heap.size+2):=by
    cases akV:v.ownBlock with
    |none=>exact .inl rfl
    |some k=>right;intro e;cases e;have:=(hlt _ akV).1;omega
   have akW:=jb.out.own.kept G5 iV;have Dz:eR w2 (w.heap.size+1) 93 #[v]:=(G5.block _ (by have:=jb.out.sz;omega) (by simp)).trans jb.out.b4;have akX:=Lib.hid (show w2.heap[w.heap.size+1]? =_ from Dz);have qI:=Dz.cell 0;have auW:=Dz.frozen 0;have U3:=Lib.hid U1;have Nd:=Lib.hid G5;have U4:=Lib.hid sM;have Nf:=Lib.hid hs2;clear sM U2 hmem U1 G5 hs2 hx iV
   gi_wp2_with (first
    |(gi_at_builtin;refine wpListIn_append_own _ rfl _ _ 93 rfl (w.heap.size+3) 3 i0 (.int .i64 0) 1 8 Tryz.underlying93 tL Nb Nc UZ rfl (by decide) _ _ _ rfl (akW.alloc _) ⟨w2.heap.size,0,none⟩ 1 1 [.int .i64 x] rfl rfl (cell_one_new _ _ _) ?hone ?c3 ?c4 ?c5 ?_)
    |gi_in)
   case hone=>intro u hu;simp at hu;subst hu;rfl
   case c3=>unfold maxLen;omega
   case c4=>omega
   case c5=>have:=jb.out.sz;have:=Nf.out;simp;omega
   intro v5 yP Ng Nh akY;obtain⟨G6,c5,rfl⟩:=akK Ng;have hs2:=Nf.out;have auX:=jb.out.sz;have hlo:∀k,k<w.heap.size+3->some k≠v.ownBlock:=fun k hk e=>by have:=(hlt _ e.symm).1;omega
   have up:∀k,k<w.heap.size+3->yP.heap[k]? =w2.heap[k]? :=fun k hk=>(Nh.block k (by simp;omega) (hlo k hk)).trans (heap_alloc_old _ _ (by omega))
   have G7:eR yP (w.heap.size+1) 93 #[v]:=(up _ (by omega)).trans Dz;have vS:=G7.cell 0;have auY:=G7.frozen 0;have Ni:=Lib.hid up;have akZ:=Lib.hid G7;have ak0:=Lib.hid Ng;have Nj:=Lib.hid Nh;clear up G7 Ng Nh akY hlo hs2;have gL:∀k,k≠w.heap.size+1->(yP.setCell ⟨w.heap.size+1,0,none⟩ (.slice G6 (ss.length+1) c5)).heap[k]? =yP.heap[k]? :=fun k hk=>Below.heap_setCell _ _ _ k hk
   have ak1:=Lib.hid gL;have U5:=Lib.hid (show oK (yP.setCell ⟨w.heap.size+1,0,none⟩ (.slice G6 (ss.length+1) c5)) b (w.heap.size+2) es clock sL from U3.out.kept
    (by rw [gL _ (fun e=>by have:=U3.out.m;rw [e,akX.out]at this;cases this),Ni.out _ (by omega)])
    (by rw [gL _ (by omega),Ni.out _ (by omega)]))
   clear gL
   gi_wp2
   go_roundw
   case rel=>
    have gL:=ak1.out;have e1:gz ss++[Value.int .i64 x]=gz (ss++[x]):=by simp [gz]
    have h5:=ak0.out;have ak2:∀k,(Value.slice G6 (ss.length+1) c5).ownBlock=some k->w.heap.size+3<=k/\k<yP.heap.size:=h5.lt;refine⟨.slice G6 (ss.length+1) c5,ss++[x],sL,U5.out, ?_, ?_, ?_, ?_, ?_, ?_⟩
    .have hp2:=U4.out.map (·.key);rw [List.map_cons,akU.out]at hp2;have:=(List.Perm.append_left (gz ss) hp2).symm.trans jb.out.pm;rw [<-e1,rA];exact this
    .rw [gL _ (by omega),Ni.out _ (by omega),Nd.out.block _ (by omega) (by simp)];exact jb.out.b3
    .exact akZ.out.set 0 _
    .have e2:(ss++[x]).length=ss.length+1:=by simp
     rw [e2,<-e1];exact akJ h5 fun k hk=>gL k (by have:=(ak2 k hk.symm).1;omega)
    .have s1:=Nj.out.size;have s2:=Nd.out.size;refine(((jb.out.gr.andThen Nd.out fun j hj=>by cases hj;exact .inl (by omega)).andThen (World.grownBy_alloc _ _ none) fun j hj=>by cases hj).andThen Nj.out fun j hj=> .inl (by have:=(hlt j hj).1;omega)).andThen (grownBy_setCell' yP (w.heap.size+1) _) fun j hj=>by cases hj;exact .inl (by omega)
    .have s1:=Nj.out.size;have s2:=Nf.out;simp at s1;simp [World.setCell];omega
   case measure=>
    rw [U5.out.left,U0.left];have:=U4.out.length_eq;simp at this;omega
section
variable {P:Program} {B:Nat} {ρ eV:Env} {H H0:ai} {w w0 W:World}
def ak3 (hH:bk P B ρ H w) (hg:w.grownBy W none):bk P B ρ H W/\bR ρ H w ρ H W:=by
 have old:∀b o,w.heap[b]? =some o->W.heap[b]? =some o:=fun b o h=>(hg.block b (dG.1 h).1 (by simp)).trans h
 refine⟨⟨fun i k hi=> ?_,hH.inj,hH.lt,dc hH.base hg.size,fun b A hb=> ?_⟩,⟨cD.refl _,fun _ _=>rfl,aK _,hg.size,hg.os,hg.tape,hg.output,fun b hb _=>hg.block b hb (by simp),fun _ _ h=>h,fun _ _ h=>h,fun _ _ h=> .inl h⟩⟩
 .obtain⟨b,c,o,e1,e2,e3,bW⟩:=hH.blk i k hi;exact⟨b,c,o,e1,old b o e2,e3,bW⟩
 .obtain⟨⟨e,fr,h1⟩,h2⟩:=hH.fz b A hb;exact⟨⟨e,fr,old b _ h1⟩,h2⟩
def Nk (hH:bk P B ρ H W) (hs:bR eV H0 w0 ρ H W) (hB:B<=w0.heap.size) {b c:Nat} {k:bq} {o:Obj} (hb0:w0.heap.size<=b) (hni:¬o7 ρ H b) (hfz:∀A,ρ.fz b=some A->False) (hn:ρ H.next=none) (hn0:H0.next<=H.next) (hb:W.heap[b]? =some o) (hk:gT P (ρ.put H.next b c) H.next k o):
  bk P B (ρ.put H.next b c) (H.new k) W/\bR eV H0 w0 (ρ.put H.next b c) (H.new k) W:=by
 have hle:cD ρ (ρ.put H.next b c):=Env.o9 hn;have hput:∀i,i≠H.next->ρ.put H.next b c i=ρ i:=fun i hi=>by simp [Env.put,hi]
 have hne:∀i k,H.get i=some k->i≠H.next:=fun i k hi=>Nat.ne_of_lt (hH.lt i k hi)
 refine⟨⟨fun i k' hi=> ?_,fun i j eN e5 b' ci cn hi hj jz fN=> ?_,fun i k' hi=> ?_,hH.base,fun b' A hb'=>⟨(hH.fz b' A hb').1,fun i k' c' hi hr=> ?_⟩⟩,
  ⟨hs.le.trans hle,fun i hi=> ?_,Nat.le_succ_of_le hs.next,hs.size,hs.os,hs.tape,hs.output,hs.frame,fun b' hl ho=> ?_,fun b' hl ho=> ?_,hs.nr⟩⟩
 .rw [ai.gK]at hi;split at hi
  .rename_i e;subst e;cases hi;exact⟨b,c,o,Env.dA ..,hb,hk,fun _=>dc hB hb0⟩
  .obtain⟨b',c',o',e1,e2,e3,bW⟩:=hH.blk i k' hi;exact⟨b',c',o',hle _ _ e1,e2,e3.mono hle,bW⟩
 .rw [ai.gK]at hi hj;split at hi<;>split at hj
  .rename_i e1 e2;rw [<-e1,<-e2]
  .rename_i e1 e2;subst e1;rw [Env.dA]at jz;rw [hput j (fun x=>e2 x.symm)]at fN;cases jz;exact(hni ⟨j,e5,cn,hj,fN⟩).elim
  .rename_i e1 e2;subst e2;rw [Env.dA]at fN;rw [hput i (fun x=>e1 x.symm)]at jz;cases fN;exact(hni ⟨i,eN,ci,hi,jz⟩).elim
  .rename_i e1 e2;rw [hput i (fun x=>e1 x.symm)]at jz;rw [hput j (fun x=>e2 x.symm)]at fN;exact hH.inj i j eN e5 b' ci cn hi hj jz fN
 .rw [ai.gK]at hi;rw [ai.Jd];split at hi
  .rename_i e;omega
  .have:=hH.lt i k' hi;omega
 .rw [ai.gK]at hi;split at hi
  .rename_i e;subst e;rw [Env.dA]at hr;cases hr;exact(hfz A hb').elim
  .rename_i e;rw [hput i (fun x=>e x.symm)]at hr;exact(hH.fz b' A hb').2 i k' c' hi hr
 .rw [ai.Jd]at hi;rw [hput i (by omega)];exact hs.ext i (by omega)
 .obtain⟨i,k',c',h1,h2,h3⟩:=ho;rw [ai.gK]at h1;split at h1
  .rename_i e;subst e;rw [Env.dA]at h3;cases h3;omega
  .rename_i e;rw [hput i (fun x=>e x.symm)]at h3;exact hs.own b' hl ⟨i,k',c',h1,h2,h3⟩
 .obtain⟨i,k',c',h1,h3⟩:=ho;rw [ai.gK]at h1;split at h1
  .rename_i e;subst e;rw [Env.dA]at h3;cases h3;omega
  .rename_i e;rw [hput i (fun x=>e x.symm)]at h3;exact hs.mB b' hl ⟨i,k',c',h1,h3⟩
end
noncomputable section
def Nl (e:MapEntry):Option Int:=match e.key with | .int .i64 n=>some n|_=>none
def Ba:List MapEntry->Option (List Int)
 |[]=>some []
 |e::l=>match Nl e,Ba l with |some n,some r=>some (n::r)|_,_=>none
def Bb:List Nat->Bool
 |[]=>true
 |a::l=>cond (kV a l) false (Bb l)
def Bc (clock:Nat):List MapEntry->Bool
 |[]=>true
 |e::l=>cond (Nat.ble (e.born+1) clock) (Bc clock l) false
def yQ (x:Int):List Int->List Int
 |[]=>[x]
 |y::l=>cond (decide (x<=y)) (x::y::l) (y::yQ x l)
def nL:List Int->List Int
 |[]=>[]
 |x::l=>yQ x (nL l)
def G8 (args:List af) (i:Nat):au af:=[5,10,11,12,13,14,15,16,17,18,19,20,21].foldl (fun T t=>T.set t (some .bot)) (((fX args .nil 0).set 3 (some (.ptr i 0))).set 4 (some (.ptr (Nat.succ (Nat.succ i)) 0)))
def U6 (yi:Nat) (ks:List Int) (H:ai):ai:=
 ((H.new (.cells 148 [.yield yi] true false false)).new (.cells 3 (ks.map fun n=> .raw (.int .i64 n)) false false false)).new (.cells 93 [.slice (Nat.succ H.next) 0 ks.length .any] true false false)
def Nn (P:Program) (fn:Func) (r:R):aM:= @R.rec (fun _=>aM) .no (fun T H m=>ko P fn T H m) (fun _ _ _ _=> .no) (fun _ _ _ _=> .no) (fun T H m=>ko P fn T H m) r
section
variable (ih:ek) (args:List af)
def U7 (yi:Nat) (ks:List Int) (H:ai):aM:=
 Nn prog f157 (ih (cat UW [1,1,1,1]) 48 none (G8 args H.next) (U6 yi ks H) [])
def U8 (yi:Nat) (H:ai) (b:Option bq):aM:=match b with
 |some (.map es clock)=>match Ba es.toList with
  |some ks=>cond (Nat.ble 1 ks.length&&(Nat.ble ks.length 100000&&(Bc clock es.toList&&Bb (es.toList.map (·.born))))) (U7 ih args yi (nL ks) H) .no
  |none=> .no
 |_=> .no
def DA (H:ai):aM:=match args with
 |[.yield yi, .ptr oL 0, .ptr jp 0]=>match H.get oL with
  |some (.cells _ [.map lm] _ _ _)=>U8 ih [.yield yi, .ptr oL 0, .ptr jp 0] yi H (H.get lm)
  |_=> .no
 |_=> .no
end
def yR (ih:ek):eC:=fun f args H=> @Bool.rec (fun _=>aM) (wF prog ih f args H) (DA ih args H) (Nat.beq f 157)
def U9:∀{l:List MapEntry} {ks:List Int},Ba l=some ks->l.map (·.key)=gz ks
 |[],ks,h=>by cases h;rfl
 |e::l,ks,h=>by
  unfold Ba at h;cases h1:Nl e with
  |none=>rw [h1]at h;cases h
  |some n=>
   cases h2:Ba l with
   |none=>rw [h1,h2]at h;cases h
   |some r=>
    rw [h1,h2]at h;cases h;have he:e.key= .int .i64 n:=by
     unfold Nl at h1;split at h1
     .rename_i x hx;cases h1;exact hx
     .cases h1
    show e.key::l.map (·.key)=_;rw [he,U9 h2];rfl
def U' {a:Nat}:∀{l:List Nat},kV a l=false->a∉l
 |[],_=>by simp
 |b::l,h=>by
  have h:(@Bool.rec (fun _=>Bool) (kV a l) true (Nat.beq b a))=false:=h;cases hb:Nat.beq b a with
  |true=>rw [hb]at h;cases h
  |false=>
   rw [hb]at h;rw [ew];rintro(rfl |hm)
   .rw [Nat.beq_refl]at hb;cases hb
   .exact U' h hm
def Va:∀{l:List Nat},Bb l=true->l.Nodup
 |[],_=>List.nodup_nil
 |a::l,h=>by
  unfold Bb at h;cases hm:kV a l with
  |true=>rw [hm]at h;cases h
  |false=>rw [hm]at h;exact List.nodup_cons.2 ⟨U' hm,Va h⟩
def Vb {clock:Nat}:∀{l:List MapEntry},Bc clock l=true->∀x∈l,x.born<clock
 |[],_,x,hx=>by cases hx
 |e::l,h,x,hx=>by
  unfold Bc at h;cases hb:Nat.ble (e.born+1) clock with
  |false=>rw [hb]at h;cases h
  |true=>
   rw [hb]at h;rcases ew.1 hx with rfl |hx
   .exact bV hb
   .exact Vb h x hx
def rx (x:Int):∀l:List Int,(yQ x l).Perm (x::l)
 |[]=>List.Perm.refl _
 |y::l=>by
  unfold yQ;cases hd:decide (x<=y)with
  |true=>exact List.Perm.refl _
  |false=>exact((rx x l).cons y).trans (List.Perm.swap _ _ _)
def Np:∀l:List Int,(nL l).Perm l
 |[]=>List.Perm.refl _
 |x::l=>(rx x (nL l)).trans ((Np l).cons x)
def sh (x:Int):∀{l:List Int},l.Pairwise (fun a b=>decide (a<=b)=true)->(yQ x l).Pairwise (fun a b=>decide (a<=b)=true)
 |[],_=>by unfold yQ;simp
 |y::l,h=>by
  unfold yQ;rw [List.pairwise_cons]at h;cases hd:decide (x<=y)with
  |true=>
   refine List.pairwise_cons.2 ⟨fun z hz=> ?_,List.pairwise_cons.2 h⟩;rcases ew.1 hz with rfl |hz
   .exact hd
   .have:=h.1 z hz;rw [bE]at*;omega
  |false=>
   refine List.pairwise_cons.2 ⟨fun z hz=> ?_,sh x h.2⟩;rcases ew.1 ((rx x l).mem_iff.1 hz)with rfl |hz
   .rw [decide_eq_false_iff_not]at hd;rw [bE];omega
   .exact h.1 z hz
def Vc:∀l:List Int,(nL l).Pairwise (fun a b=>decide (a<=b)=true)
 |[]=>List.Pairwise.nil
 |x::l=>sh x (Vc l)
def ak4 (l:List Int):(l.mergeSort fun x y=>decide (x<=y))=nL l:=by
 have G4:∀x y z:Int,decide (x<=y)=true->decide (y<=z)=true->decide (x<=z)=true:=fun x y z h1 h2=>by rw [bE]at*;omega
 have tt:∀x y:Int,(decide (x<=y)||decide (y<=x))=true:=fun x y=>by rw [Bool.or_eq_true,bE,bE];omega
 refine List.Perm.eq_of_pairwise (le:=fun x y=>decide (x<=y)=true) (fun x y _ _ h1 h2=>by rw [bE]at*;omega) (List.pairwise_mergeSort G4 tt l) (Vc l) ?_;exact(List.mergeSort_perm l _).trans (Np l).symm
def Vd {P:Program} {fn:Func} {r:R} {v:af} {H':ai} (h:Nn P fn r= .ok v H'):∃e T1 H1 m1,r.out=some (e,T1,H1,m1)/\(e= .normal\/e= .ret)/\ko P fn T1 H1 m1= .ok v H':=by
 unfold Nn at h;cases r with
 |no=>cases h
 |normal T H m=>exact⟨_,_,_,_,rfl, .inl rfl,h⟩
 |exit _ _ _ _=>cases h
 |goto _ _ _ _=>cases h
 |ret T H m=>exact⟨_,_,_,_,rfl, .inr rfl,h⟩
def Ve {ih:ek} {args:List af} {H:ai} {v:af} {H':ai} (h:DA ih args H= .ok v H'):∃yi oL jp lm es clock ks el ex fz ro,args=[.yield yi, .ptr oL 0, .ptr jp 0]/\H.get oL=some (.cells el [.map lm] ex fz ro)/\H.get lm=some (.map es clock)/\Ba es.toList=some ks/\
  1<=ks.length/\ks.length<=100000/\Bc clock es.toList=true/\Bb (es.toList.map (·.born))=true/\U7 ih args yi (nL ks) H= .ok v H':=by
 unfold DA at h;split at h
 .rename_i yi oL jp;split at h
  .rename_i el lm ex fz ro hg;unfold U8 at h;split at h
   .rename_i es clock hm;split at h
    .rename_i ks hk;cases hb:(Nat.ble 1 ks.length&&(Nat.ble ks.length 100000&&(Bc clock es.toList&&Bb (es.toList.map (·.born)))))with
     |false=>rw [hb]at h;cases h
     |true=>
      rw [hb]at h;simp only [ae]at hb;exact⟨yi,oL,jp,lm,es,clock,ks,el,ex,fz,ro,rfl,hg,hm,hk,bV hb.1,bV hb.2.1,hb.2.2.1,hb.2.2.2,h⟩
    .cases h
   .cases h
  .cases h
 .cases h
end
section
variable [Sv.Ground]
def Vf {ih:ek} (hI:jM prog ih) {args:List af} {H:ai} {v:af} {H':ai} (h:DA ih args H= .ok v H'):H.next+3<=H'.next:=by
 obtain⟨yi,oL,jp,lm,es,clock,ks,el,ex,fz,ro,rfl,h1,h2,h3,h4,h5,h6,h7,h8⟩:=Ve h;obtain⟨e,T1,H1,m1,ho,he,hl⟩:=Vd h8;have a1:=hI.mono _ _ _ _ _ _ _ _ _ _ ho;have a2:=zU hl;have a3:(U6 yi (nL ks) H).next=H.next+3:=rfl;omega
def Pl {ρ:Env} {yi oL jp i:Nat} {a':Act} (hs:a'.tmps.size=48) (h0:Den ρ (.yield yi) (a'.tmps.getD 0 undef)) (h1:Den ρ (.ptr oL 0) (a'.tmps.getD 1 undef)) (h2:Den ρ (.ptr jp 0) (a'.tmps.getD 2 undef)) (h3:Den ρ (.ptr i 0) (a'.tmps.getD 3 undef)) (h4:Den ρ (.ptr (i+2) 0) (a'.tmps.getD 4 undef))
  (hu:∀t,t<48->t∉[0,1,2,3,4,5,10,11,12,13,14,15,16,17,18,19,20,21]->a'.tmps.getD t undef=undef):jY ρ (G8 [.yield yi, .ptr oL 0, .ptr jp 0] i) 48 a'.tmps:=by
 refine⟨hs,fun t=> ?_⟩;unfold G8;simp only [List.foldl_cons,List.foldl_nil,au.gp,JL,au.get_nil,List.length_cons,List.length_nil,Nat.zero_le,true_and,aw,Nat.reduceAdd,Nat.sub_zero];by_cases hb:t∈[5,10,11,12,13,14,15,16,17,18,19,20,21]
 .simp only [ew,jU,or_false]at hb;rcases hb with rfl |rfl |rfl |rfl |rfl |rfl |rfl |rfl |rfl |rfl |rfl |rfl |rfl<;>exact .bot _
 .simp only [ew,jU,or_false,not_or]at hb;obtain⟨b1,b2,b3,b4,gF,F3,yg,ak5,ak6,ak7,ak8,ak9,ala⟩:=hb;rw [if_neg (Ne.symm ala),if_neg (Ne.symm ak9),if_neg (Ne.symm ak8),if_neg (Ne.symm ak7),if_neg (Ne.symm ak6),if_neg (Ne.symm ak5),if_neg (Ne.symm yg),if_neg (Ne.symm F3),if_neg (Ne.symm gF),if_neg (Ne.symm b4),if_neg (Ne.symm b3),if_neg (Ne.symm b2),if_neg (Ne.symm b1)];by_cases bW:t=4
  .subst bW;exact h4
  .rw [if_neg (Ne.symm bW)];by_cases e3:t=3
   .subst e3;exact h3
   .rw [if_neg (Ne.symm e3)];by_cases hlt:t<3
    .rw [if_pos hlt];rcases t with _|_|_|t
     .exact h0
     .exact h1
     .exact h2
     .omega
    .rw [if_neg hlt];by_cases h48:t<48
     .rw [hu t h48 (by simp;omega)];exact .raw _
     .rw [Array.getD_eq_getD_getElem?,Array.getElem?_eq_none (by omega)];exact .raw _
def Nq {ρ:Env} {H:ai} {b b' c:Nat} {k:bq} (h:¬o7 ρ H b') (hne:b'≠b):¬o7 (ρ.put H.next b c) (H.new k) b':=fun⟨i,k',c',e1,e2⟩=>by
 rw [ai.gK]at e1;split at e1
 .rename_i hi;rw [<-hi,Env.dA]at e2;cases e2;exact hne rfl
 .rename_i hi;have:ρ.put H.next b c i=ρ i:=by simp [Env.put,Ne.symm hi]
  rw [this]at e2;exact h ⟨i,k',c',e1,e2⟩
def DB {ρ:Env} {i j b c:Nat} (h:j≠i):ρ.put i b c j=ρ j:=by simp [Env.put,h]
def alb {cap:Nat}:cap*1=cap*prog.cellsOf 3:=by rw [show prog.cellsOf 3=1 by kernel_rfl]
def alc {ρ:Env} (l:List Int):aI ρ (l.map fun n=>af.raw (.int .i64 n)) (gz l):=by
 unfold gz;induction l with
 |nil=>exact .nil
 |cons x l ih=>exact .cons (.raw _) ih
def ald {ih:ek} (hI:jM prog ih) {args:List af} {H:ai} {v:af} {H':ai} (h:DA ih args H= .ok v H') (B:Nat) (ρ:Env) (xs:List Value) (w:World) (m:Nat) (hH:bk prog B ρ H w) (cv:n9 ρ) (hd:aI ρ args xs) (hf:Fr ρ H.next H'.next):
  CallsIn (dU none) m prog 157 xs.toArray w (dt prog B ρ H w v H'):=by
 have hmono:=Vf hI h;obtain⟨yi,oL,jp,lm,es,clock,ks,el,ex,fz,ro,rfl,h1,h2,h3,h4,h5,h6,h7,h8⟩:=Ve h;obtain⟨e,T1,H1,m1,ho,he,hl⟩:=Vd h8;have hnx:=zU hl
 match xs,hd with
 |[x0,x1,x2], .cons d0 (.cons d1 (.cons d2 .nil))=>
  obtain⟨yO,c0,eo,rfl⟩:=d0.Ja;obtain⟨uH,c1,r1,rfl⟩:=d1.kR;obtain⟨pZ,c2,r2,rfl⟩:=d2.kR;obtain⟨ys,auZ,g1,_,g3,_,_,g6⟩:=dp hH h1 r1;obtain⟨y,hy1,hy2⟩:=g3.get (i:=0) rfl;obtain⟨b,cb,rb,rfl⟩:=hy2.vn;have hcell:w.cell? ⟨uH,0,none⟩=some (.map (some b)):=by
   have e1:(ys.toList.take 1)[0]? =some (Value.map (some b)):=hy1;rw [List.getElem?_take,if_pos (by decide),Array.getElem?_toList]at e1;rw [cell_of_row _ _ 0 ys _ _ g1];exact e1
  obtain⟨o,q1,aP,_⟩:=hH.at h2 rb;have aP:o= .map es clock:=aP;subst aP;refine akM m yO uH pZ b es clock ks w _ hcell q1 (Vb h6) (Va h7) (U9 h3) h5 fun a' W q5=> ?_
  obtain⟨au0,k1,k2⟩:=q5.b4;rw [ak4]at k2;have hlen:(nL ks).length=ks.length:=(Np ks).length_eq;rcases k2.2 with⟨_,c8⟩|⟨g,cap,cur,rfl,c8,jh,pn,xB,Fz,ale⟩
  .omega
  .have alf:cur.toList.take (nL ks).length=gz (nL ks):=by rw [hlen];simpa using ale
   have hn0:∀i,H.next<=i->i<H.next+3->ρ i=none:=fun i a1 a2=>hf i a1 (by omega)
   have hBw:=hH.base;have Nr:∀b' A,w.heap.size<=b'->ρ.fz b'=some A->False:=fun b' A hb' hz=>by
    obtain⟨⟨e',fr,e2⟩,_⟩:=hH.fz b' A hz;have:=(dG.1 e2).1;omega
   have Ns:∀b',w.heap.size<=b'->¬o7 ρ H b':=fun b' hb' ⟨i,k,c,e1,e2⟩=>by
    obtain⟨o,e3,_⟩:=hH.at e1 e2;have:=(dG.1 e3).1;omega
   obtain⟨p1,p2⟩:=ak3 hH q5.gr
   -- the box of yield
   obtain⟨s1,t1⟩:=Nk (b:=w.heap.size) (c:=0) (k:= .cells 148 [.yield yi] true false false) p1 p2 hBw (aK _) (Ns _ (aK _)) (fun A=>Nr _ A (aK _)) (hn0 _ (aK _) (by omega)) (aK _) q5.b3
    ⟨_,_,rfl,fun _=>rfl, .cons ((Den.yield eo).mono (Env.o9 (hn0 _ (aK _) (by omega)))) .nil,fun _=>rfl,fun hh=>by cases hh⟩
   have n1:=Nq (b':=g) (b:=w.heap.size) (c:=0) (k:= .cells 148 [.yield yi] true false false) (Ns g (by omega)) (by omega);have alg:=Nq (b':=w.heap.size+1) (b:=w.heap.size) (c:=0) (k:= .cells 148 [.yield yi] true false false) (Ns _ (by omega)) (by omega)
   -- the row
   have f1:(ρ.put H.next w.heap.size 0) (H.next+1)=none:=by rw [DB (by omega)];exact hn0 _ (by omega) (by omega)
   obtain⟨s2,t2⟩:=Nk (b:=g) (c:=cap) (k:= .cells 3 ((nL ks).map fun n=> .raw (.int .i64 n)) false false false) s1 t1 hBw (by omega) n1 (fun A=>Nr _ A (by omega)) f1 (Nat.le_succ _) jh
    ⟨cur,_,rfl,fun _=>rfl,by rw [zi,alf];exact alc _,(fun hh=>by cases hh),fun _=>⟨g,cap,Env.dA ..,by rw [Fz];exact alb⟩⟩
   have n2:=Nq (b':=w.heap.size+1) (b:=g) (c:=cap) (k:= .cells 3 ((nL ks).map fun n=> .raw (.int .i64 n)) false false false) alg (by omega)
   -- the cell of kinds
   have f2:((ρ.put H.next w.heap.size 0).put (H.next+1) g cap) (H.next+2)=none:=by rw [DB (by omega),DB (by omega)];exact hn0 _ (by omega) (by omega)
   have rg:((ρ.put H.next w.heap.size 0).put (H.next+1) g cap) (H.next+1)=some (g,cap):=Env.dA ..;obtain⟨s3,t3⟩:=Nk (b:=w.heap.size+1) (c:=0) (k:= .cells 93 [.slice (Nat.succ H.next) 0 (nL ks).length .any] true false false) s2 t2 hBw (by omega) n2 (fun A=>Nr _ A (by omega)) f2 (by show H.next<=H.next+2;omega) k1
    ⟨_,_,rfl,fun _=>rfl, .cons (by rw [hlen];exact(Den.slice (cap:= .any) rg trivial pn).mono (Env.o9 f2)) .nil,fun _=>rfl,fun hh=>by cases hh⟩
   have hfr:=(t3.fr (H':=H1) (by rw [hnx];exact hf));have hT:jY (((ρ.put H.next w.heap.size 0).put (H.next+1) g cap).put (H.next+2) (w.heap.size+1) 0) (G8 [.yield yi, .ptr oL 0, .ptr jp 0] H.next) 48 a'.tmps:=by
    refine Pl q5.size ?_ ?_ ?_ ?_ ?_ q5.un
    .rw [q5.t0];exact(Den.yield eo).mono t3.le
    .rw [q5.t1];exact(Den.ptr r1).mono t3.le
    .rw [q5.t2];exact(Den.ptr r2).mono t3.le
    .rw [q5.t3];exact .ptr (c:=0) (by rw [DB (by omega),DB (by omega)];exact Env.dA ..)
    .rw [q5.t4];exact .ptr (c:=0) (Env.dA ..)
   refine hI.cz _ _ _ _ _ _ _ _ _ _ ho B _ a' W none m _ trivial ⟨hT,s3,cv.mono t3.le⟩ q5.df hfr fun ρ' a2 w2 cT z2 z3=> ?_
   have:LeavesInM (dU none) m prog f157 a2.tmps (dt prog B ρ H w v H') a2.defers .returning w2:=xG m1 cT z3 hl fun y w3 u1 u2 u3=>⟨y,ρ',rfl,u1,u2,(t3.trans z2).trans u3⟩
   rcases he with rfl |rfl<;>exact this
def G9 {ih:ek} (hI:jM prog ih):bD prog (yR ih) where
 mono f args H v H' h:=by
  unfold yR at h;cases hb:Nat.beq f 157 with
  |false=>rw [hb]at h;exact(m7 hI).mono _ _ _ _ _ h
  |true=>rw [hb]at h;have:=Vf hI h;omega
 cz f args H v H' h B ρ xs w m hH cv hd hf:=by
  unfold yR at h;cases hb:Nat.beq f 157 with
  |false=>rw [hb]at h;exact(m7 hI).cz _ _ _ _ _ h B ρ xs w m hH cv hd hf
  |true=>
   rw [hb]at h;obtain rfl:=ac hb;exact ald hI h B ρ xs w m hH cv hd hf
end
noncomputable section
abbrev gi:av:= .pair dL dL
abbrev bO:=(Int×List Int)×(Int×List Int)
abbrev bN (a:bO):af:= .agg [iv a.1.1, .bu true aG a.1.2,iv a.2.1, .bu true aG a.2.2]
abbrev uI:fS:= .blk (.cells 85 [iv 0, .raw (.slice none 0 0),iv 0, .raw (.slice none 0 0)] true false false)
def sN (a b:aC):bI:={n:=34,sl:=[(2, .ptr 64 0),(3, .ptr 65 0),(4, .ptr 66 0)],bH:=[(64,eW a),(65,eW b),(66,uI)],next:=67}
def Bd:=a7 [we,yl,GU,GV]
section
variable (a b:aC)
def alh (h1:(ay b)=true) (h2:gP b<0) (h3:(ay a)=true):
  c7 Bd (fl va []) 3 34 [aB a,aB b] 3 .normal s3 (sN (e8 a) (e8 b)):=
 wy [aa h1,ah h2,aa (aD (v:=aB a)),aa h3,aa (aD (v:=aB b))] 74173132929
def ali (h1:(ay b)=true) (h2:¬gP b<0):
  c7 Bd (fl va []) 3 34 [aB a,aB b] 2 .normal s3 (sN a b):=
 wy [aa h1,aF h2] 129
def alj (h1:b.2.isEmpty=true) (h2:b.1=1):
  bS Bd ((fl va []).drop 3) (sN a b) 63 f83 false (bN (a,b)):=
 wy [aa (aL (aL (h1))),aa (aL (h1)),cM h2] 50860097
def alk (h1:b.2.isEmpty=true) (h2:¬b.1=1) (h3:(ay a&&ay b)=true) (h4:(fI a (eJ a b))=true) (h5:(fI b (eJ a b))=true):
  bS Bd ((fl va []).drop 3) (sN a b) 47 f83 false (bN (fH a (eJ a b),fH b (eJ a b))):=
 wy [aa (aL (aL (h1))),aa (aL (h1)),yn h2,aa h3,aa (aD (v:=aB a)),aa (aD (v:=aB (eJ a b))),aa h4,aa (aD (v:=aB b)),aa h5] 2748869384372188533493825
def alm (h1:b.2.isEmpty=false) (h2:(ay a&&ay b)=true) (h3:(fI a (eJ a b))=true) (h4:(fI b (eJ a b))=true):
  bS Bd ((fl va []).drop 3) (sN a b) 32 f83 false (bN (fH a (eJ a b),fH b (eJ a b))):=
 wy [aa (aL (aL (h1))),aa (aL (h1)),aa h2,aa (aD (v:=aB a)),aa (aD (v:=aB (eJ a b))),aa h3,aa (aD (v:=aB b)),aa h4] 2441840604787520773296193
noncomputable def Be:(Int×List Int)×(Int×List Int):=if iF b&&(b.1==1)then(a,b)else(fH a (eJ a b),fH b (eJ a b))
noncomputable def dF:(Int×List Int)×(Int×List Int):=if gP b<0 then Be (e8 a) (e8 b)else Be a b
end
def DC:=IN 83 [dL,dL] [gi] false (fun d=>fI d.1 d.2.1) fun d=>(dF d.1 d.2.1,())
def Vg:bD prog (bF Bd):=cN (aQ yq (aQ AH (aQ zp (aQ MT dW))))
def He (a b:aC):aj (eJ a b)=(Int.gcd (aj a) (aj b):Int):=val_mk _
def Vh {n:Nat} {a b:aC} (g:aZ n b=true) (hn:1<=n) (hb:aj b≠0):aZ n (eJ a b)=true:=by
 have h1:=iY g hn;have h2:((Int.gcd (aj a) (aj b):Nat):Int)<=((aj b).natAbs:Int):=by
  have:Int.gcd (aj a) (aj b)<=(aj b).natAbs:=Nat.gcd_le_right _ (by omega);omega
 exact(jJ (by rw [Int.natAbs_natCast];omega)).1
def aln {a b:aC} (h:ay a=true) (g:ay b=true) (hb:aj b≠0):fI a (eJ a b)=true/\fI b (eJ a b)=true:=by
 have h0:0<Int.gcd (aj a) (aj b):=Int.gcd_pos_of_ne_zero_right _ hb;have h1:aj (eJ a b)≠0:=by rw [He];omega
 have h2:ay (eJ a b)=true:=Vh g (by decide) hb;exact⟨yI.2 ⟨h,h2,h1⟩,yI.2 ⟨g,h2,h1⟩⟩
def Vi {a:aC}:iF a=true↔a.2=[]:=by
 unfold iF;exact List.isEmpty_iff
section
variable (a b:aC) (h:ay a=true) (g:ay b=true) (hb:aj b≠0)
def xn (w:World) (F:Sv.Env):
  aW prog w F 34 ((fl va []).drop 3) (sN a b).T (sN a b).H (hJ prog false f83 (bN (Be a b))):=by
 have hS:=Vg;obtain⟨q1,aP⟩:=aln h g hb;have hab:(ay a&&ay b)=true:=by rw [h,g];rfl
 unfold Be;by_cases he:b.2.isEmpty=true
 .by_cases h1:b.1=1
  .rw [if_pos (by rw [show iF b=true from he,h1];rfl)];exact bY (s:=sN a b) hS (alj a b he h1)
  .rw [if_neg (by rw [show iF b=true from he];simpa using h1)];exact bY (s:=sN a b) hS (alk a b he h1 hab q1 aP)
 .rw [if_neg (by rw [show iF b=b.2.isEmpty from rfl];simp [he])];exact bY (s:=sN a b) hS (alm a b (by simpa using he) hab q1 aP)
def alo:Holds prog false 83 [aB a,aB b] (bN (dF a b)):=by
 have hS:=Vg;refine bL (c:=va) func83 rfl rfl fun w F=> ?_
 unfold dF;by_cases hs:gP b<0
 .rw [if_pos hs];refine cR hS 3 (alh a b g hs h) ?_;exact xn _ _ (oC h (by decide)) (oC g (by decide)) (by rw [nG];omega) w F
 .rw [if_neg hs];refine cR hS 3 (ali a b g hs) ?_;exact xn _ _ h g hb w F
end
def Hf:DC.Ok prog:=fun⟨a,b,_⟩ h=>by
 obtain⟨h1,h2,h3⟩:=yI.1 (show fI a b=true from h);exact alo a b h1 h2 h3
structure Bf (n:Nat) (q:bO) (x y:Int):Prop where
 o1:aZ n q.1=true
 o2:aZ n q.2=true
 pos:0<aj q.2
 low:Int.gcd (aj q.1) (aj q.2)=1
 val:aj q.1*y=x*aj q.2
section
variable {n:Nat} {a b:aC} (h:aZ n a=true) (g:aZ n b=true) (hn:1<=n)
def Vj (hb:0<aj b):Bf n (Be a b) (aj a) (aj b):=by
 unfold Be;split
 .rename_i hc;rw [ae]at hc;have hv:aj b=1:=by unfold aj;rw [if_pos (Vi.1 hc.1)];simpa using hc.2
  exact⟨h,g,hb,by show Int.gcd (aj a) (aj b)=1;rw [hv];exact Int.gcd_one,rfl⟩
 .have hg:0<Int.gcd (aj a) (aj b):=Int.gcd_pos_of_ne_zero_right _ (by omega);have Hg:=Vh (a:=a) g hn (by omega);have Hh:aj (eJ a b)≠0:=by rw [He];omega
  have e1:aj a=aj (eJ a b)*(aj a/(Int.gcd (aj a) (aj b):Int)):=by rw [He];exact(Int.mul_ediv_cancel' (Int.gcd_dvd_left _ _)).symm
  have e2:aj b=aj (eJ a b)*(aj b/(Int.gcd (aj a) (aj b):Int)):=by rw [He];exact(Int.mul_ediv_cancel' (Int.gcd_dvd_right _ _)).symm
  have v1:=Ux h Hg hn Hh e1;have v2:=Ux g Hg hn Hh e2;refine⟨zr h Hg hn Hh,zr g Hg hn Hh, ?_, ?_, ?_⟩
  .show 0<aj (fH b (eJ a b));rw [v2];exact Int.ediv_pos_of_pos_of_dvd hb (by omega) (Int.gcd_dvd_right _ _)
  .show Int.gcd (aj (fH a (eJ a b))) (aj (fH b (eJ a b)))=1;rw [v1,v2];exact Int.gcd_ediv_gcd_ediv_gcd hg
  .show aj (fH a (eJ a b))*aj b=aj a*aj (fH b (eJ a b));rw [v1,v2];generalize aj a/(Int.gcd (aj a) (aj b):Int)=x at*;generalize aj b/(Int.gcd (aj a) (aj b):Int)=y at*;grind
def DD (hb:aj b≠0):Bf n (dF a b) (aj a) (aj b):=by
 unfold dF;split
 .rename_i hs;have hs:=GW.1 hs;have:=Vj (oC h hn) (oC g hn) hn (by rw [nG];omega);refine⟨this.o1,this.o2,this.pos,this.low, ?_⟩;have hv:=this.val;rw [nG,nG]at hv;rw [Int.mul_neg,Int.neg_mul]at hv;omega
 .rename_i hs;have h0:¬aj b<0:=fun hh=>hs (GW.2 hh)
  exact Vj h g hn (by omega)
end
def Vk {x y u v:Int} (hy:0<y) (hv:0<v) (g1:Int.gcd x y=1) (g2:Int.gcd u v=1) (h:x*v=u*y):x=u/\y=v:=by
 have d1:y∣v:=by
  have h1:y.natAbs∣v.natAbs:=by
   refine Nat.Coprime.dvd_of_dvd_mul_left (k:=y.natAbs) (m:=x.natAbs) (n:=v.natAbs) ?_ ?_
   .show Nat.gcd _ _=1;rw [Nat.gcd_comm];exact g1
   .rw [<-Int.natAbs_mul,h,Int.natAbs_mul];exact Nat.dvd_mul_left _ _
  exact Int.natAbs_dvd_natAbs.1 h1
 have d2:v∣y:=by
  have h1:v.natAbs∣y.natAbs:=by
   refine Nat.Coprime.dvd_of_dvd_mul_left (k:=v.natAbs) (m:=u.natAbs) (n:=y.natAbs) ?_ ?_
   .show Nat.gcd _ _=1;rw [Nat.gcd_comm];exact g2
   .rw [<-Int.natAbs_mul,<-h,Int.natAbs_mul];exact Nat.dvd_mul_left _ _
  exact Int.natAbs_dvd_natAbs.1 h1
 have e:=Int.dvd_antisymm (by omega) (by omega) d1 d2;subst e;exact⟨Int.eq_of_mul_eq_mul_right (by omega) h,rfl⟩
end
end Go.Proofs.YtibikmmdbdlafaaGreatDoor
