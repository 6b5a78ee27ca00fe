/- Words for the cards of the statements about gears: what the laid condition and the world's shape give; pairs of numbers that came in. -/
import Derived.Test.YtjcbbabaabcdgaaGreatDoorRows
import Derived.Test.YtjcbbabaabcdgaaGreatDoorZrVBas
import Derived.WalkKit
import Derived.ProofKit
import Derived.LaidMore
import Derived.OpenShut
import Derived.ChangeOld
import Derived.Below
import Derived.Stop.Joined
import Derived.SevenTiedAt
import Derived.SizedLaws
import Derived.Shelf.Vars
import Derived.Lib.LaidTab
import Derived.Shelf.Strings.Builder1
import Derived.Shelf.Strings.Builder2
import Derived.Shelf.Small.Bits
import Derived.Shelf.Small.Wraps
import Derived.Shelf.Strings.BuilderF
import Derived.Shelf.Strconv.Atoi
import Derived.Shelf.Strconv.Itoa0
import Derived.Shelf.Strconv.Itoa1
import Derived.Shelf.LaysM
import Derived.Shelf.Strconv.Itoa2
import Derived.Shelf.Strconv.Itoa3
import Derived.Shelf.Strings.Search1
import Derived.Shelf.Strings.Search2
import Derived.Shelf.Strings.Cut
import Derived.Shelf.Strings.Shaped
import Derived.Shelf.Sort.Plain
import Derived.Shelf.Strings.Prefix
import Derived.Shelf.Bits.Mul64
import Derived.Shelf.Strings.Repeat
import Derived.Shelf.Slices.Turned
import Derived.Ground.Names2Prog
import Derived.Shelf.Slices.Clone
import Derived.Shelf.Slices.SearchI
import Derived.Shelf.Slices.Delete
import Derived.Shelf.Slices.Cells
import Derived.Shelf.Slices.In.SortNone
import Derived.Test.YtjcbbabaabcdgaaGreatDoorProg
import Derived.Lib.RowBridge
import Derived.Test.YtjcbbabaabcdgaaGreatDoorZrSvDraw6
import Derived.RangeFuncNested
import Derived.Maps.RangeRun
import Derived.Sort.MapsRangeIn
import Derived.RegionIn
import Derived.OwnWalkIn
import Derived.Maps.OwnIn
import Derived.WalkSmall
import Derived.Laws.AppendOwn
namespace Go.Proofs.YtjcbbabaabcdgaaGreatDoor
open Go.ChangeShapes Go.WideShapes Go.ChangeAt Go.RowKit Sv
set_option linter.unusedVariables false
theorem gPow:Tryz.prog.globalNamed "internal/strconv.uint64pow10" =some 3:=by kernel_rfl
theorem tOwn:ownKnob Tryz.prog.godebug=none:=by kernel_rfl
theorem tLaidOut:laidOutB Tryz.prog=true:=by kernel_rfl
abbrev tLaid:List (String×DataW Unit):=[("math/bits.deBruijn32tab",Rows.laid_math_bits_deBruijn32tab),("math/bits.deBruijn64tab",Rows.laid_math_bits_deBruijn64tab),("internal/strconv.uint64pow10",Rows.laid_internal_strconv_uint64pow10),("strconv.ErrRange",Rows.laid_strconv_ErrRange),("strconv.ErrSyntax",Rows.laid_strconv_ErrSyntax)]
theorem door_met (os:Os) (args:Array Value):laidMetH Tryz.prog tLaid ((World.doorLaid Tryz.prog 400 os).forCall (fun _ _=>0) ⟨#[],args,[]⟩).memory:=
 laidMetH_of_parts3 (fuel:=8) (laidMet_of_run' 8 (by kernel_rfl) (by kernel_rfl)) (by kernel_rfl) (by kernel_rfl)
theorem tPow:(Rows.laid_internal_strconv_uint64pow10:DataW Unit)=Lib.tabData .u64 Lib.pow10Tab:=by rfl
theorem tPowT:(Tryz.prog.globals[3]?).map (·.type)=some 268:=by kernel_rfl
theorem tab_of_laid {W:World} (h:laidMetH Tryz.prog tLaid W):Lib.TabIs Tryz.prog W "internal/strconv.uint64pow10" .u64 Lib.pow10Tab:=by
 rw [MakeChecks.laidMetH_plain _ _ _ (by kernel_rfl)]at h
 obtain⟨ps,⟨g0,t0,cs0,f0,p0,q0,_,_,_,_,⟨g1,t1,cs1,f1,p1,q1,_,_,_,_,⟨g2,t2,cs2,f2,p2,q2,hg2,ht2,hv2,hd2,_,_⟩,_⟩,_⟩,_⟩:=h
 obtain rfl:=Option.some.inj (gPow.symm.trans hg2)
 obtain rfl:=Option.some.inj (tPowT.symm.trans ht2)
 rw [tPow]at hd2
 unfold Lib.TabIs
 rw [hv2,←Lib.cells_of_tab Tryz.underlying268 Tryz.underlying168 (by kernel_rfl) (by kernel_rfl) hd2]
theorem wrap_and_shaped {H:Type} {enc:TypeId×Value→H} {a:Assume} {C:Checked} {os:Os} {f:FuncId} {fn:Func} {s:ChangeSpec} {conds:List PathCond} {apart fresh handsOn again:Bool} {X:World→Array Value→Prop}
  (hX:∀(w w':World) (args:Array Value),w.heap=w'.heap→X w args→X w' args)
  (own:ownKnob C.prog.godebug=none) (started:os.Started) (noInit:C.prog.inits.idxOf? f=none) (hfn:C.prog.funcs[f]? =some fn)
  (witness:∃(w:World) (tape:Tape) (i:Input),w.os=os∧(w.forCall tape i).Shaped C.prog∧i.vars=[]∧Input.okWide C.prog (w.forCall tape i) .any w.heap.size f i∧
    ((s.pre enc C.prog fn conds apart (w.forCall tape i).memory i.args∧X (w.forCall tape i).memory i.args)∧sizedMet enc C.prog fn (OpenSpec.ofChange s) apart (w.forCall tape i).memory i.args)∧a.holds C.prog (lone (Frame.enter C.prog f i.args .normal) [] (w.forCall tape i)))
  (contract:∀(W:World) (base:Nat) (args:Array Value) (ds gs:List (DataW H)) (before:List MemPlace),
    (∀(j:Nat) t v,fn.params[j]? =some t→args[j]? =some v→Value.okWide C.prog W .any base t v)→
    DataW.Whole enc C.prog fn.params.toList s.vars apart W args.toList ds gs before→
    conds.all (PathCond.test C.prog ⟨fn.params.toList,ds,s.plain.varTypes C.prog,gs⟩)=true→
    (DataW.weightsEach C.prog (fn.params.toList++s.plain.varTypes C.prog) (ds++gs)).all (· ≤reachBytes)=true→X W args→W.ShapedOpen C.prog→
    a.holds C.prog (lone (Frame.enter C.prog f args .normal) [] W)→
    Calls C.prog f args W fun e W'=>∃v,e= .returned v∧s.post enc C.prog fn apart fresh handsOn again W args v W'):
  ReturnsInHanded a C os f .any (fun w args=>(s.pre enc C.prog fn conds apart w args∧X w args)∧sizedMet enc C.prog fn (OpenSpec.ofChange s) apart w args) (s.post enc C.prog fn apart fresh handsOn again):=by
 refine returnsInHanded_of_calls own started noInit witness ?_
 intro w tape i _ hsh _ hok hpre hholds
 obtain⟨_,_,_,fn',hfn',_,_,_,_,hval⟩:=hok
 have e:fn'=fn:=Option.some.inj (hfn'.symm.trans hfn)
 subst e
 obtain⟨⟨⟨ds,gs,before,hw,hc⟩,hx⟩,hz⟩:=hpre
 have hw':=DataW.Whole.of_heap (w':=w.forCall tape i) (by rfl) hw
 refine(contract (w.forCall tape i) w.heap.size i.args ds gs before hval hw' hc (hz.weights hw) (hX _ _ _ (by rfl) hx) hsh hholds).mono fun e W' ⟨v,he,hp⟩=> ?_
 subst he
 exact ChangeSpec.post_blind hp
def inF (w:World):Env:=⟨fun i=>if i<64 then some (i,0)else none,fun b=>if 0≤b then cellsOf? w b else none⟩
theorem inF_ok (w:World):OkF w (inF w):=by
 refine⟨fun i x h=> ?_,fun g hg=>⟨0,if_pos hg⟩,fun b A h=> ?_⟩
 ·have h:(if i<64 then some (i,0)else none)=some x:=h
  split at h
  ·assumption
  ·cases h
 ·have h:(if 0≤b then cellsOf? w b else none)=some A:=h
  rw [if_pos (Nat.zero_le _)]at h
  exact cellsOf?_some.1 h
theorem list_of {α:Type} {p:Nat→α→Prop}:∀{n:Nat},(∀i,i<n→∃x,p i x)→∃l:List α,l.length=n∧∀i x,l[i]? =some x→p i x
 |0,_=>⟨[],rfl,fun i x h=>by simp at h⟩
 |n+1,h=>by
  obtain⟨x,hx⟩:=h 0 (Nat.succ_pos n)
  obtain⟨l,h1,h2⟩:=list_of (p:=fun i=>p (i+1)) (n:=n) fun i hi=>h (i+1) (Nat.succ_lt_succ hi)
  refine⟨x::l,by simp [h1],fun i y hy=> ?_⟩
  cases i with
  |zero=>simp at hy;subst hy;exact hx
  |succ i=>exact h2 i y (by simpa using hy)
theorem addr_add (b off i:Nat):(⟨b,off,none⟩:Addr).add i=⟨b,off+i,none⟩:=by
 rcases Nat.eq_zero_or_pos i with rfl |hp
 ·rfl
 ·simp [Addr.add];omega
theorem cellsOf_lt {w:World} {b:Nat} {A:Array Value} (h:cellsOf? w b=some A):(inF w).fz b=some A:=by
 show(if 0≤b then cellsOf? w b else none)=some A
 rw [if_pos (Nat.zero_le _)];exact h
theorem grd_of {W:World} (h:laidMetH Tryz.prog tLaid W) (hs:W.ShapedOpen Tryz.prog):Sv.Grd (inF W):=by
 intro b p hp
 have hp:(if b=2 then some (fun A=>∃m,A= #[.int .i64 m])else if b=3 then some (fun A=>A=(Lib.pow10Tab.map fun z=>Value.int .u64 z).toArray)else none)=some p:=hp
 split at hp
 ·rename_i e
  subst e
  cases hp
  obtain⟨cs,hh,hz,_⟩:=hs.1 2 #[.int .i64 0] 3 (of_decide_eq_true (by kernel_rfl)) (by kernel_rfl)
  obtain⟨m,hm⟩:=Go.Proofs.cell_of_shapedOpen_int (zero:= #[.int .i64 0]) (t:=3) hs (of_decide_eq_true (by kernel_rfl)) (by kernel_rfl) rfl (by kernel_rfl) (by kernel_rfl) Tryz.underlying3
  refine⟨cs,cellsOf_lt (cellsOf?_some.2 ⟨_,_,hh⟩),m, ?_⟩
  have h1:cs.size=1:=hz
  have h2:cs[0]? =some (.int .i64 m):=by
   unfold World.cell? at hm
   rw [hh]at hm
   simpa using hm
  apply Array.ext_getElem?
  intro i
  cases i with
  |zero=>rw [h2];rfl
  |succ i=>rw [Array.getElem?_eq_none (by omega),Array.getElem?_eq_none (by simp)]
 ·split at hp
  ·rename_i e
   subst e
   cases hp
   have ht:=tab_of_laid h
   unfold Lib.TabIs World.var? at ht
   rw [gPow]at ht
   simp only [Option.bind_some]at ht
   split at ht
   ·rename_i cs e fr hh
    refine⟨cs,cellsOf_lt (cellsOf?_some.2 ⟨_,_,hh⟩), ?_⟩
    exact Option.some.inj ht
   ·cases ht
  ·cases hp
theorem call_true {f:FuncId} {args:List AV} (h:Holds Tryz.prog true f args (bv true)) {w:World} (hG:Sv.Grd (inF w)) {vs:List Value} (hd:Dens (inF w) args vs):Calls Tryz.prog f vs.toArray w fun e w'=>e= .returned (.bool true)∧Below w.heap.size w w':=
 (h w (inF w) vs (inF_ok w) hG hd).mono fun e w' ⟨x,F',h1,h2,_,_,h5⟩=>by
   rw [h2.raw_eq]at h1
   exact⟨h1,h5⟩
abbrev tPr:Ty:= .pair (.int .i64) (.int .i64)
theorem pairs_den {w:World} {b off c:Nat}:∀(l:List (Int×Int)),0<l.length→(∀i p,l[i]? =some p→w.cell? ⟨b,off+i*2,none⟩=some (.int .i64 p.1)∧w.cell? ⟨b,off+i*2+1,none⟩=some (.int .i64 p.2))→l.length≤c→Den (inF w) (.lst false tPr l) (.slice (some ⟨b,off,none⟩) l.length c):=by
 intro l hpos h hc
 have cellsAre:∃Arr e fr,w.heap[b]? =some (.cells Arr e fr):=by
  have h0:=(h 0 l[0] (List.getElem?_eq_getElem hpos)).1
  cases ho:w.heap[b]? with
  |none=>simp [World.cell?,ho]at h0
  |some o=>
   cases o with
   |cells Arr e fr=>exact⟨_,_,_,rfl⟩
   |_=>simp [World.cell?,ho]at h0
 obtain⟨Arr,e,fr,ho⟩:=cellsAre
 have rd:∀o v,w.cell? ⟨b,o,none⟩=some v→Arr[o]? =some v:=fun o v hv=>by
  unfold World.cell? at hv
  rw [ho]at hv
  simpa using hv
 have flat:∀(l:List (Int×Int)) (o:Nat),(∀i p,l[i]? =some p→Arr[o+i*2]? =some (.int .i64 p.1)∧Arr[o+i*2+1]? =some (.int .i64 p.2))→Dens (inF w) (tPr.flat l) ((Arr.toList.drop o).take (2*l.length))∧(l≠[]→o+2*l.length≤Arr.size):=by
  intro l
  induction l with
  |nil=>intro o _;exact⟨by rw [show(Arr.toList.drop o).take (2*([]:List (Int×Int)).length)=[] by simp];exact .nil,fun h=>absurd rfl h⟩
  |cons p r ih=>
   intro o hl
   obtain⟨g1,g2⟩:=hl 0 p rfl
   simp only [Nat.zero_mul,Nat.add_zero]at g1 g2
   have hr:=ih (o+2) fun i q hq=>by
    have:=hl (i+1) q (by simpa using hq)
    rw [show o+(i+1)*2=o+2+i*2 by omega]at this
    exact this
   have s1:=(Array.getElem?_eq_some_iff.1 g1).1
   have s2:=(Array.getElem?_eq_some_iff.1 g2).1
   have d1:Arr.toList.drop o= .int .i64 p.1:: .int .i64 p.2::Arr.toList.drop (o+2):=by
    rw [List.drop_eq_getElem_cons (by simpa using s1),List.drop_eq_getElem_cons (by simpa using s2)]
    have e1:Arr.toList[o]'(by simpa using s1)= .int .i64 p.1:=by
     have:=(Array.getElem?_eq_some_iff.1 g1).2
     simpa using this
    have e2:Arr.toList[o+1]'(by simpa using s2)= .int .i64 p.2:=by
     have:=(Array.getElem?_eq_some_iff.1 g2).2
     simpa using this
    rw [e1,e2]
   refine⟨?_,fun _=> ?_⟩
   ·rw [d1,show 2*(p::r).length=2*r.length+1+1 by simp;omega,List.take_succ_cons,List.take_succ_cons]
    exact .cons (.raw _) (.cons (.raw _) hr.1)
   ·by_cases h0:r=[]
    ·subst h0;simp;omega
    ·have:=hr.2 h0;simp;omega
 have hf:=flat l off fun i p hp=>⟨rd _ _ (h i p hp).1,rd _ _ (h i p hp).2⟩
 have hlen:(tPr.flat l).length=2*l.length:=by rw [tPr.flat_len];show l.length*2=_;omega
 refine .lst (A:=Arr) (b:=b) (off:=off) (cellsOf_lt (cellsOf?_some.2 ⟨e,fr,ho⟩)) ?_ rfl ?_ hc fun e=>by cases e
 ·rw [hlen];exact hf.2 fun e=>by rw [e]at hpos;cases hpos
 ·rw [hlen];exact hf.1
set_option maxRecDepth 100000 in
theorem open_wheels {H:Type} {enc:TypeId×Value→H} {W:World} {base:Nat} {v:Value} {d:DataW H} {p:List MemPlace} (hv:Value.okWide Tryz.prog W .any base 54 v)
  (h:DataW.Trod enc Tryz.prog W 0 (fun _=>true) true 54 v d p):∃l:List (Int×Int),Den (inF W) (.lst false tPr l) v:=by
 obtain⟨a,len,cap,rfl⟩:=okWide_slice Tryz.underlying54 hv
 obtain⟨fuel,hf⟩:=h
 have c2:Tryz.prog.cellsOf 117=2:=by kernel_rfl
 have c1:Tryz.prog.cellsOf 3=1:=by kernel_rfl
 rcases DataW.trod_slice Tryz.underlying54 hf with⟨hcs,hx⟩|⟨a',len',cap',elems,rest,n,_,hcs,hx,hcap,hl,_,hlen,hel,_,_⟩
 ·simp [Value.cells]at hcs
  obtain⟨rfl,rfl,rfl⟩:=hcs
  exact⟨[], .lstNil fun e=>by cases e⟩
 ·simp [Value.cells]at hcs
  obtain⟨rfl,rfl,rfl⟩:=hcs
  rw [c2]at hel
  have each:∀i,i<len→∃q:Int×Int,W.cell? (a'.add (i*2))=some (.int .i64 q.1)∧W.cell? ((a'.add (i*2)).add 1)=some (.int .i64 q.2):=by
   intro i hi
   have hy:elems[i]? =some (elems[i]'(by omega)):=List.getElem?_eq_getElem (by omega)
   have hb:=hel i hi
   rw [hy,Option.bind_eq_some_iff]at hb
   obtain⟨cs,g1,g2⟩:=hb
   obtain⟨_,gl,gc⟩:=World.cells?_some g1
   obtain⟨y0,y1,m,he,hcl,t0,t1⟩:=trod_struct2 Tryz.underlying117 g2
   match cs,gl with
   |[u0,u1],_=>
    obtain⟨z,e0,_,w0⟩:=DataW.trod_int Tryz.underlying3 (show DataW.trod enc Tryz.prog W 0 _ true m 3 [u0]=some y0 by simpa [c1]using t0)
    obtain⟨z1,e1,_,w1⟩:=DataW.trod_int Tryz.underlying3 (show DataW.trod enc Tryz.prog W 0 _ true m 3 [u1]=some y1 by simpa [c1]using t1)
    simp at e0 e1
    subst e0;subst e1
    exact⟨⟨z,z1⟩,by simpa [Addr.add]using gc 0 (by omega),by simpa using gc 1 (by omega)⟩
  obtain⟨l,hl1,hl2⟩:=list_of each
  by_cases h0:len=0
  ·subst h0
   obtain rfl:=List.length_eq_zero_iff.1 hl1
   exact⟨[], .lstNil fun e=>by cases e⟩
  ·obtain⟨b,off,spot⟩:=a'
   obtain⟨q,hq⟩:∃q,l[0]? =some q:=⟨_,List.getElem?_eq_getElem (by omega)⟩
   have hspot:spot=none:=by simpa [Addr.add]using World.cell?_spot (hl2 0 q hq).1
   subst hspot
   refine⟨l, ?_⟩
   rw [←hl1]
   refine pairs_den l (by omega) (fun i p hp=> ?_) (by omega)
   have:=hl2 i p hp
   rw [addr_add,addr_add]at this
   exact this
set_option maxRecDepth 100000 in
theorem open_pairs {H:Type} {enc:TypeId×Value→H} {W:World} {base:Nat} {v:Value} {d:DataW H} {p:List MemPlace} (hv:Value.okWide Tryz.prog W .any base 22 v)
  (h:DataW.Trod enc Tryz.prog W 0 (fun _=>true) true 22 v d p):∃l:List (Int×Int),Den (inF W) (.lst false tPr l) v:=by
 obtain⟨a,len,cap,rfl⟩:=okWide_slice Tryz.underlying22 hv
 obtain⟨fuel,hf⟩:=h
 have c2:Tryz.prog.cellsOf 60=2:=by kernel_rfl
 have c1:Tryz.prog.cellsOf 3=1:=by kernel_rfl
 rcases DataW.trod_slice Tryz.underlying22 hf with⟨hcs,hx⟩|⟨a',len',cap',elems,rest,n,_,hcs,hx,hcap,hl,_,hlen,hel,_,_⟩
 ·simp [Value.cells]at hcs
  obtain⟨rfl,rfl,rfl⟩:=hcs
  exact⟨[], .lstNil fun e=>by cases e⟩
 ·simp [Value.cells]at hcs
  obtain⟨rfl,rfl,rfl⟩:=hcs
  rw [c2]at hel
  have each:∀i,i<len→∃q:Int×Int,W.cell? (a'.add (i*2))=some (.int .i64 q.1)∧W.cell? ((a'.add (i*2)).add 1)=some (.int .i64 q.2):=by
   intro i hi
   have hy:elems[i]? =some (elems[i]'(by omega)):=List.getElem?_eq_getElem (by omega)
   have hb:=hel i hi
   rw [hy,Option.bind_eq_some_iff]at hb
   obtain⟨cs,g1,g2⟩:=hb
   obtain⟨_,gl,gc⟩:=World.cells?_some g1
   obtain⟨y0,y1,m,he,hcl,t0,t1⟩:=trod_struct2 Tryz.underlying60 g2
   match cs,gl with
   |[u0,u1],_=>
    obtain⟨z,e0,_,w0⟩:=DataW.trod_int Tryz.underlying3 (show DataW.trod enc Tryz.prog W 0 _ true m 3 [u0]=some y0 by simpa [c1]using t0)
    obtain⟨z1,e1,_,w1⟩:=DataW.trod_int Tryz.underlying3 (show DataW.trod enc Tryz.prog W 0 _ true m 3 [u1]=some y1 by simpa [c1]using t1)
    simp at e0 e1
    subst e0;subst e1
    exact⟨⟨z,z1⟩,by simpa [Addr.add]using gc 0 (by omega),by simpa using gc 1 (by omega)⟩
  obtain⟨l,hl1,hl2⟩:=list_of each
  by_cases h0:len=0
  ·subst h0
   obtain rfl:=List.length_eq_zero_iff.1 hl1
   exact⟨[], .lstNil fun e=>by cases e⟩
  ·obtain⟨b,off,spot⟩:=a'
   obtain⟨q,hq⟩:∃q,l[0]? =some q:=⟨_,List.getElem?_eq_getElem (by omega)⟩
   have hspot:spot=none:=by simpa [Addr.add]using World.cell?_spot (hl2 0 q hq).1
   subst hspot
   refine⟨l, ?_⟩
   rw [←hl1]
   refine pairs_den l (by omega) (fun i p hp=> ?_) (by omega)
   have:=hl2 i p hp
   rw [addr_add,addr_add]at this
   exact this
end Go.Proofs.YtjcbbabaabcdgaaGreatDoor
/- Functions of Go's library that are handed a row of integers of the run's own: what their contracts say of the memory, for the symbolic runner. -/
namespace Go.Proofs.YtjcbbabaabcdgaaGreatDoor
open Go.RowKit Sv
set_option linter.unusedSectionVars false
set_option linter.unusedVariables false
noncomputable section
abbrev tIn:Ty:= .int .i64
abbrev icv (l:List Int):List Value:=l.map (Value.int .i64)
inductive WK|unit|row|int
structure WCtr where
 f:FuncId
 e:TypeId
 k:WK
 nl:Bool
 pre:List Int→Nat→List Int→Bool
 out:List Int→Nat→List Int→List Int
 ln:List Int→Nat→List Int→Nat
 val:List Int→Nat→List Int→Int
def wVal (k:WK) (g n kc:Nat) (v:Int):Value:=match k with | .unit=> .tuple #[]| .row=> .slice (some ⟨g,0,none⟩) n kc| .int=> .int .i64 v
def wRes (k:WK) (e:TypeId) (i n:Nat) (cap:Cap) (v:Int):AV:=match k with | .unit=> .tuple []| .row=> .osl e tIn i 0 n cap| .int=> .raw (.int .i64 v)
def WCtr.Ok (P:Program) (c:WCtr):Prop:=(c.nl=true→∀(p:Option Addr) (cap:Nat) (w:World),Calls P c.f #[.slice p 0 cap] w fun e w'=>e= .returned (.tuple #[])∧w'=w)∧∀(xs:List Int) (len:Nat) (us:List Int),c.pre xs len us=true→1≤len→len≤xs.length→(c.out xs len us).length=xs.length∧c.ln xs len us≤len∧
 ∀(w:World) (g kc:Nat) (cur:Array Value),w.heap[g]? =some (.cells cur c.e (0,0))→cur.toList.take xs.length=icv xs→len≤kc→
  Calls P c.f (Value.slice (some ⟨g,0,none⟩) len kc::icv us).toArray w fun e w'=>e= .returned (wVal c.k g (c.ln xs len us) kc (c.val xs len us))∧w.grownBy w' (some g)∧
   ∃cur',w'.heap[g]? =some (.cells cur' c.e (0,0))∧cur'.size=cur.size∧cur'.toList.take xs.length=icv (c.out xs len us)
def Sv.intsOf:List AV→Option (List Int)
 |[]=>some []
 | .raw (.int .i64 x)::r=>(match Sv.intsOf r with |some l=>some (x::l)|none=>none)
 |_=>none
def Sv.nilB (us:List Int):Bool:=match us with |[]=>true|_=>false
def wctrV (c:WCtr) (args:List AV) (H:AHeap):Tst VR:=match args with
 | .osl e t i k len cap::vs=>(match Nat.beq e c.e&&decide (t=tIn)with
   |true=>(match intsOf vs with
    |some us=> .ask (Nat.beq len 0) fun z=>match z with
     |true=> .must (c.nl&&Sv.nilB us) (.ret (.ok (.tuple []) H))
     |false=> .must (Nat.beq k 0&&(ownHas c.e tIn (H.get i) (len-1)&&Nat.ble 1 len)) (.must (c.pre (blkXs tIn (H.get i)) len us)
      (.ret (.ok (wRes c.k c.e i (c.ln (blkXs tIn (H.get i)) len us) cap (c.val (blkXs tIn (H.get i)) len us)) (H.set i (.own c.e tIn (c.out (blkXs tIn (H.get i)) len us))))))
    |none=> .ret .no)
   |false=> .ret .no)
 |_=> .ret .no
def wctrs (l:List WCtr) (SV:VCaller):VCaller:=fun f args H=>match l with
 |[]=>SV f args H
 |c::l=>match Nat.beq f c.f with |true=>wctrV c args H|false=>wctrs l SV f args H
--{
theorem flat_ic {ρ:Env}:∀{xs:List Int} {ys:List Value},Dens ρ (tIn.flat xs) ys→ys=icv xs
 |[],ys,h=>by cases h;rfl
 |x::r,ys,h=>by
  have h:Dens ρ (AV.raw (.int .i64 x)::tIn.flat r) ys:=h
  cases h with
  |cons h1 h2=>rw [h1.raw_eq,flat_ic h2];rfl
theorem ic_flat {ρ:Env}:∀(xs:List Int),Dens ρ (tIn.flat xs) (icv xs)
 |[]=> .nil
 |x::r=> .cons (.raw _) (ic_flat r)
theorem flatI_len (xs:List Int):(tIn.flat xs).length=xs.length:=by rw [Ty.flat_len];exact Nat.mul_one _
theorem Sv.intsOf_den {ρ:Env}:∀{vs:List AV} {us:List Int} {xs:List Value},intsOf vs=some us→Dens ρ vs xs→xs=icv us
 |[],us,xs,h,hd=>by cases h;cases hd;rfl
 |v::r,us,xs,h,hd=>by
  unfold intsOf at h
  split at h
  ·contradiction
  ·rename_i x l heq
   cases heq
   split at h
   ·rename_i l2 h2
    cases h
    cases hd with
    |cons h1 h3=>rw [h1.raw_eq,Sv.intsOf_den h2 h3];rfl
   ·cases h
  ·cases h
theorem wctrV_inv {c:WCtr} {args:List AV} {H:AHeap} {v:AV} {H':AHeap} (h:(wctrV c args H).gr=some (.ok v H')):(c.nl=true∧v= .tuple []∧H'=H∧∃i k cap,args=[.osl c.e tIn i k 0 cap])∨∃i len cap vs us xs,args= .osl c.e tIn i 0 len cap::vs∧intsOf vs=some us∧H.get i=some (.own c.e tIn xs)∧1≤len∧len≤xs.length∧c.pre xs len us=true∧
  v=wRes c.k c.e i (c.ln xs len us) cap (c.val xs len us)∧H'=H.set i (.own c.e tIn (c.out xs len us)):=by
 unfold wctrV at h
 split at h
 ·rename_i e t i k len cap vs
  split at h
  ·rename_i he
   rw [Bool.and_eq_true]at he
   obtain rfl:=Nat.eq_of_beq_eq_true he.1
   obtain rfl:=of_decide_eq_true he.2
   split at h
   ·rename_i us ha
    cases hz:Nat.beq len 0 with
    |true=>
     obtain rfl:=Nat.eq_of_beq_eq_true hz
     rw [show Nat.beq 0 0=true from rfl]at h
     cases hn:(c.nl&&Sv.nilB us)with
     |false=>simp [Tst.gr,hn]at h
     |true=>
      simp only [Tst.gr,hn,cond_true,Option.some.injEq,VR.ok.injEq]at h
      rw [Bool.and_eq_true]at hn
      have hu:us=[]:=by
       cases us with
       |nil=>rfl
       |cons x r=>exact absurd hn.2 (by simp [Sv.nilB])
      subst hu
      have hv:vs=[]:=by
       cases vs with
       |nil=>rfl
       |cons v r=>
        unfold Sv.intsOf at ha
        split at ha
        ·contradiction
        ·split at ha<;>cases ha
        ·cases ha
      subst hv
      exact .inl ⟨hn.1,h.1.symm,h.2.symm,i,k,cap,rfl⟩
    |false=>
    rw [hz]at h
    refine .inr ?_
    cases hm:(Nat.beq k 0&&(ownHas c.e tIn (H.get i) (len-1)&&Nat.ble 1 len))with
    |false=>simp [Tst.gr,hm]at h
    |true=>
     simp only [Tst.gr,hm,cond_true]at h
     rw [Bool.and_eq_true,Bool.and_eq_true]at hm
     obtain⟨b1,b2⟩:=ownHas_some hm.2.1
     have b3:=Nat.le_of_ble_eq_true hm.2.2
     obtain rfl:=Nat.eq_of_beq_eq_true hm.1
     cases hp:c.pre (blkXs tIn (H.get i)) len us with
     |false=>simp [hp]at h
     |true=>
      simp only [hp,cond_true,Option.some.injEq,VR.ok.injEq]at h
      obtain⟨rfl,rfl⟩:=h
      exact⟨i,len,cap,vs,us,blkXs tIn (H.get i),rfl,ha,b1,b3,by omega,hp,rfl,rfl⟩
   ·cases h
  ·cases h
 ·cases h
theorem wctrV_ok {P:Program} {B:Nat} {ρ:Env} {H:AHeap} {w:World} {c:WCtr} (hc:c.Ok P) {args:List AV} {v:AV} {H':AHeap} (h:(wctrV c args H).gr=some (.ok v H')) {ys:List Value} (m:Nat) (hH:HDen P B ρ H w) (hd:Dens ρ args ys):CallsIn (FF none) m P c.f ys.toArray w (CallPost P B ρ H w v H'):=by
 rcases wctrV_inv h with⟨hn,rfl,rfl,i,k,cap,rfl⟩|⟨i,len,cap,vs,us,xs,rfl,ha,hi,hlen,hk,hp,rfl,rfl⟩
 ·have key:∀p kc,CallsIn (FF none) m P c.f [Value.slice p 0 kc].toArray w (CallPost P B ρ H' w (.tuple []) H'):=fun p kc=>by
   refine callsIn_wide.2 ((hc.1 hn p kc w).mono ?_)
   rintro e w' ⟨rfl,rfl⟩
   exact⟨_,ρ,rfl, .tuple .nil,hH,Stp.refl _ _ _⟩
  cases hd with
  |cons hd0 hds=>
   cases hds
   rcases hd0.osl_inv with⟨_,a,rfl⟩|⟨b,c0,kc,hr,hcap,hlk,rfl⟩
   ·exact key _ _
   ·exact key _ _
 obtain⟨ho,hln,hcall⟩:=hc.2 xs len us hp hlen hk
 cases hd with
 |cons hd0 hds=>
  rename_i x0 xr
  rw [Sv.intsOf_den ha hds]
  rcases hd0.osl_inv with⟨h0,_⟩|⟨b,c0,kc,hr,hcap,hlk,rfl⟩
  ·omega
  obtain⟨zs,q1,q2,q3,q4,q5,q6⟩:=own_at hH hi hr
  rw [flatI_len]at q2 q4
  have q2:=flat_ic q2
  have e0:(0:Nat)*tIn.size=0:=Nat.zero_mul _
  rw [e0]
  refine callsIn_wide.2 ((hcall w b kc zs q1 q2 hlk).mono ?_)
  rintro e w' ⟨rfl,hg,cur',p1,p2,p3⟩
  have hkeep:∀q,q<w.heap.size→q≠b→w'.heap[q]? =w.heap[q]? :=fun q hq hqb=>hg.block q hq (fun e=>hqb (by cases e;rfl))
  have hget:∀j q,(H.set i (.own c.e tIn (c.out xs len us))).get j=some q→∃q',H.get j=some q'∧q'.isRo=q.isRo:=fun j q hj=>by
   rw [AHeap.get_set]at hj
   by_cases hij:i=j
   ·subst hij
    rw [if_pos rfl]at hj
    cases hj
    exact⟨_,hi,rfl⟩
   ·rw [if_neg hij]at hj
    exact⟨q,hj,rfl⟩
  have hnf:∀bb AA,ρ.fz bb=some AA→bb≠b∧bb<w.heap.size:=fun bb AA hz=>by
   obtain⟨⟨ee,fr,k1⟩,k2⟩:=hH.fz bb AA hz
   refine⟨fun hbb=> ?_,(Array.getElem?_eq_some_iff.1 k1).1⟩
   subst hbb
   have:=k2 i _ c0 hi hr
   cases this
  have hres:Den ρ (wRes c.k c.e i (c.ln xs len us) cap (c.val xs len us)) (wVal c.k b (c.ln xs len us) kc (c.val xs len us)):=by
   cases hsl:c.k with
   |row=>
    have:=Den.osl (e:=c.e) (t:=tIn) (i:=i) (k:=0) (len:=c.ln xs len us) (cap:=cap) hr hcap (Nat.le_trans hln hlk)
    rw [e0]at this
    exact this
   |unit=>exact .tuple .nil
   |int=>exact .raw _
  obtain⟨bo,co,oo,o1,o2,o3,o4⟩:=hH.blk i _ hi
  rw [hr]at o1;cases o1
  refine⟨_,ρ,rfl,hres,⟨fun j q hj=> ?_,fun j j' q q' bb cj cj' hj hj' hrj hrj'=> ?_,fun j q hj=> ?_,Nat.le_trans hH.base hg.size,fun bb AA hz=> ?_⟩,
   ⟨Le.refl _,fun _ _=>rfl,Nat.le_refl _,hg.size,hg.os,hg.tape,hg.output,fun q hq hno=> ?_,fun q hq ⟨j,q2,cj,hj,hro,hrj⟩=> ?_,fun q hq ⟨j,q2,cj,hj,hrj⟩=> ?_,fun _ _ h=> .inl h⟩⟩
  ·rw [AHeap.get_set]at hj
   by_cases hij:i=j
   ·subst hij
    rw [if_pos rfl]at hj
    cases hj
    refine⟨b,c0,_,hr,p1,⟨⟨cur',(0,0),rfl,fun _=>rfl, ?_,fun hx=>(by cases hx),fun _=>⟨b,c0,hr,by rw [p2,q3]⟩⟩,q5,q6⟩,fun _=>o4 rfl⟩
    rw [flatI_len,ho,p3]
    exact ic_flat _
   ·rw [if_neg hij]at hj
    obtain⟨bj,cj,oj,k1,k2,k3,k4⟩:=hH.blk j q hj
    have hne:bj≠b:=fun hbb=>hij (hH.inj i j _ _ b c0 cj hi hj hr (by rw [←hbb];exact k1))
    exact⟨bj,cj,oj,k1,(hkeep bj (Array.getElem?_eq_some_iff.1 k2).1 hne).trans k2,k3,k4⟩
  ·obtain⟨q1,g1,_⟩:=hget j q hj
   obtain⟨q2,g2,_⟩:=hget j' q' hj'
   exact hH.inj j j' _ _ bb cj cj' g1 g2 hrj hrj'
  ·obtain⟨q1,g1,_⟩:=hget j q hj
   exact hH.lt j _ g1
  ·obtain⟨hnb,hlt⟩:=hnf bb AA hz
   obtain⟨⟨ee,fr,k1⟩,k2⟩:=hH.fz bb AA hz
   refine⟨⟨ee,fr,(hkeep bb hlt hnb).trans k1⟩,fun j q cj hj hrj=> ?_⟩
   obtain⟨q',g1,g2⟩:=hget j q hj
   rw [←g2]
   exact k2 j q' cj g1 hrj
  ·exact hkeep q hq fun hqb=>hno ⟨i,_,c0,hi,rfl,by rw [hqb];exact hr⟩
  ·obtain⟨q',g1,g2⟩:=hget j q2 hj
   exact⟨j,q',cj,g1,g2.trans hro,hrj⟩
  ·obtain⟨q',g1,_⟩:=hget j q2 hj
   exact⟨j,q',cj,g1,hrj⟩
theorem wctrs_some {SV:VCaller} {f:FuncId} {args:List AV} {H:AHeap} {v:AV} {H':AHeap}:∀{l:List WCtr},(wctrs l SV f args H).gr=some (.ok v H')→(∃c∈l,c.f=f∧(wctrV c args H).gr=some (.ok v H'))∨(SV f args H).gr=some (.ok v H')
 |[],h=> .inr h
 |c::l,h=>by
  unfold wctrs at h
  cases hb:Nat.beq f c.f with
  |true=>simp only [hb]at h;exact .inl ⟨c,List.mem_cons_self,(Nat.eq_of_beq_eq_true hb).symm,h⟩
  |false=>
   simp only [hb]at h
   rcases wctrs_some h with⟨c',h1,h2⟩|h1
   ·exact .inl ⟨c',List.mem_cons_of_mem _ h1,h2⟩
   ·exact .inr h1
theorem wctrs_ok {P:Program} {l:List WCtr} {SV:VCaller} (hl:∀c∈l,c.Ok P) (hS:CallOk P (gS SV)):CallOk P (gS (wctrs l SV)) where
 mono f args H v H' h:=by
  rcases wctrs_some (gS_some h)with⟨c,_,_,h3⟩|h3
  ·rcases wctrV_inv h3 with⟨_,_,rfl,_⟩|⟨_,_,_,_,_,_,_,_,_,_,_,_,_,rfl⟩
   ·exact Nat.le_refl _
   ·exact Nat.le_refl _
  ·exact hS.mono f args H v H' (by unfold gS;rw [h3];rfl)
 sim f args H v H' h B ρ xs w m hH hG hd hf:=by
  rcases wctrs_some (gS_some h)with⟨c,h1,rfl,h3⟩|h3
  ·exact wctrV_ok (hl c h1) h3 m hH hd
  ·exact hS.sim f args H v H' (by unfold gS;rw [h3];rfl) B ρ xs w m hH hG hd hf
--}
end
end Go.Proofs.YtjcbbabaabcdgaaGreatDoor
/-
  DERIVED: THE SHELF's CONTRACTS AT THIS DUMP, IN PLAIN WORDS (tools/lay-plain.mjs out of 'TryzShelf.lean', which tools/lay-shelf.mjs wrote): THE SAME DECLARATIONS UNDER THE SAME NAMES: 'import', 'namespace', 'open', 'def', 'theorem' AND NOTHING ELSE: no command of the shelf's: FOR A HAND-IN. Each laying: the table of numbers ('.._ren') and one theorem, a field a fact of the dump's own or the kernel's comparison; each contract: ONE APPLICATION.
-/
namespace Go.Proofs
open Go.Shelf
def Tryz.lays134_ren:Go.Shelf.Ren:=⟨fun |134=>214|129=>179|n=>n,fun |53=>168|3=>3|4=>4|46=>148|5=>5|9=>9|n=>n,fun |n=>n⟩
theorem Tryz.lays134:Go.Proofs.Lays.n134 Tryz.prog Tryz.lays134_ren:={
 mixed:=by kernel_rfl
 f129:=Tryz.func179.trans (congrArg some (by kernel_rfl))
 f134:=Tryz.func214.trans (congrArg some (by kernel_rfl))
 t3:=Tryz.underlying3
 a3:=Tryz.isAgg3
 z3:=Tryz.sizeOf3
 v3:=Tryz.zeroValue3
 t4:=Tryz.underlying4
 a4:=Tryz.isAgg4
 z4:=Tryz.sizeOf4
 v4:=Tryz.zeroValue4
 t5:=Tryz.underlying5
 a5:=Tryz.isAgg5
 z5:=Tryz.sizeOf5
 v5:=Tryz.zeroValue5
 t9:=Tryz.underlying9
 a9:=Tryz.isAgg9
 z9:=Tryz.sizeOf9
 v9:=Tryz.zeroValue9
 t46:=Tryz.underlying148
 a46:=Tryz.isAgg148
 z46:=Tryz.sizeOf148
 v46:=Tryz.zeroValue148
 t53:=Tryz.underlying168
 a53:=Tryz.isAgg168
 z53:=Tryz.sizeOf168
 v53:=Tryz.zeroValue168}
theorem Tryz.bits_LeadingZeros64 (x:Int) (w:World) (h0:0≤x) (h1:x≤18446744073709551615):
  Calls Tryz.prog 214 #[.int .u64 x] w fun e w'=>e= .returned (.int .i64 (64-(Lib.bitLen x.toNat:Int)))∧w'=w:=Any.bits_LeadingZeros64 Tryz.lays134 x w h0 h1
def Tryz.lays210_ren:Go.Shelf.Ren:=⟨fun |210=>181|206=>228|n=>n,fun |9=>9|4=>4|3=>3|n=>n,fun |n=>n⟩
def Tryz.lays172_ren:Go.Shelf.Ren:=⟨fun |172=>187|244=>230|245=>231|247=>248|279=>249|280=>250|281=>251|282=>252|287=>261|316=>262|171=>163|205=>263|321=>266|322=>267|243=>212|246=>235|283=>236|284=>237|285=>238|286=>239|129=>179|317=>254|318=>255|319=>256|320=>257|337=>264|338=>265|n=>n,fun |9=>9|3=>3|75=>197|76=>198|4=>4|5=>5|167=>260|37=>193|0=>0|85=>261|2=>2|168=>263|53=>168|175=>272|46=>148|210=>276|127=>235|145=>281|143=>279|21=>21|171=>247|173=>249|212=>268|51=>209|20=>20|213=>269|232=>282|233=>283|80=>145|n=>n,fun |15=>4|16=>5|17=>3|18=>6|19=>7|n=>n⟩
theorem Tryz.lays172:Go.Proofs.Lays.n172 Tryz.prog Tryz.lays172_ren:={
 mixed:=by kernel_rfl
 f129:=Tryz.func179.trans (congrArg some (by kernel_rfl))
 f171:=Tryz.func163.trans (congrArg some (by kernel_rfl))
 f172:=Tryz.func187.trans (congrArg some (by kernel_rfl))
 f205:=Tryz.func263.trans (congrArg some (by kernel_rfl))
 f243:=Tryz.func212.trans (congrArg some (by kernel_rfl))
 f244:=Tryz.func230.trans (congrArg some (by kernel_rfl))
 f245:=Tryz.func231.trans (congrArg some (by kernel_rfl))
 f246:=Tryz.func235.trans (congrArg some (by kernel_rfl))
 f247:=Tryz.func248.trans (congrArg some (by kernel_rfl))
 f279:=Tryz.func249.trans (congrArg some (by kernel_rfl))
 f280:=Tryz.func250.trans (congrArg some (by kernel_rfl))
 f281:=Tryz.func251.trans (congrArg some (by kernel_rfl))
 f282:=Tryz.func252.trans (congrArg some (by kernel_rfl))
 f283:=Tryz.func236.trans (congrArg some (by kernel_rfl))
 f284:=Tryz.func237.trans (congrArg some (by kernel_rfl))
 f285:=Tryz.func238.trans (congrArg some (by kernel_rfl))
 f286:=Tryz.func239.trans (congrArg some (by kernel_rfl))
 f287:=Tryz.func261.trans (congrArg some (by kernel_rfl))
 f316:=Tryz.func262.trans (congrArg some (by kernel_rfl))
 f317:=Tryz.func254.trans (congrArg some (by kernel_rfl))
 f318:=Tryz.func255.trans (congrArg some (by kernel_rfl))
 f319:=Tryz.func256.trans (congrArg some (by kernel_rfl))
 f320:=Tryz.func257.trans (congrArg some (by kernel_rfl))
 f321:=Tryz.func266.trans (congrArg some (by kernel_rfl))
 f322:=Tryz.func267.trans (congrArg some (by kernel_rfl))
 f337:=Tryz.func264.trans (congrArg some (by kernel_rfl))
 f338:=Tryz.func265.trans (congrArg some (by kernel_rfl))
 t0:=Tryz.underlying0
 a0:=Tryz.isAgg0
 z0:=Tryz.sizeOf0
 v0:=Tryz.zeroValue0
 t2:=Tryz.underlying2
 a2:=Tryz.isAgg2
 z2:=Tryz.sizeOf2
 v2:=Tryz.zeroValue2
 t3:=Tryz.underlying3
 a3:=Tryz.isAgg3
 z3:=Tryz.sizeOf3
 v3:=Tryz.zeroValue3
 t4:=Tryz.underlying4
 a4:=Tryz.isAgg4
 z4:=Tryz.sizeOf4
 v4:=Tryz.zeroValue4
 t5:=Tryz.underlying5
 a5:=Tryz.isAgg5
 z5:=Tryz.sizeOf5
 v5:=Tryz.zeroValue5
 t9:=Tryz.underlying9
 a9:=Tryz.isAgg9
 z9:=Tryz.sizeOf9
 v9:=Tryz.zeroValue9
 t20:=Tryz.underlying20
 a20:=Tryz.isAgg20
 z20:=Tryz.sizeOf20
 v20:=Tryz.zeroValue20
 t21:=Tryz.underlying21
 a21:=Tryz.isAgg21
 z21:=Tryz.sizeOf21
 v21:=Tryz.zeroValue21
 t37:=Tryz.underlying193
 a37:=Tryz.isAgg193
 z37:=Tryz.sizeOf193
 v37:=Tryz.zeroValue193
 t46:=Tryz.underlying148
 a46:=Tryz.isAgg148
 z46:=Tryz.sizeOf148
 v46:=Tryz.zeroValue148
 t51:=Tryz.underlying209
 a51:=Tryz.isAgg209
 z51:=Tryz.sizeOf209
 v51:=Tryz.zeroValue209
 t53:=Tryz.underlying168
 a53:=Tryz.isAgg168
 z53:=Tryz.sizeOf168
 v53:=Tryz.zeroValue168
 t75:=Tryz.underlying197
 a75:=Tryz.isAgg197
 z75:=Tryz.sizeOf197
 v75:=Tryz.zeroValue197
 t76:=Tryz.underlying198
 a76:=Tryz.isAgg198
 z76:=Tryz.sizeOf198
 v76:=Tryz.zeroValue198
 t85:=Tryz.underlying261
 a85:=Tryz.isAgg261
 z85:=Tryz.sizeOf261
 v85:=Tryz.zeroValue261
 t127:=Tryz.underlying235
 a127:=Tryz.isAgg235
 z127:=Tryz.sizeOf235
 v127:=Tryz.zeroValue235
 t143:=Tryz.underlying279
 a143:=Tryz.isAgg279
 z143:=Tryz.sizeOf279
 v143:=Tryz.zeroValue279
 t145:=Tryz.underlying281
 a145:=Tryz.isAgg281
 z145:=Tryz.sizeOf281
 v145:=Tryz.zeroValue281
 t167:=Tryz.underlying260
 a167:=Tryz.isAgg260
 z167:=Tryz.sizeOf260
 v167:=Tryz.zeroValue260
 t168:=Tryz.underlying263
 a168:=Tryz.isAgg263
 z168:=Tryz.sizeOf263
 v168:=Tryz.zeroValue263
 t171:=Tryz.underlying247
 a171:=Tryz.isAgg247
 z171:=Tryz.sizeOf247
 v171:=Tryz.zeroValue247
 t173:=Tryz.underlying249
 a173:=Tryz.isAgg249
 z173:=Tryz.sizeOf249
 v173:=Tryz.zeroValue249
 t175:=Tryz.underlying272
 a175:=Tryz.isAgg272
 z175:=Tryz.sizeOf272
 v175:=Tryz.zeroValue272
 t210:=Tryz.underlying276
 a210:=Tryz.isAgg276
 z210:=Tryz.sizeOf276
 v210:=Tryz.zeroValue276
 t212:=Tryz.underlying268
 a212:=Tryz.isAgg268
 z212:=Tryz.sizeOf268
 v212:=Tryz.zeroValue268
 t213:=Tryz.underlying269
 a213:=Tryz.isAgg269
 z213:=Tryz.sizeOf269
 t232:=Tryz.underlying282
 a232:=Tryz.isAgg282
 z232:=Tryz.sizeOf282
 v232:=Tryz.zeroValue282
 t233:=Tryz.underlying283
 a233:=Tryz.isAgg283
 z233:=Tryz.sizeOf283
 v233:=Tryz.zeroValue283
 g15:=by kernel_rfl
 g16:=by kernel_rfl
 g17:=by kernel_rfl
 g18:=by kernel_rfl
 g19:=by kernel_rfl}
open Go.RowKit in
theorem Tryz.strconv_Atoi (s:ByteArray) (n:Int) (hl:s.size≤18) (h:Lib.atoi s.data.toList=some n) (w:World):
  Calls Tryz.prog 187 #[.string s] w fun e w'=>e= .returned (.tuple #[.int .i64 n, .nilIface])∧∃t,w'=Lib.bytesWorld w 5 t:=Any.strconv_Atoi Tryz.lays172 s n hl h w
def Tryz.laysM246_ren:Go.Shelf.Ren:=⟨fun |246=>235|283=>236|284=>237|285=>238|286=>239|129=>179|317=>254|318=>255|319=>256|320=>257|337=>264|338=>265|n=>n,fun |2=>2|3=>3|9=>9|4=>4|171=>247|0=>0|53=>168|37=>193|5=>5|173=>249|212=>268|51=>209|20=>20|213=>269|46=>148|232=>282|233=>283|n=>n,fun |17=>3|18=>6|19=>7|n=>n⟩
def Tryz.laysM243_ren:Go.Shelf.Ren:=⟨fun |243=>212|246=>235|283=>236|284=>237|285=>238|286=>239|129=>179|317=>254|318=>255|319=>256|320=>257|337=>264|338=>265|n=>n,fun |3=>3|9=>9|2=>2|4=>4|171=>247|0=>0|53=>168|37=>193|5=>5|173=>249|212=>268|51=>209|20=>20|213=>269|46=>148|232=>282|233=>283|n=>n,fun |17=>3|18=>6|19=>7|n=>n⟩
def Tryz.laysM171_ren:Go.Shelf.Ren:=⟨fun |171=>163|243=>212|246=>235|283=>236|284=>237|285=>238|286=>239|129=>179|317=>254|318=>255|319=>256|320=>257|337=>264|338=>265|n=>n,fun |3=>3|9=>9|2=>2|4=>4|171=>247|0=>0|53=>168|37=>193|5=>5|173=>249|212=>268|51=>209|20=>20|213=>269|46=>148|232=>282|233=>283|n=>n,fun |17=>3|18=>6|19=>7|n=>n⟩
theorem Tryz.laysM171:Go.Proofs.LaysM.n171 Tryz.prog Tryz.laysM171_ren:={
 mixed:=by kernel_rfl
 f129:=Tryz.func179.trans (congrArg some (by kernel_rfl))
 f171:=Tryz.func163.trans (congrArg some (by kernel_rfl))
 f243:=Tryz.func212.trans (congrArg some (by kernel_rfl))
 f246:=Tryz.func235.trans (congrArg some (by kernel_rfl))
 f283:=Tryz.func236.trans (congrArg some (by kernel_rfl))
 f284:=Tryz.func237.trans (congrArg some (by kernel_rfl))
 f285:=Tryz.func238.trans (congrArg some (by kernel_rfl))
 f286:=Tryz.func239.trans (congrArg some (by kernel_rfl))
 f317:=Tryz.func254.trans (congrArg some (by kernel_rfl))
 f318:=Tryz.func255.trans (congrArg some (by kernel_rfl))
 f319:=Tryz.func256.trans (congrArg some (by kernel_rfl))
 f320:=Tryz.func257.trans (congrArg some (by kernel_rfl))
 f337:=Tryz.func264.trans (congrArg some (by kernel_rfl))
 f338:=Tryz.func265.trans (congrArg some (by kernel_rfl))
 t0:=Tryz.underlying0
 a0:=Tryz.isAgg0
 z0:=Tryz.sizeOf0
 v0:=Tryz.zeroValue0
 t2:=Tryz.underlying2
 a2:=Tryz.isAgg2
 z2:=Tryz.sizeOf2
 v2:=Tryz.zeroValue2
 t3:=Tryz.underlying3
 a3:=Tryz.isAgg3
 z3:=Tryz.sizeOf3
 v3:=Tryz.zeroValue3
 t4:=Tryz.underlying4
 a4:=Tryz.isAgg4
 z4:=Tryz.sizeOf4
 v4:=Tryz.zeroValue4
 t5:=Tryz.underlying5
 a5:=Tryz.isAgg5
 z5:=Tryz.sizeOf5
 v5:=Tryz.zeroValue5
 t9:=Tryz.underlying9
 a9:=Tryz.isAgg9
 z9:=Tryz.sizeOf9
 v9:=Tryz.zeroValue9
 t20:=Tryz.underlying20
 a20:=Tryz.isAgg20
 z20:=Tryz.sizeOf20
 v20:=Tryz.zeroValue20
 t37:=Tryz.underlying193
 a37:=Tryz.isAgg193
 z37:=Tryz.sizeOf193
 v37:=Tryz.zeroValue193
 t46:=Tryz.underlying148
 a46:=Tryz.isAgg148
 z46:=Tryz.sizeOf148
 v46:=Tryz.zeroValue148
 t51:=Tryz.underlying209
 a51:=Tryz.isAgg209
 z51:=Tryz.sizeOf209
 v51:=Tryz.zeroValue209
 t53:=Tryz.underlying168
 a53:=Tryz.isAgg168
 z53:=Tryz.sizeOf168
 v53:=Tryz.zeroValue168
 t171:=Tryz.underlying247
 a171:=Tryz.isAgg247
 z171:=Tryz.sizeOf247
 v171:=Tryz.zeroValue247
 t173:=Tryz.underlying249
 a173:=Tryz.isAgg249
 z173:=Tryz.sizeOf249
 v173:=Tryz.zeroValue249
 t212:=Tryz.underlying268
 a212:=Tryz.isAgg268
 z212:=Tryz.sizeOf268
 v212:=Tryz.zeroValue268
 t213:=Tryz.underlying269
 a213:=Tryz.isAgg269
 z213:=Tryz.sizeOf269
 t232:=Tryz.underlying282
 a232:=Tryz.isAgg282
 z232:=Tryz.sizeOf282
 v232:=Tryz.zeroValue282
 t233:=Tryz.underlying283
 a233:=Tryz.isAgg283
 z233:=Tryz.sizeOf283
 v233:=Tryz.zeroValue283
 g17:=by kernel_rfl
 g18:=by kernel_rfl
 g19:=by kernel_rfl
 i0:=by kernel_rfl
 i2:=by kernel_rfl
 i3:=by kernel_rfl
 i4:=by kernel_rfl
 i5:=by kernel_rfl
 i9:=by kernel_rfl
 i20:=by kernel_rfl
 i37:=by kernel_rfl
 i46:=by kernel_rfl
 i51:=by kernel_rfl
 i53:=by kernel_rfl
 i171:=by kernel_rfl
 i173:=by kernel_rfl
 i212:=by kernel_rfl
 i232:=by kernel_rfl
 i233:=by kernel_rfl
 m17:=by kernel_rfl
 m18:=by kernel_rfl
 m19:=by kernel_rfl}
open Go.RowKit Go.Sort Go.Lib in
theorem Tryz.strconv_Itoa (n:Int) (h0: -9223372036854775808≤n) (h1:n≤9223372036854775807) (w:World) (htab:Lib.TabIs Tryz.prog w "internal/strconv.uint64pow10" .u64 Lib.pow10Tab):
  Calls Tryz.prog 163 #[.int .i64 n] w fun e w'=>e= .returned (.string ⟨(Lib.itoa n).toArray⟩)∧∃k os,w'=grow (w.drewN k) os:=Any.strconv_Itoa Tryz.laysM171 n h0 h1 w htab
def Tryz.lays219_ren:Go.Shelf.Ren:=⟨fun |219=>227|217=>244|225=>245|224=>246|267=>247|266=>259|314=>260|n=>n,fun |9=>9|3=>3|4=>4|5=>5|46=>148|146=>251|51=>209|n=>n,fun |1=>2|n=>n⟩
def Tryz.lays145_ren:Go.Shelf.Ren:=⟨fun |145=>116|220=>180|219=>227|217=>244|225=>245|224=>246|267=>247|266=>259|314=>260|n=>n,fun |9=>9|4=>4|59=>151|3=>3|5=>5|46=>148|146=>251|51=>209|n=>n,fun |1=>2|n=>n⟩
theorem Tryz.lays145:Go.Proofs.Lays.n145 Tryz.prog Tryz.lays145_ren:={
 mixed:=by kernel_rfl
 f145:=Tryz.func116.trans (congrArg some (by kernel_rfl))
 f217:=Tryz.func244.trans (congrArg some (by kernel_rfl))
 f219:=Tryz.func227.trans (congrArg some (by kernel_rfl))
 f220:=Tryz.func180.trans (congrArg some (by kernel_rfl))
 f224:=Tryz.func246.trans (congrArg some (by kernel_rfl))
 f225:=Tryz.func245.trans (congrArg some (by kernel_rfl))
 f266:=Tryz.func259.trans (congrArg some (by kernel_rfl))
 f267:=Tryz.func247.trans (congrArg some (by kernel_rfl))
 f314:=Tryz.func260.trans (congrArg some (by kernel_rfl))
 t3:=Tryz.underlying3
 a3:=Tryz.isAgg3
 z3:=Tryz.sizeOf3
 v3:=Tryz.zeroValue3
 t4:=Tryz.underlying4
 a4:=Tryz.isAgg4
 z4:=Tryz.sizeOf4
 v4:=Tryz.zeroValue4
 t5:=Tryz.underlying5
 a5:=Tryz.isAgg5
 z5:=Tryz.sizeOf5
 v5:=Tryz.zeroValue5
 t9:=Tryz.underlying9
 a9:=Tryz.isAgg9
 z9:=Tryz.sizeOf9
 v9:=Tryz.zeroValue9
 t46:=Tryz.underlying148
 a46:=Tryz.isAgg148
 z46:=Tryz.sizeOf148
 v46:=Tryz.zeroValue148
 t51:=Tryz.underlying209
 a51:=Tryz.isAgg209
 z51:=Tryz.sizeOf209
 v51:=Tryz.zeroValue209
 t59:=Tryz.underlying151
 a59:=Tryz.isAgg151
 z59:=Tryz.sizeOf151
 v59:=Tryz.zeroValue151
 t146:=Tryz.underlying251
 a146:=Tryz.isAgg251
 z146:=Tryz.sizeOf251
 v146:=Tryz.zeroValue251
 g1:=by kernel_rfl}
open Go.RowKit Go.Lib in
theorem Tryz.strings_Cut (s sep:ByteArray) (m:Int) (w:World) (hs:s.size<4294967281) (hm:w.cell? ⟨2,0,none⟩=some (.int .i64 m)):
  Calls Tryz.prog 116 #[.string s, .string sep] w fun e w'=>e= .returned (.tuple #[.string ⟨(Lib.cut s.data.toList sep.data.toList).1.toArray⟩, .string ⟨(Lib.cut s.data.toList sep.data.toList).2.1.toArray⟩, .bool (Lib.cut s.data.toList sep.data.toList).2.2])∧∃n,w'=w.drewN n:=Any.strings_Cut Tryz.lays145 s sep m w hs hm
def Tryz.lays189_ren:Go.Shelf.Ren:=⟨fun |189=>49|125=>110|257=>109|128=>178|129=>179|294=>169|295=>170|296=>171|297=>172|298=>173|299=>174|216=>175|300=>176|301=>177|328=>222|329=>223|330=>224|331=>225|332=>226|215=>162|343=>243|n=>n,fun |28=>80|3=>3|46=>148|0=>0|51=>209|53=>168|4=>4|183=>202|182=>201|131=>155|5=>5|9=>9|218=>236|222=>240|228=>255|229=>256|n=>n,fun |n=>n⟩
theorem Tryz.lays189:Go.Proofs.Lays.n189 Tryz.prog Tryz.lays189_ren:={
 mixed:=by kernel_rfl
 f125:=Tryz.func110.trans (congrArg some (by kernel_rfl))
 f128:=Tryz.func178.trans (congrArg some (by kernel_rfl))
 f129:=Tryz.func179.trans (congrArg some (by kernel_rfl))
 f189:=Tryz.func49.trans (congrArg some (by kernel_rfl))
 f215:=Tryz.func162.trans (congrArg some (by kernel_rfl))
 f216:=Tryz.func175.trans (congrArg some (by kernel_rfl))
 f257:=Tryz.func109.trans (congrArg some (by kernel_rfl))
 f294:=Tryz.func169.trans (congrArg some (by kernel_rfl))
 f295:=Tryz.func170.trans (congrArg some (by kernel_rfl))
 f296:=Tryz.func171.trans (congrArg some (by kernel_rfl))
 f297:=Tryz.func172.trans (congrArg some (by kernel_rfl))
 f298:=Tryz.func173.trans (congrArg some (by kernel_rfl))
 f299:=Tryz.func174.trans (congrArg some (by kernel_rfl))
 f300:=Tryz.func176.trans (congrArg some (by kernel_rfl))
 f301:=Tryz.func177.trans (congrArg some (by kernel_rfl))
 f328:=Tryz.func222.trans (congrArg some (by kernel_rfl))
 f329:=Tryz.func223.trans (congrArg some (by kernel_rfl))
 f330:=Tryz.func224.trans (congrArg some (by kernel_rfl))
 f331:=Tryz.func225.trans (congrArg some (by kernel_rfl))
 f332:=Tryz.func226.trans (congrArg some (by kernel_rfl))
 f343:=Tryz.func243.trans (congrArg some (by kernel_rfl))
 t0:=Tryz.underlying0
 a0:=Tryz.isAgg0
 z0:=Tryz.sizeOf0
 v0:=Tryz.zeroValue0
 t3:=Tryz.underlying3
 a3:=Tryz.isAgg3
 z3:=Tryz.sizeOf3
 v3:=Tryz.zeroValue3
 t4:=Tryz.underlying4
 a4:=Tryz.isAgg4
 z4:=Tryz.sizeOf4
 v4:=Tryz.zeroValue4
 t5:=Tryz.underlying5
 a5:=Tryz.isAgg5
 z5:=Tryz.sizeOf5
 v5:=Tryz.zeroValue5
 t9:=Tryz.underlying9
 a9:=Tryz.isAgg9
 z9:=Tryz.sizeOf9
 v9:=Tryz.zeroValue9
 t28:=Tryz.underlying80
 a28:=Tryz.isAgg80
 z28:=Tryz.sizeOf80
 v28:=Tryz.zeroValue80
 t46:=Tryz.underlying148
 a46:=Tryz.isAgg148
 z46:=Tryz.sizeOf148
 v46:=Tryz.zeroValue148
 t51:=Tryz.underlying209
 a51:=Tryz.isAgg209
 z51:=Tryz.sizeOf209
 v51:=Tryz.zeroValue209
 t53:=Tryz.underlying168
 a53:=Tryz.isAgg168
 z53:=Tryz.sizeOf168
 v53:=Tryz.zeroValue168
 t131:=Tryz.underlying155
 a131:=Tryz.isAgg155
 z131:=Tryz.sizeOf155
 v131:=Tryz.zeroValue155
 t182:=Tryz.underlying201
 a182:=Tryz.isAgg201
 z182:=Tryz.sizeOf201
 v182:=Tryz.zeroValue201
 t183:=Tryz.underlying202
 a183:=Tryz.isAgg202
 z183:=Tryz.sizeOf202
 v183:=Tryz.zeroValue202
 t218:=Tryz.underlying236
 a218:=Tryz.isAgg236
 z218:=Tryz.sizeOf236
 v218:=Tryz.zeroValue236
 t222:=Tryz.underlying240
 a222:=Tryz.isAgg240
 z222:=Tryz.sizeOf240
 v222:=Tryz.zeroValue240
 t228:=Tryz.underlying255
 a228:=Tryz.isAgg255
 z228:=Tryz.sizeOf255
 v228:=Tryz.zeroValue255
 t229:=Tryz.underlying256
 a229:=Tryz.isAgg256
 z229:=Tryz.sizeOf256
 v229:=Tryz.zeroValue256}
open Go.Sort Go.RowKit in
theorem Tryz.slices_Sort_int (blk off cap:Nat) (zs:List Int) (w:World) (hH:Holds (Value.int .i64) w blk off zs.toArray) (hblk:blk<w.heap.size) (hsz:zs.length<4611686018427387904):
  Calls Tryz.prog 49 #[.slice (some ⟨blk,off,none⟩) zs.length cap] w fun e w'=>
   e= .returned (.tuple #[])∧∃n os,w'=grow (putRow (Value.int .i64) (Sort.ahead w n) blk off (zs.mergeSort fun x y=>decide (x≤y)).toArray) os:=Any.slices_Sort_int Tryz.lays189 blk off cap zs w hH hblk hsz
def Tryz.lays99_ren:Go.Shelf.Ren:=⟨fun |99=>185|206=>228|n=>n,fun |9=>9|4=>4|3=>3|n=>n,fun |n=>n⟩
theorem Tryz.lays99:Go.Proofs.Lays.n99 Tryz.prog Tryz.lays99_ren:={
 mixed:=by kernel_rfl
 f99:=Tryz.func185.trans (congrArg some (by kernel_rfl))
 f206:=Tryz.func228.trans (congrArg some (by kernel_rfl))
 t3:=Tryz.underlying3
 a3:=Tryz.isAgg3
 z3:=Tryz.sizeOf3
 v3:=Tryz.zeroValue3
 t4:=Tryz.underlying4
 a4:=Tryz.isAgg4
 z4:=Tryz.sizeOf4
 v4:=Tryz.zeroValue4
 t9:=Tryz.underlying9
 a9:=Tryz.isAgg9
 z9:=Tryz.sizeOf9
 v9:=Tryz.zeroValue9}
open Go.RowKit Go.Lib in
theorem Tryz.strings_HasPrefix (s p:ByteArray) (w:World):
  Calls Tryz.prog 185 #[.string s, .string p] w fun e w'=>e= .returned (.bool (Lib.hasPrefix s.data.toList p.data.toList))∧w'=w:=Any.strings_HasPrefix Tryz.lays99 s p w
def Tryz.lays101_ren:Go.Shelf.Ren:=⟨fun |101=>186|208=>229|206=>228|n=>n,fun |9=>9|4=>4|3=>3|n=>n,fun |n=>n⟩
theorem Tryz.lays101:Go.Proofs.Lays.n101 Tryz.prog Tryz.lays101_ren:={
 mixed:=by kernel_rfl
 f101:=Tryz.func186.trans (congrArg some (by kernel_rfl))
 f206:=Tryz.func228.trans (congrArg some (by kernel_rfl))
 f208:=Tryz.func229.trans (congrArg some (by kernel_rfl))
 t3:=Tryz.underlying3
 a3:=Tryz.isAgg3
 z3:=Tryz.sizeOf3
 v3:=Tryz.zeroValue3
 t4:=Tryz.underlying4
 a4:=Tryz.isAgg4
 z4:=Tryz.sizeOf4
 v4:=Tryz.zeroValue4
 t9:=Tryz.underlying9
 a9:=Tryz.isAgg9
 z9:=Tryz.sizeOf9
 v9:=Tryz.zeroValue9}
open Go.RowKit Go.Lib in
theorem Tryz.strings_TrimPrefix (s p:ByteArray) (w:World):
  Calls Tryz.prog 186 #[.string s, .string p] w fun e w'=>e= .returned (.string ⟨(Lib.trimPrefix s.data.toList p.data.toList).toArray⟩)∧w'=w:=Any.strings_TrimPrefix Tryz.lays101 s p w
def Tryz.lays264_ren:Go.Shelf.Ren:=⟨fun |264=>136|n=>n,fun |53=>168|46=>148|n=>n,fun |n=>n⟩
theorem Tryz.lays264:Go.Proofs.Lays.n264 Tryz.prog Tryz.lays264_ren:={
 mixed:=by kernel_rfl
 f264:=Tryz.func136.trans (congrArg some (by kernel_rfl))
 t46:=Tryz.underlying148
 a46:=Tryz.isAgg148
 z46:=Tryz.sizeOf148
 v46:=Tryz.zeroValue148
 t53:=Tryz.underlying168
 a53:=Tryz.isAgg168
 z53:=Tryz.sizeOf168
 v53:=Tryz.zeroValue168}
open Go.RowKit Go.Lib in
theorem Tryz.bits_Mul64 (x y:Nat) (hx:x<18446744073709551616) (hy:y<18446744073709551616) (w:World):
  Calls Tryz.prog 136 #[.int .u64 x, .int .u64 y] w fun e w'=>e= .returned (.tuple #[.int .u64 ((x*y/18446744073709551616:Nat):Int), .int .u64 ((x*y%18446744073709551616:Nat):Int)])∧w'=w:=Any.bits_Mul64 Tryz.lays264 x y hx hy w
def Tryz.lays108_ren:Go.Shelf.Ren:=⟨fun |108=>47|n=>n,fun |28=>80|3=>3|0=>0|4=>4|n=>n,fun |n=>n⟩
theorem Tryz.lays108:Go.Proofs.Lays.n108 Tryz.prog Tryz.lays108_ren:={
 mixed:=by kernel_rfl
 f108:=Tryz.func47.trans (congrArg some (by kernel_rfl))
 t0:=Tryz.underlying0
 a0:=Tryz.isAgg0
 z0:=Tryz.sizeOf0
 v0:=Tryz.zeroValue0
 t3:=Tryz.underlying3
 a3:=Tryz.isAgg3
 z3:=Tryz.sizeOf3
 v3:=Tryz.zeroValue3
 t4:=Tryz.underlying4
 a4:=Tryz.isAgg4
 z4:=Tryz.sizeOf4
 v4:=Tryz.zeroValue4
 t28:=Tryz.underlying80
 a28:=Tryz.isAgg80
 z28:=Tryz.sizeOf80
 v28:=Tryz.zeroValue80}
open Go.Lib in
theorem Tryz.slices_Index_int (b off n c:Nat) (zs:List Int) (x:Int) (w:World) (hz:n≤zs.length) (hbig:n≤9223372036854775807) (hc:∀j,j<zs.length→w.cell? ⟨b,off+j,none⟩=some (.int .i64 (zs.getD j 0))):
  Calls Tryz.prog 47 #[.slice (some ⟨b,off,none⟩) n c, .int .i64 x] w fun e w'=>e= .returned (.int .i64 (Lib.idxOf (zs.take n) x))∧w'=w:=Any.slices_Index_int Tryz.lays108 b off n c zs x w hz hbig hc
open Go.RowKit Go.Sort in
theorem Tryz.slices_Sort_int_none (p:Option Addr) (cap:Nat) (w:World):
  Calls Tryz.prog 49 #[.slice p 0 cap] w fun e w'=>e= .returned (.tuple #[])∧w'=w:=Any.slices_Sort_int_none Tryz.lays189 p cap w
end Go.Proofs
/- Go's library: a row of integers of one's own, sorted. -/
namespace Go.Proofs.YtjcbbabaabcdgaaGreatDoor
open Go.RowKit
abbrev ic (l:List Int):List Value:=l.map (Value.int .i64)
theorem ownI_some {w:World} {base n:Nat} {v:Value} {xs:List Int} (h:w.ownsRow base 3 1 v n (ic xs)):xs.length=n∧((v= .slice none 0 0∧n=0)∨∃g cap cur,v= .slice (some ⟨g,0,none⟩) n cap∧base≤g∧w.heap[g]? =some (.cells cur 3 (0,0))∧n≤cap∧cap≤maxLen∧cur.size=cap∧cur.toList.take n=ic xs):=by
 obtain⟨h1,h2⟩:=h
 simp only [Nat.mul_one,List.length_map]at h1 h2
 exact⟨h1,h2⟩
theorem own_holds {w:World} {g n:Nat} {cur:Array Value} {xs:List Int} (hg:w.heap[g]? =some (.cells cur 3 (0,0))) (ht:cur.toList.take n=ic xs):Sort.Holds (Value.int .i64) w g 0 xs.toArray:=fun j hj=>by
 have hj:j<xs.length:=by simpa using hj
 refine⟨?_, ?_⟩
 ·rw [Nat.zero_add,cell_of_row w g j cur _ _ hg]
  have h1:(cur.toList.take n)[j]? =some (Value.int .i64 xs[j]):=by rw [ht];simp [hj]
  rw [List.getElem?_take]at h1
  split at h1
  ·simpa [hj]using h1
  ·cases h1
 ·simp [World.frozen?,hg]
theorem putRow_at {w:World} {g n:Nat} {cur:Array Value} {xs ys:List Int} (hg:w.heap[g]? =some (.cells cur 3 (0,0))) (ht:cur.toList.take n=ic xs) (hl:ys.length=xs.length) (q:Nat):
  (Sort.putRow (Value.int .i64) (Sort.ahead w q) g 0 ys.toArray).heap[g]? =some (.cells (Sort.putCells (Value.int .i64) 0 ys.toArray cur) 3 (0,0))∧(Sort.putCells (Value.int .i64) 0 ys.toArray cur).size=cur.size∧(Sort.putCells (Value.int .i64) 0 ys.toArray cur).toList.take ys.length=ic ys:=by
 refine⟨?_,by simp [Sort.putCells], ?_⟩
 ·show(w.heap.modify g (Sort.onCells _))[g]? =_
  rw [Array.getElem?_modify,if_pos rfl,hg];rfl
 ·have hlen:ys.length≤cur.size:=by
   have h1:=congrArg List.length ht
   simp at h1;omega
  apply List.ext_getElem?
  intro j
  rw [List.getElem?_take]
  by_cases hj:j<ys.length
  ·rw [if_pos hj,Array.getElem?_toList]
   have hc:j<cur.size:=by omega
   simp [Sort.putCells,hj,hc]
  ·rw [if_neg hj,List.getElem?_eq_none (by simpa using hj)]
theorem putRow_grown {w:World} {g q:Nat} {d:Array Int}:w.grownBy (Sort.putRow (Value.int .i64) (Sort.ahead w q) g 0 d) (some g):=
 ⟨rfl,rfl,rfl,Nat.le_of_eq (by simp),fun k _ hk=>by
   show(w.heap.modify g (Sort.onCells _))[k]? =_
   rw [Array.getElem?_modify,if_neg (fun e=>hk (by rw [e]))]⟩
theorem grown_refl (w:World) (r:Option Nat):w.grownBy w r:=⟨rfl,rfl,rfl,Nat.le_refl _,fun _ _ _=>rfl⟩
theorem grown_grow {w w':World} {r:Option Nat} (h:w.grownBy w' r) (os:Array Obj):w.grownBy (Sort.grow w' os) r:=
 ⟨h.os,h.tape,h.output,Nat.le_trans h.size (by simp),fun k hk hn=>(Sort.heap_grow_old w' os (Nat.lt_of_lt_of_le hk h.size)).trans (h.block k hk hn)⟩
theorem sort_any (base n:Nat) (v:Value) (xs:List Int) (w:World) (h:w.ownsRow base 3 1 v n (ic xs)) (hl:xs.length≤1000000):
  Calls Tryz.prog 49 #[v] w fun e w'=>e= .returned (.tuple #[])∧w'.ownsRow base 3 1 v n (ic (xs.mergeSort fun x y=>decide (x≤y)))∧w.grownBy w' v.ownBlock:=by
 obtain⟨h0,h1⟩:=ownI_some h
 rcases h1 with⟨rfl,rfl⟩|⟨g,cap,cur,rfl,hbg,hg,hn,hcap,hcs,ht⟩
 ·obtain rfl:xs=[]:=List.length_eq_zero_iff.1 h0
  exact(Tryz.slices_Sort_int_none none 0 w).mono fun e w' ⟨h1,h2⟩=>by subst h2;exact⟨h1,by simpa using h,grown_refl _ _⟩
 ·subst h0
  have hgl:g<w.heap.size:=(Array.getElem?_eq_some_iff.1 hg).1
  refine(Tryz.slices_Sort_int g 0 cap xs w (own_holds hg ht) hgl (by omega)).mono fun e w' ⟨h1,q,os,h2⟩=> ?_
  subst h2
  have hl2:(xs.mergeSort fun x y=>decide (x≤y)).length=xs.length:=List.length_mergeSort _
  obtain⟨p1,p2,p3⟩:=putRow_at hg ht hl2 q
  refine⟨h1,⟨by simp [hl2], .inr ⟨g,cap,_,rfl,hbg,(Sort.heap_grow_old _ os (by simpa using hgl)).trans p1,hn,hcap,by rw [p2,hcs,Nat.mul_one], ?_⟩⟩,grown_grow putRow_grown os⟩
  rw [Nat.mul_one,←hl2];exact p3
end Go.Proofs.YtjcbbabaabcdgaaGreatDoor
/- The runner over an abstract memory, with loops over functions in the rounds of such loops, and with calls of a given kind ('cl': what a call is). -/
namespace Go.Proofs.YtjcbbabaabcdgaaGreatDoor.Sv
open Go.RowKit
noncomputable section
abbrev RunnerN:=Code→(n:Nat)→(rnd:Option Nat)→Tr AV→AHeap→List Nat→R
def acallBN (P:Program) (ih:RunnerN) (args:List AV) (H:AHeap) (fn:Func) (c:Code):VR:=
 @Bool.rec (fun _=>VR) .no (@R.rec (fun _=>VR) .no (fun T H m=>aleave P fn T H m) (fun _ _ _ _=> .no) (fun _ _ _ _=> .no) (fun T H m=>aleave P fn T H m)
   (ih c fn.ntmps none (initT args .nil 0) H [])) (Nat.ble args.length fn.ntmps)
def acallN (P:Program) (ih:RunnerN):Caller:=fun f args H=>
 @Option.rec Func (fun _=>VR) .no (fun fn=> @Option.rec Code (fun _=>VR) .no (fun c=>acallBN P ih args H fn c) fn.body) (P.funcs[f]?)
def aroundN (ih:RunnerN):Rounder:=fun i args H=>
 match H.get i with
 |some (.loop r)=>
  match r.state with
  | .ready=>cond (Nat.beq args.length r.params.size&&r.params.toList.all fun t=>Nat.ble (t+1) r.size)
    (match ih r.assign r.size (some i) (setPairs r.tmps (r.params.toList.zip args)) H []with
      | .normal T H []=>match H.get i with
        |some (.loop r')=>match r'.state with
         | .ready=>aroundEnd i (ih r.body r.size (some i) T (H.set i (.loop {r' with state:= .busy})) [])
         |_=> .no
        |_=> .no
      |_=> .no) .no
  |_=> .no
 |_=> .no
def arangeEndN (ih:RunnerN) (n:Nat) (rnd:Option Nat) (T:Tr AV) (L:Nat) (m:List Nat):VR→R
 | .ok _ H3=>match H3.get L with
   |some (.loop r)=>match r.state with
    | .busy=> .no
    |_=>match r.pending with
     |none=> .normal T (H3.set L (.loop {r with state:= .exhausted})) m
     |some c=>ih c n rnd T (H3.set L (.loop {r with state:= .exhausted})) m
   |_=> .no
 |_=> .no
def isLoopB (b:Option ABlk):Bool:=match b with |some (.loop _)=>true|_=>false
def arangeN (cl:RunnerN→Caller) (P:Program) (ih:RunnerN) (f:Operand) (params:Array Tmp) (assign body:Code) (n:Nat) (T:Tr AV) (H:AHeap) (m:List Nat):R:=
 match acallee P (evT T f) [.yield (Nat.succ H.next)] ((H.new .deferred).new (.loop {tmps:=T,size:=n,params,assign,body,state:= .ready,pending:=none}))with
 | .enter g args H2=>arangeEndN ih n none T (Nat.succ H.next) (H.next::m) (cl ih g args H2)
 |_=> .no
def arangeI (cl:RunnerN→Caller) (P:Program) (ih:RunnerN) (i:Nat) (f:Operand) (params:Array Tmp) (assign body:Code) (n:Nat) (T:Tr AV) (H:AHeap) (m:List Nat):R:=
 match acallee P (evT T f) [.yield H.next] (H.new (.loop {tmps:=T,size:=n,params,assign,body,state:= .ready,pending:=none}))with
 | .enter g args H2=>cond (isLoopB (H.get i)) (arangeEndN ih n (some i) T H.next m (cl ih g args H2)) .no
 |_=> .no
abbrev CHandlerN:=Program→Drawer→RunnerN→(n:Nat)→(rnd:Option Nat)→Tr AV→AHeap→List Nat→R
def cSkipN:CHandlerN:=fun _ _ _ _ _ T H m=> .normal T H m
def cRegionN (cl:RunnerN→Caller) (_id:Nat) (ops:Array Oper) (d:Bool):CHandlerN:=fun _ draw ih n _ T H m=>
 thR m (draw d (cl ih) (aroundN ih) ops n T H)
def cSeqN (a b:Code) (_ _:CHandlerN):CHandlerN:=fun _ _ ih n rnd T H m=> @R.rec (fun _=>R) .no (fun T H m=>ih b n rnd T H m) .exit .goto .ret (ih a n rnd T H m)
def cCondN (c:Operand) (x y:Code) (_ _:CHandlerN):CHandlerN:=fun _ _ ih n rnd T H m=>
 @BV.rec (fun _=>R) .no (fun b=> @Bool.rec (fun _=>R) (ih y n rnd T H m) (ih x n rnd T H m) b) (boolV (evT T c))
def cBlockN (id:Nat) (b:Code) (_:CHandlerN):CHandlerN:=fun _ _ ih n rnd T H m=>
 @R.rec (fun _=>R) .no .normal (fun i T H m=> @Bool.rec (fun _=>R) (.exit i T H m) (.normal T H m) (Nat.beq i id)) .goto .ret (ih b n rnd T H m)
def cLoopN (b:Code) (_:CHandlerN):CHandlerN:=fun _ _ ih n rnd T H m=>iter (ih b n rnd) rounds T H m
def cRangeN (cl:RunnerN→Caller) (f:Operand) (params:Array Tmp) (assign body:Code) (_ _:CHandlerN):CHandlerN:=fun P _ ih n rnd T H m=>
 @Option.rec Nat (fun _=>R) (arangeN cl P ih f params assign body n T H m) (fun i=>arangeI cl P ih i f params assign body n T H m) rnd
def cExitN (id:Nat):CHandlerN:=fun _ _ _ _ _ T H m=> .exit id T H m
def cScopeN (b:Code) (_:CHandlerN):CHandlerN:=fun _ _ ih n rnd T H m=> @R.rec (fun _=>R) .no .normal .exit (fun _ _ _ _=> .no) .ret (ih b n rnd T H m)
def cGotoN (l:Nat):CHandlerN:=fun _ _ _ _ _ T H m=> .goto l T H m
def cRetN:CHandlerN:=fun _ _ _ _ _ T H m=> .ret T H m
def cNoN:CHandlerN:=fun _ _ _ _ _ _ _ _=> .no
def chandleN (cl:RunnerN→Caller):Code→CHandlerN:=
 @Code.rec (fun _=>CHandlerN) cSkipN (cRegionN cl) cSeqN cCondN cBlockN cLoopN (cRangeN cl) cExitN cScopeN (fun _=>cSkipN) cGotoN cRetN (fun _=>cNoN)
def acodeN (cl:RunnerN→Caller) (P:Program) (draw:Drawer) (fuel:Nat):RunnerN:=
 @Nat.rec (fun _=>RunnerN) (fun _ _ _ _ _ _=> .no) (fun _ ih c=>chandleN cl c P draw ih) fuel
end
set_option linter.unusedSectionVars false
variable [Ground]
def RdOk (ρ:Env):Option Nat→Option Nat→Prop
 |none,none=>True
 |some i,some l=>∃c,ρ i=some (l,c)
 |_,_=>False
theorem RdOk.mono {ρ ρ':Env} (hl:Le ρ ρ'):∀{rnd rd:Option Nat},RdOk ρ rnd rd→RdOk ρ' rnd rd
 |none,none,_=>trivial
 |some _,some _,⟨c,h⟩=>⟨c,hl _ _ h⟩
 |none,some _,h=>h.elim
 |some _,none,h=>h.elim
section
variable {P:Program} {B:Nat} {ρ:Env} {n:Nat} {T:Tr AV} {H:AHeap} {a:Act} {w:World}
variable {cl:RunnerN→Caller}
structure RunOkN (P:Program) (ih:RunnerN):Prop where
 mono:∀c n rnd T H m e T' H' m',(ih c n rnd T H m).out=some (e,T',H',m')→H.next≤H'.next
 sim:∀c n rnd T H m e T' H' m',(ih c n rnd T H m).out=some (e,T',H',m')→∀B ρ a w rd k (Q:Exit→Act→World→Prop),RdOk ρ rnd rd→AR P B ρ n T H a w→DM ρ m a.defers→Fr ρ H.next H'.next→
  (∀ρ' a' w',AR P B ρ' n T' H' a' w'→Stp ρ H w ρ' H' w'→DM ρ' m' a'.defers→Q e a' w')→c.wpIn (FF rd) k P Q a w
theorem acallN_some {ih:RunnerN} {f:FuncId} {args:List AV} {v:AV} {H':AHeap} (h:acallN P ih f args H= .ok v H'):∃fn c,P.funcs[f]? =some fn∧fn.body=some c∧args.length≤fn.ntmps∧
  ∃e T1 H1 m1,(ih c fn.ntmps none (initT args .nil 0) H []).out=some (e,T1,H1,m1)∧(e= .normal∨e= .ret)∧aleave P fn T1 H1 m1= .ok v H':=by
 unfold acallN at h
 cases hf:P.funcs[f]? with
 |none=>rw [hf]at h;cases h
 |some fn=>
  rw [hf]at h
  simp only at h
  cases hb:fn.body with
  |none=>rw [hb]at h;cases h
  |some c=>
   rw [hb]at h
   simp only at h
   unfold acallBN at h
   cases hn:Nat.ble args.length fn.ntmps with
   |false=>rw [hn]at h;cases h
   |true=>
    rw [hn]at h
    simp only at h
    refine⟨fn,c,rfl,hb,Nat.le_of_ble_eq_true hn, ?_⟩
    cases hr:ih c fn.ntmps none (initT args .nil 0) H []with
    |no=>rw [hr]at h;cases h
    |normal T1 H1 m1=>rw [hr]at h;exact⟨_,_,_,_,rfl, .inl rfl,h⟩
    |exit _ _ _ _=>rw [hr]at h;cases h
    |goto _ _ _ _=>rw [hr]at h;cases h
    |ret T1 H1 m1=>rw [hr]at h;exact⟨_,_,_,_,rfl, .inr rfl,h⟩
theorem acallN_ok {ih:RunnerN} (hI:RunOkN P ih):CallOk P (acallN P ih) where
 mono f args H v H' h:=by
  obtain⟨fn,c,_,_,_,e,T1,H1,m1,ho,_,hl⟩:=acallN_some h
  exact Nat.le_trans (hI.mono _ _ _ _ _ _ _ _ _ _ ho) (Nat.le_of_eq (aleave_mono hl))
 sim f args H v H' h B ρ xs w m hH hG hd hf:=by
  obtain⟨fn,c,hfn,hb,hn,e,T1,H1,m1,ho,he,hl⟩:=acallN_some h
  have hnx:=aleave_mono hl
  refine callsIn_of_wp_marks hfn hb trivial ?_
  refine hI.sim _ _ _ _ _ _ _ _ _ _ ho B ρ _ w none m _ trivial ⟨initT_ok hd hn,hH,hG⟩ rfl (by rw [hnx];exact hf) fun ρ' a' w' h1 h2 h3=> ?_
  have:LeavesInM (FF none) m P fn a'.tmps (CallPost P B ρ H w v H') a'.defers .returning w':=aleave_ok m1 h1 h3 hl fun y w2 r1 r2 r3=>⟨y,ρ',rfl,r1,r2,h2.trans r3⟩
  rcases he with rfl |rfl<;>exact this
theorem aroundN_some {ih:RunnerN} {i:Nat} {args:List AV} {v:AV} {H':AHeap} (h:aroundN ih i args H= .ok v H'):∃r,H.get i=some (.loop r)∧args.length=r.params.size∧(∀t∈r.params.toList,t<r.size)∧
  ∃T1 H1 r',(ih r.assign r.size (some i) (setPairs r.tmps (r.params.toList.zip args)) H []).out=some (.normal,T1,H1,[])∧H1.get i=some (.loop r')∧r'.state= .ready∧
   aroundEnd i (ih r.body r.size (some i) T1 (H1.set i (.loop {r' with state:= .busy})) [])= .ok v H':=by
 unfold aroundN at h
 split at h
 ·rename_i r hg
  split at h
  ·cases hb:(Nat.beq args.length r.params.size&&r.params.toList.all fun t=>Nat.ble (t+1) r.size)with
   |false=>rw [hb]at h;cases h
   |true=>
    rw [hb]at h
    rw [Bool.and_eq_true]at hb
    simp only [cond_true]at h
    refine⟨r,hg,Nat.eq_of_beq_eq_true hb.1,fun t ht=>Nat.le_of_ble_eq_true (List.all_eq_true.1 hb.2 t ht), ?_⟩
    split at h
    ·rename_i T1 H1 hr
     split at h
     ·rename_i r' hg'
      split at h
      ·rename_i hs
       exact⟨T1,H1,r',by rw [hr];rfl,hg',hs,h⟩
      ·cases h
     ·cases h
    ·cases h
  ·cases h
 ·cases h
theorem aroundN_ok {ih:RunnerN} (hI:RunOkN P ih):RoundOk P (aroundN ih) where
 mono i args H v H' h:=by
  obtain⟨r,_,_,_,T1,H1,r',h1,_,_,h2⟩:=aroundN_some h
  obtain⟨e,T2,H2,m2,r1,j,k1,_,_,rfl,_⟩:=aroundEnd_some h2
  have a1:=hI.mono _ _ _ _ _ _ _ _ _ _ h1
  have a2:=hI.mono _ _ _ _ _ _ _ _ _ _ k1
  exact Nat.le_trans a1 a2
 sim i args H v H' h B ρ xs w b c m hH hG hr hd hf:=by
  obtain⟨r,hg,hlen,hpar,T1,H1,r',h1,hg1,hst,h2⟩:=aroundN_some h
  obtain⟨e,T2,H2,m2,r1,j,k1,hg2,rfl,rfl,hj⟩:=aroundEnd_some h2
  have a1:=hI.mono _ _ _ _ _ _ _ _ _ _ h1
  have a2:=hI.mono _ _ _ _ _ _ _ _ _ _ k1
  have a2':H1.next≤H2.next:=a2
  obtain⟨R,hb,hR⟩:=loop_at hH hg hr
  have hl:=hd.length
  have hy:=run_yield (P:=P) (args:=xs.toArray) hb (by rw [hR.params];simp;omega)
  refine⟨_,_,_,_,hy,roundIn_of_wpIn trivial ?_⟩
  -- the slots of the round
  have hT0:TDen ρ (setPairs r.tmps (r.params.toList.zip args)) r.size ((R.params.zip xs.toArray).foldl (fun tmps (t,a)=>tmps.setIfInBounds t a) R.tmps):=by
   have e1:(R.params.zip xs.toArray).foldl (fun tmps (t,a)=>tmps.setIfInBounds t a) R.tmps=(r.params.toList.zip xs).foldl (fun tmps p=>tmps.setIfInBounds p.1 p.2) R.tmps:=by
    rw [←Array.foldl_toList,hR.params]
    congr 1
    simp
   rw [e1]
   have hz:∀{α:Type} (l:List Nat) (ys:List α),ys.length=l.length→(l.zip ys).map Prod.fst=l∧(l.zip ys).map Prod.snd=ys:=fun l ys hh=>⟨by rw [List.map_fst_zip];omega,by rw [List.map_snd_zip];omega⟩
   have z1:=hz r.params.toList args (by simpa using hlen)
   have z2:=hz r.params.toList xs (by rw [hl];simpa using hlen)
   exact setPairs_ok _ _ (by rw [z1.1,z2.1]) (by rw [z1.2,z2.2];exact hd) (fun p hp=>hpar p.1 (List.of_mem_zip hp).1) hR.tmps
  rw [hR.assign,hR.body]
  refine hI.sim _ _ _ _ _ _ _ _ _ _ h1 B ρ _ w (some b) m _ ⟨c,hr⟩ ⟨hT0,hH,hG⟩ rfl (fun x y z=>hf x y (Nat.lt_of_lt_of_le z a2')) fun ρ1 a1_ w1 hA hS hD=> ?_
  have hD:a1_.defers=[]:=hD
  have hr1:ρ1 i=some (b,c):=hS.le _ _ hr
  obtain⟨R1,hb1,hR1⟩:=loop_at hA.H hg1 hr1
  have hbr:=run_beginRound (P:=P) hb1 (by rw [hR1.state,hst])
  refine⟨_,hbr, ?_⟩
  obtain⟨q1,q2⟩:=sim_loop hA.H hg1 hr1 rfl (r:={r' with state:= .busy}) (R:={R1 with state:= .busy}) ⟨rfl,hR1.pending,hR1.params,hR1.assign,hR1.body,hR1.tmps⟩
  refine hI.sim _ _ _ _ _ _ _ _ _ _ k1 B ρ1 a1_ _ (some b) m _ ⟨c,hr1⟩ (hA.next hA.T q1 q2) hD ((hS.trans q2).fr hf) fun ρ2 a2_ w2 hA2 hS2 _=> ?_
  have hr2:ρ2 i=some (b,c):=hS2.le _ _ hr1
  obtain⟨R2,hb2,hR2⟩:=loop_at hA2.H hg2 hr2
  have her:=run_endRound (P:=P) j hb2
  obtain⟨q3,q4⟩:=sim_loop hA2.H hg2 hr2 rfl (r:={r1 with state:=if j.isNone then .ready else .done,pending:=j}) (R:={R2 with state:=if j.isNone then .ready else .done,pending:=j}) ⟨rfl,rfl,hR2.params,hR2.assign,hR2.body,hR2.tmps⟩
  have fin:∃v' w',(Instr.endRound b j).run P w2= .ok v' w'∧CallPost P B ρ H w (.raw (.bool j.isNone)) (H2.set i (.loop {r1 with state:=if j.isNone then .ready else .done,pending:=j})) (.returned v') w':=
   ⟨_,_,her,_,ρ2,rfl, .raw _,q3,((hS.trans q2).trans hS2).trans q4⟩
  rcases hj with⟨rfl,rfl⟩|⟨rfl,rfl⟩|⟨id,rfl,rfl⟩|⟨l,rfl,rfl⟩<;>exact fin
theorem arangeEndN_some {ih:RunnerN} {rnd:Option Nat} {L:Nat} {m:List Nat} {vr:VR} {e:Exit} {T':Tr AV} {H':AHeap} {m':List Nat} (h:(arangeEndN ih n rnd T L m vr).out=some (e,T',H',m')):∃v H3 r,vr= .ok v H3∧H3.get L=some (.loop r)∧r.state≠ .busy∧
  (r.pending=none∧e= .normal∧T'=T∧H'=H3.set L (.loop {r with state:= .exhausted})∧m'=m∨
    ∃c,r.pending=some c∧(ih c n rnd T (H3.set L (.loop {r with state:= .exhausted})) m).out=some (e,T',H',m')):=by
 unfold arangeEndN at h
 split at h
 ·rename_i v H3
  split at h
  ·rename_i r hg
   split at h
   ·cases h
   ·rename_i hs
    refine⟨v,H3,r,rfl,hg,fun hh=>hs hh, ?_⟩
    split at h
    ·rename_i hp;cases h;exact .inl ⟨hp,rfl,rfl,rfl,rfl⟩
    ·rename_i c hp;exact .inr ⟨c,hp,h⟩
  ·cases h
 ·cases h
theorem arangeN_some {ih:RunnerN} {f:Operand} {params:Array Tmp} {assign body:Code} {m:List Nat} {e:Exit} {T':Tr AV} {H':AHeap} {m':List Nat} (h:(arangeN cl P ih f params assign body n T H m).out=some (e,T',H',m')):
  ∃g args H2,acallee P (evT T f) [.yield (H.next+1)] ((H.new .deferred).new (.loop {tmps:=T,size:=n,params,assign,body,state:= .ready,pending:=none}))= .enter g args H2∧
   (arangeEndN ih n none T (H.next+1) (H.next::m) (cl ih g args H2)).out=some (e,T',H',m'):=by
 unfold arangeN at h
 split at h
 ·rename_i g args H2 hc;exact⟨g,args,H2,hc,h⟩
 ·cases h
theorem arangeI_some {ih:RunnerN} {i:Nat} {f:Operand} {params:Array Tmp} {assign body:Code} {m:List Nat} {e:Exit} {T':Tr AV} {H':AHeap} {m':List Nat} (h:(arangeI cl P ih i f params assign body n T H m).out=some (e,T',H',m')):
  (∃r0,H.get i=some (.loop r0))∧∃g args H2,acallee P (evT T f) [.yield H.next] (H.new (.loop {tmps:=T,size:=n,params,assign,body,state:= .ready,pending:=none}))= .enter g args H2∧
    (arangeEndN ih n (some i) T H.next m (cl ih g args H2)).out=some (e,T',H',m'):=by
 unfold arangeI at h
 split at h
 ·rename_i g args H2 hc
  cases hb:isLoopB (H.get i)with
  |false=>rw [hb]at h;cases h
  |true=>
   rw [hb]at h
   refine⟨?_,g,args,H2,hc,h⟩
   unfold isLoopB at hb
   split at hb
   ·rename_i r0 hr0;exact⟨r0,hr0⟩
   ·cases hb
 ·cases h
theorem arangeN_mono (hcl:∀ih,RunOkN P ih→CallOk P (cl ih)) {ih:RunnerN} (hI:RunOkN P ih) {f:Operand} {params:Array Tmp} {assign body:Code} {m:List Nat} {e:Exit} {T':Tr AV} {H':AHeap} {m':List Nat} (h:(arangeN cl P ih f params assign body n T H m).out=some (e,T',H',m')):H.next+2≤H'.next:=by
 obtain⟨g,args,H2,h1,h2⟩:=arangeN_some h
 have hH2:=enter_same h1
 obtain⟨v,H3,r,h3,h4,h5,h6⟩:=arangeEndN_some h2
 have hc:=(hcl ih hI).mono _ _ _ _ _ h3
 have e2:H2.next=H.next+2:=by rw [hH2];rfl
 rcases h6 with⟨_,_,_,rfl,_⟩|⟨c,_,h7⟩
 ·show H.next+2≤H3.next
  omega
 ·have:=hI.mono _ _ _ _ _ _ _ _ _ _ h7
  have e3:(H3.set (H.next+1) (ABlk.loop {r with state:= .exhausted})).next=H3.next:=rfl
  omega
theorem arangeI_mono (hcl:∀ih,RunOkN P ih→CallOk P (cl ih)) {ih:RunnerN} (hI:RunOkN P ih) {i:Nat} {f:Operand} {params:Array Tmp} {assign body:Code} {m:List Nat} {e:Exit} {T':Tr AV} {H':AHeap} {m':List Nat} (h:(arangeI cl P ih i f params assign body n T H m).out=some (e,T',H',m')):H.next+1≤H'.next:=by
 obtain⟨_,g,args,H2,h1,h2⟩:=arangeI_some h
 have hH2:=enter_same h1
 obtain⟨v,H3,r,h3,h4,h5,h6⟩:=arangeEndN_some h2
 have hc:=(hcl ih hI).mono _ _ _ _ _ h3
 have e2:H2.next=H.next+1:=by rw [hH2];rfl
 rcases h6 with⟨_,_,_,rfl,_⟩|⟨c,_,h7⟩
 ·show H.next+1≤H3.next
  omega
 ·have:=hI.mono _ _ _ _ _ _ _ _ _ _ h7
  have e3:(H3.set H.next (ABlk.loop {r with state:= .exhausted})).next=H3.next:=rfl
  omega
theorem arangeN_ok (hcl:∀ih,RunOkN P ih→CallOk P (cl ih)) (hK:Known P) {ih:RunnerN} (hI:RunOkN P ih) {f:Operand} {params:Array Tmp} {assign body:Code} {m:List Nat} {e:Exit} {T':Tr AV} {H':AHeap} {m':List Nat} (h:(arangeN cl P ih f params assign body n T H m).out=some (e,T',H',m'))
  (k:Nat) {Q:Exit→Act→World→Prop} (hAR:AR P B ρ n T H a w) (hD:DM ρ m a.defers) (hf:Fr ρ H.next H'.next)
  (hQ:∀ρ' a' w',AR P B ρ' n T' H' a' w'→Stp ρ H w ρ' H' w'→DM ρ' m' a'.defers→Q e a' w'):(Code.rangeFunc f params assign body).wpIn (FF none) k P Q a w:=by
 have hmono:=arangeN_mono hcl hI h
 obtain⟨g,args,H2,h1,h2⟩:=arangeN_some h
 have hH2:=enter_same h1
 obtain⟨v,H3,r,h3,h4,h5,h6⟩:=arangeEndN_some h2
 have hcm:=(hcl ih hI).mono _ _ _ _ _ h3
 have e2:H2.next=H.next+2:=by rw [hH2];rfl
 have hlast:H3.next≤H'.next:=by
  rcases h6 with⟨_,_,_,rfl,_⟩|⟨c,_,h7⟩
  ·exact Nat.le_refl _
  ·have:=hI.mono _ _ _ _ _ _ _ _ _ _ h7
   exact this
 refine wpIn_rangeFunc fun fn _=> ?_
 -- the two blocks
 have hn0:ρ H.next=none:=hf _ (Nat.le_refl _) (by omega)
 obtain⟨p1,p2⟩:=sim_new hAR.H (fun i x y=>hf i x (by omega)) 0 .deferred (.deferred (some [])) rfl
 have hf1:=p2.fr hf
 have hn1:(H.new .deferred).next=H.next+1:=rfl
 have hT1:=hAR.T.mono p2.le
 obtain⟨rec,hrec⟩:∃rec:Loop,rec={state:= .ready,pending:=none,fn,tmps:=a.tmps,params,assign,body,defers:=w.heap.size}:=⟨_,rfl⟩
 obtain⟨p3,p4⟩:=sim_new p1 (fun i x y=>hf1 i x (by rw [hn1]at y;omega)) 0 (.loop {tmps:=T,size:=n,params,assign,body,state:= .ready,pending:=none}) (.loop rec) ⟨rec,rfl,by rw [hrec],by rw [hrec],by rw [hrec],by rw [hrec],by rw [hrec],by
  rw [hrec]
  exact hT1.mono (Env.put_le (hf1 _ (Nat.le_refl _) (by rw [hn1];omega)))⟩
 have hle:=p2.trans p4
 rw [←hH2]at p3 p4 hle h1
 obtain⟨ρ2,hρ2⟩:∃ρ2,ρ2=(ρ.put H.next w.heap.size 0).put (H.new .deferred).next (w.alloc (.deferred (some []))).heap.size 0:=⟨_,rfl⟩
 rw [←hρ2]at p3 p4 hle
 have hL:ρ2 (H.next+1)=some (w.heap.size+1,0):=by rw [hρ2,←hn1,Env.put_same];simp
 have hDd:ρ2 H.next=some (w.heap.size,0):=by
  refine p4.le _ _ ?_
  rw [Env.put_same]
 -- the function
 have hfv:=(evT_ok hAR.T hAR.G f).mono hle.le
 obtain⟨ffn,first,captured,hfe⟩:=acallee_func hfv h1
 have hyd:Dens ρ2 [AV.yield (H.next+1)] [.func (.yield (w.heap.size+1)) #[] #[]]:= .cons (.yield hL) .nil
 have hca:=acallee_ok (P:=P) (B:=B) (w:=(w.alloc (.deferred (some []))).alloc (.loop rec)) (fv:=evT T f) hK p3 hfv hyd (r:=(invoke (.fn ffn captured) (first++ #[.func (.yield (w.heap.size+1)) #[] #[]])).run P ((w.alloc (.deferred (some []))).alloc (.loop rec)))
  (fun fn' first' captured' hh=>by rw [hfe]at hh;cases hh;rfl)
 rw [h1]at hca
 obtain⟨_,xs,hinv,hxs⟩:=hca
 refine⟨w.heap.size+1,[{target:= .collected w.heap.size,args:= #[]}],(w.alloc (.deferred (some []))).alloc (.loop rec),{target:= .fn ffn captured,args:=first++ #[.func (.yield (w.heap.size+1)) #[] #[]]},(w.alloc (.deferred (some []))).alloc (.loop rec),g,xs.toArray,
  (w.alloc (.deferred (some []))).alloc (.loop rec), ?_, ?_,fun _ _=>trivial,hinv,(fun hh=>by cases hh), ?_⟩
 ·rw [hrec];exact run_enterLoop_outer fn a.tmps params assign body
 ·have hcv:∀v,a.eval (.const v)=v:=fun _=>rfl
  simp [resolve,hfe,Deferred.ofValue,hcv]
 ·refine((hcl ih hI).sim g args H2 v H3 h3 B ρ2 xs _ (k-1) p3 (hAR.G.mono hle.le) hxs ((hle.fr hf).mono' hlast)).mono ?_
  rintro e0 w3 ⟨x,ρ3,rfl,_,q1,q2⟩
  have hL3:=q2.le _ _ hL
  obtain⟨R,hb,hR⟩:=loop_at q1 h4 hL3
  have hel:=run_endLoop (P:=P) hb (by rw [hR.state];exact h5)
  obtain⟨q3,q4⟩:=sim_loop q1 h4 hL3 rfl (r:={r with state:= .exhausted}) (R:={R with state:= .exhausted}) ⟨rfl,hR.pending,hR.params,hR.assign,hR.body,hR.tmps⟩
  have hstp:=(hle.trans q2).trans q4
  have hDM:DM ρ3 (H.next::m) ([{target:= .collected w.heap.size,args:= #[]}]++a.defers):=⟨w.heap.size,0,a.defers,q2.le _ _ hDd,rfl,(hD.mono (hle.trans q2).le)⟩
  have key:∀jump,jump=r.pending→(match jump with
    |none=>Q .normal {a with defers:=[{target:= .collected w.heap.size,args:= #[]}]++a.defers} (w3.putObj (w.heap.size+1) (.loop {R with state:= .exhausted}))
    |some c=>c.wpIn (FF none) k P Q {a with defers:=[{target:= .collected w.heap.size,args:= #[]}]++a.defers} (w3.putObj (w.heap.size+1) (.loop {R with state:= .exhausted}))):=by
   rintro jump rfl
   rcases h6 with⟨k1,rfl,rfl,rfl,rfl⟩|⟨c,k1,h7⟩
   ·rw [k1]
    exact hQ ρ3 {a with defers:=[{target:= .collected w.heap.size,args:= #[]}]++a.defers} _ ⟨hAR.T.mono hstp.le,q3,hAR.G.mono hstp.le⟩ hstp hDM
   ·rw [k1]
    refine hI.sim _ _ _ _ _ _ _ _ _ _ h7 B ρ3 {a with defers:=[{target:= .collected w.heap.size,args:= #[]}]++a.defers} _ none k Q trivial ⟨hAR.T.mono hstp.le,q3,hAR.G.mono hstp.le⟩ hDM (hstp.fr hf) fun ρ' a' w' r1 r2 r3=>hQ ρ' a' w' r1 (hstp.trans r2) r3
  exact⟨R.pending,_,hel,key _ hR.pending⟩
theorem arangeI_ok (hcl:∀ih,RunOkN P ih→CallOk P (cl ih)) (hK:Known P) {ih:RunnerN} (hI:RunOkN P ih) {i l₀ c₀:Nat} (hri:ρ i=some (l₀,c₀)) {f:Operand} {params:Array Tmp} {assign body:Code} {m:List Nat} {e:Exit} {T':Tr AV} {H':AHeap} {m':List Nat} (h:(arangeI cl P ih i f params assign body n T H m).out=some (e,T',H',m'))
  (k:Nat) {Q:Exit→Act→World→Prop} (hAR:AR P B ρ n T H a w) (hD:DM ρ m a.defers) (hf:Fr ρ H.next H'.next)
  (hQ:∀ρ' a' w',AR P B ρ' n T' H' a' w'→Stp ρ H w ρ' H' w'→DM ρ' m' a'.defers→Q e a' w'):(Code.rangeFunc f params assign body).wpIn (FF (some l₀)) k P Q a w:=by
 have hmono:=arangeI_mono hcl hI h
 obtain⟨⟨r0,hr0⟩,g,args,H2,h1,h2⟩:=arangeI_some h
 have hH2:=enter_same h1
 obtain⟨v,H3,r,h3,h4,h5,h6⟩:=arangeEndN_some h2
 have hcm:=(hcl ih hI).mono _ _ _ _ _ h3
 have e2:H2.next=H.next+1:=by rw [hH2];rfl
 have hlast:H3.next≤H'.next:=by
  rcases h6 with⟨_,_,_,rfl,_⟩|⟨c,_,h7⟩
  ·exact Nat.le_refl _
  ·have:=hI.mono _ _ _ _ _ _ _ _ _ _ h7
   exact this
 refine wpIn_rangeFunc fun fn _=> ?_
 obtain⟨R0,hR0,_⟩:=loop_at hAR.H hr0 hri
 -- the block
 have hn0:ρ H.next=none:=hf _ (Nat.le_refl _) (by omega)
 obtain⟨rec,hrec⟩:∃rec:Loop,rec={state:= .ready,pending:=none,fn,tmps:=a.tmps,params,assign,body,defers:=R0.defers}:=⟨_,rfl⟩
 obtain⟨p3,p4⟩:=sim_new hAR.H (fun i x y=>hf i x (by omega)) 0 (.loop {tmps:=T,size:=n,params,assign,body,state:= .ready,pending:=none}) (.loop rec) ⟨rec,rfl,by rw [hrec],by rw [hrec],by rw [hrec],by rw [hrec],by rw [hrec],by
  rw [hrec]
  exact hAR.T.mono (Env.put_le hn0)⟩
 have hle:=p4
 rw [←hH2]at p3 p4 hle h1
 obtain⟨ρ2,hρ2⟩:∃ρ2,ρ2=ρ.put H.next w.heap.size 0:=⟨_,rfl⟩
 rw [←hρ2]at p3 p4 hle
 have hL:ρ2 H.next=some (w.heap.size,0):=by rw [hρ2,Env.put_same]
 -- the function
 have hfv:=(evT_ok hAR.T hAR.G f).mono hle.le
 obtain⟨ffn,first,captured,hfe⟩:=acallee_func hfv h1
 have hyd:Dens ρ2 [AV.yield H.next] [.func (.yield w.heap.size) #[] #[]]:= .cons (.yield hL) .nil
 have hca:=acallee_ok (P:=P) (B:=B) (w:=w.alloc (.loop rec)) (fv:=evT T f) hK p3 hfv hyd (r:=(invoke (.fn ffn captured) (first++ #[.func (.yield w.heap.size) #[] #[]])).run P (w.alloc (.loop rec)))
  (fun fn' first' captured' hh=>by rw [hfe]at hh;cases hh;rfl)
 rw [h1]at hca
 obtain⟨_,xs,hinv,hxs⟩:=hca
 refine⟨w.heap.size,[],w.alloc (.loop rec),{target:= .fn ffn captured,args:=first++ #[.func (.yield w.heap.size) #[] #[]]},w.alloc (.loop rec),g,xs.toArray,
  w.alloc (.loop rec), ?_, ?_,fun _ _=>trivial,hinv,(fun hh=>by cases hh), ?_⟩
 ·rw [hrec];exact run_enterLoop_inner hR0 fn a.tmps params assign body
 ·have hcv:∀v,a.eval (.const v)=v:=fun _=>rfl
  simp [resolve,hfe,Deferred.ofValue,hcv]
 ·refine((hcl ih hI).sim g args H2 v H3 h3 B ρ2 xs _ (k-1) p3 (hAR.G.mono hle.le) hxs ((hle.fr hf).mono' hlast)).mono ?_
  rintro e0 w3 ⟨x,ρ3,rfl,_,q1,q2⟩
  have hL3:=q2.le _ _ hL
  obtain⟨R,hb,hR⟩:=loop_at q1 h4 hL3
  have hel:=run_endLoop (P:=P) hb (by rw [hR.state];exact h5)
  obtain⟨q3,q4⟩:=sim_loop q1 h4 hL3 rfl (r:={r with state:= .exhausted}) (R:={R with state:= .exhausted}) ⟨rfl,hR.pending,hR.params,hR.assign,hR.body,hR.tmps⟩
  have hstp:=(hle.trans q2).trans q4
  have hDM:DM ρ3 m a.defers:=hD.mono (hle.trans q2).le
  have key:∀jump,jump=r.pending→(match jump with
    |none=>Q .normal a (w3.putObj w.heap.size (.loop {R with state:= .exhausted}))
    |some c=>c.wpIn (FF (some l₀)) k P Q a (w3.putObj w.heap.size (.loop {R with state:= .exhausted}))):=by
   rintro jump rfl
   rcases h6 with⟨k1,rfl,rfl,rfl,rfl⟩|⟨c,k1,h7⟩
   ·rw [k1]
    exact hQ ρ3 a _ ⟨hAR.T.mono hstp.le,q3,hAR.G.mono hstp.le⟩ hstp hDM
   ·rw [k1]
    refine hI.sim _ _ _ _ _ _ _ _ _ _ h7 B ρ3 a _ (some l₀) k Q ⟨c₀,hstp.le _ _ hri⟩ ⟨hAR.T.mono hstp.le,q3,hAR.G.mono hstp.le⟩ hDM (hstp.fr hf) fun ρ' a' w' r1 r2 r3=>hQ ρ' a' w' r1 (hstp.trans r2) r3
  exact⟨R.pending,_,hel,key _ hR.pending⟩
theorem iterN_mono {ih:RunnerN} (hI:RunOkN P ih) {c:Code} {rnd:Option Nat}:∀(j:Nat) {T:Tr AV} {H:AHeap} {m:List Nat} {e:Exit} {T':Tr AV} {H':AHeap} {m':List Nat},(iter (ih c n rnd) j T H m).out=some (e,T',H',m')→H.next≤H'.next
 |0,_,_,_,_,_,_,_,h=>by cases h
 |j+1,T,H,m,e,T',H',m',h=>by
  obtain⟨j',hj,e1,T1,H1,m1,h1,h2⟩:=iter_some (j+1) h
  cases hj
  have a1:=hI.mono _ _ _ _ _ _ _ _ _ _ h1
  rcases h2 with⟨_,h2⟩|⟨_,_,_,rfl,_⟩
  ·exact Nat.le_trans a1 (iterN_mono hI j h2)
  ·exact a1
theorem iterN_ok {ih:RunnerN} (hI:RunOkN P ih) {c:Code} {rnd:Option Nat} {rd:Option Nat} {k:Nat} {Q:Exit→Act→World→Prop}:∀(j:Nat) {ρ:Env} {T:Tr AV} {H:AHeap} {m:List Nat} {a:Act} {w:World} {e:Exit} {T':Tr AV} {H':AHeap} {m':List Nat},
  (iter (ih c n rnd) j T H m).out=some (e,T',H',m')→RdOk ρ rnd rd→AR P B ρ n T H a w→DM ρ m a.defers→Fr ρ H.next H'.next→
  (∀ρ' a' w',AR P B ρ' n T' H' a' w'→Stp ρ H w ρ' H' w'→DM ρ' m' a'.defers→Q e a' w')→Code.roundsIn (FF rd) k P c Q j a w
 |0,_,_,_,_,_,_,_,_,_,_,h,_,_,_,_,_=>by cases h
 |j+1,ρ,T,H,m,a,w,e,T',H',m',h,hrd,hAR,hD,hf,hQ=>by
  obtain⟨j',hj,e1,T1,H1,m1,h1,h2⟩:=iter_some (j+1) h
  cases hj
  have hle:H1.next≤H'.next:=by
   rcases h2 with⟨_,h2⟩|⟨_,_,_,rfl,_⟩
   ·exact iterN_mono hI j h2
   ·exact Nat.le_refl _
  refine hI.sim _ _ _ _ _ _ _ _ _ _ h1 B ρ a w rd k _ hrd hAR hD (hf.mono' hle) fun ρ1 a1 w1 r1 r2 r3=> ?_
  rcases h2 with⟨rfl,h2⟩|⟨hn,rfl,rfl,rfl,rfl⟩
  ·exact iterN_ok hI j h2 (hrd.mono r2.le) r1 r3 (r2.fr hf) fun ρ' a' w' q1 q2 q3=>hQ ρ' a' w' q1 (r2.trans q2) q3
  ·exact exit_then hn (hQ ρ1 a1 w1 r1 r2 r3)
theorem chandleN_loop {draw:Drawer} {ih:RunnerN} {x:Code} {rnd:Option Nat} {m:List Nat}:chandleN cl (.loop x) P draw ih n rnd T H m=iter (ih x n rnd) rounds T H m:=by
 unfold chandleN
 simp only [cLoopN]
theorem chandleN_ok (hcl:∀ih,RunOkN P ih→CallOk P (cl ih)) (hK:Known P) {draw:Drawer} (hdr:∀d,DrawOk P d (draw d)) {ih:RunnerN} (hI:RunOkN P ih):RunOkN P (fun c=>chandleN cl c P draw ih) where
 mono c n rnd T H m e T' H' m' h:=by
  have hC:=hcl ih hI
  have hR:=aroundN_ok hI
  cases c with
  |skip=>cases h;exact Nat.le_refl _
  |label l=>cases h;exact Nat.le_refl _
  |exit id=>cases h;exact Nat.le_refl _
  |goto l=>cases h;exact Nat.le_refl _
  |ret=>cases h;exact Nat.le_refl _
  |refuse why=>cases h
  |region id ops d=>
   obtain⟨h1,_,_⟩:=th_out h
   exact(hdr d).mono _ _ hC hR _ _ _ _ _ _ h1
  |seq x y=>
   have h:(@R.rec (fun _=>R) .no (fun T H m=>ih y n rnd T H m) .exit .goto .ret (ih x n rnd T H m)).out=some (e,T',H',m'):=h
   cases hx:ih x n rnd T H m with
   |no=>rw [hx]at h;cases h
   |normal T1 H1 m1=>rw [hx]at h;exact Nat.le_trans (hI.mono x n rnd T H m _ _ _ _ (by rw [hx];rfl)) (hI.mono _ _ _ _ _ _ _ _ _ _ h)
   |exit id T1 H1 m1=>rw [hx]at h;cases h;exact hI.mono x n rnd T H m _ _ _ _ (by rw [hx];rfl)
   |goto l T1 H1 m1=>rw [hx]at h;cases h;exact hI.mono x n rnd T H m _ _ _ _ (by rw [hx];rfl)
   |ret T1 H1 m1=>rw [hx]at h;cases h;exact hI.mono x n rnd T H m _ _ _ _ (by rw [hx];rfl)
  |cond c x y=>
   have h:(@BV.rec (fun _=>R) .no (fun b=> @Bool.rec (fun _=>R) (ih y n rnd T H m) (ih x n rnd T H m) b) (boolV (evT T c))).out=some (e,T',H',m'):=h
   cases hb:boolV (evT T c)with
   |no=>rw [hb]at h;cases h
   |mk b=>rw [hb]at h;cases b<;>exact hI.mono _ _ _ _ _ _ _ _ _ _ h
  |block id x=>
   have h:(@R.rec (fun _=>R) .no .normal (fun i T H m=> @Bool.rec (fun _=>R) (.exit i T H m) (.normal T H m) (Nat.beq i id)) .goto .ret (ih x n rnd T H m)).out=some (e,T',H',m'):=h
   cases hx:ih x n rnd T H m with
   |no=>rw [hx]at h;cases h
   |normal T1 H1 m1=>rw [hx]at h;cases h;exact hI.mono x n rnd T H m _ _ _ _ (by rw [hx];rfl)
   |exit i T1 H1 m1=>
    rw [hx]at h
    simp only at h
    cases hb:Nat.beq i id with
    |true=>rw [hb]at h;cases h;exact hI.mono x n rnd T H m _ _ _ _ (by rw [hx];rfl)
    |false=>rw [hb]at h;cases h;exact hI.mono x n rnd T H m _ _ _ _ (by rw [hx];rfl)
   |goto l T1 H1 m1=>rw [hx]at h;cases h;exact hI.mono x n rnd T H m _ _ _ _ (by rw [hx];rfl)
   |ret T1 H1 m1=>rw [hx]at h;cases h;exact hI.mono x n rnd T H m _ _ _ _ (by rw [hx];rfl)
  |loop x=>rw [chandleN_loop]at h;exact iterN_mono hI rounds h
  |rangeFunc f ps x y=>
   cases rnd with
   |some i=>have:=arangeI_mono hcl hI (P:=P) h;omega
   |none=>have:=arangeN_mono hcl hI (P:=P) h;omega
  |scope x=>
   have h:(@R.rec (fun _=>R) .no .normal .exit (fun _ _ _ _=> .no) .ret (ih x n rnd T H m)).out=some (e,T',H',m'):=h
   cases hx:ih x n rnd T H m with
   |no=>rw [hx]at h;cases h
   |normal T1 H1 m1=>rw [hx]at h;cases h;exact hI.mono x n rnd T H m _ _ _ _ (by rw [hx];rfl)
   |exit id T1 H1 m1=>rw [hx]at h;cases h;exact hI.mono x n rnd T H m _ _ _ _ (by rw [hx];rfl)
   |goto l T1 H1 m1=>rw [hx]at h;cases h
   |ret T1 H1 m1=>rw [hx]at h;cases h;exact hI.mono x n rnd T H m _ _ _ _ (by rw [hx];rfl)
 sim c n rnd T H m e T' H' m' h B ρ a w rd k Q hrd hAR hD hf hQ:=by
  have hC:=hcl ih hI
  have hR:=aroundN_ok hI
  have here:∀{x:Code} {e1 T1 H1 m1},(ih x n rnd T H m).out=some (e1,T1,H1,m1)→H1=H'→∀Q':Exit→Act→World→Prop,(∀ρ' a' w',AR P B ρ' n T1 H1 a' w'→Stp ρ H w ρ' H1 w'→DM ρ' m1 a'.defers→Q' e1 a' w')→x.wpIn (FF rd) k P Q' a w:=
   fun h1 hh Q' hq=>hI.sim _ _ _ _ _ _ _ _ _ _ h1 B ρ a w rd k Q' hrd hAR hD (by rw [hh];exact hf) hq
  cases c with
  |skip=>cases h;exact wpIn_skip (hQ ρ a w hAR (Stp.refl _ _ _) hD)
  |label l=>cases h;exact wpIn_label (hQ ρ a w hAR (Stp.refl _ _ _) hD)
  |exit id=>cases h;exact wpIn_exit (hQ ρ a w hAR (Stp.refl _ _ _) hD)
  |goto l=>cases h;exact wpIn_goto (hQ ρ a w hAR (Stp.refl _ _ _) hD)
  |ret=>cases h;exact wpIn_ret (hQ ρ a w hAR (Stp.refl _ _ _) hD)
  |refuse why=>cases h
  |region id ops d=>
   obtain⟨h1,rfl,rfl⟩:=th_out h
   have hQ':∀ρ' a' w',AR P B ρ' n T' H' a' w'→Stp ρ H w ρ' H' w'→a'.defers=a.defers→Q .normal a' w':=fun ρ' a' w' r1 r2 r3=>hQ ρ' a' w' r1 r2 (by rw [r3];exact hD.mono r2.le)
   exact(hdr d).sim _ _ hC hR id _ _ _ _ _ _ h1 B ρ a w rd k Q hAR hf hQ'
  |seq x y=>
   have h:(@R.rec (fun _=>R) .no (fun T H m=>ih y n rnd T H m) .exit .goto .ret (ih x n rnd T H m)).out=some (e,T',H',m'):=h
   refine wpIn_seq ?_
   cases hx:ih x n rnd T H m with
   |no=>rw [hx]at h;cases h
   |normal T1 H1 m1=>
    rw [hx]at h
    have hle:=hI.mono _ _ _ _ _ _ _ _ _ _ h
    refine hI.sim x n rnd T H m _ _ _ _ (by rw [hx];rfl) B ρ a w rd k _ hrd hAR hD (hf.mono' hle) fun ρ1 a1 w1 r1 r2 r3=> ?_
    exact hI.sim _ _ _ _ _ _ _ _ _ _ h B ρ1 a1 w1 rd k Q (hrd.mono r2.le) r1 r3 (r2.fr hf) fun ρ' a' w' q1 q2 q3=>hQ ρ' a' w' q1 (r2.trans q2) q3
   |exit id T1 H1 m1=>rw [hx]at h;cases h;exact here (x:=x) (by rw [hx];rfl) rfl _ hQ
   |goto l T1 H1 m1=>rw [hx]at h;cases h;exact here (x:=x) (by rw [hx];rfl) rfl _ hQ
   |ret T1 H1 m1=>rw [hx]at h;cases h;exact here (x:=x) (by rw [hx];rfl) rfl _ hQ
  |cond c x y=>
   have h:(@BV.rec (fun _=>R) .no (fun b=> @Bool.rec (fun _=>R) (ih y n rnd T H m) (ih x n rnd T H m) b) (boolV (evT T c))).out=some (e,T',H',m'):=h
   cases hb:boolV (evT T c)with
   |no=>rw [hb]at h;cases h
   |mk b=>
    rw [hb]at h
    have hc:=evT_ok hAR.T hAR.G c
    rw [boolV_mk hb]at hc
    refine wpIn_cond hc.raw_eq ?_
    cases b
    ·exact hI.sim _ _ _ _ _ _ _ _ _ _ h B ρ a w rd k Q hrd hAR hD hf hQ
    ·exact hI.sim _ _ _ _ _ _ _ _ _ _ h B ρ a w rd k Q hrd hAR hD hf hQ
  |block id x=>
   have h:(@R.rec (fun _=>R) .no .normal (fun i T H m=> @Bool.rec (fun _=>R) (.exit i T H m) (.normal T H m) (Nat.beq i id)) .goto .ret (ih x n rnd T H m)).out=some (e,T',H',m'):=h
   refine wpIn_block ?_
   cases hx:ih x n rnd T H m with
   |no=>rw [hx]at h;cases h
   |normal T1 H1 m1=>rw [hx]at h;cases h;exact here (x:=x) (by rw [hx];rfl) rfl _ hQ
   |exit i T1 H1 m1=>
    rw [hx]at h
    simp only at h
    cases hb:Nat.beq i id with
    |true=>
     rw [hb]at h;cases h
     have:=Nat.eq_of_beq_eq_true hb
     subst this
     exact here (x:=x) (by rw [hx];rfl) rfl _ fun ρ' a' w' r1 r2 r3=>by simp only [Exit.inBlock,if_true];exact hQ ρ' a' w' r1 r2 r3
    |false=>
     rw [hb]at h;cases h
     have hne:i≠id:=fun hh=>by subst hh;rw [Nat.beq_refl]at hb;cases hb
     exact here (x:=x) (by rw [hx];rfl) rfl _ fun ρ' a' w' r1 r2 r3=>by simp only [Exit.inBlock,if_neg hne];exact hQ ρ' a' w' r1 r2 r3
   |goto l T1 H1 m1=>rw [hx]at h;cases h;exact here (x:=x) (by rw [hx];rfl) rfl _ hQ
   |ret T1 H1 m1=>rw [hx]at h;cases h;exact here (x:=x) (by rw [hx];rfl) rfl _ hQ
  |loop x=>rw [chandleN_loop]at h;exact wpIn_loop_rounds rounds (iterN_ok hI rounds h hrd hAR hD hf hQ)
  |rangeFunc f ps x y=>
   cases rnd with
   |some i=>
    cases rd with
    |some l=>obtain⟨c,hc⟩:=hrd;exact arangeI_ok hcl hK hI hc h k hAR hD hf hQ
    |none=>exact hrd.elim
   |none=>
    cases rd with
    |some l=>exact hrd.elim
    |none=>exact arangeN_ok hcl hK hI h k hAR hD hf hQ
  |scope x=>
   have h:(@R.rec (fun _=>R) .no .normal .exit (fun _ _ _ _=> .no) .ret (ih x n rnd T H m)).out=some (e,T',H',m'):=h
   refine wpIn_scope_straight ?_
   cases hx:ih x n rnd T H m with
   |no=>rw [hx]at h;cases h
   |normal T1 H1 m1=>rw [hx]at h;cases h;exact here (x:=x) (by rw [hx];rfl) rfl _ hQ
   |exit id T1 H1 m1=>rw [hx]at h;cases h;exact here (x:=x) (by rw [hx];rfl) rfl _ hQ
   |goto l T1 H1 m1=>rw [hx]at h;cases h
   |ret T1 H1 m1=>rw [hx]at h;cases h;exact here (x:=x) (by rw [hx];rfl) rfl _ hQ
theorem acodeN_ok (hcl:∀ih,RunOkN P ih→CallOk P (cl ih)) (hK:Known P) {draw:Drawer} (hdr:∀d,DrawOk P d (draw d)):∀fuel,RunOkN P (acodeN cl P draw fuel)
 |0=>⟨(fun _ _ _ _ _ _ _ _ _ _ h=>by cases h),(fun _ _ _ _ _ _ _ _ _ _ h=>by cases h)⟩
 |f+1=>chandleN_ok hcl hK hdr (acodeN_ok hcl hK hdr f)
end
end Go.Proofs.YtjcbbabaabcdgaaGreatDoor.Sv
/- Package gear: trains: the keys of a map are collected and sorted. -/
namespace Go.Proofs.YtjcbbabaabcdgaaGreatDoor
open Go.RowKit Sv
structure Rng (w:World) (b r:Nat) (es:Array MapEntry) (clock:Nat) (rem:List MapEntry):Prop where
 m:w.heap[b]? =some (.map es clock)
 it:∃seen c0,w.heap[r]? =some (.mapIter (some b) clock seen c0)∧clock≤c0∧(leftOf es seen).toList=rem
theorem perm_drop (e:MapEntry):∀{l:List MapEntry},(l.map (·.born)).Nodup→e∈l→l.Perm (e::l.filter fun x=>x.born != e.born)
 |[],_,h=>by cases h
 |x::l,hn,h=>by
  rw [List.map_cons,List.nodup_cons]at hn
  by_cases hx:x.born=e.born
  ·have hxe:x=e:=by
    rcases List.mem_cons.1 h with h|h
    ·exact h.symm
    ·exact absurd (List.mem_map.2 ⟨e,h,hx.symm⟩) hn.1
   subst hxe
   have:l.filter (fun y=>y.born != x.born)=l:=List.filter_eq_self.2 fun y hy=>by
    rw [bne_iff_ne]
    intro he
    exact hn.1 (List.mem_map.2 ⟨y,hy,he⟩)
   rw [List.filter_cons,if_neg (by simp),this]
  ·have he:e∈l:=by
    rcases List.mem_cons.1 h with h|h
    ·exact absurd (by rw [h]) hx
    ·exact h
   rw [List.filter_cons,if_pos (by simpa using hx)]
   exact((perm_drop e hn.2 he).cons x).trans (List.Perm.swap _ _ _)
theorem left_push (es:Array MapEntry) (seen:Array Nat) (k:Nat):(leftOf es (seen.push k)).toList=(leftOf es seen).toList.filter fun x=>x.born != k:=by
 unfold leftOf
 rw [Array.toList_filter,Array.toList_filter,List.filter_filter]
 refine List.filter_congr fun x _=> ?_
 rw [contains_push]
 cases seen.contains x.born<;>simp [bne]
theorem Rng.next {P:Program} {w:World} {b r:Nat} {es:Array MapEntry} {clock:Nat} {rem:List MapEntry} (hes:∀x∈es.toList,x.born<clock) (hn:(es.toList.map (·.born)).Nodup) (h:Rng w b r es clock rem) (ty:TypeId):
  (rem=[]∧(Instr.next (.pointer (some ⟨r,0,none⟩)) false ty).run P w= .ok (.tuple #[.bool false]) w)∨
  ∃e rem' w',rem.Perm (e::rem')∧e∈es.toList∧(Instr.next (.pointer (some ⟨r,0,none⟩)) false ty).run P w= .ok (.tuple #[.bool true,e.key,e.val]) w'∧Rng w' b r es clock rem'∧w.grownBy w' (some r)∧w'.heap.size=w.heap.size∧
   (Instr.entry (.pointer (some ⟨r,0,none⟩))).run P w'= .ok (.tuple #[e.key,e.val]) w':=by
 obtain⟨hb,seen,c0,hr,hc,rfl⟩:=h
 have hne:b≠r:=fun e=>by subst e;rw [hb]at hr;cases hr
 rcases run_next_at (P:=P) w ty r b clock c0 seen es clock hr hb hes hc with⟨h0,hrun⟩|⟨e,he,w1,hal,hrun⟩
 ·exact .inl ⟨by rw [Array.eq_empty_of_size_eq_zero h0],hrun⟩
 ·have hem:e∈es.toList:=by
   unfold leftOf at he
   rw [Array.toList_filter]at he
   exact(List.mem_filter.1 he).1
  have hnl:((leftOf es seen).toList.map (·.born)).Nodup:=by
   unfold leftOf
   rw [Array.toList_filter]
   exact(List.filter_sublist.map _).nodup hn
  have hr1:w1.heap[r]? =some (.mapIter (some b) clock seen c0):=by rcases hal with rfl |rfl<;>exact hr
  have hb1:w1.heap[b]? =some (.map es clock):=by rcases hal with rfl |rfl<;>exact hb
  have hset:=MapKept.heap_set (o':= .mapIter (some b) clock (seen.push e.born) clock) hr1
  have hb':(ChangeMaps.setBlock w1 r (.mapIter (some b) clock (seen.push e.born) clock)).heap[b]? =some (.map es clock):=(hset.2 b hne).trans hb1
  refine .inr ⟨e,_,_,perm_drop e hnl he,hem,hrun,⟨hb',_,_,hset.1,Nat.le_refl _,left_push es seen e.born⟩, ?_, ?_,run_entry_at _ r b clock seen es clock e hset.1 hb' hem hn⟩
  ·rcases hal with rfl |rfl<;>exact⟨rfl,rfl,rfl,by simp [ChangeMaps.setBlock],fun i _ hi=>hset.2 i (fun e1=>hi (by rw [e1]))⟩
  ·rcases hal with rfl |rfl<;>simp [ChangeMaps.setBlock]
theorem Rng.kept {w w':World} {b r:Nat} {es:Array MapEntry} {clock:Nat} {rem:List MapEntry} (h:Rng w b r es clock rem) (h1:w'.heap[b]? =w.heap[b]?) (h2:w'.heap[r]? =w.heap[r]?):Rng w' b r es clock rem:=
 ⟨by rw [h1];exact h.m,by rw [h2];exact h.it⟩
section
variable {F:Fence} {n:Nat} {P:Program} (w:World) {ops:Array Oper} {rest:List Oper} {o:Oper} {a:Act} {Q:Exit→Act→World→Prop}
theorem wpListIn_range_raw (hg:o.guard=none) (m:Operand) (t:TypeId) (hop:o.op=Op.range t m) (k e:TypeId) (ht:P.underlying t=some (.map k e)) (b:Nat) (es:Array MapEntry) (clock:Nat) (hm:a.eval m= .map (some b)) (hb:w.heap[b]? =some (.map es clock)) (r:Nat) (hr:w.heap.size=r)
  (hK:Rng (w.alloc (.mapIter (some b) clock #[] clock)) b r es clock es.toList→wpListIn F n P ops Q rest (a.put o.dst (.pointer (some ⟨r,0,none⟩))) (w.alloc (.mapIter (some b) clock #[] clock))):
  wpListIn F n P ops Q (o::rest) a w:=by
 subst hr
 refine wpListIn_plain hg fun K' hK'=> ?_
 have hrun:=run_range_map (P:=P) w t k e b es clock ht hb
 have hlt:b<w.heap.size:=(Array.getElem?_eq_some_iff.1 hb).1
 unfold Oper.wpIn
 refine⟨?_, ?_⟩
 ·simp [Oper.about,hop]
 ·rw [Oper.semAt_plain F _ _ (by rw [hop];intro c hc';cases hc')]
  simp [execOp,hop,hm,hrun,Result.andThen]
  refine hK' _ _ (hK ⟨(heap_alloc_old w _ hlt).trans hb, #[],clock,heap_alloc_new w _,Nat.le_refl _, ?_⟩)
  unfold leftOf
  rw [Array.toList_filter]
  exact List.filter_eq_self.2 fun x _=>by simp
theorem wpListIn_next_raw (hg:o.guard=none) (it:Operand) (hop:o.op=Op.next it false) (b r:Nat) (es:Array MapEntry) (clock:Nat) (rem:List MapEntry) (hes:∀x∈es.toList,x.born<clock) (hn:(es.toList.map (·.born)).Nodup)
  (hit:a.eval it= .pointer (some ⟨r,0,none⟩)) (h:Rng w b r es clock rem) (hDone:rem=[]→wpListIn F n P ops Q rest (a.put o.dst (.tuple #[.bool false])) w)
  (hMore:∀e rem' w',rem.Perm (e::rem')→e∈es.toList→Rng w' b r es clock rem'→w.grownBy w' (some r)→w'.heap.size=w.heap.size→(Instr.entry (.pointer (some ⟨r,0,none⟩))).run P w'= .ok (.tuple #[e.key,e.val]) w'→
    wpListIn F n P ops Q rest (a.put o.dst (.tuple #[.bool true,e.key,e.val])) w'):
  wpListIn F n P ops Q (o::rest) a w:=by
 refine wpListIn_plain hg fun K' hK'=> ?_
 unfold Oper.wpIn
 refine⟨by simp [Oper.about,hop], ?_⟩
 rw [Oper.semAt_plain F _ _ (by rw [hop];intro c hc';cases hc')]
 rcases h.next (P:=P) hes hn o.type with⟨h0,hrun⟩|⟨e,rem',w',g1,g2,hrun,g3,g4,g5,g6⟩
 ·simp [execOp,hop,hit,hrun,Result.andThen]
  exact hK' _ _ (hDone h0)
 ·simp [execOp,hop,hit,hrun,Result.andThen]
  exact hK' _ _ (hMore e rem' w' g1 g2 g3 g4 g5 g6)
end
end Go.Proofs.YtjcbbabaabcdgaaGreatDoor
/- What a slice reads as: words of my own, over any program. 'Row w B A vs': the cells vs lie from the address A on, in a block below B (nothing is asked if there is no cell). -/
namespace Go.Proofs.YtjcbbabaabcdgaaGreatDoor
open Go.RowKit
def Row (w:World) (B:Nat) (A:Option Addr) (vs:List Value):Prop:=
 vs=[]∨∃b off,A=some ⟨b,off,none⟩∧b<B∧∀i,i<vs.length→w.cell? ⟨b,off+i,none⟩=some (vs.getD i (.bool false))
theorem Row.nil {w:World} {B:Nat} {A:Option Addr}:Row w B A []:= .inl rfl
theorem Row.open {w:World} {B:Nat} {A:Option Addr} {vs:List Value} (h:Row w B A vs) (hn:0<vs.length):
  ∃b off,A=some ⟨b,off,none⟩∧b<B∧∀i,i<vs.length→w.cell? ⟨b,off+i,none⟩=some (vs.getD i (.bool false)):=by
 rcases h with rfl |h
 ·simp at hn
 ·exact h
theorem Row.below {w w':World} {B B':Nat} {A:Option Addr} {vs:List Value} (h:Row w B A vs) (hb:Below B' w w') (hB:B≤B'):Row w' B A vs:=by
 rcases h with rfl |⟨b,off,rfl,hlt,hc⟩
 ·exact .inl rfl
 ·exact .inr ⟨b,off,rfl,hlt,fun i hi=>(hb.cell (p:=⟨b,off+i,none⟩) (by simp;omega)).trans (hc i hi)⟩
theorem Row.drewN {w:World} {B:Nat} {A:Option Addr} {vs:List Value} (h:Row w B A vs) (k:Nat):Row (w.drewN k) B A vs:=h
theorem Row.drew {w:World} {B:Nat} {A:Option Addr} {vs:List Value} (h:Row w B A vs):Row w.drew B A vs:=h
theorem Row.alloc {w:World} {B:Nat} {A:Option Addr} {vs:List Value} (h:Row w B A vs) (hB:B≤w.heap.size) (o:Obj):Row (w.alloc o) B A vs:=
 h.below ((Below.refl B w).alloc hB o) (Nat.le_refl _)
theorem Row.new (w:World) (e:TypeId) (vs:List Value):Row (w.alloc (.cells vs.toArray e)) (w.heap.size+1) (some ⟨w.heap.size,0,none⟩) vs:=
 .inr ⟨w.heap.size,0,rfl,by omega,fun i hi=>by
   rw [World.cell?_alloc_at _ _ _ _ rfl]
   simp [List.getD_eq_getElem?_getD,hi]⟩
theorem Row.int {w:World} {B:Nat} {A:Option Addr} {xs:List Int} (h:Row w B A (xs.map (Value.int .i64))) (k:Nat) (hk:k<xs.length):
  ∃b off x,A=some ⟨b,off,none⟩∧b<B∧xs[k]? =some x∧w.cell? ⟨b,off+k,none⟩=some (.int .i64 x):=by
 obtain⟨b,off,h1,h2,h3⟩:=h.open (by simp;omega)
 refine⟨b,off,xs[k],h1,h2,List.getElem?_eq_getElem hk, ?_⟩
 rw [h3 k (by simpa using hk)];simp [List.getD_eq_getElem?_getD,hk]
def Blk (w:World) (g:Nat) (t:TypeId) (cs:Array Value):Prop:=w.heap[g]? =some (.cells cs t (0,0))
section
variable {w w':World} {g:Nat} {t:TypeId} {cs:Array Value}
theorem Blk.lt (h:Blk w g t cs):g<w.heap.size:=by
 rcases Nat.lt_or_ge g w.heap.size with hlt|hge
 ·exact hlt
 ·unfold Blk at h;rw [Array.getElem?_eq_none hge]at h;cases h
theorem Blk.cell (h:Blk w g t cs) (i:Nat):w.cell? ⟨g,i,none⟩=cs[i]? :=cell_of_row w g i cs t (0,0) h
theorem Blk.frozen (h:Blk w g t cs) (i:Nat):w.frozen? ⟨g,i,none⟩=false:=by
 unfold Blk at h
 simp [World.frozen?,h]
theorem Blk.new (w:World) (t:TypeId) (cs:Array Value):Blk (w.alloc (.cells cs t)) w.heap.size t cs:=heap_alloc_new w _
theorem Blk.drew (h:Blk w g t cs):Blk w.drew g t cs:=h
theorem Blk.drewN (h:Blk w g t cs) (n:Nat):Blk (w.drewN n) g t cs:=h
theorem Blk.alloc (h:Blk w g t cs) (o:Obj):Blk (w.alloc o) g t cs:=(Below.heap_alloc w o g h.lt).trans h
theorem Blk.below {B:Nat} (h:Blk w g t cs) (hb:Below B w w') (hg:g<B):Blk w' g t cs:=(hb.block g hg).trans h
theorem Blk.set (h:Blk w g t cs) (i:Nat) (u:Value):Blk (w.setCell ⟨g,i,none⟩ u) g t (cs.setIfInBounds i u):=by
 unfold Blk at h ⊢
 simp [World.setCell,Array.getElem?_modify,h]
theorem Blk.far (h:Blk w g t cs) {p:Addr} (hp:g≠p.block) (u:Value):Blk (w.setCell p u) g t cs:=(Below.heap_setCell w p u g hp).trans h
end
end Go.Proofs.YtjcbbabaabcdgaaGreatDoor
