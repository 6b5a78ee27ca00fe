/- Words for the cards of the statements about gears: what the laid condition and the world's shape give; pairs of numbers that came in. -/
import Derived.Test.YtccmlbinkgbpgaaGreatDoorRows
import Derived.Test.YtccmlbinkgbpgaaGreatDoorZtVBas
import Derived.WalkKit
import Derived.ProofKit
import Derived.LaidMore
import Derived.OpenShut
import Derived.ChangeOld
import Derived.Below
import Derived.Stop.Joined
import Derived.SevenTiedAt
import Derived.SizedLaws
import Derived.Shelf.Vars
import Derived.Lib.LaidTab
import Derived.Shelf.Strings.Builder1
import Derived.Shelf.Strings.Builder2
import Derived.Shelf.Small.Bits
import Derived.Shelf.Small.Wraps
import Derived.Shelf.Strings.BuilderF
import Derived.Shelf.Strconv.Atoi
import Derived.Shelf.Strconv.Itoa0
import Derived.Shelf.Strconv.Itoa1
import Derived.Shelf.LaysM
import Derived.Shelf.Strconv.Itoa2
import Derived.Shelf.Strconv.Itoa3
import Derived.Shelf.Strings.Search1
import Derived.Shelf.Strings.Search2
import Derived.Shelf.Strings.Cut
import Derived.Shelf.Strings.Shaped
import Derived.Shelf.Sort.Plain
import Derived.Shelf.Strings.Prefix
import Derived.Shelf.Bits.Mul64
import Derived.Shelf.Strings.Repeat
import Derived.Shelf.Slices.Turned
import Derived.Ground.Names2Prog
import Derived.Shelf.Slices.Clone
import Derived.Shelf.Slices.SearchI
import Derived.Shelf.Slices.Delete
import Derived.Shelf.Slices.Cells
import Derived.Shelf.Slices.In.SortNone
import Derived.Test.YtccmlbinkgbpgaaGreatDoorProg
import Derived.Lib.RowBridge
import Derived.Test.YtccmlbinkgbpgaaGreatDoorZtSvDraw6
import Derived.RangeFuncNested
import Derived.Maps.RangeRun
import Derived.Sort.MapsRangeIn
import Derived.RegionIn
import Derived.OwnWalkIn
import Derived.Maps.OwnIn
import Derived.WalkSmall
import Derived.Laws.AppendOwn
namespace Go.Proofs.YtccmlbinkgbpgaaGreatDoor
open Go.ChangeShapes Go.WideShapes Go.ChangeAt Go.RowKit Sv
set_option linter.unusedVariables false
theorem gPow:Tryz.prog.globalNamed "internal/strconv.uint64pow10" =some 3:=by kernel_rfl
theorem tOwn:ownKnob Tryz.prog.godebug=none:=by kernel_rfl
theorem tLaidOut:laidOutB Tryz.prog=true:=by kernel_rfl
abbrev tLaid:List (String×DataW Unit):=[("math/bits.deBruijn32tab",Rows.laid_math_bits_deBruijn32tab),("math/bits.deBruijn64tab",Rows.laid_math_bits_deBruijn64tab),("internal/strconv.uint64pow10",Rows.laid_internal_strconv_uint64pow10),("strconv.ErrRange",Rows.laid_strconv_ErrRange),("strconv.ErrSyntax",Rows.laid_strconv_ErrSyntax)]
theorem door_met (os:Os) (args:Array Value):laidMetH Tryz.prog tLaid ((World.doorLaid Tryz.prog 400 os).forCall (fun _ _=>0) ⟨#[],args,[]⟩).memory:=
 laidMetH_of_parts3 (fuel:=8) (laidMet_of_run' 8 (by kernel_rfl) (by kernel_rfl)) (by kernel_rfl) (by kernel_rfl)
theorem tPow:(Rows.laid_internal_strconv_uint64pow10:DataW Unit)=Lib.tabData .u64 Lib.pow10Tab:=by rfl
theorem tPowT:(Tryz.prog.globals[3]?).map (·.type)=some 283:=by kernel_rfl
theorem tab_of_laid {W:World} (h:laidMetH Tryz.prog tLaid W):Lib.TabIs Tryz.prog W "internal/strconv.uint64pow10" .u64 Lib.pow10Tab:=by
 rw [MakeChecks.laidMetH_plain _ _ _ (by kernel_rfl)]at h
 obtain⟨ps,⟨g0,t0,cs0,f0,p0,q0,_,_,_,_,⟨g1,t1,cs1,f1,p1,q1,_,_,_,_,⟨g2,t2,cs2,f2,p2,q2,hg2,ht2,hv2,hd2,_,_⟩,_⟩,_⟩,_⟩:=h
 obtain rfl:=Option.some.inj (gPow.symm.trans hg2)
 obtain rfl:=Option.some.inj (tPowT.symm.trans ht2)
 rw [tPow]at hd2
 unfold Lib.TabIs
 rw [hv2,←Lib.cells_of_tab Tryz.underlying283 Tryz.underlying179 (by kernel_rfl) (by kernel_rfl) hd2]
theorem wrap_and_shaped {H:Type} {enc:TypeId×Value→H} {a:Assume} {C:Checked} {os:Os} {f:FuncId} {fn:Func} {s:ChangeSpec} {conds:List PathCond} {apart fresh handsOn again:Bool} {X:World→Array Value→Prop}
  (hX:∀(w w':World) (args:Array Value),w.heap=w'.heap→X w args→X w' args)
  (own:ownKnob C.prog.godebug=none) (started:os.Started) (noInit:C.prog.inits.idxOf? f=none) (hfn:C.prog.funcs[f]? =some fn)
  (witness:∃(w:World) (tape:Tape) (i:Input),w.os=os∧(w.forCall tape i).Shaped C.prog∧i.vars=[]∧Input.okWide C.prog (w.forCall tape i) .any w.heap.size f i∧
    ((s.pre enc C.prog fn conds apart (w.forCall tape i).memory i.args∧X (w.forCall tape i).memory i.args)∧sizedMet enc C.prog fn (OpenSpec.ofChange s) apart (w.forCall tape i).memory i.args)∧a.holds C.prog (lone (Frame.enter C.prog f i.args .normal) [] (w.forCall tape i)))
  (contract:∀(W:World) (base:Nat) (args:Array Value) (ds gs:List (DataW H)) (before:List MemPlace),
    (∀(j:Nat) t v,fn.params[j]? =some t→args[j]? =some v→Value.okWide C.prog W .any base t v)→
    DataW.Whole enc C.prog fn.params.toList s.vars apart W args.toList ds gs before→
    conds.all (PathCond.test C.prog ⟨fn.params.toList,ds,s.plain.varTypes C.prog,gs⟩)=true→
    (DataW.weightsEach C.prog (fn.params.toList++s.plain.varTypes C.prog) (ds++gs)).all (· ≤reachBytes)=true→X W args→W.ShapedOpen C.prog→
    a.holds C.prog (lone (Frame.enter C.prog f args .normal) [] W)→
    Calls C.prog f args W fun e W'=>∃v,e= .returned v∧s.post enc C.prog fn apart fresh handsOn again W args v W'):
  ReturnsInHanded a C os f .any (fun w args=>(s.pre enc C.prog fn conds apart w args∧X w args)∧sizedMet enc C.prog fn (OpenSpec.ofChange s) apart w args) (s.post enc C.prog fn apart fresh handsOn again):=by
 refine returnsInHanded_of_calls own started noInit witness ?_
 intro w tape i _ hsh _ hok hpre hholds
 obtain⟨_,_,_,fn',hfn',_,_,_,_,hval⟩:=hok
 have e:fn'=fn:=Option.some.inj (hfn'.symm.trans hfn)
 subst e
 obtain⟨⟨⟨ds,gs,before,hw,hc⟩,hx⟩,hz⟩:=hpre
 have hw':=DataW.Whole.of_heap (w':=w.forCall tape i) (by rfl) hw
 refine(contract (w.forCall tape i) w.heap.size i.args ds gs before hval hw' hc (hz.weights hw) (hX _ _ _ (by rfl) hx) hsh hholds).mono fun e W' ⟨v,he,hp⟩=> ?_
 subst he
 exact ChangeSpec.post_blind hp
def inF (w:World):Env:=⟨fun i=>if i<64 then some (i,0)else none,fun b=>if 0≤b then cellsOf? w b else none⟩
theorem inF_ok (w:World):OkF w (inF w):=by
 refine⟨fun i x h=> ?_,fun g hg=>⟨0,if_pos hg⟩,fun b A h=> ?_⟩
 ·have h:(if i<64 then some (i,0)else none)=some x:=h
  split at h
  ·assumption
  ·cases h
 ·have h:(if 0≤b then cellsOf? w b else none)=some A:=h
  rw [if_pos (Nat.zero_le _)]at h
  exact cellsOf?_some.1 h
theorem list_of {α:Type} {p:Nat→α→Prop}:∀{n:Nat},(∀i,i<n→∃x,p i x)→∃l:List α,l.length=n∧∀i x,l[i]? =some x→p i x
 |0,_=>⟨[],rfl,fun i x h=>by simp at h⟩
 |n+1,h=>by
  obtain⟨x,hx⟩:=h 0 (Nat.succ_pos n)
  obtain⟨l,h1,h2⟩:=list_of (p:=fun i=>p (i+1)) (n:=n) fun i hi=>h (i+1) (Nat.succ_lt_succ hi)
  refine⟨x::l,by simp [h1],fun i y hy=> ?_⟩
  cases i with
  |zero=>simp at hy;subst hy;exact hx
  |succ i=>exact h2 i y (by simpa using hy)
theorem addr_add (b off i:Nat):(⟨b,off,none⟩:Addr).add i=⟨b,off+i,none⟩:=by
 rcases Nat.eq_zero_or_pos i with rfl |hp
 ·rfl
 ·simp [Addr.add];omega
theorem cellsOf_lt {w:World} {b:Nat} {A:Array Value} (h:cellsOf? w b=some A):(inF w).fz b=some A:=by
 show(if 0≤b then cellsOf? w b else none)=some A
 rw [if_pos (Nat.zero_le _)];exact h
theorem grd_of {W:World} (h:laidMetH Tryz.prog tLaid W) (hs:W.ShapedOpen Tryz.prog):Sv.Grd (inF W):=by
 intro b p hp
 have hp:(if b=2 then some (fun A=>∃m,A= #[.int .i64 m])else if b=3 then some (fun A=>A=(Lib.pow10Tab.map fun z=>Value.int .u64 z).toArray)else none)=some p:=hp
 split at hp
 ·rename_i e
  subst e
  cases hp
  obtain⟨cs,hh,hz,_⟩:=hs.1 2 #[.int .i64 0] 3 (of_decide_eq_true (by kernel_rfl)) (by kernel_rfl)
  obtain⟨m,hm⟩:=Go.Proofs.cell_of_shapedOpen_int (zero:= #[.int .i64 0]) (t:=3) hs (of_decide_eq_true (by kernel_rfl)) (by kernel_rfl) rfl (by kernel_rfl) (by kernel_rfl) Tryz.underlying3
  refine⟨cs,cellsOf_lt (cellsOf?_some.2 ⟨_,_,hh⟩),m, ?_⟩
  have h1:cs.size=1:=hz
  have h2:cs[0]? =some (.int .i64 m):=by
   unfold World.cell? at hm
   rw [hh]at hm
   simpa using hm
  apply Array.ext_getElem?
  intro i
  cases i with
  |zero=>rw [h2];rfl
  |succ i=>rw [Array.getElem?_eq_none (by omega),Array.getElem?_eq_none (by simp)]
 ·split at hp
  ·rename_i e
   subst e
   cases hp
   have ht:=tab_of_laid h
   unfold Lib.TabIs World.var? at ht
   rw [gPow]at ht
   simp only [Option.bind_some]at ht
   split at ht
   ·rename_i cs e fr hh
    refine⟨cs,cellsOf_lt (cellsOf?_some.2 ⟨_,_,hh⟩), ?_⟩
    exact Option.some.inj ht
   ·cases ht
  ·cases hp
theorem call_true {f:FuncId} {args:List AV} (h:Holds Tryz.prog true f args (bv true)) {w:World} (hG:Sv.Grd (inF w)) {vs:List Value} (hd:Dens (inF w) args vs):Calls Tryz.prog f vs.toArray w fun e w'=>e= .returned (.bool true)∧Below w.heap.size w w':=
 (h w (inF w) vs (inF_ok w) hG hd).mono fun e w' ⟨x,F',h1,h2,_,_,h5⟩=>by
   rw [h2.raw_eq]at h1
   exact⟨h1,h5⟩
abbrev tPr:Ty:= .pair (.int .i64) (.int .i64)
theorem pairs_den {w:World} {b off c:Nat}:∀(l:List (Int×Int)),0<l.length→(∀i p,l[i]? =some p→w.cell? ⟨b,off+i*2,none⟩=some (.int .i64 p.1)∧w.cell? ⟨b,off+i*2+1,none⟩=some (.int .i64 p.2))→l.length≤c→Den (inF w) (.lst false tPr l) (.slice (some ⟨b,off,none⟩) l.length c):=by
 intro l hpos h hc
 have cellsAre:∃Arr e fr,w.heap[b]? =some (.cells Arr e fr):=by
  have h0:=(h 0 l[0] (List.getElem?_eq_getElem hpos)).1
  cases ho:w.heap[b]? with
  |none=>simp [World.cell?,ho]at h0
  |some o=>
   cases o with
   |cells Arr e fr=>exact⟨_,_,_,rfl⟩
   |_=>simp [World.cell?,ho]at h0
 obtain⟨Arr,e,fr,ho⟩:=cellsAre
 have rd:∀o v,w.cell? ⟨b,o,none⟩=some v→Arr[o]? =some v:=fun o v hv=>by
  unfold World.cell? at hv
  rw [ho]at hv
  simpa using hv
 have flat:∀(l:List (Int×Int)) (o:Nat),(∀i p,l[i]? =some p→Arr[o+i*2]? =some (.int .i64 p.1)∧Arr[o+i*2+1]? =some (.int .i64 p.2))→Dens (inF w) (tPr.flat l) ((Arr.toList.drop o).take (2*l.length))∧(l≠[]→o+2*l.length≤Arr.size):=by
  intro l
  induction l with
  |nil=>intro o _;exact⟨by rw [show(Arr.toList.drop o).take (2*([]:List (Int×Int)).length)=[] by simp];exact .nil,fun h=>absurd rfl h⟩
  |cons p r ih=>
   intro o hl
   obtain⟨g1,g2⟩:=hl 0 p rfl
   simp only [Nat.zero_mul,Nat.add_zero]at g1 g2
   have hr:=ih (o+2) fun i q hq=>by
    have:=hl (i+1) q (by simpa using hq)
    rw [show o+(i+1)*2=o+2+i*2 by omega]at this
    exact this
   have s1:=(Array.getElem?_eq_some_iff.1 g1).1
   have s2:=(Array.getElem?_eq_some_iff.1 g2).1
   have d1:Arr.toList.drop o= .int .i64 p.1:: .int .i64 p.2::Arr.toList.drop (o+2):=by
    rw [List.drop_eq_getElem_cons (by simpa using s1),List.drop_eq_getElem_cons (by simpa using s2)]
    have e1:Arr.toList[o]'(by simpa using s1)= .int .i64 p.1:=by
     have:=(Array.getElem?_eq_some_iff.1 g1).2
     simpa using this
    have e2:Arr.toList[o+1]'(by simpa using s2)= .int .i64 p.2:=by
     have:=(Array.getElem?_eq_some_iff.1 g2).2
     simpa using this
    rw [e1,e2]
   refine⟨?_,fun _=> ?_⟩
   ·rw [d1,show 2*(p::r).length=2*r.length+1+1 by simp;omega,List.take_succ_cons,List.take_succ_cons]
    exact .cons (.raw _) (.cons (.raw _) hr.1)
   ·by_cases h0:r=[]
    ·subst h0;simp;omega
    ·have:=hr.2 h0;simp;omega
 have hf:=flat l off fun i p hp=>⟨rd _ _ (h i p hp).1,rd _ _ (h i p hp).2⟩
 have hlen:(tPr.flat l).length=2*l.length:=by rw [tPr.flat_len];show l.length*2=_;omega
 refine .lst (A:=Arr) (b:=b) (off:=off) (cellsOf_lt (cellsOf?_some.2 ⟨e,fr,ho⟩)) ?_ rfl ?_ hc fun e=>by cases e
 ·rw [hlen];exact hf.2 fun e=>by rw [e]at hpos;cases hpos
 ·rw [hlen];exact hf.1
set_option maxRecDepth 100000 in
theorem open_pairs {H:Type} {enc:TypeId×Value→H} {W:World} {base:Nat} {v:Value} {d:DataW H} {p:List MemPlace} (hv:Value.okWide Tryz.prog W .any base 22 v)
  (h:DataW.Trod enc Tryz.prog W 0 (fun _=>true) true 22 v d p):∃l:List (Int×Int),Den (inF W) (.lst false tPr l) v:=by
 obtain⟨a,len,cap,rfl⟩:=okWide_slice Tryz.underlying22 hv
 obtain⟨fuel,hf⟩:=h
 have c2:Tryz.prog.cellsOf 28=2:=by kernel_rfl
 have c1:Tryz.prog.cellsOf 3=1:=by kernel_rfl
 rcases DataW.trod_slice Tryz.underlying22 hf with⟨hcs,hx⟩|⟨a',len',cap',elems,rest,n,_,hcs,hx,hcap,hl,_,hlen,hel,_,_⟩
 ·simp [Value.cells]at hcs
  obtain⟨rfl,rfl,rfl⟩:=hcs
  exact⟨[], .lstNil fun e=>by cases e⟩
 ·simp [Value.cells]at hcs
  obtain⟨rfl,rfl,rfl⟩:=hcs
  rw [c2]at hel
  have each:∀i,i<len→∃q:Int×Int,W.cell? (a'.add (i*2))=some (.int .i64 q.1)∧W.cell? ((a'.add (i*2)).add 1)=some (.int .i64 q.2):=by
   intro i hi
   have hy:elems[i]? =some (elems[i]'(by omega)):=List.getElem?_eq_getElem (by omega)
   have hb:=hel i hi
   rw [hy,Option.bind_eq_some_iff]at hb
   obtain⟨cs,g1,g2⟩:=hb
   obtain⟨_,gl,gc⟩:=World.cells?_some g1
   obtain⟨y0,y1,m,he,hcl,t0,t1⟩:=trod_struct2 Tryz.underlying28 g2
   match cs,gl with
   |[u0,u1],_=>
    obtain⟨z,e0,_,w0⟩:=DataW.trod_int Tryz.underlying3 (show DataW.trod enc Tryz.prog W 0 _ true m 3 [u0]=some y0 by simpa [c1]using t0)
    obtain⟨z1,e1,_,w1⟩:=DataW.trod_int Tryz.underlying3 (show DataW.trod enc Tryz.prog W 0 _ true m 3 [u1]=some y1 by simpa [c1]using t1)
    simp at e0 e1
    subst e0;subst e1
    exact⟨⟨z,z1⟩,by simpa [Addr.add]using gc 0 (by omega),by simpa using gc 1 (by omega)⟩
  obtain⟨l,hl1,hl2⟩:=list_of each
  by_cases h0:len=0
  ·subst h0
   obtain rfl:=List.length_eq_zero_iff.1 hl1
   exact⟨[], .lstNil fun e=>by cases e⟩
  ·obtain⟨b,off,spot⟩:=a'
   obtain⟨q,hq⟩:∃q,l[0]? =some q:=⟨_,List.getElem?_eq_getElem (by omega)⟩
   have hspot:spot=none:=by simpa [Addr.add]using World.cell?_spot (hl2 0 q hq).1
   subst hspot
   refine⟨l, ?_⟩
   rw [←hl1]
   refine pairs_den l (by omega) (fun i p hp=> ?_) (by omega)
   have:=hl2 i p hp
   rw [addr_add,addr_add]at this
   exact this
end Go.Proofs.YtccmlbinkgbpgaaGreatDoor
/- The runner: a row of the run's own that is never written again is taken as plain data. -/
namespace Go.Proofs.YtccmlbinkgbpgaaGreatDoor
open Go.RowKit Sv
set_option linter.unusedSectionVars false
section
variable [Sv.Ground] {X:Ext} {P:Program} {w0:World} {F:Env} {n:Nat} {T:Tr AV} {H:AHeap} {a:Act} {w:World} {B:Nat} {ρ ρ':Env}
theorem own_drop {i:Nat} {ρ':Env} (ha:∀i,ρ' i=ρ i) {b:Nat} (h:Sv.Own ρ' (H.drop i) b):Sv.Own ρ H b:=by
 obtain⟨k,kk,c,h1,h2,h3⟩:=h
 rw [ha]at h3
 rw [AHeap.get_drop]at h1
 split at h1
 ·cases h1
 ·exact⟨k,kk,c,h1,h2,h3⟩
theorem Sat.freeze {i j m:Nat} {e e2:TypeId} {cs:List AV} {x f r:Bool} {t:Ty} {xs:List t.den} {cap:Cap} (hj:H.get j=some (.cells e cs x f r)) (hm:cs[m]? =some (.osl e2 t i 0 xs.length cap)) (hi:H.get i=optOwn e2 t xs) (hij:i≠j)
  (hs:SatX X P w0 F n T H a w):SatX X P w0 F n T ((H.drop i).set j (.cells e (cs.set m (.lst false t xs)) x f r)) a w:=by
 obtain⟨⟨ρ,hAR,hnone,hfz,hkp⟩,hb,hd⟩:=hs
 by_cases hx:xs=[]
 ·subst hx
  have hi:H.get i=none:=hi
  refine⟨⟨ρ,⟨hAR.T,hden_swap hAR.H (Le.refl _) (fun _=>rfl) hj hij hm (fun y hy=> ?_) (fun b A h=>⟨(hAR.H.fz b A h).1,fun k kk c _ g1 g2=>(hAR.H.fz b A h).2 k kk c g1 g2⟩),hAR.G⟩,hnone,hfz,hkp.re (Le.refl _) (Nat.le_refl _) (fun _ hh=>own_swap (fun _=>rfl) hj hh) fun _ _ h=> .inl h⟩,hb,hd⟩
  rcases hy.osl_inv with⟨_,a,rfl⟩|⟨b,c,kc,_,_,_,rfl⟩
  ·exact .lstNil fun e=>by cases e
  ·exact .lstNil fun e=>by cases e
 ·obtain⟨x0,l0,rfl⟩:=List.exists_cons_of_ne_nil hx
  have hi:H.get i=some (.own e2 t (x0::l0)):=hi
  generalize hxs:x0::l0=xs at*
  obtain⟨b,c,o,hib,_,_,hB⟩:=hAR.H.blk i _ hi
  obtain⟨zs,z1,z2,z3,z4,z5,z6⟩:=own_at hAR.H hi hib
  have hnf:ρ.fz b=none:=by
   cases hz:ρ.fz b with
   |none=>rfl
   |some A=>
    have:=(hAR.H.fz b A hz).2 i _ c hi hib
    cases this
  have hle:Le ρ ⟨ρ.at',fun q=>if q=b then some zs else ρ.fz q⟩:=⟨fun _ _ h=>h,fun q A h=>by
   show(if q=b then some zs else ρ.fz q)=some A
   by_cases hq:q=b
   ·subst hq;rw [hnf]at h;cases h
   ·rw [if_neg hq];exact h⟩
  refine⟨⟨⟨ρ.at',fun q=>if q=b then some zs else ρ.fz q⟩,⟨hAR.T.mono hle,hden_swap hAR.H hle (fun _=>rfl) hj hij hm (fun y hy=> ?_) (fun q A h=> ?_),hAR.G.mono hle⟩,hnone,fun q A h=> ?_,hkp.re hle (Nat.le_refl _) (fun _ hh=>own_swap (fun _=>rfl) hj hh) fun q A h=>by
   have h:(if q=b then some zs else ρ.fz q)=some A:=h
   by_cases hq:q=b
   ·exact .inr ⟨i,_,c,hi,rfl,hq ▸ hib⟩
   ·rw [if_neg hq]at h;exact .inl h⟩,hb,hd⟩
  ·rcases hy.osl_inv with⟨h0,_⟩|⟨b',c',kc,g1,_,g3,rfl⟩
   ·exact absurd (List.length_eq_zero_iff.1 h0) hx
   ·rw [hib]at g1
    cases g1
    refine .lst (A:=zs) (b:=b) (off:=0*t.size) (by show(if b=b then some zs else _)=_;rw [if_pos rfl]) (by rw [Nat.zero_mul,Nat.zero_add];exact z4) rfl ?_ g3 (fun e=>by cases e)
    rw [Nat.zero_mul,List.drop_zero]
    exact z2.mono hle
  ·have h:(if q=b then some zs else ρ.fz q)=some A:=h
   by_cases hq:q=b
   ·subst hq
    rw [if_pos rfl]at h
    cases h
    exact⟨⟨_,_,z1⟩,fun k kk c' hne g1 g2=>absurd (hAR.H.inj k i kk _ q c' c g1 hi g2 hib) hne⟩
   ·rw [if_neg hq]at h
    exact⟨(hAR.H.fz q A h).1,fun k kk c _ g1 g2=>(hAR.H.fz q A h).2 k kk c g1 g2⟩
  ·have h:(if q=b then some zs else ρ.fz q)=some A:=h
   by_cases hq:q=b
   ·subst hq;exact .inr (hB rfl)
   ·rw [if_neg hq]at h;exact hfz q A h
theorem Sat.freezeSlot {i s:Nat} {e2:TypeId} {t:Ty} {xs:List t.den} {cap:Cap} (hs':T.get s=some (.osl e2 t i 0 xs.length cap)) (hi:H.get i=optOwn e2 t xs) (hs:SatX X P w0 F n T H a w):SatX X P w0 F n (T.set s (some (.lst false t xs))) (H.drop i) a w:=by
 obtain⟨⟨ρ,hAR,hnone,hfz,hkp⟩,hb,hd⟩:=hs
 have hdrop:∀{ρ':Env},Le ρ ρ'→(∀i,ρ' i=ρ i)→(∀b A,ρ'.fz b=some A→(∃e fr,w.heap[b]? =some (.cells A e fr))∧∀k kk c,k≠i→H.get k=some kk→ρ k=some (b,c)→kk.isRo=true)→HDen P w0.heap.size ρ' (H.drop i) w:=fun {ρ'} hl ha hf=>by
  have key:∀k kk,(H.drop i).get k=some kk→k≠i∧H.get k=some kk:=fun k kk h=>by
   rw [AHeap.get_drop]at h
   split at h
   ·cases h
   ·rename_i h2;exact⟨fun h=>h2 h.symm,h⟩
  refine⟨fun k kk h=> ?_,fun i1 i2 k1 k2 b c1 c2 g1 g2 g3 g4=> ?_,fun k kk h=>hAR.H.lt k kk (key k kk h).2,hAR.H.base,fun b A h=>⟨(hf b A h).1,fun k kk c g1 g2=> ?_⟩⟩
  ·obtain⟨b,c,o,e1,e2,e3,e4⟩:=hAR.H.blk k kk (key k kk h).2
   exact⟨b,c,o,by rw [ha];exact e1,e2,e3.mono hl,e4⟩
  ·rw [ha]at g3 g4
   exact hAR.H.inj _ _ _ _ _ _ _ (key _ _ g1).2 (key _ _ g2).2 g3 g4
  ·rw [ha]at g2
   exact(hf b A h).2 k kk c (key k kk g1).1 (key k kk g1).2 g2
 have hset:∀{ρ':Env},Le ρ ρ'→(∀y,Den ρ (.osl e2 t i 0 xs.length cap) y→Den ρ' (.lst false t xs) y)→TDen ρ' (T.set s (some (.lst false t xs))) n a.tmps:=fun {ρ'} hl hv=>⟨hAR.T.size,fun k=>by
  rw [Tr.get_set]
  have hk:=hAR.T.get k
  by_cases hks:s=k
  ·subst hks
   rw [if_pos rfl]
   rw [hs']at hk
   exact hv _ hk
  ·rw [if_neg hks];exact hk.mono hl⟩
 by_cases hx:xs=[]
 ·subst hx
  refine⟨⟨ρ,⟨hset (Le.refl _) fun y hy=> ?_,hdrop (Le.refl _) (fun _=>rfl) (fun b A h=>⟨(hAR.H.fz b A h).1,fun k kk c _ g1 g2=>(hAR.H.fz b A h).2 k kk c g1 g2⟩),hAR.G⟩,hnone,hfz,hkp.re (Le.refl _) (Nat.le_refl _) (fun _ hh=>own_drop (fun _=>rfl) hh) fun _ _ h=> .inl h⟩,hb,hd⟩
  rcases hy.osl_inv with⟨_,a,rfl⟩|⟨b,c,kc,_,_,_,rfl⟩
  ·exact .lstNil fun e=>by cases e
  ·exact .lstNil fun e=>by cases e
 ·obtain⟨x0,l0,rfl⟩:=List.exists_cons_of_ne_nil hx
  have hi:H.get i=some (.own e2 t (x0::l0)):=hi
  generalize hxs:x0::l0=xs at*
  obtain⟨b,c,o,hib,_,_,hB⟩:=hAR.H.blk i _ hi
  obtain⟨zs,z1,z2,z3,z4,z5,z6⟩:=own_at hAR.H hi hib
  have hnf:ρ.fz b=none:=by
   cases hz:ρ.fz b with
   |none=>rfl
   |some A=>
    have:=(hAR.H.fz b A hz).2 i _ c hi hib
    cases this
  have hle:Le ρ ⟨ρ.at',fun q=>if q=b then some zs else ρ.fz q⟩:=⟨fun _ _ h=>h,fun q A h=>by
   show(if q=b then some zs else ρ.fz q)=some A
   by_cases hq:q=b
   ·subst hq;rw [hnf]at h;cases h
   ·rw [if_neg hq];exact h⟩
  refine⟨⟨⟨ρ.at',fun q=>if q=b then some zs else ρ.fz q⟩,⟨hset hle fun y hy=> ?_,hdrop hle (fun _=>rfl) (fun q A h=> ?_),hAR.G.mono hle⟩,hnone,fun q A h=> ?_,hkp.re hle (Nat.le_refl _) (fun _ hh=>own_drop (fun _=>rfl) hh) fun q A h=>by
   have h:(if q=b then some zs else ρ.fz q)=some A:=h
   by_cases hq:q=b
   ·exact .inr ⟨i,_,c,hi,rfl,hq ▸ hib⟩
   ·rw [if_neg hq]at h;exact .inl h⟩,hb,hd⟩
  ·rcases hy.osl_inv with⟨h0,_⟩|⟨b',c',kc,g1,_,g3,rfl⟩
   ·exact absurd (List.length_eq_zero_iff.1 h0) hx
   ·rw [hib]at g1
    cases g1
    refine .lst (A:=zs) (b:=b) (off:=0*t.size) (by show(if b=b then some zs else _)=_;rw [if_pos rfl]) (by rw [Nat.zero_mul,Nat.zero_add];exact z4) rfl ?_ g3 (fun e=>by cases e)
    rw [Nat.zero_mul,List.drop_zero]
    exact z2.mono hle
  ·have h:(if q=b then some zs else ρ.fz q)=some A:=h
   by_cases hq:q=b
   ·subst hq
    rw [if_pos rfl]at h
    cases h
    exact⟨⟨_,_,z1⟩,fun k kk c' hne g1 g2=>absurd (hAR.H.inj k i kk _ q c' c g1 hi g2 hib) hne⟩
   ·rw [if_neg hq]at h
    exact⟨(hAR.H.fz q A h).1,fun k kk c _ g1 g2=>(hAR.H.fz q A h).2 k kk c g1 g2⟩
  ·have h:(if q=b then some zs else ρ.fz q)=some A:=h
   by_cases hq:q=b
   ·subst hq;exact .inr (hB rfl)
   ·rw [if_neg hq]at h;exact hfz q A h
theorem GoalL.freezeSlot {Q:Exit→Tr AV→AHeap→Prop} {l:List Code} (hl:l≠[]) {i s:Nat} {e2:TypeId} {t:Ty} {xs:List t.den} {cap:Cap} (hs':T.get s=some (.osl e2 t i 0 xs.length cap)) (hi:H.get i=optOwn e2 t xs)
  (hg:GoalLX X P w0 F n l (T.set s (some (.lst false t xs))) (H.drop i) Q):GoalLX X P w0 F n l T H Q:=by
 cases l with
 |nil=>exact absurd rfl hl
 |cons c l=>exact fun a w hs k=>hg a w (Sat.freezeSlot hs' hi hs) k
theorem Goal.freeze {Q:Exit→Tr AV→AHeap→Prop} {c:Code} {i j m:Nat} {e e2:TypeId} {cs:List AV} {x f r:Bool} {t:Ty} {xs:List t.den} {cap:Cap} (hj:H.get j=some (.cells e cs x f r)) (hm:cs[m]? =some (.osl e2 t i 0 xs.length cap)) (hi:H.get i=optOwn e2 t xs) (hij:i≠j)
  (hg:GoalX X P w0 F n c T ((H.drop i).set j (.cells e (cs.set m (.lst false t xs)) x f r)) Q):GoalX X P w0 F n c T H Q:=fun a w hs k=>hg a w (Sat.freeze hj hm hi hij hs) k
theorem GoalL.freeze {Q:Exit→Tr AV→AHeap→Prop} {l:List Code} (hl:l≠[]) {i j m:Nat} {e e2:TypeId} {cs:List AV} {x f r:Bool} {t:Ty} {xs:List t.den} {cap:Cap} (hj:H.get j=some (.cells e cs x f r)) (hm:cs[m]? =some (.osl e2 t i 0 xs.length cap)) (hi:H.get i=optOwn e2 t xs) (hij:i≠j)
  (hg:GoalLX X P w0 F n l T ((H.drop i).set j (.cells e (cs.set m (.lst false t xs)) x f r)) Q):GoalLX X P w0 F n l T H Q:=by
 cases l with
 |nil=>exact absurd rfl hl
 |cons c l=>exact Goal.freeze hj hm hi hij hg
theorem GoalL.refit {Q:Exit→Tr AV→AHeap→Prop} {l:List Code} (hl:l≠[]) {σ:Ren} {s:St} (h:fit P σ n T H s) (hg:GoalLX X P w0 F n l s.T s.H Q) (hp:pinned σ s.H.next X.pins=true:=by rfl):GoalLX X P w0 F n l T H Q:=by
 cases l with
 |nil=>exact absurd rfl hl
 |cons c l=>exact Goal.refit h hg hp
end
end Go.Proofs.YtccmlbinkgbpgaaGreatDoor
/- The reference of chapter 1: gcd. -/
namespace Go.Proofs.YtccmlbinkgbpgaaGreatDoor
open Go.RowKit Sv
set_option maxRecDepth 100000
set_option linter.unusedVariables false
set_option linter.unusedSimpArgs false
noncomputable section
noncomputable def BRgc:Code:=(Tryz.f19.body).getD .skip
def SRgc (a b:Int):St:={n:=12,sl:=[(0,iv a),(1,iv b)],en:=[],next:=64}
theorem rgc_start (a b:Int):
  Tst.path (vrun0 Tryz.prog (ctrs []) (fl BRgc []) 1 12 [iv a,iv b]) [] (toSt Tryz.prog 12 .normal [] (SRgc a b)):=
 mp (an (rr a) (an (rr b) trivial))
theorem rgc_go (a b:Int) (h1:b>0) (h2:b≠0):
  Tst.path (vall Tryz.prog (ctrs []) (fl BRgc [1,0,0,0]) (SRgc a b)) [true] (toSt Tryz.prog 12 .normal [] (SRgc b (Int.tmod a b))):=
 mp (an (decide_eq_true h1) (an (decide_eq_true h2) (an (rr b) (an (rr (Int.tmod a b)) trivial))))
theorem rgc_end (a b:Int) (h1:¬b>0):
  Tst.path (vall Tryz.prog (ctrs []) (fl BRgc [1,0,0,0]) (SRgc a b)) [false] (toSt Tryz.prog 12 (.exit 0) [] (SRgc a b)):=
 mp (an (decide_eq_false h1) (an (rr a) (an (rr b) trivial)))
theorem rgc_fin (a b:Int):
  Tst.path (vall Tryz.prog (ctrs []) (List.drop 2 (fl BRgc [])) (SRgc a b)) [] (toRet Tryz.prog Tryz.f19 true (iv a)):=
 mp (rr a)
theorem rgcd_step {x y:Int} (hx:0≤x) (hy:0≤y):Int.gcd y (x%y)=Int.gcd x y:=by
 obtain⟨m,rfl⟩:=Int.eq_ofNat_of_zero_le hx
 obtain⟨n,rfl⟩:=Int.eq_ofNat_of_zero_le hy
 rw [←Int.natCast_emod]
 show Nat.gcd n (m%n)=Nat.gcd m n
 rw [Nat.gcd_comm n,←Nat.gcd_rec,Nat.gcd_comm]
theorem rgc_holds (a b:Int) (ha:0≤a) (hb:0≤b):Holds Tryz.prog true 19 [iv a,iv b] (iv (Int.gcd a b)):=by
 have hS:=none_ok
 obtain⟨g,hg⟩:∃g:Int,(Int.gcd a b:Int)=g:=⟨_,rfl⟩
 rw [hg]
 refine holds_fl (c:=BRgc) Tryz.func19 rfl rfl fun w F=> ?_
 refine GoalL.to known mixed hS 1 _ (rgc_start a b) (by kernel_rfl) ?_
 refine GoalL.loop (ι:={p:Int×Int//0≤p.1∧0≤p.2∧(Int.gcd p.1 p.2:Int)=g}) (id:=0) (b:=cat BRgc [1,0,0,0]) (rest:=List.drop 2 (fl BRgc [])) (by kernel_rfl) (fun p=>SRgc p.1.1 p.1.2) (fun p=>p.1.2.toNat) ⟨(a,b),ha,hb,hg⟩ (fun _=>rfl) ?_
 rintro⟨⟨x,y⟩,hx,hy,hxy⟩
 have hx:0≤x:=hx
 have hy:0≤y:=hy
 have hxy:(Int.gcd x y:Int)=g:=hxy
 by_cases h0:y>0
 ·have hm:=Int.emod_lt_of_pos x h0
  have hm2:=Int.emod_nonneg x (show y≠0 by omega)
  have e:Int.tmod x y=x%y:=Int.tmod_eq_emod_of_nonneg hx
  refine GoalL.all (s:=SRgc x y) known mixed hS _ (rgc_go x y h0 (by omega)) (by kernel_rfl) ?_
  refine⟨⟨(y,Int.tmod x y),hy,by show 0≤Int.tmod x y;omega, ?_⟩, ?_,rfl,rfl⟩
  ·show(Int.gcd y (Int.tmod x y):Int)=g
   rw [e,←hxy,rgcd_step hx hy]
  ·show(Int.tmod x y).toNat<y.toNat
   omega
 ·obtain rfl:y=0:=by omega
  refine GoalL.all (s:=SRgc x 0) known mixed hS _ (rgc_end x 0 h0) (by kernel_rfl) ?_
  refine onN_exit (inB_exit ?_)
  have e:x=g:=by rw [←hxy,Int.gcd_zero_right];omega
  exact GoalL.allRet (s:=SRgc x 0) known mixed hS _ (rgc_fin x 0) fun T H h=>e ▸ h
noncomputable def cRgc:Ctr:={f:=19,ps:=[.int .i64, .int .i64],rs:=[.int .i64],fresh:=true,pre:=fun d=>decide (0≤d.1)&&decide (0≤d.2.1),fn:=fun d=>((Int.gcd d.1 d.2.1:Int),())}
theorem cRgc_ok:cRgc.Ok Tryz.prog:=fun⟨a,b,_⟩ h=>by
 have h:(decide (0≤a)&&decide (0≤b))=true:=h
 rw [Bool.and_eq_true,decide_eq_true_eq,decide_eq_true_eq]at h
 exact rgc_holds a b h.1 h.2
end
end Go.Proofs.YtccmlbinkgbpgaaGreatDoor
/- The reference of chapter 1: slash, value, decimal. -/
namespace Go.Proofs.YtccmlbinkgbpgaaGreatDoor
open Go.RowKit Sv
set_option maxRecDepth 100000
set_option linter.unusedVariables false
set_option linter.unusedSimpArgs false
noncomputable section
abbrev bsL (s:ByteArray):List UInt8:=s.data.toList
abbrev sb0 (s:ByteArray) (k:Nat):UInt8:=(bsL s).getD k 0
--{
def slAt:List UInt8→Nat
 |[]=>0
 |b::r=>if b.toNat=47 then 0 else slAt r+1
theorem size_bs (s:ByteArray):s.size=(bsL s).length:=by cases s;rfl
theorem getD_u {l:List UInt8} {k:Nat} (h:k<l.length):l.getD k 0=l[k]:=by simp [List.getD_eq_getElem?_getD,h]
theorem take_u {l:List UInt8} {k:Nat} (h:k<l.length):l.take (k+1)=l.take k++[l.getD k 0]:=by rw [getD_u h];simp
theorem sb0_get {s:ByteArray} {k:Nat} (h:k<(bsL s).length):sb0 s k=(bsL s)[k]:=getD_u h
def valD:List UInt8→Int
 |l=>l.foldl (fun n b=>10*n+((b.toNat:Int)-48)) 0
def digB (l:List UInt8):Bool:=l.all fun b=>decide (48≤b.toNat)&&decide (b.toNat≤57)
theorem valD_next {s:ByteArray} {k:Nat} (h:k<(bsL s).length):valD ((bsL s).take (k+1))=10*valD ((bsL s).take k)+(((sb0 s k).toNat:Int)-48):=by
 rw [take_u h]
 unfold valD
 rw [List.foldl_append];rfl
theorem valD_in {s:ByteArray} (hd:digB (bsL s)=true):∀k,k≤(bsL s).length→0≤valD ((bsL s).take k)∧valD ((bsL s).take k)<10^k
 |0,_=>by rw [List.take_zero];decide
 |k+1,h=>by
  have ih:=valD_in hd k (by omega)
  have hb:=List.all_eq_true.1 hd (sb0 s k) (by rw [sb0_get (by omega)];exact List.getElem_mem _)
  rw [Bool.and_eq_true,decide_eq_true_eq,decide_eq_true_eq]at hb
  rw [valD_next (by omega),Int.pow_succ]
  omega
--}
--{
--}
end
end Go.Proofs.YtccmlbinkgbpgaaGreatDoor
/- The reference of chapter 1: decimal. -/
namespace Go.Proofs.YtccmlbinkgbpgaaGreatDoor
open Go.RowKit Sv
set_option maxRecDepth 100000
set_option linter.unusedVariables false
set_option linter.unusedSimpArgs false
noncomputable section
noncomputable def BDec:Code:=(Tryz.f20.body).getD .skip
def SDec (n m:Int) (s:ByteArray):St:={n:=25,sl:=[(0,iv n),(1,iv m),(5,sv s)],en:=[],next:=64}
abbrev bE:ByteArray:=⟨#[]⟩
abbrev bD:ByteArray:=⟨#[48,49,50,51,52,53,54,55,56,57]⟩
set_option pp.structureInstances false
theorem dc_start (n m:Int):
  Tst.path (vrun0 Tryz.prog (ctrs []) (fl BDec []) 2 25 [iv n,iv m]) [] (toSt Tryz.prog 25 .normal [] (SDec n m bE)):=
 mp (an (rr n) (an (rr m) (an (rr (ByteArray.mk #[])) trivial)))
theorem dc_a (n m:Int) (s:ByteArray) (h1:n>0) (h2: -9223372036854775808≤Int.tmod n (10:Int)+1∧Int.tmod n (10:Int)+1≤9223372036854775807) (h3:(0:Int)≤Int.tmod n (10:Int)+1) (h4:(0:Int)≤Int.tmod n (10:Int)) (h5:Int.toNat (Int.tmod n (10:Int)+1)≤(ByteArray.mk #[(48:UInt8),(49:UInt8),(50:UInt8),(51:UInt8),(52:UInt8),(53:UInt8),(54:UInt8),(55:UInt8),(56:UInt8),(57:UInt8)]).size) (h6:(ByteArray.extract (ByteArray.mk #[(48:UInt8),(49:UInt8),(50:UInt8),(51:UInt8),(52:UInt8),(53:UInt8),(54:UInt8),(55:UInt8),(56:UInt8),(57:UInt8)]) (Int.toNat (Int.tmod n (10:Int))) (Int.toNat (Int.tmod n (10:Int)+1))).size+s.size≤(9223372036854775807:Nat)) (h7: -9223372036854775808≤Int.tdiv n (10:Int)∧Int.tdiv n (10:Int)≤9223372036854775807):
  Tst.path (vall Tryz.prog (ctrs []) (fl BDec [1,1,0,0,0]) (SDec n m s)) [false,false,false,false,true,true] (toSt Tryz.prog 25 .normal [] (SDec (Int.tdiv n 10) m (ByteArray.extract bD (Int.tmod n 10).toNat (Int.tmod n 10+1).toNat++s))):=
 mp (an (bF (decide_eq_true h1)) (an (bF (decide_eq_true h1)) (an (bF (decide_eq_true h1)) (an (bF (decide_eq_true h1)) (an (decide_eq_true h1) (an rt (an rt (an rt (an (fits_i64 h2) (an (decide_eq_true h3) (an (decide_eq_true h4) (an (show(decide (Int.toNat (Int.tmod n (10:Int))≤Int.toNat (Int.tmod n (10:Int)+1)))=true from decide_eq_true (by omega)) (an (decide_eq_true h5) (an (decide_eq_true h6) (an rt (an (fits_i64 h7) (an (rr (Int.tdiv n (10:Int))) (an (rr m) (an (rr (ByteArray.extract (ByteArray.mk #[(48:UInt8),(49:UInt8),(50:UInt8),(51:UInt8),(52:UInt8),(53:UInt8),(54:UInt8),(55:UInt8),(56:UInt8),(57:UInt8)]) (Int.toNat (Int.tmod n (10:Int))) (Int.toNat (Int.tmod n (10:Int)+1))++s)) trivial)))))))))))))))))))
theorem dc_b (n m:Int) (s:ByteArray) (h1:¬n>0) (h2:(↑s.size:Int)<m) (h3: -9223372036854775808≤Int.tmod n (10:Int)+1∧Int.tmod n (10:Int)+1≤9223372036854775807) (h4:(0:Int)≤Int.tmod n (10:Int)+1) (h5:(0:Int)≤Int.tmod n (10:Int)) (h6:Int.toNat (Int.tmod n (10:Int)+1)≤(ByteArray.mk #[(48:UInt8),(49:UInt8),(50:UInt8),(51:UInt8),(52:UInt8),(53:UInt8),(54:UInt8),(55:UInt8),(56:UInt8),(57:UInt8)]).size) (h7:(ByteArray.extract (ByteArray.mk #[(48:UInt8),(49:UInt8),(50:UInt8),(51:UInt8),(52:UInt8),(53:UInt8),(54:UInt8),(55:UInt8),(56:UInt8),(57:UInt8)]) (Int.toNat (Int.tmod n (10:Int))) (Int.toNat (Int.tmod n (10:Int)+1))).size+s.size≤(9223372036854775807:Nat)) (h8: -9223372036854775808≤Int.tdiv n (10:Int)∧Int.tdiv n (10:Int)≤9223372036854775807):
  Tst.path (vall Tryz.prog (ctrs []) (fl BDec [1,1,0,0,0]) (SDec n m s)) [true,true,true,true,false,true] (toSt Tryz.prog 25 .normal [] (SDec (Int.tdiv n 10) m (ByteArray.extract bD (Int.tmod n 10).toNat (Int.tmod n 10+1).toNat++s))):=
 mp (an (bF (decide_eq_false h1)) (an (bF (decide_eq_false h1)) (an (bF (decide_eq_false h1)) (an (bF (decide_eq_false h1)) (an (decide_eq_false h1) (an (decide_eq_true h2) (an rt (an rt (an (fits_i64 h3) (an (decide_eq_true h4) (an (decide_eq_true h5) (an (show(decide (Int.toNat (Int.tmod n (10:Int))≤Int.toNat (Int.tmod n (10:Int)+1)))=true from decide_eq_true (by omega)) (an (decide_eq_true h6) (an (decide_eq_true h7) (an rt (an (fits_i64 h8) (an (rr (Int.tdiv n (10:Int))) (an (rr m) (an (rr (ByteArray.extract (ByteArray.mk #[(48:UInt8),(49:UInt8),(50:UInt8),(51:UInt8),(52:UInt8),(53:UInt8),(54:UInt8),(55:UInt8),(56:UInt8),(57:UInt8)]) (Int.toNat (Int.tmod n (10:Int))) (Int.toNat (Int.tmod n (10:Int)+1))++s)) trivial)))))))))))))))))))
theorem dc_end (n m:Int) (s:ByteArray) (h1:¬n>0) (h2:¬(↑s.size:Int)<m):
  Tst.path (vall Tryz.prog (ctrs []) (fl BDec [1,1,0,0,0]) (SDec n m s)) [true,true,true,true,false,false] (toSt Tryz.prog 25 (.exit 0) [] (SDec n m s)):=
 mp (an (bF (decide_eq_false h1)) (an (bF (decide_eq_false h1)) (an (bF (decide_eq_false h1)) (an (bF (decide_eq_false h1)) (an (decide_eq_false h1) (an (decide_eq_false h2) (an (rr n) (an (rr m) (an (rr s) trivial)))))))))
theorem dc_fin (n m:Int) (s:ByteArray):
  Tst.path (vall Tryz.prog (ctrs []) (List.drop 3 (fl BDec [])) (SDec n m s)) [] (toRet Tryz.prog Tryz.f20 true (sv s)):=
 mp (rr s)
def digU (n:Int):UInt8:=UInt8.ofNat (48+(n%10).toNat)
def decF:Nat→Int→Int→List UInt8→List UInt8
 |0,_,_,s=>s
 |f+1,n,m,s=>if n>0∨(s.length:Int)<m then decF f (n/10) m (digU n::s)else s
theorem bs_app (a b:ByteArray):(a++b).data.toList=a.data.toList++b.data.toList:=by
 rw [ByteArray.data_append,Array.toList_append]
theorem dg_bytes {n:Int} (h:0≤n) (s:ByteArray):(ByteArray.extract bD (Int.tmod n 10).toNat (Int.tmod n 10+1).toNat++s).data.toList=digU n::s.data.toList:=by
 rw [bs_app,Int.tmod_eq_emod_of_nonneg h]
 have h1:=Int.emod_lt_of_pos n (show(0:Int)<10 by decide)
 have h2:=Int.emod_nonneg n (show(10:Int)≠0 by decide)
 unfold digU
 generalize n%10=r at*
 have:r=0∨r=1∨r=2∨r=3∨r=4∨r=5∨r=6∨r=7∨r=8∨r=9:=by omega
 rcases this with rfl |rfl |rfl |rfl |rfl |rfl |rfl |rfl |rfl |rfl<;>rfl
theorem dg_size {n:Int} (h:0≤n):(ByteArray.extract bD (Int.tmod n 10).toNat (Int.tmod n 10+1).toNat).size≤1:=by
 rw [Int.tmod_eq_emod_of_nonneg h]
 have h1:=Int.emod_lt_of_pos n (show(0:Int)<10 by decide)
 have h2:=Int.emod_nonneg n (show(10:Int)≠0 by decide)
 generalize n%10=r at*
 have:r=0∨r=1∨r=2∨r=3∨r=4∨r=5∨r=6∨r=7∨r=8∨r=9:=by omega
 rcases this with rfl |rfl |rfl |rfl |rfl |rfl |rfl |rfl |rfl |rfl<;>decide
theorem size_b (s:ByteArray):s.size=s.data.toList.length:=by cases s;rfl
theorem ba_ext {a b:ByteArray} (h:a.data.toList=b.data.toList):a=b:=by
 cases a;cases b;simp at h;rw [h]
structure DcOk (r:List UInt8) (m:Int) (f:Nat) (n:Int) (s:ByteArray):Prop where
 n0:0≤n
 nb:n≤9223372036854775807
 n1:n<10^f
 ms:m≤s.size+f
 sz:s.size+f≤40
 eq:decF f n m s.data.toList=r
theorem dc_holds (n m:Int) (hn:0≤n) (hn2:n≤9223372036854775807) (hm:m≤20):Holds Tryz.prog true 20 [iv n,iv m] (sv ⟨(decF 20 n m []).toArray⟩):=by
 have hS:=none_ok
 obtain⟨r,hr⟩:∃r,decF 20 n m []=r:=⟨_,rfl⟩
 rw [hr]
 refine holds_fl (c:=BDec) Tryz.func20 rfl rfl fun w F=> ?_
 refine GoalL.to known mixed hS 2 _ (dc_start n m) (by kernel_rfl) ?_
 refine GoalL.loop (ι:={p:Nat×Int×ByteArray//DcOk r m p.1 p.2.1 p.2.2}) (id:=0) (b:=cat BDec [1,1,0,0,0]) (rest:=List.drop 3 (fl BDec [])) (by kernel_rfl) (fun p=>SDec p.1.2.1 m p.1.2.2) (fun p=>p.1.1) ⟨(20,n,bE),⟨hn,hn2,by show n<10^20;omega,by show m≤0+20;omega,by show 0+20≤40;omega,hr⟩⟩ (fun _=>rfl) ?_
 rintro⟨⟨f,n,s⟩,hp⟩
 have hp:DcOk r m f n s:=hp
 have hz:=size_b s
 have q1:=Int.emod_lt_of_pos n (show(0:Int)<10 by decide)
 have q2:=Int.emod_nonneg n (show(10:Int)≠0 by decide)
 have q3:Int.tmod n 10=n%10:=Int.tmod_eq_emod_of_nonneg hp.n0
 have q4:Int.tdiv n 10=n/10:=Int.tdiv_eq_ediv_of_nonneg hp.n0
 have q5:=dg_size hp.n0
 have hn0:=hp.n0
 have hnb:=hp.nb
 have hms:=hp.ms
 have hsz:=hp.sz
 have nx:(n>0∨(s.size:Int)<m)→∃j:{p:Nat×Int×ByteArray//DcOk r m p.1 p.2.1 p.2.2},j.1.1<f∧(SDec (Int.tdiv n 10) m (ByteArray.extract bD (Int.tmod n 10).toNat (Int.tmod n 10+1).toNat++s)).T=(SDec j.1.2.1 m j.1.2.2).T∧(SDec (Int.tdiv n 10) m (ByteArray.extract bD (Int.tmod n 10).toNat (Int.tmod n 10+1).toNat++s)).H=(SDec j.1.2.1 m j.1.2.2).H:=fun hc=>by
  cases f with
  |zero=>
   have:=hp.n1
   simp at this
   exfalso;omega
  |succ f=>
   have hb:=dg_bytes hp.n0 s
   have hzz:(ByteArray.extract bD (Int.tmod n 10).toNat (Int.tmod n 10+1).toNat++s).size=s.size+1:=by rw [size_b,hb,hz];rfl
   refine⟨⟨(f,Int.tdiv n 10,_),⟨by show 0≤Int.tdiv n 10;rw [q4];omega,by show Int.tdiv n 10≤_;rw [q4];omega, ?_,by show m≤((_:Nat):Int)+((f:Nat):Int);rw [hzz];omega,by show _+f≤40;rw [hzz];omega, ?_⟩⟩,Nat.lt_succ_self _,rfl,rfl⟩
   ·show Int.tdiv n 10<10^f
    have:=hp.n1
    rw [Int.pow_succ]at this
    rw [q4];omega
   ·show decF f (Int.tdiv n 10) m (ByteArray.extract bD (Int.tmod n 10).toNat (Int.tmod n 10+1).toNat++s).data.toList=r
    have he:=hp.eq
    unfold decF at he
    rw [hb,q4]
    rw [if_pos (by rw [hz]at hc;exact hc)]at he
    exact he
 by_cases h1:n>0
 ·refine GoalL.all (s:=SDec n m s) known mixed hS _ (dc_a n m s h1 (by omega) (by omega) (by omega) (by show _≤(10:Nat);omega) (by show(ByteArray.extract bD (Int.tmod n 10).toNat (Int.tmod n 10+1).toNat).size+s.size≤_;omega) (by omega)) (by kernel_rfl) (nx (.inl h1))
 ·by_cases h2:(s.size:Int)<m
  ·refine GoalL.all (s:=SDec n m s) known mixed hS _ (dc_b n m s h1 h2 (by omega) (by omega) (by omega) (by show _≤(10:Nat);omega) (by show(ByteArray.extract bD (Int.tmod n 10).toNat (Int.tmod n 10+1).toNat).size+s.size≤_;omega) (by omega)) (by kernel_rfl) (nx (.inr h2))
  ·refine GoalL.all (s:=SDec n m s) known mixed hS _ (dc_end n m s h1 h2) (by kernel_rfl) ?_
   refine onN_exit (inB_exit ?_)
   have e:(⟨r.toArray⟩:ByteArray)=s:=ba_ext (by
    have he:=hp.eq
    cases f with
    |zero=>exact he.symm
    |succ f=>
     unfold decF at he
     rw [if_neg (by rw [hz]at h2;omega)]at he
     exact he.symm)
   rw [e]
   exact GoalL.allRet (s:=SDec n m s) known mixed hS _ (dc_fin n m s) fun T H h=>h
noncomputable def cDcm:Ctr:={f:=20,ps:=[.int .i64, .int .i64],rs:=[.str],fresh:=true,pre:=fun d=>decide (0≤d.1)&&(decide (d.1≤9223372036854775807)&&decide (d.2.1≤20)),fn:=fun d=>(⟨(decF 20 d.1 d.2.1 []).toArray⟩,())}
theorem cDcm_ok:cDcm.Ok Tryz.prog:=fun⟨n,m,_⟩ h=>by
 have h:(decide (0≤n)&&(decide (n≤9223372036854775807)&&decide (m≤20)))=true:=h
 simp only [Bool.and_eq_true,decide_eq_true_eq]at h
 exact dc_holds n m h.1 h.2.1 h.2.2
end
end Go.Proofs.YtccmlbinkgbpgaaGreatDoor
/- The reference of chapter 1: quick, Of, Mul. -/
namespace Go.Proofs.YtccmlbinkgbpgaaGreatDoor
open Go.RowKit Sv
set_option maxRecDepth 100000
set_option linter.unusedVariables false
set_option linter.unusedSimpArgs false
noncomputable section
noncomputable def BOf1:Code:=(Tryz.f6.body).getD .skip
--{
theorem ext_size (s:ByteArray) (i j:Nat) (h:j≤s.size):(s.extract i j).size=j-i:=by
 rw [ByteArray.size_extract];omega
theorem slAt_le:∀l:List UInt8,slAt l≤l.length
 |[]=>Nat.le_refl _
 |b::r=>by
  unfold slAt
  have:=slAt_le r
  split
  ·exact Nat.zero_le _
  ·simp;omega
--}
--{
--}
end
end Go.Proofs.YtccmlbinkgbpgaaGreatDoor
/- The reference of chapter 1: Of, Mul of small numbers that are not negative. -/
namespace Go.Proofs.YtccmlbinkgbpgaaGreatDoor
open Go.RowKit Sv
set_option maxRecDepth 100000
set_option linter.unusedVariables false
set_option linter.unusedSimpArgs false
noncomputable section
noncomputable def rofCs:VCaller:=ctrs [cRgc,cDcm]
def tqS (p q:Int):ByteArray:=⟨(decF 20 p 1 []++(if q>1 then 47::decF 20 q 1 []else [])).toArray⟩
set_option pp.structureInstances false
theorem of_two (n d:Int) (h1:¬n< -4000000000000000000) (h2:¬n>4000000000000000000) (h3:¬d< -4000000000000000000) (h4:¬d>4000000000000000000) (h5:¬d<0) (h6: -9223372036854775808≤0-n∧(0:Int)-n≤9223372036854775807) (h7:(decide ((0:Ty.den (.int .i64))≤if(0:Int)-n>n then(0:Int)-n else n)&&decide ((0:Ty.den (.int .i64))≤d))=true) (h8:(↑(Int.gcd (if(0:Int)-n>n then(0:Int)-n else n) d):Int)≠0) (h9: -9223372036854775808≤Int.tdiv n (↑(Int.gcd (if(0:Int)-n>n then(0:Int)-n else n) d):Int)∧Int.tdiv n (↑(Int.gcd (if(0:Int)-n>n then(0:Int)-n else n) d):Int)≤9223372036854775807) (h10: -9223372036854775808≤Int.tdiv d (↑(Int.gcd (if(0:Int)-n>n then(0:Int)-n else n) d):Int)∧Int.tdiv d (↑(Int.gcd (if(0:Int)-n>n then(0:Int)-n else n) d):Int)≤9223372036854775807) (h11:¬Int.tdiv n (↑(Int.gcd (if(0:Int)-n>n then(0:Int)-n else n) d):Int)<0) (h12: -9223372036854775808≤0-Int.tdiv n (↑(Int.gcd (if(0:Int)-n>n then(0:Int)-n else n) d):Int)∧(0:Int)-Int.tdiv n (↑(Int.gcd (if(0:Int)-n>n then(0:Int)-n else n) d):Int)≤9223372036854775807) (h13:(decide ((0:Ty.den (.int .i64))≤if(0:Int)-Int.tdiv n (↑(Int.gcd (if(0:Int)-n>n then(0:Int)-n else n) d):Int)>Int.tdiv n (↑(Int.gcd (if(0:Int)-n>n then(0:Int)-n else n) d):Int)then(0:Int)-Int.tdiv n (↑(Int.gcd (if(0:Int)-n>n then(0:Int)-n else n) d):Int)else Int.tdiv n (↑(Int.gcd (if(0:Int)-n>n then(0:Int)-n else n) d):Int))&&(decide ((if(0:Int)-Int.tdiv n (↑(Int.gcd (if(0:Int)-n>n then(0:Int)-n else n) d):Int)>Int.tdiv n (↑(Int.gcd (if(0:Int)-n>n then(0:Int)-n else n) d):Int)then(0:Int)-Int.tdiv n (↑(Int.gcd (if(0:Int)-n>n then(0:Int)-n else n) d):Int)else Int.tdiv n (↑(Int.gcd (if(0:Int)-n>n then(0:Int)-n else n) d):Int))≤(9223372036854775807:Ty.den (.int .i64)))&&decide ((1:Int)≤(20:Ty.den (.int .i64)))))=true) (h14:(ByteArray.mk #[]).size+(ByteArray.mk (List.toArray (decF (20:Nat) (if(0:Int)-Int.tdiv n (↑(Int.gcd (if(0:Int)-n>n then(0:Int)-n else n) d):Int)>Int.tdiv n (↑(Int.gcd (if(0:Int)-n>n then(0:Int)-n else n) d):Int)then(0:Int)-Int.tdiv n (↑(Int.gcd (if(0:Int)-n>n then(0:Int)-n else n) d):Int)else Int.tdiv n (↑(Int.gcd (if(0:Int)-n>n then(0:Int)-n else n) d):Int)) (1:Int) []))).size≤(9223372036854775807:Nat)) (h15:Int.tdiv d (↑(Int.gcd (if(0:Int)-n>n then(0:Int)-n else n) d):Int)>1) (h16:(ByteArray.mk #[]++ByteArray.mk (List.toArray (decF (20:Nat) (if(0:Int)-Int.tdiv n (↑(Int.gcd (if(0:Int)-n>n then(0:Int)-n else n) d):Int)>Int.tdiv n (↑(Int.gcd (if(0:Int)-n>n then(0:Int)-n else n) d):Int)then(0:Int)-Int.tdiv n (↑(Int.gcd (if(0:Int)-n>n then(0:Int)-n else n) d):Int)else Int.tdiv n (↑(Int.gcd (if(0:Int)-n>n then(0:Int)-n else n) d):Int)) (1:Int) []))).size+(ByteArray.mk #[(47:UInt8)]).size≤(9223372036854775807:Nat)) (h17:(decide ((0:Ty.den (.int .i64))≤Int.tdiv d (↑(Int.gcd (if(0:Int)-n>n then(0:Int)-n else n) d):Int))&&(decide (Int.tdiv d (↑(Int.gcd (if(0:Int)-n>n then(0:Int)-n else n) d):Int)≤(9223372036854775807:Ty.den (.int .i64)))&&decide ((1:Int)≤(20:Ty.den (.int .i64)))))=true) (h18:(ByteArray.mk #[]++ByteArray.mk (List.toArray (decF (20:Nat) (if(0:Int)-Int.tdiv n (↑(Int.gcd (if(0:Int)-n>n then(0:Int)-n else n) d):Int)>Int.tdiv n (↑(Int.gcd (if(0:Int)-n>n then(0:Int)-n else n) d):Int)then(0:Int)-Int.tdiv n (↑(Int.gcd (if(0:Int)-n>n then(0:Int)-n else n) d):Int)else Int.tdiv n (↑(Int.gcd (if(0:Int)-n>n then(0:Int)-n else n) d):Int)) (1:Int) []))++ByteArray.mk #[(47:UInt8)]).size+(ByteArray.mk (List.toArray (decF (20:Nat) (Int.tdiv d (↑(Int.gcd (if(0:Int)-n>n then(0:Int)-n else n) d):Int)) (1:Int) []))).size≤(9223372036854775807:Nat)) (h19:(ByteArray.mk #[]++ByteArray.mk (List.toArray (decF (20:Nat) (if(0:Int)-Int.tdiv n (↑(Int.gcd (if(0:Int)-n>n then(0:Int)-n else n) d):Int)>Int.tdiv n (↑(Int.gcd (if(0:Int)-n>n then(0:Int)-n else n) d):Int)then(0:Int)-Int.tdiv n (↑(Int.gcd (if(0:Int)-n>n then(0:Int)-n else n) d):Int)else Int.tdiv n (↑(Int.gcd (if(0:Int)-n>n then(0:Int)-n else n) d):Int)) (1:Int) []))++ByteArray.mk #[(47:UInt8)]++ByteArray.mk (List.toArray (decF (20:Nat) (Int.tdiv d (↑(Int.gcd (if(0:Int)-n>n then(0:Int)-n else n) d):Int)) (1:Int) [])))=(tqS (n/(↑(Int.gcd n d):Int)) (d/(↑(Int.gcd n d):Int)))):
  Tst.path (vrun0 Tryz.prog rofCs (fl BOf1 []) 30 (Tryz.f6.ntmps) [iv n,iv d]) [true,true,false,true,true,false,true,true,false,false,false,false,true] (toRet Tryz.prog Tryz.f6 true (sv (tqS (n/Int.gcd n d) (d/Int.gcd n d)))):=
 mp (an (bF (decide_eq_false h1)) (an (bF (decide_eq_false h1)) (an (decide_eq_false h1) (an (bF (decide_eq_false h2)) (an (bF (decide_eq_false h2)) (an (decide_eq_false h2) (an (bF (decide_eq_false h3)) (an (bF (decide_eq_false h3)) (an (decide_eq_false h3) (an (decide_eq_false h4) (an (decide_eq_false h5) (an (fits_i64 h6) (an h7 (an (decide_eq_true h8) (an (fits_i64 h9) (an (decide_eq_true h8) (an (fits_i64 h10) (an (decide_eq_false h11) (an (fits_i64 h12) (an h13 (an (decide_eq_true h14) (an (decide_eq_true h15) (an (decide_eq_true h16) (an h17 (an (decide_eq_true h18) h19)))))))))))))))))))))))))
theorem of_one (n d:Int) (h1:¬n< -4000000000000000000) (h2:¬n>4000000000000000000) (h3:¬d< -4000000000000000000) (h4:¬d>4000000000000000000) (h5:¬d<0) (h6: -9223372036854775808≤0-n∧(0:Int)-n≤9223372036854775807) (h7:(decide ((0:Ty.den (.int .i64))≤if(0:Int)-n>n then(0:Int)-n else n)&&decide ((0:Ty.den (.int .i64))≤d))=true) (h8:(↑(Int.gcd (if(0:Int)-n>n then(0:Int)-n else n) d):Int)≠0) (h9: -9223372036854775808≤Int.tdiv n (↑(Int.gcd (if(0:Int)-n>n then(0:Int)-n else n) d):Int)∧Int.tdiv n (↑(Int.gcd (if(0:Int)-n>n then(0:Int)-n else n) d):Int)≤9223372036854775807) (h10: -9223372036854775808≤Int.tdiv d (↑(Int.gcd (if(0:Int)-n>n then(0:Int)-n else n) d):Int)∧Int.tdiv d (↑(Int.gcd (if(0:Int)-n>n then(0:Int)-n else n) d):Int)≤9223372036854775807) (h11:¬Int.tdiv n (↑(Int.gcd (if(0:Int)-n>n then(0:Int)-n else n) d):Int)<0) (h12: -9223372036854775808≤0-Int.tdiv n (↑(Int.gcd (if(0:Int)-n>n then(0:Int)-n else n) d):Int)∧(0:Int)-Int.tdiv n (↑(Int.gcd (if(0:Int)-n>n then(0:Int)-n else n) d):Int)≤9223372036854775807) (h13:(decide ((0:Ty.den (.int .i64))≤if(0:Int)-Int.tdiv n (↑(Int.gcd (if(0:Int)-n>n then(0:Int)-n else n) d):Int)>Int.tdiv n (↑(Int.gcd (if(0:Int)-n>n then(0:Int)-n else n) d):Int)then(0:Int)-Int.tdiv n (↑(Int.gcd (if(0:Int)-n>n then(0:Int)-n else n) d):Int)else Int.tdiv n (↑(Int.gcd (if(0:Int)-n>n then(0:Int)-n else n) d):Int))&&(decide ((if(0:Int)-Int.tdiv n (↑(Int.gcd (if(0:Int)-n>n then(0:Int)-n else n) d):Int)>Int.tdiv n (↑(Int.gcd (if(0:Int)-n>n then(0:Int)-n else n) d):Int)then(0:Int)-Int.tdiv n (↑(Int.gcd (if(0:Int)-n>n then(0:Int)-n else n) d):Int)else Int.tdiv n (↑(Int.gcd (if(0:Int)-n>n then(0:Int)-n else n) d):Int))≤(9223372036854775807:Ty.den (.int .i64)))&&decide ((1:Int)≤(20:Ty.den (.int .i64)))))=true) (h14:(ByteArray.mk #[]).size+(ByteArray.mk (List.toArray (decF (20:Nat) (if(0:Int)-Int.tdiv n (↑(Int.gcd (if(0:Int)-n>n then(0:Int)-n else n) d):Int)>Int.tdiv n (↑(Int.gcd (if(0:Int)-n>n then(0:Int)-n else n) d):Int)then(0:Int)-Int.tdiv n (↑(Int.gcd (if(0:Int)-n>n then(0:Int)-n else n) d):Int)else Int.tdiv n (↑(Int.gcd (if(0:Int)-n>n then(0:Int)-n else n) d):Int)) (1:Int) []))).size≤(9223372036854775807:Nat)) (h15:¬Int.tdiv d (↑(Int.gcd (if(0:Int)-n>n then(0:Int)-n else n) d):Int)>1) (h16:(ByteArray.mk #[]++ByteArray.mk (List.toArray (decF (20:Nat) (if(0:Int)-Int.tdiv n (↑(Int.gcd (if(0:Int)-n>n then(0:Int)-n else n) d):Int)>Int.tdiv n (↑(Int.gcd (if(0:Int)-n>n then(0:Int)-n else n) d):Int)then(0:Int)-Int.tdiv n (↑(Int.gcd (if(0:Int)-n>n then(0:Int)-n else n) d):Int)else Int.tdiv n (↑(Int.gcd (if(0:Int)-n>n then(0:Int)-n else n) d):Int)) (1:Int) [])))=(tqS (n/(↑(Int.gcd n d):Int)) (d/(↑(Int.gcd n d):Int)))):
  Tst.path (vrun0 Tryz.prog rofCs (fl BOf1 []) 30 (Tryz.f6.ntmps) [iv n,iv d]) [true,true,false,true,true,false,true,true,false,false,false,false,false] (toRet Tryz.prog Tryz.f6 true (sv (tqS (n/Int.gcd n d) (d/Int.gcd n d)))):=
 mp (an (bF (decide_eq_false h1)) (an (bF (decide_eq_false h1)) (an (decide_eq_false h1) (an (bF (decide_eq_false h2)) (an (bF (decide_eq_false h2)) (an (decide_eq_false h2) (an (bF (decide_eq_false h3)) (an (bF (decide_eq_false h3)) (an (decide_eq_false h3) (an (decide_eq_false h4) (an (decide_eq_false h5) (an (fits_i64 h6) (an h7 (an (decide_eq_true h8) (an (fits_i64 h9) (an (decide_eq_true h8) (an (fits_i64 h10) (an (decide_eq_false h11) (an (fits_i64 h12) (an h13 (an (decide_eq_true h14) (an (decide_eq_false h15) h16))))))))))))))))))))))
theorem rofCs_ok:CallOk Tryz.prog (gS rofCs):=ctrs_ok fun c hc=>by
 simp only [List.mem_cons,List.not_mem_nil,or_false]at hc
 rcases hc with rfl |rfl
 ·exact cRgc_ok
 ·exact cDcm_ok
theorem decF_len:∀(f:Nat) (n m:Int) (s:List UInt8),(decF f n m s).length≤s.length+f
 |0,_,_,s=>Nat.le_refl _
 |f+1,n,m,s=>by
  unfold decF
  split
  ·have:=decF_len f (n/10) m (digU n::s)
   simp at this
   omega
  ·omega
theorem mk_size (l:List UInt8):(ByteArray.mk l.toArray).size=l.length:=rfl
theorem rof_holds (n d:Int) (hn:0≤n) (hn2:n≤4000000000000000000) (hd:0<d) (hd2:d≤4000000000000000000):Holds Tryz.prog true 6 [iv n,iv d] (sv (tqS (n/Int.gcd n d) (d/Int.gcd n d))):=by
 refine holds_fl (c:=BOf1) Tryz.func6 rfl rfl fun w F=> ?_
 have k1:=of_one n d
 have k2:=of_two n d
 have hm:(if(0:Int)-n>n then(0:Int)-n else n)=n:=if_neg (by omega)
 have hg:0<Int.gcd n d:=Int.gcd_pos_of_ne_zero_right _ (by omega)
 simp only [hm]at k1 k2
 have e1:Int.tdiv n (Int.gcd n d:Int)=n/(Int.gcd n d:Int):=Int.tdiv_eq_ediv_of_nonneg hn
 have e2:Int.tdiv d (Int.gcd n d:Int)=d/(Int.gcd n d:Int):=Int.tdiv_eq_ediv_of_nonneg (by omega)
 simp only [e1,e2]at k1 k2
 generalize hgg:(Int.gcd n d:Int)=g at*
 have hg1:1≤g:=by omega
 have b1:0≤n/g:=Int.ediv_nonneg hn (by omega)
 have b2:n/g≤n:=Int.ediv_le_self _ hn
 have b3:0≤d/g:=Int.ediv_nonneg (by omega) (by omega)
 have b4:d/g≤d:=Int.ediv_le_self _ (by omega)
 have hm2:(if(0:Int)-n/g>n/g then(0:Int)-n/g else n/g)=n/g:=if_neg (by omega)
 simp only [hm2]at k1 k2
 have l1:=decF_len 20 (n/g) 1 []
 have l2:=decF_len 20 (d/g) 1 []
 have z1:=mk_size (decF 20 (n/g) 1 [])
 have z2:=mk_size (decF 20 (d/g) 1 [])
 simp only [List.length_nil,Nat.zero_add]at l1 l2
 by_cases h1:d/g>1
 ·have y1:(ByteArray.mk #[]++ByteArray.mk (decF 20 (n/g) 1 []).toArray).size=(decF 20 (n/g) 1 []).length:=by rw [size_b,bs_app];rfl
  have y2:(ByteArray.mk #[]++ByteArray.mk (decF 20 (n/g) 1 []).toArray++ByteArray.mk #[47]).size=(decF 20 (n/g) 1 []).length+1:=by rw [size_b,bs_app,List.length_append,←size_b,y1];rfl
  refine GoalL.ret known mixed rofCs_ok 30 _ (k2 (by omega) (by omega) (by omega) (by omega) (by omega) (by omega) ?_ (by omega) (by omega) (by omega) (by omega) (by omega) ?_ ?_ h1 ?_ ?_ ?_ ?_) fun T H h=>h
  ·rw [Bool.and_eq_true];exact⟨decide_eq_true hn,decide_eq_true (show(0:Int)≤d by omega)⟩
  ·rw [Bool.and_eq_true,Bool.and_eq_true];exact⟨decide_eq_true b1,decide_eq_true (by omega),by decide⟩
  ·rw [z1];show 0+_≤_;omega
  ·rw [y1];show _+1≤_;omega
  ·rw [Bool.and_eq_true,Bool.and_eq_true];exact⟨decide_eq_true b3,decide_eq_true (by omega),by decide⟩
  ·rw [y2,z2];omega
  ·apply ba_ext
   rw [bs_app,bs_app,bs_app]
   unfold tqS
   rw [if_pos h1]
   show(([]++decF 20 (n/g) 1 [])++[47])++decF 20 (d/g) 1 []=decF 20 (n/g) 1 []++47::decF 20 (d/g) 1 []
   simp
 ·refine GoalL.ret known mixed rofCs_ok 30 _ (k1 (by omega) (by omega) (by omega) (by omega) (by omega) (by omega) ?_ (by omega) (by omega) (by omega) (by omega) (by omega) ?_ ?_ h1 ?_) fun T H h=>h
  ·rw [Bool.and_eq_true];exact⟨decide_eq_true hn,decide_eq_true (show(0:Int)≤d by omega)⟩
  ·rw [Bool.and_eq_true,Bool.and_eq_true];exact⟨decide_eq_true b1,decide_eq_true (by omega),by decide⟩
  ·rw [z1];show 0+_≤_;omega
  ·apply ba_ext
   rw [bs_app]
   unfold tqS
   rw [if_neg h1,List.append_nil]
   rfl
end
end Go.Proofs.YtccmlbinkgbpgaaGreatDoor
/- The reference of chapter 1: what decimal writes value reads. -/
namespace Go.Proofs.YtccmlbinkgbpgaaGreatDoor
open Go.RowKit Sv
set_option linter.unusedVariables false
noncomputable section
theorem digB_cons {b:UInt8} {l:List UInt8}:digB (b::l)=(decide (48≤b.toNat)&&decide (b.toNat≤57)&&digB l):=rfl
theorem valD_app (a b:List UInt8):∀n:Int,(a++b).foldl (fun n b=>10*n+((b.toNat:Int)-48)) n=b.foldl (fun n b=>10*n+((b.toNat:Int)-48)) (a.foldl (fun n b=>10*n+((b.toNat:Int)-48)) n):=fun n=>List.foldl_append ..
theorem valD_from:∀(l:List UInt8) (n:Int),l.foldl (fun n b=>10*n+((b.toNat:Int)-48)) n=n*10^l.length+valD l
 |[],n=>by simp [valD]
 |b::r,n=>by
  have h1:=valD_from r (10*n+((b.toNat:Int)-48))
  have h2:=valD_from r (10*0+((b.toNat:Int)-48))
  unfold valD at*
  simp only [List.foldl_cons,List.length_cons]
  rw [h1,h2,Int.pow_succ]
  grind
theorem valD_cons (b:UInt8) (r:List UInt8):valD (b::r)=((b.toNat:Int)-48)*10^r.length+valD r:=by
 have:=valD_from r (10*0+((b.toNat:Int)-48))
 unfold valD at*
 simp only [List.foldl_cons]
 rw [this]
 simp
theorem slAt_dig:∀(l:List UInt8),digB l=true→slAt l=l.length
 |[],_=>rfl
 |b::r,h=>by
  rw [digB_cons]at h
  simp only [Bool.and_eq_true,decide_eq_true_eq]at h
  unfold slAt
  rw [if_neg (by omega),slAt_dig r h.2,List.length_cons]
theorem slAt_two:∀(l r:List UInt8),digB l=true→slAt (l++47::r)=l.length
 |[],r,_=>by show slAt (47::r)=0;unfold slAt;rw [if_pos (by decide)]
 |b::l,r,h=>by
  rw [digB_cons]at h
  simp only [Bool.and_eq_true,decide_eq_true_eq]at h
  rw [List.cons_append]
  unfold slAt
  rw [if_neg (by omega),slAt_two l r h.2,List.length_cons]
theorem bs_ext (s:ByteArray) (i j:Nat):bsL (s.extract i j)=((bsL s).take j).drop i:=by
 show(s.extract i j).data.toList=_
 rw [ByteArray.data_extract,Array.toList_extract]
 simp [List.extract,List.drop_take]
end
end Go.Proofs.YtccmlbinkgbpgaaGreatDoor
/- The stock and the train: errors. -/
namespace Go.Proofs.YtccmlbinkgbpgaaGreatDoor
open Go.RowKit Sv
set_option maxRecDepth 100000
set_option linter.unusedVariables false
set_option linter.unusedSimpArgs false
noncomputable section
abbrev tP2:Ty:= .pair (.int .i64) (.int .i64)
abbrev pl (l:List (Int×Int)):AV:= .lst false tP2 l
abbrev g0 (s:List (Int×Int)) (k:Nat):Int×Int:=s.getD k (0,0)
noncomputable def BRt:Code:=(Tryz.f12.body).getD .skip
noncomputable def BGt:Code:=(Tryz.f21.body).getD .skip
def wOut (p:Int×Int):Bool:=decide (p.1<6)||(decide (p.1>400)||(decide (p.2<1)||decide (p.2>999999999)))
def stkAt (s:List (Int×Int)) (k:Nat):Int:=if wOut (g0 s k)=true then 3 else if 0<k∧(g0 s k).1≤(g0 s (k-1)).1 then 11 else 0
def stkFrom (s:List (Int×Int)):Nat→Nat→Int
 |0,_=>0
 |n+1,k=>if stkAt s k≠0 then stkAt s k else stkFrom s n (k+1)
def stkErr (s:List (Int×Int)):Int:=if s.length=0 then 12 else if 32<s.length then 5 else stkFrom s s.length 0
def pOut (p:Int×Int):Bool:=decide (p.1<1)||(decide (p.1>400)||(decide (p.2<1)||decide (p.2>400)))
def trnFrom (s:List (Int×Int)):Nat→Nat→Int
 |0,_=>0
 |n+1,k=>if pOut (g0 s k)=true then 3 else trnFrom s n (k+1)
def trnErr (s:List (Int×Int)):Int:=if 4<s.length then 5 else trnFrom s s.length 0
--{
--}
--{
--}
--{
--}
--{
--}
end
end Go.Proofs.YtccmlbinkgbpgaaGreatDoor
/- The reference of chapter 5: Ratio. -/
namespace Go.Proofs.YtccmlbinkgbpgaaGreatDoor
open Go.RowKit Sv
set_option maxRecDepth 100000
set_option linter.unusedVariables false
set_option linter.unusedSimpArgs false
noncomputable section
def redN (n d:Int):Int:=n/Int.gcd n d
def redD (n d:Int):Int:=d/Int.gcd n d
set_option pp.structureInstances false
--{
--}
--{
--}
end
end Go.Proofs.YtccmlbinkgbpgaaGreatDoor
/-
  DERIVED: THE SHELF's CONTRACTS AT THIS DUMP, IN PLAIN WORDS (tools/lay-plain.mjs out of 'TryzShelf.lean', which tools/lay-shelf.mjs wrote): THE SAME DECLARATIONS UNDER THE SAME NAMES: 'import', 'namespace', 'open', 'def', 'theorem' AND NOTHING ELSE: no command of the shelf's: FOR A HAND-IN. Each laying: the table of numbers ('.._ren') and one theorem, a field a fact of the dump's own or the kernel's comparison; each contract: ONE APPLICATION.
-/
namespace Go.Proofs
open Go.Shelf
def Tryz.lays134_ren:Go.Shelf.Ren:=⟨fun |134=>160|129=>118|n=>n,fun |53=>179|3=>3|4=>4|46=>127|5=>5|9=>9|n=>n,fun |n=>n⟩
theorem Tryz.lays134:Go.Proofs.Lays.n134 Tryz.prog Tryz.lays134_ren:={
 mixed:=by kernel_rfl
 f129:=Tryz.func118.trans (congrArg some (by kernel_rfl))
 f134:=Tryz.func160.trans (congrArg some (by kernel_rfl))
 t3:=Tryz.underlying3
 a3:=Tryz.isAgg3
 z3:=Tryz.sizeOf3
 v3:=Tryz.zeroValue3
 t4:=Tryz.underlying4
 a4:=Tryz.isAgg4
 z4:=Tryz.sizeOf4
 v4:=Tryz.zeroValue4
 t5:=Tryz.underlying5
 a5:=Tryz.isAgg5
 z5:=Tryz.sizeOf5
 v5:=Tryz.zeroValue5
 t9:=Tryz.underlying9
 a9:=Tryz.isAgg9
 z9:=Tryz.sizeOf9
 v9:=Tryz.zeroValue9
 t46:=Tryz.underlying127
 a46:=Tryz.isAgg127
 z46:=Tryz.sizeOf127
 v46:=Tryz.zeroValue127
 t53:=Tryz.underlying179
 a53:=Tryz.isAgg179
 z53:=Tryz.sizeOf179
 v53:=Tryz.zeroValue179}
theorem Tryz.bits_LeadingZeros64 (x:Int) (w:World) (h0:0≤x) (h1:x≤18446744073709551615):
  Calls Tryz.prog 160 #[.int .u64 x] w fun e w'=>e= .returned (.int .i64 (64-(Lib.bitLen x.toNat:Int)))∧w'=w:=Any.bits_LeadingZeros64 Tryz.lays134 x w h0 h1
def Tryz.lays210_ren:Go.Shelf.Ren:=⟨fun |210=>125|206=>176|n=>n,fun |9=>9|4=>4|3=>3|n=>n,fun |n=>n⟩
def Tryz.lays172_ren:Go.Shelf.Ren:=⟨fun |172=>131|244=>179|245=>180|247=>204|279=>205|280=>206|281=>207|282=>208|287=>221|316=>222|171=>101|205=>223|321=>234|322=>235|243=>157|246=>191|283=>192|284=>193|285=>194|286=>195|129=>118|317=>214|318=>215|319=>216|320=>217|337=>232|338=>233|n=>n,fun |9=>9|3=>3|75=>189|76=>190|4=>4|5=>5|167=>273|37=>185|0=>0|85=>274|2=>2|168=>276|53=>179|175=>287|46=>127|210=>291|127=>243|145=>301|143=>299|21=>21|171=>260|173=>262|212=>283|51=>201|20=>20|213=>284|232=>304|233=>305|80=>124|n=>n,fun |15=>4|16=>5|17=>3|18=>6|19=>7|n=>n⟩
theorem Tryz.lays172:Go.Proofs.Lays.n172 Tryz.prog Tryz.lays172_ren:={
 mixed:=by kernel_rfl
 f129:=Tryz.func118.trans (congrArg some (by kernel_rfl))
 f171:=Tryz.func101.trans (congrArg some (by kernel_rfl))
 f172:=Tryz.func131.trans (congrArg some (by kernel_rfl))
 f205:=Tryz.func223.trans (congrArg some (by kernel_rfl))
 f243:=Tryz.func157.trans (congrArg some (by kernel_rfl))
 f244:=Tryz.func179.trans (congrArg some (by kernel_rfl))
 f245:=Tryz.func180.trans (congrArg some (by kernel_rfl))
 f246:=Tryz.func191.trans (congrArg some (by kernel_rfl))
 f247:=Tryz.func204.trans (congrArg some (by kernel_rfl))
 f279:=Tryz.func205.trans (congrArg some (by kernel_rfl))
 f280:=Tryz.func206.trans (congrArg some (by kernel_rfl))
 f281:=Tryz.func207.trans (congrArg some (by kernel_rfl))
 f282:=Tryz.func208.trans (congrArg some (by kernel_rfl))
 f283:=Tryz.func192.trans (congrArg some (by kernel_rfl))
 f284:=Tryz.func193.trans (congrArg some (by kernel_rfl))
 f285:=Tryz.func194.trans (congrArg some (by kernel_rfl))
 f286:=Tryz.func195.trans (congrArg some (by kernel_rfl))
 f287:=Tryz.func221.trans (congrArg some (by kernel_rfl))
 f316:=Tryz.func222.trans (congrArg some (by kernel_rfl))
 f317:=Tryz.func214.trans (congrArg some (by kernel_rfl))
 f318:=Tryz.func215.trans (congrArg some (by kernel_rfl))
 f319:=Tryz.func216.trans (congrArg some (by kernel_rfl))
 f320:=Tryz.func217.trans (congrArg some (by kernel_rfl))
 f321:=Tryz.func234.trans (congrArg some (by kernel_rfl))
 f322:=Tryz.func235.trans (congrArg some (by kernel_rfl))
 f337:=Tryz.func232.trans (congrArg some (by kernel_rfl))
 f338:=Tryz.func233.trans (congrArg some (by kernel_rfl))
 t0:=Tryz.underlying0
 a0:=Tryz.isAgg0
 z0:=Tryz.sizeOf0
 v0:=Tryz.zeroValue0
 t2:=Tryz.underlying2
 a2:=Tryz.isAgg2
 z2:=Tryz.sizeOf2
 v2:=Tryz.zeroValue2
 t3:=Tryz.underlying3
 a3:=Tryz.isAgg3
 z3:=Tryz.sizeOf3
 v3:=Tryz.zeroValue3
 t4:=Tryz.underlying4
 a4:=Tryz.isAgg4
 z4:=Tryz.sizeOf4
 v4:=Tryz.zeroValue4
 t5:=Tryz.underlying5
 a5:=Tryz.isAgg5
 z5:=Tryz.sizeOf5
 v5:=Tryz.zeroValue5
 t9:=Tryz.underlying9
 a9:=Tryz.isAgg9
 z9:=Tryz.sizeOf9
 v9:=Tryz.zeroValue9
 t20:=Tryz.underlying20
 a20:=Tryz.isAgg20
 z20:=Tryz.sizeOf20
 v20:=Tryz.zeroValue20
 t21:=Tryz.underlying21
 a21:=Tryz.isAgg21
 z21:=Tryz.sizeOf21
 v21:=Tryz.zeroValue21
 t37:=Tryz.underlying185
 a37:=Tryz.isAgg185
 z37:=Tryz.sizeOf185
 v37:=Tryz.zeroValue185
 t46:=Tryz.underlying127
 a46:=Tryz.isAgg127
 z46:=Tryz.sizeOf127
 v46:=Tryz.zeroValue127
 t51:=Tryz.underlying201
 a51:=Tryz.isAgg201
 z51:=Tryz.sizeOf201
 v51:=Tryz.zeroValue201
 t53:=Tryz.underlying179
 a53:=Tryz.isAgg179
 z53:=Tryz.sizeOf179
 v53:=Tryz.zeroValue179
 t75:=Tryz.underlying189
 a75:=Tryz.isAgg189
 z75:=Tryz.sizeOf189
 v75:=Tryz.zeroValue189
 t76:=Tryz.underlying190
 a76:=Tryz.isAgg190
 z76:=Tryz.sizeOf190
 v76:=Tryz.zeroValue190
 t85:=Tryz.underlying274
 a85:=Tryz.isAgg274
 z85:=Tryz.sizeOf274
 v85:=Tryz.zeroValue274
 t127:=Tryz.underlying243
 a127:=Tryz.isAgg243
 z127:=Tryz.sizeOf243
 v127:=Tryz.zeroValue243
 t143:=Tryz.underlying299
 a143:=Tryz.isAgg299
 z143:=Tryz.sizeOf299
 v143:=Tryz.zeroValue299
 t145:=Tryz.underlying301
 a145:=Tryz.isAgg301
 z145:=Tryz.sizeOf301
 v145:=Tryz.zeroValue301
 t167:=Tryz.underlying273
 a167:=Tryz.isAgg273
 z167:=Tryz.sizeOf273
 v167:=Tryz.zeroValue273
 t168:=Tryz.underlying276
 a168:=Tryz.isAgg276
 z168:=Tryz.sizeOf276
 v168:=Tryz.zeroValue276
 t171:=Tryz.underlying260
 a171:=Tryz.isAgg260
 z171:=Tryz.sizeOf260
 v171:=Tryz.zeroValue260
 t173:=Tryz.underlying262
 a173:=Tryz.isAgg262
 z173:=Tryz.sizeOf262
 v173:=Tryz.zeroValue262
 t175:=Tryz.underlying287
 a175:=Tryz.isAgg287
 z175:=Tryz.sizeOf287
 v175:=Tryz.zeroValue287
 t210:=Tryz.underlying291
 a210:=Tryz.isAgg291
 z210:=Tryz.sizeOf291
 v210:=Tryz.zeroValue291
 t212:=Tryz.underlying283
 a212:=Tryz.isAgg283
 z212:=Tryz.sizeOf283
 v212:=Tryz.zeroValue283
 t213:=Tryz.underlying284
 a213:=Tryz.isAgg284
 z213:=Tryz.sizeOf284
 t232:=Tryz.underlying304
 a232:=Tryz.isAgg304
 z232:=Tryz.sizeOf304
 v232:=Tryz.zeroValue304
 t233:=Tryz.underlying305
 a233:=Tryz.isAgg305
 z233:=Tryz.sizeOf305
 v233:=Tryz.zeroValue305
 g15:=by kernel_rfl
 g16:=by kernel_rfl
 g17:=by kernel_rfl
 g18:=by kernel_rfl
 g19:=by kernel_rfl}
open Go.RowKit in
theorem Tryz.strconv_Atoi (s:ByteArray) (n:Int) (hl:s.size≤18) (h:Lib.atoi s.data.toList=some n) (w:World):
  Calls Tryz.prog 131 #[.string s] w fun e w'=>e= .returned (.tuple #[.int .i64 n, .nilIface])∧∃t,w'=Lib.bytesWorld w 5 t:=Any.strconv_Atoi Tryz.lays172 s n hl h w
def Tryz.lays129_ren:Go.Shelf.Ren:=⟨fun |129=>118|n=>n,fun |53=>179|3=>3|4=>4|46=>127|5=>5|9=>9|n=>n,fun |n=>n⟩
theorem Tryz.lays129:Go.Proofs.Lays.n129 Tryz.prog Tryz.lays129_ren:={
 mixed:=by kernel_rfl
 f129:=Tryz.func118.trans (congrArg some (by kernel_rfl))
 t3:=Tryz.underlying3
 a3:=Tryz.isAgg3
 z3:=Tryz.sizeOf3
 v3:=Tryz.zeroValue3
 t4:=Tryz.underlying4
 a4:=Tryz.isAgg4
 z4:=Tryz.sizeOf4
 v4:=Tryz.zeroValue4
 t5:=Tryz.underlying5
 a5:=Tryz.isAgg5
 z5:=Tryz.sizeOf5
 v5:=Tryz.zeroValue5
 t9:=Tryz.underlying9
 a9:=Tryz.isAgg9
 z9:=Tryz.sizeOf9
 v9:=Tryz.zeroValue9
 t46:=Tryz.underlying127
 a46:=Tryz.isAgg127
 z46:=Tryz.sizeOf127
 v46:=Tryz.zeroValue127
 t53:=Tryz.underlying179
 a53:=Tryz.isAgg179
 z53:=Tryz.sizeOf179
 v53:=Tryz.zeroValue179}
theorem Tryz.bits_Len64 (x:Int) (w:World) (h0:0≤x) (h1:x≤18446744073709551615):
  Calls Tryz.prog 118 #[.int .u64 x] w fun e w'=>e= .returned (.int .i64 (Lib.bitLen x.toNat))∧w'=w:=Any.bits_Len64 Tryz.lays129 x w h0 h1
def Tryz.laysM246_ren:Go.Shelf.Ren:=⟨fun |246=>191|283=>192|284=>193|285=>194|286=>195|129=>118|317=>214|318=>215|319=>216|320=>217|337=>232|338=>233|n=>n,fun |2=>2|3=>3|9=>9|4=>4|171=>260|0=>0|53=>179|37=>185|5=>5|173=>262|212=>283|51=>201|20=>20|213=>284|46=>127|232=>304|233=>305|n=>n,fun |17=>3|18=>6|19=>7|n=>n⟩
def Tryz.laysM243_ren:Go.Shelf.Ren:=⟨fun |243=>157|246=>191|283=>192|284=>193|285=>194|286=>195|129=>118|317=>214|318=>215|319=>216|320=>217|337=>232|338=>233|n=>n,fun |3=>3|9=>9|2=>2|4=>4|171=>260|0=>0|53=>179|37=>185|5=>5|173=>262|212=>283|51=>201|20=>20|213=>284|46=>127|232=>304|233=>305|n=>n,fun |17=>3|18=>6|19=>7|n=>n⟩
def Tryz.laysM171_ren:Go.Shelf.Ren:=⟨fun |171=>101|243=>157|246=>191|283=>192|284=>193|285=>194|286=>195|129=>118|317=>214|318=>215|319=>216|320=>217|337=>232|338=>233|n=>n,fun |3=>3|9=>9|2=>2|4=>4|171=>260|0=>0|53=>179|37=>185|5=>5|173=>262|212=>283|51=>201|20=>20|213=>284|46=>127|232=>304|233=>305|n=>n,fun |17=>3|18=>6|19=>7|n=>n⟩
theorem Tryz.laysM171:Go.Proofs.LaysM.n171 Tryz.prog Tryz.laysM171_ren:={
 mixed:=by kernel_rfl
 f129:=Tryz.func118.trans (congrArg some (by kernel_rfl))
 f171:=Tryz.func101.trans (congrArg some (by kernel_rfl))
 f243:=Tryz.func157.trans (congrArg some (by kernel_rfl))
 f246:=Tryz.func191.trans (congrArg some (by kernel_rfl))
 f283:=Tryz.func192.trans (congrArg some (by kernel_rfl))
 f284:=Tryz.func193.trans (congrArg some (by kernel_rfl))
 f285:=Tryz.func194.trans (congrArg some (by kernel_rfl))
 f286:=Tryz.func195.trans (congrArg some (by kernel_rfl))
 f317:=Tryz.func214.trans (congrArg some (by kernel_rfl))
 f318:=Tryz.func215.trans (congrArg some (by kernel_rfl))
 f319:=Tryz.func216.trans (congrArg some (by kernel_rfl))
 f320:=Tryz.func217.trans (congrArg some (by kernel_rfl))
 f337:=Tryz.func232.trans (congrArg some (by kernel_rfl))
 f338:=Tryz.func233.trans (congrArg some (by kernel_rfl))
 t0:=Tryz.underlying0
 a0:=Tryz.isAgg0
 z0:=Tryz.sizeOf0
 v0:=Tryz.zeroValue0
 t2:=Tryz.underlying2
 a2:=Tryz.isAgg2
 z2:=Tryz.sizeOf2
 v2:=Tryz.zeroValue2
 t3:=Tryz.underlying3
 a3:=Tryz.isAgg3
 z3:=Tryz.sizeOf3
 v3:=Tryz.zeroValue3
 t4:=Tryz.underlying4
 a4:=Tryz.isAgg4
 z4:=Tryz.sizeOf4
 v4:=Tryz.zeroValue4
 t5:=Tryz.underlying5
 a5:=Tryz.isAgg5
 z5:=Tryz.sizeOf5
 v5:=Tryz.zeroValue5
 t9:=Tryz.underlying9
 a9:=Tryz.isAgg9
 z9:=Tryz.sizeOf9
 v9:=Tryz.zeroValue9
 t20:=Tryz.underlying20
 a20:=Tryz.isAgg20
 z20:=Tryz.sizeOf20
 v20:=Tryz.zeroValue20
 t37:=Tryz.underlying185
 a37:=Tryz.isAgg185
 z37:=Tryz.sizeOf185
 v37:=Tryz.zeroValue185
 t46:=Tryz.underlying127
 a46:=Tryz.isAgg127
 z46:=Tryz.sizeOf127
 v46:=Tryz.zeroValue127
 t51:=Tryz.underlying201
 a51:=Tryz.isAgg201
 z51:=Tryz.sizeOf201
 v51:=Tryz.zeroValue201
 t53:=Tryz.underlying179
 a53:=Tryz.isAgg179
 z53:=Tryz.sizeOf179
 v53:=Tryz.zeroValue179
 t171:=Tryz.underlying260
 a171:=Tryz.isAgg260
 z171:=Tryz.sizeOf260
 v171:=Tryz.zeroValue260
 t173:=Tryz.underlying262
 a173:=Tryz.isAgg262
 z173:=Tryz.sizeOf262
 v173:=Tryz.zeroValue262
 t212:=Tryz.underlying283
 a212:=Tryz.isAgg283
 z212:=Tryz.sizeOf283
 v212:=Tryz.zeroValue283
 t213:=Tryz.underlying284
 a213:=Tryz.isAgg284
 z213:=Tryz.sizeOf284
 t232:=Tryz.underlying304
 a232:=Tryz.isAgg304
 z232:=Tryz.sizeOf304
 v232:=Tryz.zeroValue304
 t233:=Tryz.underlying305
 a233:=Tryz.isAgg305
 z233:=Tryz.sizeOf305
 v233:=Tryz.zeroValue305
 g17:=by kernel_rfl
 g18:=by kernel_rfl
 g19:=by kernel_rfl
 i0:=by kernel_rfl
 i2:=by kernel_rfl
 i3:=by kernel_rfl
 i4:=by kernel_rfl
 i5:=by kernel_rfl
 i9:=by kernel_rfl
 i20:=by kernel_rfl
 i37:=by kernel_rfl
 i46:=by kernel_rfl
 i51:=by kernel_rfl
 i53:=by kernel_rfl
 i171:=by kernel_rfl
 i173:=by kernel_rfl
 i212:=by kernel_rfl
 i232:=by kernel_rfl
 i233:=by kernel_rfl
 m17:=by kernel_rfl
 m18:=by kernel_rfl
 m19:=by kernel_rfl}
open Go.RowKit Go.Sort Go.Lib in
theorem Tryz.strconv_Itoa (n:Int) (h0: -9223372036854775808≤n) (h1:n≤9223372036854775807) (w:World) (htab:Lib.TabIs Tryz.prog w "internal/strconv.uint64pow10" .u64 Lib.pow10Tab):
  Calls Tryz.prog 101 #[.int .i64 n] w fun e w'=>e= .returned (.string ⟨(Lib.itoa n).toArray⟩)∧∃k os,w'=grow (w.drewN k) os:=Any.strconv_Itoa Tryz.laysM171 n h0 h1 w htab
def Tryz.lays219_ren:Go.Shelf.Ren:=⟨fun |219=>175|217=>200|225=>201|224=>202|267=>203|266=>219|314=>220|n=>n,fun |9=>9|3=>3|4=>4|5=>5|46=>127|146=>264|51=>201|n=>n,fun |1=>2|n=>n⟩
def Tryz.lays145_ren:Go.Shelf.Ren:=⟨fun |145=>65|220=>124|219=>175|217=>200|225=>201|224=>202|267=>203|266=>219|314=>220|n=>n,fun |9=>9|4=>4|59=>132|3=>3|5=>5|46=>127|146=>264|51=>201|n=>n,fun |1=>2|n=>n⟩
theorem Tryz.lays145:Go.Proofs.Lays.n145 Tryz.prog Tryz.lays145_ren:={
 mixed:=by kernel_rfl
 f145:=Tryz.func65.trans (congrArg some (by kernel_rfl))
 f217:=Tryz.func200.trans (congrArg some (by kernel_rfl))
 f219:=Tryz.func175.trans (congrArg some (by kernel_rfl))
 f220:=Tryz.func124.trans (congrArg some (by kernel_rfl))
 f224:=Tryz.func202.trans (congrArg some (by kernel_rfl))
 f225:=Tryz.func201.trans (congrArg some (by kernel_rfl))
 f266:=Tryz.func219.trans (congrArg some (by kernel_rfl))
 f267:=Tryz.func203.trans (congrArg some (by kernel_rfl))
 f314:=Tryz.func220.trans (congrArg some (by kernel_rfl))
 t3:=Tryz.underlying3
 a3:=Tryz.isAgg3
 z3:=Tryz.sizeOf3
 v3:=Tryz.zeroValue3
 t4:=Tryz.underlying4
 a4:=Tryz.isAgg4
 z4:=Tryz.sizeOf4
 v4:=Tryz.zeroValue4
 t5:=Tryz.underlying5
 a5:=Tryz.isAgg5
 z5:=Tryz.sizeOf5
 v5:=Tryz.zeroValue5
 t9:=Tryz.underlying9
 a9:=Tryz.isAgg9
 z9:=Tryz.sizeOf9
 v9:=Tryz.zeroValue9
 t46:=Tryz.underlying127
 a46:=Tryz.isAgg127
 z46:=Tryz.sizeOf127
 v46:=Tryz.zeroValue127
 t51:=Tryz.underlying201
 a51:=Tryz.isAgg201
 z51:=Tryz.sizeOf201
 v51:=Tryz.zeroValue201
 t59:=Tryz.underlying132
 a59:=Tryz.isAgg132
 z59:=Tryz.sizeOf132
 v59:=Tryz.zeroValue132
 t146:=Tryz.underlying264
 a146:=Tryz.isAgg264
 z146:=Tryz.sizeOf264
 v146:=Tryz.zeroValue264
 g1:=by kernel_rfl}
open Go.RowKit Go.Lib in
theorem Tryz.strings_Cut (s sep:ByteArray) (m:Int) (w:World) (hs:s.size<4294967281) (hm:w.cell? ⟨2,0,none⟩=some (.int .i64 m)):
  Calls Tryz.prog 65 #[.string s, .string sep] w fun e w'=>e= .returned (.tuple #[.string ⟨(Lib.cut s.data.toList sep.data.toList).1.toArray⟩, .string ⟨(Lib.cut s.data.toList sep.data.toList).2.1.toArray⟩, .bool (Lib.cut s.data.toList sep.data.toList).2.2])∧∃n,w'=w.drewN n:=Any.strings_Cut Tryz.lays145 s sep m w hs hm
def Tryz.lays189_ren:Go.Shelf.Ren:=⟨fun |189=>26|125=>60|257=>59|128=>117|129=>118|294=>108|295=>109|296=>110|297=>111|298=>112|299=>113|216=>114|300=>115|301=>116|328=>168|329=>169|330=>170|331=>171|332=>172|215=>173|343=>199|n=>n,fun |28=>47|3=>3|46=>127|0=>0|51=>201|53=>179|4=>4|183=>194|182=>193|131=>137|5=>5|9=>9|218=>244|222=>248|228=>268|229=>269|n=>n,fun |n=>n⟩
theorem Tryz.lays189:Go.Proofs.Lays.n189 Tryz.prog Tryz.lays189_ren:={
 mixed:=by kernel_rfl
 f125:=Tryz.func60.trans (congrArg some (by kernel_rfl))
 f128:=Tryz.func117.trans (congrArg some (by kernel_rfl))
 f129:=Tryz.func118.trans (congrArg some (by kernel_rfl))
 f189:=Tryz.func26.trans (congrArg some (by kernel_rfl))
 f215:=Tryz.func173.trans (congrArg some (by kernel_rfl))
 f216:=Tryz.func114.trans (congrArg some (by kernel_rfl))
 f257:=Tryz.func59.trans (congrArg some (by kernel_rfl))
 f294:=Tryz.func108.trans (congrArg some (by kernel_rfl))
 f295:=Tryz.func109.trans (congrArg some (by kernel_rfl))
 f296:=Tryz.func110.trans (congrArg some (by kernel_rfl))
 f297:=Tryz.func111.trans (congrArg some (by kernel_rfl))
 f298:=Tryz.func112.trans (congrArg some (by kernel_rfl))
 f299:=Tryz.func113.trans (congrArg some (by kernel_rfl))
 f300:=Tryz.func115.trans (congrArg some (by kernel_rfl))
 f301:=Tryz.func116.trans (congrArg some (by kernel_rfl))
 f328:=Tryz.func168.trans (congrArg some (by kernel_rfl))
 f329:=Tryz.func169.trans (congrArg some (by kernel_rfl))
 f330:=Tryz.func170.trans (congrArg some (by kernel_rfl))
 f331:=Tryz.func171.trans (congrArg some (by kernel_rfl))
 f332:=Tryz.func172.trans (congrArg some (by kernel_rfl))
 f343:=Tryz.func199.trans (congrArg some (by kernel_rfl))
 t0:=Tryz.underlying0
 a0:=Tryz.isAgg0
 z0:=Tryz.sizeOf0
 v0:=Tryz.zeroValue0
 t3:=Tryz.underlying3
 a3:=Tryz.isAgg3
 z3:=Tryz.sizeOf3
 v3:=Tryz.zeroValue3
 t4:=Tryz.underlying4
 a4:=Tryz.isAgg4
 z4:=Tryz.sizeOf4
 v4:=Tryz.zeroValue4
 t5:=Tryz.underlying5
 a5:=Tryz.isAgg5
 z5:=Tryz.sizeOf5
 v5:=Tryz.zeroValue5
 t9:=Tryz.underlying9
 a9:=Tryz.isAgg9
 z9:=Tryz.sizeOf9
 v9:=Tryz.zeroValue9
 t28:=Tryz.underlying47
 a28:=Tryz.isAgg47
 z28:=Tryz.sizeOf47
 v28:=Tryz.zeroValue47
 t46:=Tryz.underlying127
 a46:=Tryz.isAgg127
 z46:=Tryz.sizeOf127
 v46:=Tryz.zeroValue127
 t51:=Tryz.underlying201
 a51:=Tryz.isAgg201
 z51:=Tryz.sizeOf201
 v51:=Tryz.zeroValue201
 t53:=Tryz.underlying179
 a53:=Tryz.isAgg179
 z53:=Tryz.sizeOf179
 v53:=Tryz.zeroValue179
 t131:=Tryz.underlying137
 a131:=Tryz.isAgg137
 z131:=Tryz.sizeOf137
 v131:=Tryz.zeroValue137
 t182:=Tryz.underlying193
 a182:=Tryz.isAgg193
 z182:=Tryz.sizeOf193
 v182:=Tryz.zeroValue193
 t183:=Tryz.underlying194
 a183:=Tryz.isAgg194
 z183:=Tryz.sizeOf194
 v183:=Tryz.zeroValue194
 t218:=Tryz.underlying244
 a218:=Tryz.isAgg244
 z218:=Tryz.sizeOf244
 v218:=Tryz.zeroValue244
 t222:=Tryz.underlying248
 a222:=Tryz.isAgg248
 z222:=Tryz.sizeOf248
 v222:=Tryz.zeroValue248
 t228:=Tryz.underlying268
 a228:=Tryz.isAgg268
 z228:=Tryz.sizeOf268
 v228:=Tryz.zeroValue268
 t229:=Tryz.underlying269
 a229:=Tryz.isAgg269
 z229:=Tryz.sizeOf269
 v229:=Tryz.zeroValue269}
open Go.Sort Go.RowKit in
theorem Tryz.slices_Sort_int (blk off cap:Nat) (zs:List Int) (w:World) (hH:Holds (Value.int .i64) w blk off zs.toArray) (hblk:blk<w.heap.size) (hsz:zs.length<4611686018427387904):
  Calls Tryz.prog 26 #[.slice (some ⟨blk,off,none⟩) zs.length cap] w fun e w'=>
   e= .returned (.tuple #[])∧∃n os,w'=grow (putRow (Value.int .i64) (Sort.ahead w n) blk off (zs.mergeSort fun x y=>decide (x≤y)).toArray) os:=Any.slices_Sort_int Tryz.lays189 blk off cap zs w hH hblk hsz
def Tryz.lays99_ren:Go.Shelf.Ren:=⟨fun |99=>129|206=>176|n=>n,fun |9=>9|4=>4|3=>3|n=>n,fun |n=>n⟩
theorem Tryz.lays99:Go.Proofs.Lays.n99 Tryz.prog Tryz.lays99_ren:={
 mixed:=by kernel_rfl
 f99:=Tryz.func129.trans (congrArg some (by kernel_rfl))
 f206:=Tryz.func176.trans (congrArg some (by kernel_rfl))
 t3:=Tryz.underlying3
 a3:=Tryz.isAgg3
 z3:=Tryz.sizeOf3
 v3:=Tryz.zeroValue3
 t4:=Tryz.underlying4
 a4:=Tryz.isAgg4
 z4:=Tryz.sizeOf4
 v4:=Tryz.zeroValue4
 t9:=Tryz.underlying9
 a9:=Tryz.isAgg9
 z9:=Tryz.sizeOf9
 v9:=Tryz.zeroValue9}
open Go.RowKit Go.Lib in
theorem Tryz.strings_HasPrefix (s p:ByteArray) (w:World):
  Calls Tryz.prog 129 #[.string s, .string p] w fun e w'=>e= .returned (.bool (Lib.hasPrefix s.data.toList p.data.toList))∧w'=w:=Any.strings_HasPrefix Tryz.lays99 s p w
def Tryz.lays101_ren:Go.Shelf.Ren:=⟨fun |101=>130|208=>178|206=>176|n=>n,fun |9=>9|4=>4|3=>3|n=>n,fun |n=>n⟩
theorem Tryz.lays101:Go.Proofs.Lays.n101 Tryz.prog Tryz.lays101_ren:={
 mixed:=by kernel_rfl
 f101:=Tryz.func130.trans (congrArg some (by kernel_rfl))
 f206:=Tryz.func176.trans (congrArg some (by kernel_rfl))
 f208:=Tryz.func178.trans (congrArg some (by kernel_rfl))
 t3:=Tryz.underlying3
 a3:=Tryz.isAgg3
 z3:=Tryz.sizeOf3
 v3:=Tryz.zeroValue3
 t4:=Tryz.underlying4
 a4:=Tryz.isAgg4
 z4:=Tryz.sizeOf4
 v4:=Tryz.zeroValue4
 t9:=Tryz.underlying9
 a9:=Tryz.isAgg9
 z9:=Tryz.sizeOf9
 v9:=Tryz.zeroValue9}
open Go.RowKit Go.Lib in
theorem Tryz.strings_TrimPrefix (s p:ByteArray) (w:World):
  Calls Tryz.prog 130 #[.string s, .string p] w fun e w'=>e= .returned (.string ⟨(Lib.trimPrefix s.data.toList p.data.toList).toArray⟩)∧w'=w:=Any.strings_TrimPrefix Tryz.lays101 s p w
def Tryz.lays264_ren:Go.Shelf.Ren:=⟨fun |264=>120|n=>n,fun |53=>179|46=>127|n=>n,fun |n=>n⟩
theorem Tryz.lays264:Go.Proofs.Lays.n264 Tryz.prog Tryz.lays264_ren:={
 mixed:=by kernel_rfl
 f264:=Tryz.func120.trans (congrArg some (by kernel_rfl))
 t46:=Tryz.underlying127
 a46:=Tryz.isAgg127
 z46:=Tryz.sizeOf127
 v46:=Tryz.zeroValue127
 t53:=Tryz.underlying179
 a53:=Tryz.isAgg179
 z53:=Tryz.sizeOf179
 v53:=Tryz.zeroValue179}
open Go.RowKit Go.Lib in
theorem Tryz.bits_Mul64 (x y:Nat) (hx:x<18446744073709551616) (hy:y<18446744073709551616) (w:World):
  Calls Tryz.prog 120 #[.int .u64 x, .int .u64 y] w fun e w'=>e= .returned (.tuple #[.int .u64 ((x*y/18446744073709551616:Nat):Int), .int .u64 ((x*y%18446744073709551616:Nat):Int)])∧w'=w:=Any.bits_Mul64 Tryz.lays264 x y hx hy w
def Tryz.lays108_ren:Go.Shelf.Ren:=⟨fun |108=>24|n=>n,fun |28=>47|3=>3|0=>0|4=>4|n=>n,fun |n=>n⟩
theorem Tryz.lays108:Go.Proofs.Lays.n108 Tryz.prog Tryz.lays108_ren:={
 mixed:=by kernel_rfl
 f108:=Tryz.func24.trans (congrArg some (by kernel_rfl))
 t0:=Tryz.underlying0
 a0:=Tryz.isAgg0
 z0:=Tryz.sizeOf0
 v0:=Tryz.zeroValue0
 t3:=Tryz.underlying3
 a3:=Tryz.isAgg3
 z3:=Tryz.sizeOf3
 v3:=Tryz.zeroValue3
 t4:=Tryz.underlying4
 a4:=Tryz.isAgg4
 z4:=Tryz.sizeOf4
 v4:=Tryz.zeroValue4
 t28:=Tryz.underlying47
 a28:=Tryz.isAgg47
 z28:=Tryz.sizeOf47
 v28:=Tryz.zeroValue47}
open Go.Lib in
theorem Tryz.slices_Index_int (b off n c:Nat) (zs:List Int) (x:Int) (w:World) (hz:n≤zs.length) (hbig:n≤9223372036854775807) (hc:∀j,j<zs.length→w.cell? ⟨b,off+j,none⟩=some (.int .i64 (zs.getD j 0))):
  Calls Tryz.prog 24 #[.slice (some ⟨b,off,none⟩) n c, .int .i64 x] w fun e w'=>e= .returned (.int .i64 (Lib.idxOf (zs.take n) x))∧w'=w:=Any.slices_Index_int Tryz.lays108 b off n c zs x w hz hbig hc
open Go.RowKit Go.Sort in
theorem Tryz.slices_Sort_int_none (p:Option Addr) (cap:Nat) (w:World):
  Calls Tryz.prog 26 #[.slice p 0 cap] w fun e w'=>e= .returned (.tuple #[])∧w'=w:=Any.slices_Sort_int_none Tryz.lays189 p cap w
end Go.Proofs
/- Go's library: a row of integers of one's own, sorted. -/
namespace Go.Proofs.YtccmlbinkgbpgaaGreatDoor
open Go.RowKit
abbrev ic (l:List Int):List Value:=l.map (Value.int .i64)
theorem own_holds {w:World} {g n:Nat} {cur:Array Value} {xs:List Int} (hg:w.heap[g]? =some (.cells cur 3 (0,0))) (ht:cur.toList.take n=ic xs):Sort.Holds (Value.int .i64) w g 0 xs.toArray:=fun j hj=>by
 have hj:j<xs.length:=by simpa using hj
 refine⟨?_, ?_⟩
 ·rw [Nat.zero_add,cell_of_row w g j cur _ _ hg]
  have h1:(cur.toList.take n)[j]? =some (Value.int .i64 xs[j]):=by rw [ht];simp [hj]
  rw [List.getElem?_take]at h1
  split at h1
  ·simpa [hj]using h1
  ·cases h1
 ·simp [World.frozen?,hg]
theorem putRow_at {w:World} {g n:Nat} {cur:Array Value} {xs ys:List Int} (hg:w.heap[g]? =some (.cells cur 3 (0,0))) (ht:cur.toList.take n=ic xs) (hl:ys.length=xs.length) (q:Nat):
  (Sort.putRow (Value.int .i64) (Sort.ahead w q) g 0 ys.toArray).heap[g]? =some (.cells (Sort.putCells (Value.int .i64) 0 ys.toArray cur) 3 (0,0))∧(Sort.putCells (Value.int .i64) 0 ys.toArray cur).size=cur.size∧(Sort.putCells (Value.int .i64) 0 ys.toArray cur).toList.take ys.length=ic ys:=by
 refine⟨?_,by simp [Sort.putCells], ?_⟩
 ·show(w.heap.modify g (Sort.onCells _))[g]? =_
  rw [Array.getElem?_modify,if_pos rfl,hg];rfl
 ·have hlen:ys.length≤cur.size:=by
   have h1:=congrArg List.length ht
   simp at h1;omega
  apply List.ext_getElem?
  intro j
  rw [List.getElem?_take]
  by_cases hj:j<ys.length
  ·rw [if_pos hj,Array.getElem?_toList]
   have hc:j<cur.size:=by omega
   simp [Sort.putCells,hj,hc]
  ·rw [if_neg hj,List.getElem?_eq_none (by simpa using hj)]
theorem putRow_grown {w:World} {g q:Nat} {d:Array Int}:w.grownBy (Sort.putRow (Value.int .i64) (Sort.ahead w q) g 0 d) (some g):=
 ⟨rfl,rfl,rfl,Nat.le_of_eq (by simp),fun k _ hk=>by
   show(w.heap.modify g (Sort.onCells _))[k]? =_
   rw [Array.getElem?_modify,if_neg (fun e=>hk (by rw [e]))]⟩
theorem grown_grow {w w':World} {r:Option Nat} (h:w.grownBy w' r) (os:Array Obj):w.grownBy (Sort.grow w' os) r:=
 ⟨h.os,h.tape,h.output,Nat.le_trans h.size (by simp),fun k hk hn=>(Sort.heap_grow_old w' os (Nat.lt_of_lt_of_le hk h.size)).trans (h.block k hk hn)⟩
end Go.Proofs.YtccmlbinkgbpgaaGreatDoor
/- The runner over an abstract memory, with loops over functions in the rounds of such loops, and with calls of a given kind ('cl': what a call is). -/
namespace Go.Proofs.YtccmlbinkgbpgaaGreatDoor.Sv
open Go.RowKit
noncomputable section
abbrev RunnerN:=Code→(n:Nat)→(rnd:Option Nat)→Tr AV→AHeap→List Nat→R
end
set_option linter.unusedSectionVars false
variable [Ground]
def RdOk (ρ:Env):Option Nat→Option Nat→Prop
 |none,none=>True
 |some i,some l=>∃c,ρ i=some (l,c)
 |_,_=>False
theorem RdOk.mono {ρ ρ':Env} (hl:Le ρ ρ'):∀{rnd rd:Option Nat},RdOk ρ rnd rd→RdOk ρ' rnd rd
 |none,none,_=>trivial
 |some _,some _,⟨c,h⟩=>⟨c,hl _ _ h⟩
 |none,some _,h=>h.elim
 |some _,none,h=>h.elim
section
variable {P:Program} {B:Nat} {ρ:Env} {n:Nat} {T:Tr AV} {H:AHeap} {a:Act} {w:World}
variable {cl:RunnerN→Caller}
end
end Go.Proofs.YtccmlbinkgbpgaaGreatDoor.Sv
/- Package gear: trains: the keys of a map are collected and sorted. -/
namespace Go.Proofs.YtccmlbinkgbpgaaGreatDoor
open Go.RowKit Sv
structure Rng (w:World) (b r:Nat) (es:Array MapEntry) (clock:Nat) (rem:List MapEntry):Prop where
 m:w.heap[b]? =some (.map es clock)
 it:∃seen c0,w.heap[r]? =some (.mapIter (some b) clock seen c0)∧clock≤c0∧(leftOf es seen).toList=rem
theorem perm_drop (e:MapEntry):∀{l:List MapEntry},(l.map (·.born)).Nodup→e∈l→l.Perm (e::l.filter fun x=>x.born != e.born)
 |[],_,h=>by cases h
 |x::l,hn,h=>by
  rw [List.map_cons,List.nodup_cons]at hn
  by_cases hx:x.born=e.born
  ·have hxe:x=e:=by
    rcases List.mem_cons.1 h with h|h
    ·exact h.symm
    ·exact absurd (List.mem_map.2 ⟨e,h,hx.symm⟩) hn.1
   subst hxe
   have:l.filter (fun y=>y.born != x.born)=l:=List.filter_eq_self.2 fun y hy=>by
    rw [bne_iff_ne]
    intro he
    exact hn.1 (List.mem_map.2 ⟨y,hy,he⟩)
   rw [List.filter_cons,if_neg (by simp),this]
  ·have he:e∈l:=by
    rcases List.mem_cons.1 h with h|h
    ·exact absurd (by rw [h]) hx
    ·exact h
   rw [List.filter_cons,if_pos (by simpa using hx)]
   exact((perm_drop e hn.2 he).cons x).trans (List.Perm.swap _ _ _)
theorem left_push (es:Array MapEntry) (seen:Array Nat) (k:Nat):(leftOf es (seen.push k)).toList=(leftOf es seen).toList.filter fun x=>x.born != k:=by
 unfold leftOf
 rw [Array.toList_filter,Array.toList_filter,List.filter_filter]
 refine List.filter_congr fun x _=> ?_
 rw [contains_push]
 cases seen.contains x.born<;>simp [bne]
theorem Rng.next {P:Program} {w:World} {b r:Nat} {es:Array MapEntry} {clock:Nat} {rem:List MapEntry} (hes:∀x∈es.toList,x.born<clock) (hn:(es.toList.map (·.born)).Nodup) (h:Rng w b r es clock rem) (ty:TypeId):
  (rem=[]∧(Instr.next (.pointer (some ⟨r,0,none⟩)) false ty).run P w= .ok (.tuple #[.bool false]) w)∨
  ∃e rem' w',rem.Perm (e::rem')∧e∈es.toList∧(Instr.next (.pointer (some ⟨r,0,none⟩)) false ty).run P w= .ok (.tuple #[.bool true,e.key,e.val]) w'∧Rng w' b r es clock rem'∧w.grownBy w' (some r)∧w'.heap.size=w.heap.size∧
   (Instr.entry (.pointer (some ⟨r,0,none⟩))).run P w'= .ok (.tuple #[e.key,e.val]) w':=by
 obtain⟨hb,seen,c0,hr,hc,rfl⟩:=h
 have hne:b≠r:=fun e=>by subst e;rw [hb]at hr;cases hr
 rcases run_next_at (P:=P) w ty r b clock c0 seen es clock hr hb hes hc with⟨h0,hrun⟩|⟨e,he,w1,hal,hrun⟩
 ·exact .inl ⟨by rw [Array.eq_empty_of_size_eq_zero h0],hrun⟩
 ·have hem:e∈es.toList:=by
   unfold leftOf at he
   rw [Array.toList_filter]at he
   exact(List.mem_filter.1 he).1
  have hnl:((leftOf es seen).toList.map (·.born)).Nodup:=by
   unfold leftOf
   rw [Array.toList_filter]
   exact(List.filter_sublist.map _).nodup hn
  have hr1:w1.heap[r]? =some (.mapIter (some b) clock seen c0):=by rcases hal with rfl |rfl<;>exact hr
  have hb1:w1.heap[b]? =some (.map es clock):=by rcases hal with rfl |rfl<;>exact hb
  have hset:=MapKept.heap_set (o':= .mapIter (some b) clock (seen.push e.born) clock) hr1
  have hb':(ChangeMaps.setBlock w1 r (.mapIter (some b) clock (seen.push e.born) clock)).heap[b]? =some (.map es clock):=(hset.2 b hne).trans hb1
  refine .inr ⟨e,_,_,perm_drop e hnl he,hem,hrun,⟨hb',_,_,hset.1,Nat.le_refl _,left_push es seen e.born⟩, ?_, ?_,run_entry_at _ r b clock seen es clock e hset.1 hb' hem hn⟩
  ·rcases hal with rfl |rfl<;>exact⟨rfl,rfl,rfl,by simp [ChangeMaps.setBlock],fun i _ hi=>hset.2 i (fun e1=>hi (by rw [e1]))⟩
  ·rcases hal with rfl |rfl<;>simp [ChangeMaps.setBlock]
section
variable {F:Fence} {n:Nat} {P:Program} (w:World) {ops:Array Oper} {rest:List Oper} {o:Oper} {a:Act} {Q:Exit→Act→World→Prop}
end
end Go.Proofs.YtccmlbinkgbpgaaGreatDoor
/- What a slice reads as: words of my own, over any program. 'Row w B A vs': the cells vs lie from the address A on, in a block below B (nothing is asked if there is no cell). -/
namespace Go.Proofs.YtccmlbinkgbpgaaGreatDoor
open Go.RowKit
def Row (w:World) (B:Nat) (A:Option Addr) (vs:List Value):Prop:=
 vs=[]∨∃b off,A=some ⟨b,off,none⟩∧b<B∧∀i,i<vs.length→w.cell? ⟨b,off+i,none⟩=some (vs.getD i (.bool false))
theorem Row.nil {w:World} {B:Nat} {A:Option Addr}:Row w B A []:= .inl rfl
theorem Row.open {w:World} {B:Nat} {A:Option Addr} {vs:List Value} (h:Row w B A vs) (hn:0<vs.length):
  ∃b off,A=some ⟨b,off,none⟩∧b<B∧∀i,i<vs.length→w.cell? ⟨b,off+i,none⟩=some (vs.getD i (.bool false)):=by
 rcases h with rfl |h
 ·simp at hn
 ·exact h
theorem Row.below {w w':World} {B B':Nat} {A:Option Addr} {vs:List Value} (h:Row w B A vs) (hb:Below B' w w') (hB:B≤B'):Row w' B A vs:=by
 rcases h with rfl |⟨b,off,rfl,hlt,hc⟩
 ·exact .inl rfl
 ·exact .inr ⟨b,off,rfl,hlt,fun i hi=>(hb.cell (p:=⟨b,off+i,none⟩) (by simp;omega)).trans (hc i hi)⟩
theorem Row.drewN {w:World} {B:Nat} {A:Option Addr} {vs:List Value} (h:Row w B A vs) (k:Nat):Row (w.drewN k) B A vs:=h
theorem Row.drew {w:World} {B:Nat} {A:Option Addr} {vs:List Value} (h:Row w B A vs):Row w.drew B A vs:=h
theorem Row.alloc {w:World} {B:Nat} {A:Option Addr} {vs:List Value} (h:Row w B A vs) (hB:B≤w.heap.size) (o:Obj):Row (w.alloc o) B A vs:=
 h.below ((Below.refl B w).alloc hB o) (Nat.le_refl _)
theorem Row.new (w:World) (e:TypeId) (vs:List Value):Row (w.alloc (.cells vs.toArray e)) (w.heap.size+1) (some ⟨w.heap.size,0,none⟩) vs:=
 .inr ⟨w.heap.size,0,rfl,by omega,fun i hi=>by
   rw [World.cell?_alloc_at _ _ _ _ rfl]
   simp [List.getD_eq_getElem?_getD,hi]⟩
theorem Row.int {w:World} {B:Nat} {A:Option Addr} {xs:List Int} (h:Row w B A (xs.map (Value.int .i64))) (k:Nat) (hk:k<xs.length):
  ∃b off x,A=some ⟨b,off,none⟩∧b<B∧xs[k]? =some x∧w.cell? ⟨b,off+k,none⟩=some (.int .i64 x):=by
 obtain⟨b,off,h1,h2,h3⟩:=h.open (by simp;omega)
 refine⟨b,off,xs[k],h1,h2,List.getElem?_eq_getElem hk, ?_⟩
 rw [h3 k (by simpa using hk)];simp [List.getD_eq_getElem?_getD,hk]
def Blk (w:World) (g:Nat) (t:TypeId) (cs:Array Value):Prop:=w.heap[g]? =some (.cells cs t (0,0))
section
variable {w w':World} {g:Nat} {t:TypeId} {cs:Array Value}
theorem Blk.lt (h:Blk w g t cs):g<w.heap.size:=by
 rcases Nat.lt_or_ge g w.heap.size with hlt|hge
 ·exact hlt
 ·unfold Blk at h;rw [Array.getElem?_eq_none hge]at h;cases h
theorem Blk.cell (h:Blk w g t cs) (i:Nat):w.cell? ⟨g,i,none⟩=cs[i]? :=cell_of_row w g i cs t (0,0) h
theorem Blk.frozen (h:Blk w g t cs) (i:Nat):w.frozen? ⟨g,i,none⟩=false:=by
 unfold Blk at h
 simp [World.frozen?,h]
theorem Blk.new (w:World) (t:TypeId) (cs:Array Value):Blk (w.alloc (.cells cs t)) w.heap.size t cs:=heap_alloc_new w _
theorem Blk.drew (h:Blk w g t cs):Blk w.drew g t cs:=h
theorem Blk.drewN (h:Blk w g t cs) (n:Nat):Blk (w.drewN n) g t cs:=h
theorem Blk.alloc (h:Blk w g t cs) (o:Obj):Blk (w.alloc o) g t cs:=(Below.heap_alloc w o g h.lt).trans h
theorem Blk.below {B:Nat} (h:Blk w g t cs) (hb:Below B w w') (hg:g<B):Blk w' g t cs:=(hb.block g hg).trans h
theorem Blk.set (h:Blk w g t cs) (i:Nat) (u:Value):Blk (w.setCell ⟨g,i,none⟩ u) g t (cs.setIfInBounds i u):=by
 unfold Blk at h ⊢
 simp [World.setCell,Array.getElem?_modify,h]
theorem Blk.far (h:Blk w g t cs) {p:Addr} (hp:g≠p.block) (u:Value):Blk (w.setCell p u) g t cs:=(Below.heap_setCell w p u g hp).trans h
end
end Go.Proofs.YtccmlbinkgbpgaaGreatDoor
/- Package gear: trains: its head: the kinds of wheels, ascending. -/
namespace Go.Proofs.YtccmlbinkgbpgaaGreatDoor
open Go.RowKit Sv
theorem Tryz.info3:(Tryz.prog.info? 3).map (fun i=>(i.zero,i.size,i.bytes))=some (some (.int .i64 0),1,8):=by kernel_rfl
end Go.Proofs.YtccmlbinkgbpgaaGreatDoor
/- Numbers as lists of digits to some base, the least significant one first: plain facts. -/
namespace Go.Proofs.YtccmlbinkgbpgaaGreatDoor
def vl (b:Int):List Int→Int
 |[]=>0
 |x::r=>x+b*vl b r
def Dg (b:Int) (l:List Int):Prop:=∀x∈l,0≤x∧x<b
theorem Dg.nil {b:Int}:Dg b []:=fun x h=>by cases h
theorem Dg.cons {b x:Int} {l:List Int} (h:0≤x∧x<b) (hl:Dg b l):Dg b (x::l):=fun y hy=>by
 rcases List.mem_cons.1 hy with rfl |hy
 ·exact h
 ·exact hl y hy
theorem Dg.tail {b x:Int} {l:List Int} (h:Dg b (x::l)):Dg b l:=fun y hy=>h y (List.mem_cons_of_mem _ hy)
theorem Dg.head {b x:Int} {l:List Int} (h:Dg b (x::l)):0≤x∧x<b:=h x List.mem_cons_self
theorem Dg.app {b:Int} {l m:List Int} (h:Dg b l) (g:Dg b m):Dg b (l++m):=fun y hy=>(List.mem_append.1 hy).elim (h y) (g y)
theorem Dg.take {b:Int} {l:List Int} (h:Dg b l) (k:Nat):Dg b (l.take k):=fun y hy=>h y (List.mem_of_mem_take hy)
theorem Dg.drop {b:Int} {l:List Int} (h:Dg b l) (k:Nat):Dg b (l.drop k):=fun y hy=>h y (List.mem_of_mem_drop hy)
theorem Dg.set {b:Int} {l:List Int} (h:Dg b l) {k:Nat} {x:Int} (hx:0≤x∧x<b):Dg b (l.set k x):=fun y hy=>by
 rcases List.mem_or_eq_of_mem_set hy with hy|rfl
 ·exact h y hy
 ·exact hx
theorem Dg.at' {b:Int} {l:List Int} (h:Dg b l) {k:Nat} (hk:k<l.length):0≤l.getD k 0∧l.getD k 0<b:=by
 have:l.getD k 0=l[k]:=by simp [List.getD_eq_getElem?_getD,hk]
 rw [this];exact h _ (List.getElem_mem _)
theorem Dg.get {b:Int} (hb:0<b) {l:List Int} (h:Dg b l) (k:Nat):0≤l.getD k 0∧l.getD k 0<b:=by
 by_cases hk:k<l.length
 ·exact h.at' hk
 ·rw [List.getD_eq_getElem?_getD,List.getElem?_eq_none (by omega)]
  exact⟨Int.le_refl _,hb⟩
theorem Dg.rep {b:Int} (hb:0<b) (n:Nat):Dg b (List.replicate n 0):=fun y hy=>by
 rw [(List.mem_replicate.1 hy).2];exact⟨Int.le_refl _,hb⟩
theorem mul_nn {a b:Int} (ha:0≤a) (hb:0≤b):0≤a*b:=Int.mul_nonneg ha hb
theorem pow_pos' {b:Int} (hb:0<b):∀n:Nat,0<b^n
 |0=>by simp
 |n+1=>by rw [Int.pow_succ];exact Int.mul_pos (pow_pos' hb n) hb
theorem vl_nn {b:Int} (hb:0<b):∀{l:List Int},Dg b l→0≤vl b l
 |[],_=>Int.le_refl _
 |x::r,h=>by
  have h1:=h.head
  have h2:=Int.mul_nonneg (Int.le_of_lt hb) (vl_nn hb h.tail)
  show 0≤x+b*vl b r
  omega
theorem vl_lt {b:Int} (hb:0<b):∀{l:List Int},Dg b l→vl b l<b^l.length
 |[],_=>by simp [vl]
 |x::r,h=>by
  have h1:=h.head
  have h2:=vl_lt hb h.tail
  have h3:b*vl b r≤b*(b^r.length-1):=Int.mul_le_mul_of_nonneg_left (by omega) (Int.le_of_lt hb)
  have h4:b*(b^r.length-1)=b*b^r.length-b:=by rw [Int.mul_sub,Int.mul_one]
  have h5:b^(x::r).length=b*b^r.length:=by rw [List.length_cons,Int.pow_succ,Int.mul_comm]
  rw [h5]
  show x+b*vl b r<_
  omega
theorem vl_app (b:Int):∀(l m:List Int),vl b (l++m)=vl b l+b^l.length*vl b m
 |[],m=>by simp [vl]
 |x::r,m=>by
  show x+b*vl b (r++m)=x+b*vl b r+b^(r.length+1)*vl b m
  rw [vl_app b r m,Int.mul_add,Int.pow_succ,Int.mul_comm (b^r.length) b,Int.mul_assoc,Int.add_assoc]
theorem vl_one (b x:Int):vl b [x]=x:=by simp [vl]
theorem vl_snoc (b:Int) (l:List Int) (x:Int):vl b (l++[x])=vl b l+b^l.length*x:=by rw [vl_app,vl_one]
theorem vl_rep (b:Int):∀n:Nat,vl b (List.replicate n 0)=0
 |0=>rfl
 |n+1=>by rw [List.replicate_succ];show 0+b*vl b (List.replicate n 0)=0;rw [vl_rep b n];simp
theorem dg_getD {l:List Int} {k:Nat} (h:k<l.length):l.getD k 0=l[k]:=by simp [List.getD_eq_getElem?_getD,h]
theorem dg_take {l:List Int} {k:Nat} (h:k<l.length):l.take (k+1)=l.take k++[l.getD k 0]:=by rw [dg_getD h];simp
theorem vl_take {b:Int} {l:List Int} {k:Nat} (h:k<l.length):vl b (l.take (k+1))=vl b (l.take k)+b^k*l.getD k 0:=by
 rw [dg_take h,vl_snoc,List.length_take,Nat.min_eq_left (by omega)]
theorem vl_take' {b:Int} (l:List Int) (k:Nat):vl b (l.take (k+1))=vl b (l.take k)+b^k*l.getD k 0:=by
 by_cases h:k<l.length
 ·exact vl_take h
 ·have e:l.getD k 0=0:=by rw [List.getD_eq_getElem?_getD,List.getElem?_eq_none (by omega)];rfl
  rw [e,List.take_of_length_le (by omega),List.take_of_length_le (by omega)];simp
theorem vl_split (b:Int) (l:List Int) (k:Nat) (h:k≤l.length):vl b l=vl b (l.take k)+b^k*vl b (l.drop k):=by
 have:=vl_app b (l.take k) (l.drop k)
 rw [List.take_append_drop,List.length_take,Nat.min_eq_left h]at this
 exact this
theorem vl_set (b:Int):∀(l:List Int) (k:Nat) (x:Int),k<l.length→vl b (l.set k x)=vl b l+b^k*(x-l.getD k 0)
 |[],k,_,h=>absurd h (Nat.not_lt_zero _)
 |y::r,0,x,_=>by
  show x+b*vl b r=y+b*vl b r+b^0*(x-(y::r).getD 0 0)
  simp;omega
 |y::r,k+1,x,h=>by
  show y+b*vl b (r.set k x)=y+b*vl b r+b^(k+1)*(x-(y::r).getD (k+1) 0)
  have e:(y::r).getD (k+1) 0=r.getD k 0:=by simp
  rw [vl_set b r k x (by simpa using h),e,Int.mul_add,Int.pow_succ,Int.mul_comm (b^k) b,Int.mul_assoc,Int.add_assoc]
def Tm (l:List Int):Prop:=∀k,l.length=k+1→l.getD k 0≠0
def trimL (l:List Int):Nat→List Int
 |0=>[]
 |k+1=>if l.getD k 0=0 then trimL l k else l.take (k+1)
theorem trimL_eq (l:List Int):∀k,k≤l.length→∃m,m≤k∧trimL l k=l.take m∧(∀j,m≤j→j<k→l.getD j 0=0)∧(∀j,m=j+1→l.getD j 0≠0)
 |0,_=>⟨0,Nat.le_refl _,by simp [trimL],fun j _ h=>by omega,fun j h=>by omega⟩
 |k+1,hk=>by
  unfold trimL
  by_cases h:l.getD k 0=0
  ·rw [if_pos h]
   obtain⟨m,h1,h2,h3,h4⟩:=trimL_eq l k (by omega)
   refine⟨m,by omega,h2,fun j g1 g2=> ?_,h4⟩
   by_cases e:j=k
   ·rw [e];exact h
   ·exact h3 j g1 (by omega)
  ·rw [if_neg h]
   exact⟨k+1,Nat.le_refl _,rfl,fun j g1 g2=>by omega,fun j e=>by
    obtain rfl:j=k:=by omega
    exact h⟩
theorem trim_vl {b:Int} (l:List Int):∀k,k≤l.length→vl b (trimL l k)=vl b (l.take k)
 |0,_=>by simp [trimL]
 |k+1,hk=>by
  unfold trimL
  by_cases h:l.getD k 0=0
  ·rw [if_pos h,trim_vl l k (by omega),vl_take (by omega),h];simp
  ·rw [if_neg h]
theorem trim_tm (l:List Int) (k:Nat) (hk:k≤l.length):Tm (trimL l k):=by
 obtain⟨m,h1,h2,_,h4⟩:=trimL_eq l k hk
 rw [h2]
 intro j hj
 rw [List.length_take,Nat.min_eq_left (by omega)]at hj
 have:=h4 j hj
 rwa [List.getD_eq_getElem?_getD,List.getElem?_take,if_pos (by omega),←List.getD_eq_getElem?_getD]
theorem trim_dg {b:Int} {l:List Int} (h:Dg b l) (k:Nat) (hk:k≤l.length):Dg b (trimL l k):=by
 obtain⟨m,_,h2,_⟩:=trimL_eq l k hk
 rw [h2];exact h.take _
theorem trim_id {l:List Int} (h:Tm l):trimL l l.length=l:=by
 cases hl:l.length with
 |zero=>rw [List.eq_nil_of_length_eq_zero hl];rfl
 |succ k=>
  unfold trimL
  rw [if_neg (h k hl)]
  exact List.take_of_length_le (by omega)
theorem vl_ge {b:Int} (hb:0<b) {l:List Int} (h:Dg b l) (ht:Tm l) {k:Nat} (hl:l.length=k+1):b^k≤vl b l:=by
 have h1:=vl_take (b:=b) (l:=l) (k:=k) (by omega)
 rw [List.take_of_length_le (by omega)]at h1
 have h2:=vl_nn hb (h.take k)
 have h3:=h.at' (k:=k) (by omega)
 have h4:=ht k hl
 have h5:b^k*1≤b^k*l.getD k 0:=Int.mul_le_mul_of_nonneg_left (by omega) (Int.le_of_lt (pow_pos' hb k))
 omega
theorem pow_le_pow' {b:Int} (hb:1≤b) {m n:Nat} (h:m≤n):b^m≤b^n:=by
 obtain⟨d,rfl⟩:=Nat.exists_eq_add_of_le h
 rw [Int.pow_add]
 have h1:=pow_pos' (show 0<b by omega) m
 have h2:=pow_pos' (show 0<b by omega) d
 have:=Int.mul_le_mul_of_nonneg_left (show 1≤b^d by omega) (Int.le_of_lt h1)
 omega
theorem vl_short {b:Int} (hb:1<b) {l m:List Int} (h:Dg b l) (g:Dg b m) (ht:Tm m) (hl:l.length<m.length):vl b l<vl b m:=by
 obtain⟨k,hk⟩:∃k,m.length=k+1:=⟨m.length-1,by omega⟩
 have h1:=vl_lt (show 0<b by omega) h
 have h2:=vl_ge (show 0<b by omega) g ht hk
 have h3:=pow_le_pow' (show 1≤b by omega) (show l.length≤k by omega)
 omega
theorem vl_cmp {b:Int} (hb:1<b) {l m:List Int} (h:Dg b l) (g:Dg b m) (hl:l.length=m.length) {k:Nat} (hk:k<l.length) (hlt:l.getD k 0<m.getD k 0) (heq:∀j,k<j→j<l.length→l.getD j 0=m.getD j 0):vl b l<vl b m:=by
 have hb0:0<b:=by omega
 have hd:l.drop (k+1)=m.drop (k+1):=by
  refine List.ext_getElem (by simp [hl]) fun i h1 h2=> ?_
  rw [List.getElem_drop,List.getElem_drop,←dg_getD,←dg_getD]
  exact heq _ (by omega) (by simp at h1;omega)
 rw [vl_split b l (k+1) (by omega),vl_split b m (k+1) (by omega),hd,vl_take hk,vl_take (by omega)]
 have h1:=vl_lt hb0 (h.take k)
 rw [List.length_take,Nat.min_eq_left (by omega)]at h1
 have h2:=vl_nn hb0 (g.take k)
 have h3:b^k*(l.getD k 0+1)≤b^k*m.getD k 0:=Int.mul_le_mul_of_nonneg_left (by omega) (Int.le_of_lt (pow_pos' hb0 k))
 rw [Int.mul_add,Int.mul_one]at h3
 omega
theorem vl_inj {b:Int} (hb:1<b):∀{l m:List Int},Dg b l→Dg b m→l.length=m.length→vl b l=vl b m→l=m
 |[],[],_,_,_,_=>rfl
 |[],_::_,_,_,h,_=>by cases h
 |_::_,[],_,_,h,_=>by cases h
 |x::l,y::m,h,g,hl,e=>by
  have e:x+b*vl b l=y+b*vl b m:=e
  have h1:=h.head
  have g1:=g.head
  have hx:x=y:=by
   have a1:(x+b*vl b l)%b=x:=by rw [Int.add_mul_emod_self_left];exact Int.emod_eq_of_lt h1.1 h1.2
   have a2:(y+b*vl b m)%b=y:=by rw [Int.add_mul_emod_self_left];exact Int.emod_eq_of_lt g1.1 g1.2
   rw [←a1,←a2,e]
  subst hx
  have e2:b*vl b l=b*vl b m:=by omega
  have e3:=Int.eq_of_mul_eq_mul_left (by omega) e2
  rw [vl_inj hb h.tail g.tail (by simpa using hl) e3]
theorem vl_unique {b:Int} (hb:1<b) {l m:List Int} (h:Dg b l) (g:Dg b m) (hl:Tm l) (hm:Tm m) (e:vl b l=vl b m):l=m:=by
 rcases Nat.lt_trichotomy l.length m.length with h1|h1|h1
 ·have:=vl_short hb h g hm h1;omega
 ·exact vl_inj hb h g h1 e
 ·have:=vl_short hb g h hl h1;omega
theorem Tm.nil:Tm []:=fun k h=>by cases h
section
variable {b:Int}
structure Parts (b v1 v2 v' u0 u1 u2 u' s:Int):Prop where
 b2:2≤b
 s1:1≤s
 v1:1≤v1∧v1<b
 v2:0≤v2∧v2<b
 v':0≤v'∧v'<s
 u0:0≤u0∧u0<b
 u1:0≤u1∧u1<b
 u2:0≤u2∧u2<b
 u':0≤u'∧u'<s
variable {v1 v2 v' u0 u1 u2 u' s:Int}
def vAll (b v1 v2 v' s:Int):Int:=(v1*b+v2)*s+v'
def uAll (b u0 u1 u2 u' s:Int):Int:=((u0*b+u1)*b+u2)*s+u'
theorem mul_lt_of {a c x:Int} (h:a*x<c*x) (hx:0<x):a<c:=Int.lt_of_mul_lt_mul_right h (Int.le_of_lt hx)
theorem guess_hi (p:Parts b v1 v2 v' u0 u1 u2 u' s) {t q:Int} (ht:0≤t) (hq:q*vAll b v1 v2 v' s≤uAll b u0 u1 u2 u' s) (h:(u0*b+u1-t*v1)*b+u2<t*v2):q<t:=by
 have h1:(u0*b+u1)*b+u2+1≤t*(v1*b+v2):=by
  have e1:(u0*b+u1-t*v1)*b=(u0*b+u1)*b-t*v1*b:=Int.sub_mul _ _ _
  have e2:t*(v1*b+v2)=t*v1*b+t*v2:=by rw [Int.mul_add,Int.mul_assoc]
  rw [e1]at h
  rw [e2]
  omega
 have h2:=Int.mul_le_mul_of_nonneg_right h1 (show 0≤s by have:=p.s1;omega)
 have e3:((u0*b+u1)*b+u2+1)*s=((u0*b+u1)*b+u2)*s+s:=by rw [Int.add_mul _ 1,Int.one_mul]
 rw [e3]at h2
 have h3:t*(v1*b+v2)*s≤t*vAll b v1 v2 v' s:=by
  rw [Int.mul_assoc]
  exact Int.mul_le_mul_of_nonneg_left (by unfold vAll;have:=p.v';omega) ht
 have h4:uAll b u0 u1 u2 u' s<t*vAll b v1 v2 v' s:=by unfold uAll;have:=p.u';omega
 have h5:q*vAll b v1 v2 v' s<t*vAll b v1 v2 v' s:=by omega
 refine mul_lt_of h5 ?_
 have:=p.v1
 have h6:0<v1*b+v2:=by
  have:=Int.mul_pos (show 0<v1 by omega) (show 0<b by have:=p.b2;omega)
  have:=p.v2;omega
 have h7:=Int.mul_pos h6 (show 0<s by have:=p.s1;omega)
 unfold vAll
 have:=p.v'
 omega
theorem guess_lo (p:Parts b v1 v2 v' u0 u1 u2 u' s) {t:Int} (ht:0≤t∧t<b) (h:t*v2≤(u0*b+u1-t*v1)*b+u2):(t-1)*vAll b v1 v2 v' s≤uAll b u0 u1 u2 u' s:=by
 have e1:(u0*b+u1-t*v1)*b=(u0*b+u1)*b-t*v1*b:=Int.sub_mul _ _ _
 have e2:t*(v1*b+v2)=t*v1*b+t*v2:=by rw [Int.mul_add,Int.mul_assoc]
 have h1:t*(v1*b+v2)≤(u0*b+u1)*b+u2:=by rw [e2];rw [e1]at h;omega
 have h2:=Int.mul_le_mul_of_nonneg_right h1 (show 0≤s by have:=p.s1;omega)
 have h3:t*v'≤(b-1)*s:=by
  have a:=Int.mul_le_mul_of_nonneg_right (show t≤b-1 by omega) p.v'.1
  have c:=Int.mul_le_mul_of_nonneg_left (show v'≤s by have:=p.v';omega) (show 0≤b-1 by have:=p.b2;omega)
  omega
 have h4:b*s≤vAll b v1 v2 v' s:=by
  have a:=Int.mul_le_mul_of_nonneg_right p.v1.1 (show 0≤b by have:=p.b2;omega)
  rw [Int.one_mul]at a
  have c:=Int.mul_le_mul_of_nonneg_right (show b≤v1*b+v2 by have:=p.v2;omega) (show 0≤s by have:=p.s1;omega)
  unfold vAll
  have:=p.v'
  omega
 have e3:(t-1)*vAll b v1 v2 v' s=t*vAll b v1 v2 v' s-vAll b v1 v2 v' s:=by rw [Int.sub_mul,Int.one_mul]
 have e4:t*vAll b v1 v2 v' s=t*(v1*b+v2)*s+t*v':=by unfold vAll;rw [Int.mul_add,Int.mul_assoc]
 have e5:(b-1)*s=b*s-s:=by rw [Int.sub_mul,Int.one_mul]
 rw [e3,e4]
 unfold uAll
 have:=p.u'
 have:=p.s1
 omega
theorem guess_far (p:Parts b v1 v2 v' u0 u1 u2 u' s) {t:Int} (ht:0≤t∧t<b) (h:b≤u0*b+u1-t*v1):t*v2≤(u0*b+u1-t*v1)*b+u2:=by
 have h1:t*v2≤b*b:=by
  have a:=Int.mul_le_mul_of_nonneg_right (show t≤b by omega) p.v2.1
  have c:=Int.mul_le_mul_of_nonneg_left (show v2≤b by have:=p.v2;omega) (show 0≤b by have:=p.b2;omega)
  omega
 have h2:=Int.mul_le_mul_of_nonneg_right h (show 0≤b by have:=p.b2;omega)
 have:=p.u2
 omega
theorem guess_first (p:Parts b v1 v2 v' u0 u1 u2 u' s) {q:Int} (hq0:0≤q) (hq:q*vAll b v1 v2 v' s≤uAll b u0 u1 u2 u' s):q*v1≤u0*b+u1:=by
 refine Int.not_lt.1 fun hlt=> ?_
 have hb:=p.b2
 have h1:u0*b+u1+1≤q*v1:=hlt
 have h2:=Int.mul_le_mul_of_nonneg_right h1 (show 0≤b by omega)
 have e1:(u0*b+u1+1)*b=(u0*b+u1)*b+b:=by rw [Int.add_mul _ 1,Int.one_mul]
 rw [e1]at h2
 have h3:=Int.mul_le_mul_of_nonneg_right (show(u0*b+u1)*b+u2+1≤q*v1*b by have:=p.u2;omega) (show 0≤s by have:=p.s1;omega)
 have e2:((u0*b+u1)*b+u2+1)*s=((u0*b+u1)*b+u2)*s+s:=by rw [Int.add_mul _ 1,Int.one_mul]
 rw [e2]at h3
 have h4:q*v1*b*s≤q*vAll b v1 v2 v' s:=by
  rw [Int.mul_assoc,Int.mul_assoc]
  refine Int.mul_le_mul_of_nonneg_left ?_ hq0
  rw [←Int.mul_assoc]
  unfold vAll
  have a:v1*b*s≤(v1*b+v2)*s:=Int.mul_le_mul_of_nonneg_right (by have:=p.v2;omega) (by have:=p.s1;omega)
  have:=p.v'
  omega
 unfold uAll at hq
 have:=p.u'
 omega
end
end Go.Proofs.YtccmlbinkgbpgaaGreatDoor
