/- Package gear: trains: its head: the kinds of wheels, ascending. -/
import Derived.Test.YtjcbbabaabcdgaaGreatDoorZrReads
import Derived.Test.YtjcbbabaabcdgaaGreatDoorZrVBas
import Derived.Deep.RegionLaw
import Derived.Lib.SliceRun
import Derived.Shelf.RegionOpenPlain
namespace Go.Proofs.YtjcbbabaabcdgaaGreatDoor
open Go.RowKit Sv
theorem Tryz.info3:(Tryz.prog.info? 3).map (fun i=>(i.zero,i.size,i.bytes))=some (some (.int .i64 0),1,8):=by kernel_rfl
noncomputable def BTr:Code:=(Tryz.f149.body).getD .skip
structure TrOut (yv:Value) (bl bp:Nat) (w:World) (ks:List Int) (a':Act) (W:World):Prop where
 size:a'.tmps.size=48
 t0:a'.tmps.getD 0 undef=yv
 t1:a'.tmps.getD 1 undef= .pointer (some ⟨bl,0,none⟩)
 t2:a'.tmps.getD 2 undef= .pointer (some ⟨bp,0,none⟩)
 t3:a'.tmps.getD 3 undef= .pointer (some ⟨w.heap.size,0,none⟩)
 t4:a'.tmps.getD 4 undef= .pointer (some ⟨w.heap.size+1,0,none⟩)
 un:∀t,t<48→t∉[0,1,2,3,4,5,10,11,12,13,14,15,16,17,18,19,20,21]→a'.tmps.getD t undef=undef
 df:a'.defers=[]
 b3:W.heap[w.heap.size]? =some (.cells #[yv] 35 (0,0))
 b4:∃v,W.heap[w.heap.size+1]? =some (.cells #[v] 80 (0,0))∧W.ownsRow (w.heap.size+3) 3 1 v ks.length (ic (ks.mergeSort fun x y=>decide (x≤y)))
 gr:w.grownBy W none
structure TrLp (yv:Value) (w:World) (b:Nat) (es:Array MapEntry) (clock:Nat) (ks:List Int) (wr:World) (v:Value) (ss:List Int) (rem:List MapEntry):Prop where
 rg:Rng wr b (w.heap.size+2) es clock rem
 pm:(ic ss++rem.map (·.key)).Perm (ic ks)
 b3:wr.heap[w.heap.size]? =some (.cells #[yv] 35 (0,0))
 b4:wr.heap[w.heap.size+1]? =some (.cells #[v] 80 (0,0))
 own:wr.ownsRow (w.heap.size+3) 3 1 v ss.length (ic ss)
 gr:w.grownBy wr none
 sz:w.heap.size+3≤wr.heap.size
theorem sort_perm {a b:List Int} (h:a.Perm b):(a.mergeSort fun x y=>decide (x≤y))=b.mergeSort fun x y=>decide (x≤y):=by
 have tr:∀x y z:Int,decide (x≤y)=true→decide (y≤z)=true→decide (x≤z)=true:=fun x y z h1 h2=>by rw [decide_eq_true_eq]at*;omega
 have tt:∀x y:Int,(decide (x≤y)||decide (y≤x))=true:=fun x y=>by rw [Bool.or_eq_true,decide_eq_true_eq,decide_eq_true_eq];omega
 refine List.Perm.eq_of_pairwise (le:=fun x y=>decide (x≤y)=true) (fun x y _ _ h1 h2=>by rw [decide_eq_true_eq]at*;omega) (List.pairwise_mergeSort tr tt a) (List.pairwise_mergeSort tr tt b) ?_
 exact(List.mergeSort_perm a _).trans (h.trans (List.mergeSort_perm b _).symm)
theorem ic_perm {a b:List Int} (h:(ic a).Perm (ic b)):a.Perm b:=by
 have h2:=h.map (fun v:Value=>match v with | .int _ n=>n|_=>0)
 have e:∀l:List Int,(ic l).map (fun v:Value=>match v with | .int _ n=>n|_=>0)=l:=fun l=>by
  unfold ic
  rw [List.map_map]
  exact List.map_id' l
 rwa [e,e]at h2
theorem own_keep {w w':World} {base size n:Nat} {e:TypeId} {v:Value} {vs:List Value} (h:w.ownsRow base e size v n vs) (hk:∀b,some b=v.ownBlock→w'.heap[b]? =w.heap[b]?):w'.ownsRow base e size v n vs:=by
 refine⟨h.1, ?_⟩
 rcases h.2 with hn|⟨g,cap,cur,rfl,hbg,hg,rest⟩
 ·exact .inl hn
 ·exact .inr ⟨g,cap,cur,rfl,hbg,(hk g rfl).trans hg,rest⟩
theorem own_form {w:World} {base size n:Nat} {e:TypeId} {v:Value} {vs:List Value} (h:w.ownsRow base e size v n vs):∃A c,v= .slice A n c:=by
 rcases h.2 with⟨rfl,rfl⟩|⟨g,cap,cur,rfl,_⟩
 ·exact⟨_,_,rfl⟩
 ·exact⟨_,_,rfl⟩
theorem Rng.left {w:World} {b r:Nat} {es:Array MapEntry} {clock:Nat} {rem:List MapEntry} (h:Rng w b r es clock rem):w.rangeLeft b r=rem.length:=by
 obtain⟨seen,c0,h1,_,h3⟩:=h.it
 unfold World.rangeLeft
 rw [h.m,h1]
 simp only
 rw [←h3,Array.length_toList]
theorem callsIn_any {n m:Nat} {P:Program} {f:FuncId} {args:Array Value} {w:World} {R:Ending→World→Prop} (h:CallsIn Fence.wide n P f args w R):CallsIn Fence.wide m P f args w R:=callsIn_wide.2 (callsIn_wide.1 h)
theorem lt_of_cell {w:World} {b:Nat} {o:Nat} {v:Value} (h:w.cell? ⟨b,o,none⟩=some v):b<w.heap.size:=by
 unfold World.cell? at h
 cases hb:w.heap[b]? with
 |none=>simp [hb]at h
 |some x=>exact(Array.getElem?_eq_some_iff.1 hb).1
set_option maxRecDepth 100000 in
set_option maxHeartbeats 4000000 in
theorem trains_head (m lp:Nat) (bl bp b:Nat) (es:Array MapEntry) (clock:Nat) (ks:List Int) (w:World) (R:Ending→World→Prop) (x0:w.cell? ⟨bl,0,none⟩=some (.map (some b))) (hb:w.heap[b]? =some (.map es clock))
  (hes:∀x∈es.toList,x.born<clock) (hn:(es.toList.map (·.born)).Nodup) (hk:es.toList.map (·.key)=ic ks) (hsz:ks.length≤100000)
  (hK:∀a' W,TrOut (.func (.yield lp) #[] #[]) bl bp w ks a' W→(cat BTr [1,1,1,1]).wpIn Fence.wide m Tryz.prog (bodyPostM Fence.wide m Tryz.prog Tryz.f149 R) a' W):
  CallsIn Fence.wide m Tryz.prog 149 #[.func (.yield lp) #[] #[], .pointer (some ⟨bl,0,none⟩), .pointer (some ⟨bp,0,none⟩)] w R:=by
 have HK:=Lib.hid hK
 have HES:=Lib.hid hes
 have HN:=Lib.hid hn
 have HKS:=Lib.hid hk
 have hbl:b<w.heap.size:=(Array.getElem?_eq_some_iff.1 hb).1
 have HB:=Lib.hid hb
 have hbl2:bl<w.heap.size:=lt_of_cell x0
 obtain⟨i0,hi0,iz0,iz1,iz2⟩:=info_parts Tryz.info3
 clear hK hes hn hk hb
 refine callsIn_of_wp_marks Tryz.func149 rfl trivial ?_
 simp only [Tryz.ntmps149,List.size_toArray,List.length_cons,List.length_nil,Nat.reduceAdd,Nat.reduceSub,Array.replicate_succ,Array.replicate_zero,List.push_toArray,List.append_toArray,List.nil_append,List.cons_append]
 gi_wp2_with (first
  |(gi_at_range;refine wpListIn_range_raw _ rfl _ 120 rfl 3 3 Tryz.underlying120 b es clock rfl (by rw [heap_alloc_old _ _ (by simp;omega),heap_alloc_old _ _ hbl];exact HB.out) (w.heap.size+2) (by simp) ?_;intro hrg0)
  |gi_in)
 go_frame
 gi_loopw [] (fun wr=>∃v ss rem,TrLp (.func (.yield lp) #[] #[]) w b es clock ks wr v ss rem) (fun wr=>wr.rangeLeft b (w.heap.size+2))
 case atStart=>
  refine⟨.slice none 0 0,[],es.toList,hrg0, ?_, ?_, ?_,World.ownsRow_nil _ _ _ _, ?_,by simp⟩
  ·rw [HKS.out];exact List.Perm.refl _
  ·rw [heap_alloc_old _ _ (by simp;omega),heap_alloc_old _ _ (by simp),heap_alloc_new]
  ·rw [heap_alloc_old _ _ (by simp)]
   have:=heap_alloc_new (w.alloc (.cells #[Value.func (Fn.yield lp) #[] #[]] 35)) (.cells #[Value.slice none 0 0] 80)
   rwa [show(w.alloc (.cells #[Value.func (Fn.yield lp) #[] #[]] 35)).heap.size=w.heap.size+1 by simp]at this
  ·exact((World.grownBy_alloc w _ none).andThen (World.grownBy_alloc _ _ none) fun j hj=>by cases hj).andThen (World.grownBy_alloc _ _ none) fun j hj=>by cases hj
 case round=>
  obtain⟨v,ss,rem,hL⟩:=hrel
  have HL:=Lib.hid hL
  have hrg:=hL.rg
  clear hL
  gi_wp2_with (first
   |(gi_at_next;refine wpListIn_next_raw _ rfl _ rfl b (w.heap.size+2) es clock rem HES.out HN.out rfl hrg ?_ ?_)
   |gi_in)
  ·intro hrem
   have x4:wr.cell? ⟨w.heap.size+1,0,none⟩=some v:=cell_of_row _ _ 0 #[v] _ _ HL.out.b4
   have hst:=(callsIn_wide.2 (sort_any _ _ v ss wr HL.out.own ?hlen):CallsIn Fence.wide 0 _ _ _ _ _)
   case hlen=>
    have h1:=HL.out.pm.length_eq
    simp at h1
    omega
   have HST:=Lib.hid hst
   clear hst
   gi_wp2
   refine⟨trivial,(fun h=>by cases h),(callsIn_any HST.out).mono ?_⟩
   rintro e w' ⟨rfl,hown,hgr⟩
   rename_i K1 h1 K2 h2
   refine h2 _ _ ?_
   refine wpListIn_nil ?_
   refine h1 _ _ ?_
   refine HK.out _ _ ?_
   refine⟨rfl,rfl,rfl,rfl,rfl,rfl, ?_,rfl, ?_,⟨v, ?_, ?_⟩, ?_⟩
   ·intro t ht hnt
    simp only [List.mem_cons,List.not_mem_nil,or_false,not_or]at hnt
    have ht2:t=6∨t=7∨t=8∨t=9∨t=22∨t=23∨t=24∨t=25∨t=26∨t=27∨t=28∨t=29∨t=30∨t=31∨t=32∨t=33∨t=34∨t=35∨t=36∨t=37∨t=38∨t=39∨t=40∨t=41∨t=42∨t=43∨t=44∨t=45∨t=46∨t=47:=by omega
    rcases ht2 with rfl |rfl |rfl |rfl |rfl |rfl |rfl |rfl |rfl |rfl |rfl |rfl |rfl |rfl |rfl |rfl |rfl |rfl |rfl |rfl |rfl |rfl |rfl |rfl |rfl |rfl |rfl |rfl |rfl |rfl<;>rfl
   ·exact(hgr.block _ (Nat.lt_of_lt_of_le (Nat.lt_add_of_pos_right (by decide)) HL.out.sz) fun e=>by have:=(HL.out.own.lt _ e.symm).1;omega).trans HL.out.b3
   ·exact(hgr.block _ (by have:=HL.out.sz;omega) fun e=>by have:=(HL.out.own.lt _ e.symm).1;omega).trans HL.out.b4
   ·have hpm:=HL.out.pm
    rw [hrem,List.map_nil,List.append_nil]at hpm
    have hpm:=ic_perm hpm
    rw [←hpm.length_eq,←sort_perm hpm]
    exact hown
   ·exact HL.out.gr.andThen hgr fun j hj=> .inl (by have:=(HL.out.own.lt j hj).1;omega)
  ·intro e rem' w2 hpm hmem hrg2 hgr2 hs2 hen
   obtain⟨x,hx⟩:∃x,e.key= .int .i64 x:=by
    have:e.key∈ic ks:=by rw [←HKS.out];exact List.mem_map.2 ⟨e,by simpa using hmem,rfl⟩
    obtain⟨x,_,hx⟩:=List.mem_map.1 this
    exact⟨x,hx.symm⟩
   have hpm2:=HL.out.pm
   have hlen:ss.length+1≤100000:=by
    have h1:=hpm2.length_eq
    have h2:=hpm.length_eq
    simp at h1 h2
    omega
   have HX:=Lib.hid hx
   rw [hx]at hen ⊢
   have hlt:∀k,v.ownBlock=some k→w.heap.size+3≤k∧k<wr.heap.size:=HL.out.own.lt
   have hv2:v.ownBlock=none∨v.ownBlock≠some (w.heap.size+2):=by
    cases hvo:v.ownBlock with
    |none=>exact .inl rfl
    |some k=>right;intro e;cases e;have:=(hlt _ hvo).1;omega
   have hown2:=HL.out.own.kept hgr2 hv2
   have hB2:Blk w2 (w.heap.size+1) 80 #[v]:=(hgr2.block _ (by have:=HL.out.sz;omega) (by simp)).trans HL.out.b4
   have HB2m:=Lib.hid (show w2.heap[w.heap.size+1]? =_ from hB2)
   have x4:=hB2.cell 0
   have x4f:=hB2.frozen 0
   have HRG:=Lib.hid hrg2
   have HGR:=Lib.hid hgr2
   have HPM:=Lib.hid hpm
   have HS2:=Lib.hid hs2
   clear hpm hpm2 hmem hrg2 hgr2 hs2 hx hv2
   gi_wp2_with (first
    |(gi_at_builtin;refine wpListIn_append_own _ rfl _ _ 80 rfl (w.heap.size+3) 3 i0 (.int .i64 0) 1 8 Tryz.underlying80 hi0 iz0 iz1 iz2 rfl (by decide) _ _ _ rfl (hown2.alloc _) ⟨w2.heap.size,0,none⟩ 1 1 [.int .i64 x] rfl rfl (cell_one_new _ _ _) ?hone ?c3 ?c4 ?c5 ?_)
    |gi_in)
   case hone=>intro u hu;simp at hu;subst hu;rfl
   case c3=>unfold maxLen;omega
   case c4=>omega
   case c5=>have:=HL.out.sz;have:=HS2.out;simp;omega
   intro v5 w5 hown5 hgr5 hnil5
   obtain⟨A5,c5,rfl⟩:=own_form hown5
   have hs2:=HS2.out
   have hszr:=HL.out.sz
   have hlo:∀k,k<w.heap.size+3→some k≠v.ownBlock:=fun k hk e=>by have:=(hlt _ e.symm).1;omega
   have up:∀k,k<w.heap.size+3→w5.heap[k]? =w2.heap[k]? :=fun k hk=>(hgr5.block k (by simp;omega) (hlo k hk)).trans (heap_alloc_old _ _ (by omega))
   have hB5:Blk w5 (w.heap.size+1) 80 #[v]:=(up _ (by omega)).trans hB2
   have x5:=hB5.cell 0
   have x5f:=hB5.frozen 0
   have HUP:=Lib.hid up
   have HB5:=Lib.hid hB5
   have HOWN5:=Lib.hid hown5
   have HGR5:=Lib.hid hgr5
   clear up hB5 hown5 hgr5 hnil5 hlo hs2
   have far:∀k,k≠w.heap.size+1→(w5.setCell ⟨w.heap.size+1,0,none⟩ (.slice A5 (ss.length+1) c5)).heap[k]? =w5.heap[k]? :=fun k hk=>Below.heap_setCell _ _ _ k hk
   have HFAR:=Lib.hid far
   have HRF:=Lib.hid (show Rng (w5.setCell ⟨w.heap.size+1,0,none⟩ (.slice A5 (ss.length+1) c5)) b (w.heap.size+2) es clock rem' from HRG.out.kept
    (by rw [far _ (fun e=>by have:=HRG.out.m;rw [e,HB2m.out]at this;cases this),HUP.out _ (by omega)])
    (by rw [far _ (by omega),HUP.out _ (by omega)]))
   clear far
   gi_wp2
   go_roundw
   case rel=>
    have far:=HFAR.out
    have e1:ic ss++[Value.int .i64 x]=ic (ss++[x]):=by simp [ic]
    have h5:=HOWN5.out
    have hlt5:∀k,(Value.slice A5 (ss.length+1) c5).ownBlock=some k→w.heap.size+3≤k∧k<w5.heap.size:=h5.lt
    refine⟨.slice A5 (ss.length+1) c5,ss++[x],rem',HRF.out, ?_, ?_, ?_, ?_, ?_, ?_⟩
    ·have hp2:=HPM.out.map (·.key)
     rw [List.map_cons,HX.out]at hp2
     have:=(List.Perm.append_left (ic ss) hp2).symm.trans HL.out.pm
     rw [←e1,List.append_assoc];exact this
    ·rw [far _ (by omega),HUP.out _ (by omega),HGR.out.block _ (by omega) (by simp)];exact HL.out.b3
    ·exact HB5.out.set 0 _
    ·have e2:(ss++[x]).length=ss.length+1:=by simp
     rw [e2,←e1]
     exact own_keep h5 fun k hk=>far k (by have:=(hlt5 k hk.symm).1;omega)
    ·have s1:=HGR5.out.size
     have s2:=HGR.out.size
     refine((((HL.out.gr.andThen HGR.out fun j hj=>by cases hj;exact .inl (by omega)).andThen (World.grownBy_alloc _ _ none) fun j hj=>by cases hj).andThen HGR5.out fun j hj=> .inl (by have:=(hlt j hj).1;omega))).andThen (grownBy_setCell' w5 (w.heap.size+1) _) fun j hj=>by cases hj;exact .inl (by omega)
    ·have s1:=HGR5.out.size
     have s2:=HS2.out
     simp at s1
     simp [World.setCell]
     omega
   case measure=>
    rw [HRF.out.left,hrg.left]
    have:=HPM.out.length_eq
    simp at this
    omega
end Go.Proofs.YtjcbbabaabcdgaaGreatDoor
/- The normal form of a train, in plain words: what is common to drivers and drivens is struck out; both ways of the program and the reference come to the same. -/
namespace Go.Proofs.YtjcbbabaabcdgaaGreatDoor
def cancel:List Int→List Int→List Int×List Int
 |[],ns=>([],ns)
 |d::r,ns=>if d∈ns then cancel r (ns.erase d)else(d::(cancel r ns).1,(cancel r ns).2)
theorem cancel_len:∀ds ns:List Int,(cancel ds ns).1.length+ns.length=(cancel ds ns).2.length+ds.length
 |[],ns=>by simp [cancel]
 |d::r,ns=>by
  unfold cancel
  split
  ·rename_i h
   have:=cancel_len r (ns.erase d)
   have:=List.length_erase_of_mem h
   have:=List.length_pos_of_mem h
   simp;omega
  ·have:=cancel_len r ns
   simp;omega
theorem cancel_count:∀(ds ns:List Int) (x:Int),(cancel ds ns).1.count x=ds.count x-ns.count x∧(cancel ds ns).2.count x=ns.count x-ds.count x
 |[],ns,x=>by simp [cancel]
 |d::r,ns,x=>by
  unfold cancel
  split
  ·rename_i h
   obtain⟨h1,h2⟩:=cancel_count r (ns.erase d) x
   have hp:0<ns.count d:=List.count_pos_iff.2 h
   rw [h1,h2,List.count_erase,List.count_cons]
   by_cases hx:d=x
   ·subst hx;simp;omega
   ·have:(d==x)=false:=by simpa using hx
    simp [this]
  ·rename_i h
   obtain⟨h1,h2⟩:=cancel_count r ns x
   have hz:ns.count d=0:=List.count_eq_zero.2 h
   show List.count x (d::(cancel r ns).1)=_∧_
   rw [List.count_cons,List.count_cons,h1,h2]
   by_cases hx:d=x
   ·subst hx;simp;omega
   ·have:(d==x)=false:=by simpa using hx
    simp [this]
theorem cancel_sub:∀(ds ns:List Int),(cancel ds ns).1.Sublist ds∧(cancel ds ns).2.Sublist ns
 |[],ns=>by simp [cancel]
 |d::r,ns=>by
  unfold cancel
  split
  ·obtain⟨h1,h2⟩:=cancel_sub r (ns.erase d)
   exact⟨h1.cons _,h2.trans List.erase_sublist⟩
  ·obtain⟨h1,h2⟩:=cancel_sub r ns
   exact⟨h1.cons_cons _,h2⟩
def insL:List Int→Int→List Int
 |[],x=>[x]
 |a::r,x=>if x<a then x::a::r else a::insL r x
theorem insL_count (y:Int):∀(l:List Int) (x:Int),(insL l x).count y=l.count y+if x=y then 1 else 0
 |[],x=>by unfold insL;rw [List.count_cons];simp
 |a::r,x=>by
  unfold insL
  split
  ·rw [List.count_cons];simp
  ·rw [List.count_cons,insL_count y r x,List.count_cons];omega
theorem insL_mem:∀{l:List Int} {x y:Int},y∈insL l x→y=x∨y∈l
 |[],x,y,h=>by unfold insL at h;simpa using h
 |a::r,x,y,h=>by
  unfold insL at h
  split at h
  ·simpa using h
  ·rcases List.mem_cons.1 h with h|h
   ·exact .inr (List.mem_cons.2 (.inl h))
   ·rcases insL_mem h with h|h
    ·exact .inl h
    ·exact .inr (List.mem_cons.2 (.inr h))
theorem insL_asc:∀{l:List Int} {x:Int},l.Pairwise (· ≤ ·)→(insL l x).Pairwise (· ≤ ·)
 |[],x,_=>by unfold insL;simp
 |a::r,x,h=>by
  rw [List.pairwise_cons]at h
  unfold insL
  split
  ·rename_i hx
   rw [List.pairwise_cons]
   refine⟨fun y hy=> ?_,List.pairwise_cons.2 h⟩
   rcases List.mem_cons.1 hy with rfl |hy
   ·omega
   ·have:=h.1 y hy;omega
  ·rename_i hx
   rw [List.pairwise_cons]
   refine⟨fun y hy=> ?_,insL_asc h.2⟩
   rcases insL_mem hy with rfl |hy
   ·omega
   ·exact h.1 y hy
def insAll (l:List Int):List Int:=l.foldl insL []
theorem foldl_count (y:Int):∀(l s:List Int),(l.foldl insL s).count y=s.count y+l.count y
 |[],s=>by simp
 |a::r,s=>by
  rw [List.foldl_cons,foldl_count y r,insL_count,List.count_cons]
  by_cases h:a=y
  ·subst h;simp;omega
  ·have:(a==y)=false:=by simpa using h
   simp [this,h]
theorem foldl_asc:∀(l s:List Int),s.Pairwise (· ≤ ·)→(l.foldl insL s).Pairwise (· ≤ ·)
 |[],_,h=>h
 |_::r,_,h=>foldl_asc r _ (insL_asc h)
def sortJ (l:List Int):List Int:=l.mergeSort fun x y=>decide (x≤y)
theorem sortJ_count (l:List Int) (y:Int):(sortJ l).count y=l.count y:=(List.mergeSort_perm l _).count_eq y
theorem sortJ_asc (l:List Int):(sortJ l).Pairwise (· ≤ ·):=by
 have:=List.pairwise_mergeSort (le:=fun x y:Int=>decide (x≤y)) (fun a b c h1 h2=>by simp at h1 h2 ⊢;omega) (fun a b=>by simp;omega) l
 exact this.imp (by intro a b h;simpa using h)
theorem asc_eq {a b:List Int} (ha:a.Pairwise (· ≤ ·)) (hb:b.Pairwise (· ≤ ·)) (h:∀x,a.count x=b.count x):a=b:=
 List.Perm.eq_of_pairwise (fun a b _ _ h1 h2=>by omega) ha hb (List.perm_iff_count.2 h)
theorem cancel_sort (ds ns:List Int):sortJ (cancel ds ns).1=(cancel (insAll ds) (insAll ns)).1∧sortJ (cancel ds ns).2=(cancel (insAll ds) (insAll ns)).2:=by
 have c:∀(l:List Int) x,(insAll l).count x=l.count x:=fun l x=>by unfold insAll;rw [foldl_count];simp
 have a:∀l:List Int,(insAll l).Pairwise (· ≤ ·):=fun l=>foldl_asc l [] .nil
 refine⟨asc_eq (sortJ_asc _) ((a ds).sublist (cancel_sub _ _).1) fun x=> ?_,asc_eq (sortJ_asc _) ((a ns).sublist (cancel_sub _ _).2) fun x=> ?_⟩
 ·rw [sortJ_count,(cancel_count ds ns x).1,(cancel_count _ _ x).1,c,c]
 ·rw [sortJ_count,(cancel_count ds ns x).2,(cancel_count _ _ x).2,c,c]
theorem sortJ_len (l:List Int):(sortJ l).length=l.length:=List.length_mergeSort _
end Go.Proofs.YtjcbbabaabcdgaaGreatDoor
/- Go's library: slices.Index, Delete of one element, Sort of a row of integers of the run's own. -/
namespace Go.Proofs.YtjcbbabaabcdgaaGreatDoor
open Go.RowKit Sv
set_option linter.unusedVariables false
def delL (l:List Int) (len a:Nat):List Int:=(l.take a++(l.take len).drop (a+1))++0::l.drop len
def putL (cur:Array Value):Nat→List Value→Array Value
 |_,[]=>cur
 |o,v::r=>putL (cur.setIfInBounds o v) (o+1) r
theorem blk_putL {g:Nat} {t:TypeId}:∀(vs:List Value) (o:Nat) {w:World} {cur:Array Value},Blk w g t cur→Blk (w.setCells g o vs) g t (putL cur o vs)
 |[],_,_,_,h=>h
 |v::r,o,_,_,h=>blk_putL r (o+1) (h.set o v)
theorem putL_size:∀(vs:List Value) (o:Nat) (cur:Array Value),(putL cur o vs).size=cur.size
 |[],_,_=>rfl
 |v::r,o,cur=>by unfold putL;rw [putL_size r];simp
theorem putL_get:∀(vs:List Value) (o:Nat) (cur:Array Value) (j:Nat),(putL cur o vs)[j]? =if o≤j∧j<o+vs.length∧j<cur.size then vs[j-o]? else cur[j]?
 |[],o,cur,j=>by unfold putL;rw [if_neg (by simp;omega)]
 |v::r,o,cur,j=>by
  unfold putL
  rw [putL_get r,Array.size_setIfInBounds]
  by_cases h1:o+1≤j∧j<o+1+r.length∧j<cur.size
  ·rw [if_pos h1,if_pos (by simp;omega),show j-o=(j-(o+1))+1 by omega];simp
  ·rw [if_neg h1,Array.getElem?_setIfInBounds]
   by_cases h2:o=j
   ·subst h2
    by_cases h3:o<cur.size
    ·rw [if_pos rfl,if_pos h3,if_pos (by simp;omega)];simp
    ·rw [if_pos rfl,if_neg h3,if_neg (by simp;omega)]
     simp;omega
   ·rw [if_neg h2,if_neg (by simp;omega)]
theorem grown_set (w:World) (g o:Nat) (v:Value):w.grownBy (w.setCell ⟨g,o,none⟩ v) (some g):=⟨rfl,rfl,rfl,Nat.le_of_eq (by simp [World.setCell]),fun j hj hn=>Below.heap_setCell w _ v j (fun e=>hn (by rw [e]))⟩
theorem grown_tr {a b c:World} {g:Nat} (h:a.grownBy b (some g)) (k:b.grownBy c (some g)):a.grownBy c (some g):=⟨k.os.trans h.os,k.tape.trans h.tape,k.output.trans h.output,Nat.le_trans h.size k.size,fun j hj hn=>(k.block j (Nat.lt_of_lt_of_le hj h.size) hn).trans (h.block j hj hn)⟩
theorem set_far {g:Nat}:∀(vs:List Value) (o:Nat) (w:World),w.grownBy (w.setCells g o vs) (some g)
 |[],_,w=>⟨rfl,rfl,rfl,Nat.le_refl _,fun _ _ _=>rfl⟩
 |v::r,o,w=>grown_tr (grown_set w g o v) (set_far r (o+1) _)
theorem delL_get {l:List Int} {len a:Nat} (h:len≤l.length) (ha:a<len) (j:Nat):(delL l len a)[j]? =if j<a then l[j]? else if j+1<len then l[j+1]? else if j+1=len then some 0 else l[j]? :=by
 have l1:(l.take a).length=a:=by simp;omega
 have l2:((l.take len).drop (a+1)).length=len-(a+1):=by simp;omega
 have l3:(l.take a++(l.take len).drop (a+1)).length=len-1:=by simp;omega
 unfold delL
 by_cases h1:j<a
 ·rw [if_pos h1,List.getElem?_append_left (by omega),List.getElem?_append_left (by omega),List.getElem?_take,if_pos h1]
 ·rw [if_neg h1]
  by_cases h2:j+1<len
  ·rw [if_pos h2,List.getElem?_append_left (by omega),List.getElem?_append_right (by omega),l1,List.getElem?_drop,List.getElem?_take,if_pos (by omega)]
   congr 1;omega
  ·rw [if_neg h2,List.getElem?_append_right (by omega),l3]
   by_cases h3:j+1=len
   ·rw [if_pos h3,show j-(len-1)=0 by omega];rfl
   ·rw [if_neg h3,show j-(len-1)=(j-len)+1 by omega,List.getElem?_cons_succ,List.getElem?_drop]
    congr 1;omega
theorem delL_len {l:List Int} {len a:Nat} (h:len≤l.length) (ha:a<len):(delL l len a).length=l.length:=by
 unfold delL;simp;omega
set_option maxRecDepth 100000 in
set_option maxHeartbeats 4000000 in
theorem delN (g k len a:Nat) (l:List Int) (cur:Array Value) (w:World) (hb:w.heap[g]? =some (.cells cur 3 (0,0))) (hc:cur.toList.take l.length=icv l) (hlen:len≤l.length) (ha:a<len) (hk:len≤k) (hbig:len≤1000000):
  Calls Tryz.prog 48 #[.slice (some ⟨g,0,none⟩) len k, .int .i64 a, .int .i64 (a+1)] w fun e w'=>e= .returned (.slice (some ⟨g,0,none⟩) (len-1) k)∧w'=(w.drew.setCells g a (icv ((l.take len).drop (a+1)))).setCells g (len-1) [.int .i64 0]:=by
 obtain⟨n,rfl⟩:∃n,len=n+1:=⟨len-1,by omega⟩
 obtain⟨i0,hi0,iz0,iz1,iz2⟩:=info_parts Tryz.info3
 have hcell:∀j,j<l.length→w.cell? ⟨g,j,none⟩=some (.int .i64 (l.getD j 0)):=fun j hj=>by
  rw [cell_of_row _ _ j cur _ _ hb]
  have h1:(cur.toList.take l.length)[j]? =some (Value.int .i64 (l.getD j 0)):=by rw [hc];simp [icv,hj]
  rw [List.getElem?_take,if_pos hj]at h1
  simpa using h1
 have hfro:∀j,w.frozen? ⟨g,j,none⟩=false:=fun j=>by simp [World.frozen?,hb]
 have e1:¬(a:Int)=a+1:=by omega
 refine calls_of_wp Tryz.func48 rfl ?_
 simp only [Tryz.ntmps48,List.size_toArray,List.length_cons,List.length_nil,Nat.reduceAdd,Nat.reduceSub,Array.replicate_succ,Array.replicate_zero,List.push_toArray,List.append_toArray,List.nil_append,List.cons_append]
 go_wp2_with fail
 have lys:(icv ((l.take (n+1)).drop (a+1))).length=n-a:=by simp [icv];omega
 have s1:=Lib.hid (show∀t u,(icv ((l.take (n+1)).drop (a+1)))[t]? =some u→w.drew.cell? ((⟨g,a+1,none⟩:Addr).add t)=some u from fun t u hu=>by
  have ht:t<n-a:=by rw [←lys];exact(List.getElem?_eq_some_iff.1 hu).1
  have h1:=hcell (a+1+t) (by omega)
  have h2:u= .int .i64 (l.getD (a+1+t) 0):=by
   simp only [icv,List.getElem?_map,List.getElem?_drop,List.getElem?_take]at hu
   rw [if_pos (by omega)]at hu
   rw [List.getElem?_eq_getElem (by omega)]at hu
   simp at hu
   rw [←hu]
   simp [List.getD_eq_getElem?_getD,show a+1+t<l.length by omega]
  rw [h2]
  have e:(⟨g,a+1,none⟩:Addr).add t=⟨g,a+1+t,none⟩:=by simp [Addr.add]
  rw [e]
  exact h1)
 have s0:=Lib.hid (show k=a+1→∀t u,(icv ((l.take (n+1)).drop (a+1)))[t]? =some u→w.drew.cell? ((⟨g,0,none⟩:Addr).add t)=some u from fun hk t u hu=>by
  have ht:t<n-a:=by rw [←lys];exact(List.getElem?_eq_some_iff.1 hu).1
  omega)
 have s2:=Lib.hid (show∀t,t<(icv ((l.take (n+1)).drop (a+1))).length→(w.drew.cell? ⟨g,0+a*1+t,none⟩).isSome=true∧w.drew.frozen? ⟨g,0+a*1+t,none⟩=false from fun t ht=>by
  rw [lys]at ht
  refine⟨?_,hfro _⟩
  have:=hcell (0+a*1+t) (by omega)
  show(w.cell? _).isSome=true
  rw [this];rfl)
 have s3:=Lib.hid (show∀u∈icv ((l.take (n+1)).drop (a+1)),u.oneCell'=true from fun u hu=>by
  obtain⟨x,_,rfl⟩:=List.mem_map.1 hu
  rfl)
 obtain⟨W1,hW1⟩:∃W1,W1=w.drew.setCells g (0+a*1) (icv ((l.take (n+1)).drop (a+1))):=⟨_,rfl⟩
 have hW:=Lib.hid hW1
 have hfit:a+(n-a)≤k:=by omega
 have mx:Tryz.prog.follows .mixedOrders=true:=mixed
 have hak:a≤k:=by omega
 have ha1k:a+1≤k:=by omega
 have ha1l:a+1≤n+1:=by omega
 have hi1:(0:Int)≤(a:Int)+1:=by omega
 have hi2:(a:Int)+1≤((n+1:Nat):Int):=by omega
 have hi3:(a:Int)≤(a:Int)+1:=by omega
 have han:a≤n:=by omega
 have hnk:n+1≤k:=hk
 have hnk':n≤k:=by omega
 have hnk2:¬k=n:=by omega
 have hsum:a+(n-a)=n:=by omega
 have hi4:(n:Int)≤(n:Int)+1:=by omega
 have hi5:(a:Int)+1≤(n:Int)+1:=by omega
 have b1:Blk W1 g 3 (putL cur (0+a*1) (icv ((l.take (n+1)).drop (a+1)))):=by rw [hW1];exact blk_putL _ _ (Blk.drew hb)
 have hcs:n<cur.size:=by
  have h1:=congrArg List.length hc
  simp [icv]at h1;omega
 have hc1:∀j,j<1→(W1.cell? ⟨g,n+j,none⟩).isSome=true:=fun j hj=>by
  obtain rfl:j=0:=by omega
  have hs:=putL_size (icv ((l.take (n+1)).drop (a+1))) (0+a*1) cur
  rw [Nat.add_zero,b1.cell n,Array.getElem?_eq_getElem (by omega)];rfl
 have hf1:∀j,j<1→W1.frozen? ⟨g,n+j,none⟩=false:=fun j hj=>b1.frozen _
 have hz1:∀w,(zeroValue 3).run Tryz.prog w= .ok (.int .i64 0) w:=fun w=>run_zeroB (by simp [zeroB,hi0,iz0]) w
 have hcl:∀ty,(Builtin.clear_ #[80] ty #[.slice (some ⟨g,n,none⟩) 1 (k-n)]).run Tryz.prog W1= .ok (.tuple #[]) (W1.setCells g n [.int .i64 0]):=fun ty=>
  Lib.run_clear_slice W1 _ _ ty _ Tryz.underlying80 hz1 rfl rfl g n 1 (k-n) (by decide) hc1 hf1
 clear hW1
 by_cases hka:k=a+1
 ·obtain rfl:n=a:=by omega
  have hys:icv ((l.take (n+1)).drop (n+1))=[]:=by simp [icv]
  have s4:=Lib.hid (s0.out hka)
  have s5:=Lib.hid s2.out
  have s6:=Lib.hid s3.out
  rw [hys]at hW s4 s5 s6
  subst hka
  have hcl2:∀ty,(Builtin.clear_ #[80] ty #[.slice (some ⟨g,n,none⟩) 1 1]).run Tryz.prog W1= .ok (.tuple #[]) (W1.setCells g n [.int .i64 0]):=fun ty=>by
   have:=hcl ty
   rwa [Nat.add_sub_cancel_left]at this
  go_region_law_o (refine step_append_room rfl (.tmp 22) (.tmp 25) 80 rfl 3 i0 1 Tryz.underlying80 hi0 iz1 g 0 n (n+1) (by simp [Act.eval,Act.put]) ⟨g,0,none⟩ 0 0 [] (by simp [Act.eval,Act.put]) rfl s4.out s6.out (by omega) s5.out ?_;rw [←hW.out])
  go_wp2
  go_ret
  exact⟨rfl,by rw [hW.out];simp⟩
 ·go_region_law_o (refine step_append_room rfl (.tmp 22) (.tmp 25) 80 rfl 3 i0 1 Tryz.underlying80 hi0 iz1 g 0 a k (by simp [Act.eval,Act.put]) ⟨g,a+1,none⟩ (n-a) (k-(a+1)) (icv ((l.take (n+1)).drop (a+1))) (by simp [Act.eval,Act.put]) (by rw [lys,Nat.mul_one]) s1.out s3.out (by omega) s2.out ?_;rw [←hW.out])
  go_wp2
  go_ret
  exact⟨rfl,by rw [hW.out];simp⟩
noncomputable section
def okDel (l:List Int) (len:Nat) (us:List Int):Bool:=match us with
 |[a,b]=>decide (0≤a)&&(decide (b=a+1)&&(decide (b≤(len:Int))&&Nat.ble l.length 1000000))
 |_=>false
def delO (l:List Int) (len:Nat) (us:List Int):List Int:=delL l len (us.headD 0).toNat
def sortO (l:List Int) (len:Nat):List Int:=sortJ (l.take len)++l.drop len
def idxO (l:List Int) (len:Nat) (us:List Int):Int:=Lib.idxOf (l.take len) (us.headD 0)
def oneI (us:List Int):Bool:=match us with |[_]=>true|_=>false
def wDel:WCtr:={f:=48,e:=3,k:= .row,nl:=false,pre:=okDel,out:=delO,ln:=fun _ len _=>len-1,val:=fun _ _ _=>0}
def wSort:WCtr:={f:=49,e:=3,k:= .unit,nl:=true,pre:=fun l len us=>Sv.nilB us&&Nat.ble l.length 1000000,out:=fun l len _=>sortO l len,ln:=fun _ len _=>len,val:=fun _ _ _=>0}
def wIdx:WCtr:={f:=47,e:=3,k:= .int,nl:=false,pre:=fun l len us=>oneI us&&Nat.ble l.length 1000000,out:=fun l _ _=>l,ln:=fun _ len _=>len,val:=idxO}
theorem cur_get {cur:Array Value} {l:List Int} (hc:cur.toList.take l.length=icv l):l.length≤cur.size∧∀j,j<l.length→cur[j]? =some (.int .i64 (l.getD j 0)):=by
 have h1:=congrArg List.length hc
 simp [icv]at h1
 refine⟨by omega,fun j hj=> ?_⟩
 have h2:(cur.toList.take l.length)[j]? =some (Value.int .i64 (l.getD j 0)):=by rw [hc];simp [icv,hj]
 rw [List.getElem?_take,if_pos hj]at h2
 simpa using h2
theorem get_cur {cur:Array Value} {l:List Int} (h:l.length≤cur.size) (hc:∀j,j<l.length→cur[j]? =(l[j]?).map (Value.int .i64)):cur.toList.take l.length=icv l:=by
 refine List.ext_getElem? fun j=> ?_
 rw [List.getElem?_take]
 by_cases hj:j<l.length
 ·rw [if_pos hj,Array.getElem?_toList,hc j hj];simp [icv]
 ·rw [if_neg hj,List.getElem?_eq_none (by simp [icv];omega)]
theorem wDel_ok:wDel.Ok Tryz.prog:=by
 refine⟨fun h=>(by cases h),fun l len us hp h1 hl=> ?_⟩
 have hp:okDel l len us=true:=hp
 unfold okDel at hp
 split at hp
 ·rename_i a b
  simp only [Bool.and_eq_true,decide_eq_true_eq]at hp
  obtain⟨p1,rfl,p3,p4⟩:=hp
  have p4:=Nat.le_of_ble_eq_true p4
  obtain⟨n,rfl⟩:=Int.eq_ofNat_of_zero_le p1
  have hn:n<len:=by omega
  have ho:delO l len [(n:Int),(n:Int)+1]=delL l len n:=rfl
  refine⟨by show(delO l len _).length=_;rw [ho];exact delL_len hl hn,by show len-1≤len;omega,fun w g kc cur hg hc hk=> ?_⟩
  refine(delN g kc len n l cur w hg hc hl hn hk (by omega)).mono fun e w' ⟨q1,q2⟩=>⟨q1, ?_, ?_⟩
  ·subst q2
   have hq:=set_far (g:=g) (icv ((l.take len).drop (n+1))) n w.drew
   exact grown_tr (a:=w) (b:=w.drew.setCells g n (icv ((l.take len).drop (n+1)))) ⟨hq.os,hq.tape,hq.output,hq.size,hq.block⟩ (set_far _ _ _)
  ·subst q2
   obtain⟨c1,c2⟩:=cur_get hc
   refine⟨_,blk_putL _ _ (blk_putL _ _ (Blk.drew hg)),by rw [putL_size,putL_size], ?_⟩
   show _=icv (delO l len _)
   rw [ho,←delL_len hl hn]
   refine get_cur (by rw [putL_size,putL_size,delL_len hl hn];exact c1) fun j hj=> ?_
   rw [delL_len hl hn]at hj
   rw [putL_get,putL_get,putL_size,delL_get hl hn]
   have lm:(icv ((l.take len).drop (n+1))).length=len-(n+1):=by simp [icv];omega
   have at':∀i,i<l.length→(l[i]?).map (Value.int .i64)=some (.int .i64 (l.getD i 0)):=fun i hi=>by simp [hi]
   by_cases h2:j<n
   ·rw [if_neg (by simp;omega),if_neg (by omega),if_pos h2,c2 j hj,at' j hj]
   ·rw [if_neg h2]
    by_cases h3:j+1<len
    ·rw [if_neg (by simp;omega),if_pos (by rw [lm];omega),if_pos h3,at' _ (by omega)]
     simp only [icv,List.getElem?_map,List.getElem?_drop,List.getElem?_take]
     rw [if_pos (by omega),show n+1+(j-n)=j+1 by omega,at' _ (by omega)]
    ·rw [if_neg h3]
     by_cases h4:j+1=len
     ·rw [if_pos (by simp;omega),if_pos h4,show j-(len-1)=0 by omega];rfl
     ·rw [if_neg (by simp;omega),if_neg (by rw [lm];omega),if_neg h4,c2 j hj,at' j hj]
 ·cases hp
theorem putCells_get {cur:Array Value} {ys:List Int} (j:Nat):(Sort.putCells (Value.int .i64) 0 ys.toArray cur)[j]? =if j<ys.length∧j<cur.size then some (.int .i64 (ys.getD j 0))else cur[j]? :=by
 unfold Sort.putCells
 by_cases h1:j<cur.size
 ·by_cases h2:j<ys.length
  ·rw [if_pos ⟨h2,h1⟩];simp [h1,h2]
  ·rw [if_neg (by omega)];simp [h1,h2]
 ·rw [if_neg (by omega)];simp [h1]
theorem wSort_ok:wSort.Ok Tryz.prog:=by
 refine⟨fun _ p cap w=>Tryz.slices_Sort_int_none p cap w,fun l len us hp h1 hl=> ?_⟩
 have hp:(Sv.nilB us&&Nat.ble l.length 1000000)=true:=hp
 rw [Bool.and_eq_true]at hp
 obtain rfl:us=[]:=by
  cases us with
  |nil=>rfl
  |cons x r=>exact absurd hp.1 (by simp [Sv.nilB])
 have hb:=Nat.le_of_ble_eq_true hp.2
 have lt:(l.take len).length=len:=by simp;omega
 have lo:(sortO l len).length=l.length:=by unfold sortO;rw [List.length_append,sortJ_len,lt];simp;omega
 refine⟨lo,Nat.le_refl _,fun w g kc cur hg hc hk=> ?_⟩
 obtain⟨c1,c2⟩:=cur_get hc
 have hc2:cur.toList.take (l.take len).length=icv (l.take len):=get_cur (by omega) fun j hj=>by
  rw [lt]at hj
  rw [c2 j (by omega)];simp [hj,show j<l.length by omega]
 have hgl:g<w.heap.size:=(Array.getElem?_eq_some_iff.1 hg).1
 have key:=Tryz.slices_Sort_int g 0 kc (l.take len) w (own_holds hg hc2) hgl (by omega)
 rw [lt]at key
 refine key.mono fun e w' ⟨q1,q,os,q2⟩=>⟨q1, ?_, ?_⟩
 ·subst q2;exact grown_grow putRow_grown os
 ·subst q2
  have hl2:(sortJ (l.take len)).length=(l.take len).length:=sortJ_len _
  obtain⟨p1,p2,p3⟩:=putRow_at hg hc2 hl2 q
  refine⟨_,(Sort.heap_grow_old _ os (by simpa using hgl)).trans p1,p2, ?_⟩
  show _=icv (sortO l len)
  rw [←lo]
  refine get_cur (by rw [p2,lo];exact c1) fun j hj=> ?_
  rw [lo]at hj
  rw [putCells_get,hl2,lt]
  unfold sortO
  by_cases h2:j<len
  ·rw [if_pos ⟨h2,by omega⟩,List.getElem?_append_left (by omega)]
   simp [hl2,lt,h2]
  ·rw [if_neg (by omega),List.getElem?_append_right (by omega),hl2,lt,c2 j hj,List.getElem?_drop,show len+(j-len)=j by omega]
   simp [hj]
theorem wIdx_ok:wIdx.Ok Tryz.prog:=by
 refine⟨fun h=>(by cases h),fun l len us hp h1 hl=> ?_⟩
 have hp:(oneI us&&Nat.ble l.length 1000000)=true:=hp
 rw [Bool.and_eq_true]at hp
 obtain⟨x,rfl⟩:∃x,us=[x]:=by
  have:=hp.1
  unfold oneI at this
  split at this
  ·exact⟨_,rfl⟩
  ·cases this
 have hb:=Nat.le_of_ble_eq_true hp.2
 refine⟨rfl,Nat.le_refl _,fun w g kc cur hg hc hk=> ?_⟩
 obtain⟨c1,c2⟩:=cur_get hc
 refine(Tryz.slices_Index_int g 0 len kc l x w hl (by omega) fun j hj=> ?_).mono fun e w' ⟨q1,q2⟩=>⟨q1, ?_, ?_⟩
 ·rw [Nat.zero_add,cell_of_row w g j cur _ _ hg,c2 j hj]
 ·subst q2;exact⟨rfl,rfl,rfl,Nat.le_refl _,fun _ _ _=>rfl⟩
 ·subst q2;exact⟨cur,hg,rfl,hc⟩
end
end Go.Proofs.YtjcbbabaabcdgaaGreatDoor
/- The runner over an abstract memory: a row of the run's own that is handed to a function for good: it is plain data from then on. -/
namespace Go.Proofs.YtjcbbabaabcdgaaGreatDoor.Sv
open Go.RowKit
set_option linter.unusedSectionVars false
variable [Ground]
noncomputable section
def frzOne (ty:Ty) (v:AV) (H:AHeap):Tst (Option (AV×AHeap)):=match ty,v with
 | .list false t, .osl e u i k len _=>(match decide (u=t)with
   |true=> .must (Nat.beq len 0||ownHas e t (H.get i) (k+len-1)) (.ret (some (.lst false t (((blkXs t (H.get i)).drop k).take len),H.drop i)))
   |false=> .ret none)
 | .list false t, .slice i off n _=>(match H.get i with
   |some (.cells _ cs _ false false)=>(match t.readL n (cut cs off (n*t.size))with
    |some ds=> .must (Nat.ble (off+n*t.size) cs.length) (.ret (some (.lst false t ds,H.drop i)))
    |none=> .ret none)
   |_=> .ret none)
 |_,v=> .ret (some (v,H))
def frzAll:List Ty→List AV→AHeap→Tst (Option (List AV×AHeap))
 |t::ts,v::vs,H=>(frzOne t v H).bind fun r=>match r with
  |some (v1,H1)=>(frzAll ts vs H1).bind fun r2=>match r2 with
   |some (vs1,H2)=> .ret (some (v1::vs1,H2))
   |none=> .ret none
  |none=> .ret none
 |_,vs,H=> .ret (some (vs,H))
def gctrV (c:Ctr) (args:List AV) (H:AHeap):Tst VR:=(frzAll c.ps args H).bind fun r=>match r with
 |some (args1,H1)=>ctrV c args1 H1
 |none=> .ret .no
def gctrs (l:List Ctr) (SV:VCaller):VCaller:=fun f args H=>match l with
 |[]=>SV f args H
 |c::l=>match Nat.beq f c.f with |true=>gctrV c args H|false=>gctrs l SV f args H
section
variable {P:Program} {B:Nat} {ρ:Env} {H:AHeap} {w:World}
theorem freeze_blk (hH:HDen P B ρ H w) {i b c:Nat} {k:ABlk} {zs:Array Value} {e:TypeId} {fr:Nat×Nat} (hi:H.get i=some k) (hro:k.isRo=false) (hr:ρ i=some (b,c)) (hz:w.heap[b]? =some (.cells zs e fr)):
  ∃ρ1:Env,ρ1.fz b=some zs∧(∀j,ρ1 j=ρ j)∧Le ρ ρ1∧HDen P B ρ1 (H.drop i) w∧Stp ρ H w ρ1 (H.drop i) w:=by
 have hnf:ρ.fz b=none:=by
  cases hz':ρ.fz b with
  |none=>rfl
  |some A=>
   have:=(hH.fz b A hz').2 i k c hi hr
   rw [hro]at this;cases this
 have hle:Le ρ ⟨ρ.at',fun q=>if q=b then some zs else ρ.fz q⟩:=⟨fun _ _ h=>h,fun q A h=>by
  show(if q=b then some zs else ρ.fz q)=some A
  by_cases hq:q=b
  ·subst hq;rw [hnf]at h;cases h
  ·rw [if_neg hq];exact h⟩
 have key:∀j kk,(H.drop i).get j=some kk→j≠i∧H.get j=some kk:=fun j kk h=>by
  rw [AHeap.get_drop]at h
  split at h
  ·cases h
  ·rename_i h2;exact⟨fun h=>h2 h.symm,h⟩
 refine⟨⟨ρ.at',fun q=>if q=b then some zs else ρ.fz q⟩,if_pos rfl,fun _=>rfl,hle,⟨fun j kk h=> ?_,fun i1 i2 k1 k2 bb c1 c2 g1 g2 g3 g4=>hH.inj i1 i2 k1 k2 bb c1 c2 (key _ _ g1).2 (key _ _ g2).2 g3 g4,fun j kk h=>hH.lt j kk (key j kk h).2,hH.base,fun bb A h=> ?_⟩,
  ⟨hle,fun _ _=>rfl,Nat.le_refl _,Nat.le_refl _,rfl,rfl,rfl,fun _ _ _=>rfl,fun q _ ⟨j,kk,cj,h1,h2,h3⟩=>⟨j,kk,cj,(key j kk h1).2,h2,h3⟩,fun q _ ⟨j,kk,cj,h1,h3⟩=>⟨j,kk,cj,(key j kk h1).2,h3⟩,fun bb A h=> ?_⟩⟩
 ·obtain⟨bj,cj,o,e1,e2,e3,e4⟩:=hH.blk j kk (key j kk h).2
  exact⟨bj,cj,o,e1,e2,e3.mono hle,e4⟩
 ·have h:(if bb=b then some zs else ρ.fz bb)=some A:=h
  by_cases hq:bb=b
  ·subst hq
   rw [if_pos rfl]at h
   cases h
   exact⟨⟨_,_,hz⟩,fun j kk c' g1 g2=>absurd (hH.inj j i kk k bb c' c (key j kk g1).2 hi g2 hr) (key j kk g1).1⟩
  ·rw [if_neg hq]at h
   exact⟨(hH.fz bb A h).1,fun j kk c' g1 g2=>(hH.fz bb A h).2 j kk c' (key j kk g1).2 g2⟩
 ·have h:(if bb=b then some zs else ρ.fz bb)=some A:=h
  by_cases hq:bb=b
  ·subst hq;exact .inr (.inr ⟨i,k,c,hi,hro,hr⟩)
  ·rw [if_neg hq]at h;exact .inl h
theorem frzOne_ok (hH:HDen P B ρ H w) {ty:Ty} {v v1:AV} {H1:AHeap} {x:Value} (h:(frzOne ty v H).gr=some (some (v1,H1))) (hd:Den ρ v x):∃ρ1:Env,Le ρ ρ1∧HDen P B ρ1 H1 w∧Stp ρ H w ρ1 H1 w∧Den ρ1 v1 x:=by
 unfold frzOne at h
 split at h
 ·rename_i t e u i k len cap
  split at h
  ·rename_i hu
   have hu:=of_decide_eq_true hu
   subst hu
   cases hm:(Nat.beq len 0||ownHas e u (H.get i) (k+len-1))with
   |false=>rw [hm]at h;cases h
   |true=>
    rw [hm]at h
    cases h
    rcases hd.osl_inv with⟨rfl,a,rfl⟩|⟨b,c,kc,g1,g2,g3,rfl⟩
    ·rw [List.take_zero]
     by_cases hg:∃kk,H.get i=some kk∧kk.isRo=false∧∃b c zs e fr,ρ i=some (b,c)∧w.heap[b]? =some (.cells zs e fr)
     ·obtain⟨kk,q1,q2,b,c,zs,e',fr,q3,q4⟩:=hg
      obtain⟨ρ1,_,_,r1,r2,r3⟩:=freeze_blk hH q1 q2 q3 q4
      exact⟨ρ1,r1,r2,r3, .lstNil fun e=>by cases e⟩
     · -- the block is given up without being frozen
       have key:∀j kk,(H.drop i).get j=some kk→j≠i∧H.get j=some kk:=fun j kk h=>by
        rw [AHeap.get_drop]at h
        split at h
        ·cases h
        ·rename_i h2;exact⟨fun h=>h2 h.symm,h⟩
       exact⟨ρ,Le.refl _,⟨fun j kk h=>hH.blk j kk (key j kk h).2,fun i1 i2 k1 k2 bb c1 c2 g1 g2 g3 g4=>hH.inj i1 i2 k1 k2 bb c1 c2 (key _ _ g1).2 (key _ _ g2).2 g3 g4,fun j kk h=>hH.lt j kk (key j kk h).2,hH.base,fun bb A h=>⟨(hH.fz bb A h).1,fun j kk c' g1 g2=>(hH.fz bb A h).2 j kk c' (key j kk g1).2 g2⟩⟩,
        ⟨Le.refl _,fun _ _=>rfl,Nat.le_refl _,Nat.le_refl _,rfl,rfl,rfl,fun _ _ _=>rfl,fun q _ ⟨j,kk,cj,h1,h2,h3⟩=>⟨j,kk,cj,(key j kk h1).2,h2,h3⟩,fun q _ ⟨j,kk,cj,h1,h3⟩=>⟨j,kk,cj,(key j kk h1).2,h3⟩,fun bb A h=> .inl h⟩, .lstNil fun e=>by cases e⟩
    ·by_cases hl:len=0
     ·subst hl
      rw [List.take_zero]
      by_cases hg:∃kk,H.get i=some kk∧kk.isRo=false∧∃b c zs e fr,ρ i=some (b,c)∧w.heap[b]? =some (.cells zs e fr)
      ·obtain⟨kk,q1,q2,b,c,zs,e',fr,q3,q4⟩:=hg
       obtain⟨ρ1,_,_,r1,r2,r3⟩:=freeze_blk hH q1 q2 q3 q4
       exact⟨ρ1,r1,r2,r3, .lstNil fun e=>by cases e⟩
      ·have key:∀j kk,(H.drop i).get j=some kk→j≠i∧H.get j=some kk:=fun j kk h=>by
        rw [AHeap.get_drop]at h
        split at h
        ·cases h
        ·rename_i h2;exact⟨fun h=>h2 h.symm,h⟩
       exact⟨ρ,Le.refl _,⟨fun j kk h=>hH.blk j kk (key j kk h).2,fun i1 i2 k1 k2 bb c1 c2 g1 g2 g3 g4=>hH.inj i1 i2 k1 k2 bb c1 c2 (key _ _ g1).2 (key _ _ g2).2 g3 g4,fun j kk h=>hH.lt j kk (key j kk h).2,hH.base,fun bb A h=>⟨(hH.fz bb A h).1,fun j kk c' g1 g2=>(hH.fz bb A h).2 j kk c' (key j kk g1).2 g2⟩⟩,
        ⟨Le.refl _,fun _ _=>rfl,Nat.le_refl _,Nat.le_refl _,rfl,rfl,rfl,fun _ _ _=>rfl,fun q _ ⟨j,kk,cj,h1,h2,h3⟩=>⟨j,kk,cj,(key j kk h1).2,h2,h3⟩,fun q _ ⟨j,kk,cj,h1,h3⟩=>⟨j,kk,cj,(key j kk h1).2,h3⟩,fun bb A h=> .inl h⟩, .lstNil fun e=>by cases e⟩
     ·rw [Bool.or_eq_true]at hm
      have hm:=hm.resolve_left fun e=>hl (Nat.eq_of_beq_eq_true e)
      obtain⟨b1,b2⟩:=ownHas_some hm
      obtain⟨zs,q1,q2,_⟩:=own_at hH b1 g1
      obtain⟨ρ1,f1,_,r1,r2,r3⟩:=freeze_blk hH b1 rfl g1 q1
      refine⟨ρ1,r1,r2,r3, ?_⟩
      generalize blkXs u (H.get i)=xs at b1 b2 q2 ⊢
      have hle2:k+len≤xs.length:=by omega
      have e1:(xs.drop k).take len=(xs.take (k+len)).drop k:=by rw [List.take_drop]
      have hpd:=part_den (off:=0) (A:=zs.toList) (l:=k) (h:=k+len) (by simpa using q2) (by omega) hle2
      rw [Nat.zero_add,←e1]at hpd
      have hn:((xs.drop k).take len).length=len:=by simp;omega
      have hd2:=Den.lst (ρ:=ρ1) (z:=false) (t:=u) (xs:=(xs.drop k).take len) (b:=b) (off:=k*u.size) (k:=kc) (A:=zs) f1 (by
       have e3:(u.flat xs).length≤zs.toList.length:=by
        have:=q2.length
        simp at this ⊢;omega
       rw [u.flat_len]at e3 ⊢
       rw [hn,←Nat.add_mul]
       have:=Nat.le_trans (Nat.mul_le_mul_right u.size hle2) e3
       simpa using this) rfl (hpd.mono r1) (by omega) (fun e=>by cases e)
      rwa [hn]at hd2
  ·cases h
 ·rename_i t i off n cap
  split at h
  ·rename_i e cs x hg
   split at h
   ·rename_i ds hrd
    cases hm:Nat.ble (off+n*t.size) cs.length with
    |false=>rw [hm]at h;cases h
    |true=>
     rw [hm]at h
     cases h
     have hle:=Nat.le_of_ble_eq_true hm
     obtain⟨b,c,k,g1,_,g3,rfl⟩:=hd.slice_inv
     obtain⟨zs,fz',q1,_,q3,_,_,q6⟩:=cells_at hH hg g1
     obtain⟨ρ1,f1,_,r1,r2,r3⟩:=freeze_blk hH hg rfl g1 q1
     refine⟨ρ1,r1,r2,r3, ?_⟩
     have hcut:=(q3.drop off).take (n*t.size)
     obtain⟨hfd,hn⟩:=Ty.readL_den hrd hcut
     subst hn
     have hfl:=t.flat_len ds
     have e2:((zs.toList.take cs.length).drop off).take (ds.length*t.size)=(zs.toList.drop off).take (t.flat ds).length:=by
      rw [hfl,List.drop_take,List.take_take,Nat.min_eq_left (by omega)]
     rw [e2]at hfd
     exact .lst f1 (by rw [hfl];omega) rfl (hfd.mono r1) g3 fun e=>by cases e
   ·cases h
  ·cases h
 ·cases h
  exact⟨ρ,Le.refl _,hH,Stp.refl _ _ _,hd⟩
theorem frzAll_ok:∀{ts:List Ty} {vs vs1:List AV} {ρ:Env} {H H1:AHeap} {xs:List Value},HDen P B ρ H w→(frzAll ts vs H).gr=some (some (vs1,H1))→Dens ρ vs xs→∃ρ1:Env,Le ρ ρ1∧HDen P B ρ1 H1 w∧Stp ρ H w ρ1 H1 w∧Dens ρ1 vs1 xs
 |[],vs,vs1,ρ,H,H1,xs,hH,h,hd=>by
  cases h;exact⟨ρ,Le.refl _,hH,Stp.refl _ _ _,hd⟩
 |t::ts,[],vs1,ρ,H,H1,xs,hH,h,hd=>by
  cases h;exact⟨ρ,Le.refl _,hH,Stp.refl _ _ _,hd⟩
 |t::ts,v::vs,vs1,ρ,H,H1,_,hH,h, .cons d1 d2=>by
  unfold frzAll at h
  rw [Tst.gr_bind]at h
  cases h1:(frzOne t v H).gr with
  |none=>rw [h1]at h;cases h
  |some r=>
   rw [h1]at h
   cases r with
   |none=>cases h
   |some r=>
    obtain⟨v1,H2⟩:=r
    simp only [Option.bind_some]at h
    rw [Tst.gr_bind]at h
    cases h2:(frzAll ts vs H2).gr with
    |none=>rw [h2]at h;cases h
    |some r2=>
     rw [h2]at h
     cases r2 with
     |none=>cases h
     |some r2=>
      obtain⟨vs2,H3⟩:=r2
      cases h
      obtain⟨ρ1,l1,a1,s1,e1⟩:=frzOne_ok hH h1 d1
      obtain⟨ρ2,l2,a2,s2,e2⟩:=frzAll_ok a1 h2 (d2.mono l1)
      exact⟨ρ2,l1.trans l2,a2,s1.trans s2, .cons (e1.mono l2) e2⟩
theorem frzOne_next {ty:Ty} {v v1:AV} {H1:AHeap} (h:(frzOne ty v H).gr=some (some (v1,H1))):H1.next=H.next:=by
 unfold frzOne at h
 split at h
 ·split at h
  ·rename_i e u i k len _ _ _
   cases hm:(Nat.beq len 0||ownHas e _ (H.get i) (k+len-1))with
   |false=>rw [hm]at h;cases h
   |true=>rw [hm]at h;cases h;rfl
  ·cases h
 ·split at h
  ·split at h
   ·unfold Tst.gr at h
    generalize Nat.ble _ _=bb at h
    cases bb with
    |false=>cases h
    |true=>cases h;rfl
   ·cases h
  ·cases h
 ·cases h;rfl
theorem frzAll_next:∀{ts:List Ty} {vs vs1:List AV} {H H1:AHeap},(frzAll ts vs H).gr=some (some (vs1,H1))→H1.next=H.next
 |[],vs,vs1,H,H1,h=>by cases h;rfl
 |t::ts,[],vs1,H,H1,h=>by cases h;rfl
 |t::ts,v::vs,vs1,H,H1,h=>by
  unfold frzAll at h
  rw [Tst.gr_bind]at h
  cases h1:(frzOne t v H).gr with
  |none=>rw [h1]at h;cases h
  |some r=>
   rw [h1]at h
   cases r with
   |none=>cases h
   |some r=>
    obtain⟨v1,H2⟩:=r
    simp only [Option.bind_some]at h
    rw [Tst.gr_bind]at h
    cases h2:(frzAll ts vs H2).gr with
    |none=>rw [h2]at h;cases h
    |some r2=>
     rw [h2]at h
     cases r2 with
     |none=>cases h
     |some r2=>
      obtain⟨vs2,H3⟩:=r2
      cases h
      rw [frzAll_next h2,frzOne_next h1]
theorem gctrV_inv {c:Ctr} {args:List AV} {v:AV} {H':AHeap} (h:(gctrV c args H).gr=some (.ok v H')):∃args1,(frzAll c.ps args H).gr=some (some (args1,H'))∧(ctrV c args1 H').gr=some (.ok v H'):=by
 unfold gctrV at h
 rw [Tst.gr_bind]at h
 cases h1:(frzAll c.ps args H).gr with
 |none=>rw [h1]at h;cases h
 |some r=>
  rw [h1]at h
  cases r with
  |none=>cases h
  |some r=>
   obtain⟨a1,H1⟩:=r
   have h:(ctrV c a1 H1).gr=some (.ok v H'):=h
   have e:=ctrV_same h
   subst e
   exact⟨a1,rfl,h⟩
theorem gctrs_some {SV:VCaller} {f:FuncId} {args:List AV} {v:AV} {H':AHeap}:∀{l:List Ctr},(gctrs l SV f args H).gr=some (.ok v H')→(∃c∈l,c.f=f∧(gctrV c args H).gr=some (.ok v H'))∨(SV f args H).gr=some (.ok v H')
 |[],h=> .inr h
 |c::l,h=>by
  unfold gctrs at h
  cases hb:Nat.beq f c.f with
  |true=>simp only [hb]at h;exact .inl ⟨c,List.mem_cons_self,(Nat.eq_of_beq_eq_true hb).symm,h⟩
  |false=>
   simp only [hb]at h
   rcases gctrs_some h with⟨c',h1,h2⟩|h1
   ·exact .inl ⟨c',List.mem_cons_of_mem _ h1,h2⟩
   ·exact .inr h1
theorem gctrs_ok {l:List Ctr} {SV:VCaller} (hl:∀c∈l,c.Ok P) (hS:CallOk P (gS SV)):CallOk P (gS (gctrs l SV)) where
 mono f args H v H' h:=by
  rcases gctrs_some (gS_some h)with⟨c,_,_,h3⟩|h3
  ·obtain⟨a1,g1,_⟩:=gctrV_inv h3
   rw [frzAll_next g1];exact Nat.le_refl _
  ·exact hS.mono f args H v H' (by unfold gS;rw [h3];rfl)
 sim f args H v H' h B ρ xs w m hH hG hd hf:=by
  rcases gctrs_some (gS_some h)with⟨c,h1,rfl,h3⟩|h3
  ·obtain⟨a1,g1,g2⟩:=gctrV_inv h3
   obtain⟨ρ1,l1,a2,s1,e1⟩:=frzAll_ok hH g1 hd
   refine(ctrV_ok (hl c h1) g2 m a2 (hG.mono l1) e1).mono ?_
   rintro e w' ⟨x,ρ',rfl,q1,q2,q3⟩
   exact⟨x,ρ',rfl,q1,q2,s1.trans q3⟩
  ·exact hS.sim f args H v H' (by unfold gS;rw [h3];rfl) B ρ xs w m hH hG hd hf
end
end
end Go.Proofs.YtjcbbabaabcdgaaGreatDoor.Sv
/- The runner: a row of the run's own that is never written again is taken as plain data. -/
namespace Go.Proofs.YtjcbbabaabcdgaaGreatDoor
open Go.RowKit Sv
set_option linter.unusedSectionVars false
section
variable [Sv.Ground] {X:Ext} {P:Program} {w0:World} {F:Env} {n:Nat} {T:Tr AV} {H:AHeap} {a:Act} {w:World} {B:Nat} {ρ ρ':Env}
theorem own_drop {i:Nat} {ρ':Env} (ha:∀i,ρ' i=ρ i) {b:Nat} (h:Sv.Own ρ' (H.drop i) b):Sv.Own ρ H b:=by
 obtain⟨k,kk,c,h1,h2,h3⟩:=h
 rw [ha]at h3
 rw [AHeap.get_drop]at h1
 split at h1
 ·cases h1
 ·exact⟨k,kk,c,h1,h2,h3⟩
theorem Sat.freeze {i j m:Nat} {e e2:TypeId} {cs:List AV} {x f r:Bool} {t:Ty} {xs:List t.den} {cap:Cap} (hj:H.get j=some (.cells e cs x f r)) (hm:cs[m]? =some (.osl e2 t i 0 xs.length cap)) (hi:H.get i=optOwn e2 t xs) (hij:i≠j)
  (hs:SatX X P w0 F n T H a w):SatX X P w0 F n T ((H.drop i).set j (.cells e (cs.set m (.lst false t xs)) x f r)) a w:=by
 obtain⟨⟨ρ,hAR,hnone,hfz,hkp⟩,hb,hd⟩:=hs
 by_cases hx:xs=[]
 ·subst hx
  have hi:H.get i=none:=hi
  refine⟨⟨ρ,⟨hAR.T,hden_swap hAR.H (Le.refl _) (fun _=>rfl) hj hij hm (fun y hy=> ?_) (fun b A h=>⟨(hAR.H.fz b A h).1,fun k kk c _ g1 g2=>(hAR.H.fz b A h).2 k kk c g1 g2⟩),hAR.G⟩,hnone,hfz,hkp.re (Le.refl _) (Nat.le_refl _) (fun _ hh=>own_swap (fun _=>rfl) hj hh) fun _ _ h=> .inl h⟩,hb,hd⟩
  rcases hy.osl_inv with⟨_,a,rfl⟩|⟨b,c,kc,_,_,_,rfl⟩
  ·exact .lstNil fun e=>by cases e
  ·exact .lstNil fun e=>by cases e
 ·obtain⟨x0,l0,rfl⟩:=List.exists_cons_of_ne_nil hx
  have hi:H.get i=some (.own e2 t (x0::l0)):=hi
  generalize hxs:x0::l0=xs at*
  obtain⟨b,c,o,hib,_,_,hB⟩:=hAR.H.blk i _ hi
  obtain⟨zs,z1,z2,z3,z4,z5,z6⟩:=own_at hAR.H hi hib
  have hnf:ρ.fz b=none:=by
   cases hz:ρ.fz b with
   |none=>rfl
   |some A=>
    have:=(hAR.H.fz b A hz).2 i _ c hi hib
    cases this
  have hle:Le ρ ⟨ρ.at',fun q=>if q=b then some zs else ρ.fz q⟩:=⟨fun _ _ h=>h,fun q A h=>by
   show(if q=b then some zs else ρ.fz q)=some A
   by_cases hq:q=b
   ·subst hq;rw [hnf]at h;cases h
   ·rw [if_neg hq];exact h⟩
  refine⟨⟨⟨ρ.at',fun q=>if q=b then some zs else ρ.fz q⟩,⟨hAR.T.mono hle,hden_swap hAR.H hle (fun _=>rfl) hj hij hm (fun y hy=> ?_) (fun q A h=> ?_),hAR.G.mono hle⟩,hnone,fun q A h=> ?_,hkp.re hle (Nat.le_refl _) (fun _ hh=>own_swap (fun _=>rfl) hj hh) fun q A h=>by
   have h:(if q=b then some zs else ρ.fz q)=some A:=h
   by_cases hq:q=b
   ·exact .inr ⟨i,_,c,hi,rfl,hq ▸ hib⟩
   ·rw [if_neg hq]at h;exact .inl h⟩,hb,hd⟩
  ·rcases hy.osl_inv with⟨h0,_⟩|⟨b',c',kc,g1,_,g3,rfl⟩
   ·exact absurd (List.length_eq_zero_iff.1 h0) hx
   ·rw [hib]at g1
    cases g1
    refine .lst (A:=zs) (b:=b) (off:=0*t.size) (by show(if b=b then some zs else _)=_;rw [if_pos rfl]) (by rw [Nat.zero_mul,Nat.zero_add];exact z4) rfl ?_ g3 (fun e=>by cases e)
    rw [Nat.zero_mul,List.drop_zero]
    exact z2.mono hle
  ·have h:(if q=b then some zs else ρ.fz q)=some A:=h
   by_cases hq:q=b
   ·subst hq
    rw [if_pos rfl]at h
    cases h
    exact⟨⟨_,_,z1⟩,fun k kk c' hne g1 g2=>absurd (hAR.H.inj k i kk _ q c' c g1 hi g2 hib) hne⟩
   ·rw [if_neg hq]at h
    exact⟨(hAR.H.fz q A h).1,fun k kk c _ g1 g2=>(hAR.H.fz q A h).2 k kk c g1 g2⟩
  ·have h:(if q=b then some zs else ρ.fz q)=some A:=h
   by_cases hq:q=b
   ·subst hq;exact .inr (hB rfl)
   ·rw [if_neg hq]at h;exact hfz q A h
theorem Sat.freezeSlot {i s:Nat} {e2:TypeId} {t:Ty} {xs:List t.den} {cap:Cap} (hs':T.get s=some (.osl e2 t i 0 xs.length cap)) (hi:H.get i=optOwn e2 t xs) (hs:SatX X P w0 F n T H a w):SatX X P w0 F n (T.set s (some (.lst false t xs))) (H.drop i) a w:=by
 obtain⟨⟨ρ,hAR,hnone,hfz,hkp⟩,hb,hd⟩:=hs
 have hdrop:∀{ρ':Env},Le ρ ρ'→(∀i,ρ' i=ρ i)→(∀b A,ρ'.fz b=some A→(∃e fr,w.heap[b]? =some (.cells A e fr))∧∀k kk c,k≠i→H.get k=some kk→ρ k=some (b,c)→kk.isRo=true)→HDen P w0.heap.size ρ' (H.drop i) w:=fun {ρ'} hl ha hf=>by
  have key:∀k kk,(H.drop i).get k=some kk→k≠i∧H.get k=some kk:=fun k kk h=>by
   rw [AHeap.get_drop]at h
   split at h
   ·cases h
   ·rename_i h2;exact⟨fun h=>h2 h.symm,h⟩
  refine⟨fun k kk h=> ?_,fun i1 i2 k1 k2 b c1 c2 g1 g2 g3 g4=> ?_,fun k kk h=>hAR.H.lt k kk (key k kk h).2,hAR.H.base,fun b A h=>⟨(hf b A h).1,fun k kk c g1 g2=> ?_⟩⟩
  ·obtain⟨b,c,o,e1,e2,e3,e4⟩:=hAR.H.blk k kk (key k kk h).2
   exact⟨b,c,o,by rw [ha];exact e1,e2,e3.mono hl,e4⟩
  ·rw [ha]at g3 g4
   exact hAR.H.inj _ _ _ _ _ _ _ (key _ _ g1).2 (key _ _ g2).2 g3 g4
  ·rw [ha]at g2
   exact(hf b A h).2 k kk c (key k kk g1).1 (key k kk g1).2 g2
 have hset:∀{ρ':Env},Le ρ ρ'→(∀y,Den ρ (.osl e2 t i 0 xs.length cap) y→Den ρ' (.lst false t xs) y)→TDen ρ' (T.set s (some (.lst false t xs))) n a.tmps:=fun {ρ'} hl hv=>⟨hAR.T.size,fun k=>by
  rw [Tr.get_set]
  have hk:=hAR.T.get k
  by_cases hks:s=k
  ·subst hks
   rw [if_pos rfl]
   rw [hs']at hk
   exact hv _ hk
  ·rw [if_neg hks];exact hk.mono hl⟩
 by_cases hx:xs=[]
 ·subst hx
  refine⟨⟨ρ,⟨hset (Le.refl _) fun y hy=> ?_,hdrop (Le.refl _) (fun _=>rfl) (fun b A h=>⟨(hAR.H.fz b A h).1,fun k kk c _ g1 g2=>(hAR.H.fz b A h).2 k kk c g1 g2⟩),hAR.G⟩,hnone,hfz,hkp.re (Le.refl _) (Nat.le_refl _) (fun _ hh=>own_drop (fun _=>rfl) hh) fun _ _ h=> .inl h⟩,hb,hd⟩
  rcases hy.osl_inv with⟨_,a,rfl⟩|⟨b,c,kc,_,_,_,rfl⟩
  ·exact .lstNil fun e=>by cases e
  ·exact .lstNil fun e=>by cases e
 ·obtain⟨x0,l0,rfl⟩:=List.exists_cons_of_ne_nil hx
  have hi:H.get i=some (.own e2 t (x0::l0)):=hi
  generalize hxs:x0::l0=xs at*
  obtain⟨b,c,o,hib,_,_,hB⟩:=hAR.H.blk i _ hi
  obtain⟨zs,z1,z2,z3,z4,z5,z6⟩:=own_at hAR.H hi hib
  have hnf:ρ.fz b=none:=by
   cases hz:ρ.fz b with
   |none=>rfl
   |some A=>
    have:=(hAR.H.fz b A hz).2 i _ c hi hib
    cases this
  have hle:Le ρ ⟨ρ.at',fun q=>if q=b then some zs else ρ.fz q⟩:=⟨fun _ _ h=>h,fun q A h=>by
   show(if q=b then some zs else ρ.fz q)=some A
   by_cases hq:q=b
   ·subst hq;rw [hnf]at h;cases h
   ·rw [if_neg hq];exact h⟩
  refine⟨⟨⟨ρ.at',fun q=>if q=b then some zs else ρ.fz q⟩,⟨hset hle fun y hy=> ?_,hdrop hle (fun _=>rfl) (fun q A h=> ?_),hAR.G.mono hle⟩,hnone,fun q A h=> ?_,hkp.re hle (Nat.le_refl _) (fun _ hh=>own_drop (fun _=>rfl) hh) fun q A h=>by
   have h:(if q=b then some zs else ρ.fz q)=some A:=h
   by_cases hq:q=b
   ·exact .inr ⟨i,_,c,hi,rfl,hq ▸ hib⟩
   ·rw [if_neg hq]at h;exact .inl h⟩,hb,hd⟩
  ·rcases hy.osl_inv with⟨h0,_⟩|⟨b',c',kc,g1,_,g3,rfl⟩
   ·exact absurd (List.length_eq_zero_iff.1 h0) hx
   ·rw [hib]at g1
    cases g1
    refine .lst (A:=zs) (b:=b) (off:=0*t.size) (by show(if b=b then some zs else _)=_;rw [if_pos rfl]) (by rw [Nat.zero_mul,Nat.zero_add];exact z4) rfl ?_ g3 (fun e=>by cases e)
    rw [Nat.zero_mul,List.drop_zero]
    exact z2.mono hle
  ·have h:(if q=b then some zs else ρ.fz q)=some A:=h
   by_cases hq:q=b
   ·subst hq
    rw [if_pos rfl]at h
    cases h
    exact⟨⟨_,_,z1⟩,fun k kk c' hne g1 g2=>absurd (hAR.H.inj k i kk _ q c' c g1 hi g2 hib) hne⟩
   ·rw [if_neg hq]at h
    exact⟨(hAR.H.fz q A h).1,fun k kk c _ g1 g2=>(hAR.H.fz q A h).2 k kk c g1 g2⟩
  ·have h:(if q=b then some zs else ρ.fz q)=some A:=h
   by_cases hq:q=b
   ·subst hq;exact .inr (hB rfl)
   ·rw [if_neg hq]at h;exact hfz q A h
theorem GoalL.freezeSlot {Q:Exit→Tr AV→AHeap→Prop} {l:List Code} (hl:l≠[]) {i s:Nat} {e2:TypeId} {t:Ty} {xs:List t.den} {cap:Cap} (hs':T.get s=some (.osl e2 t i 0 xs.length cap)) (hi:H.get i=optOwn e2 t xs)
  (hg:GoalLX X P w0 F n l (T.set s (some (.lst false t xs))) (H.drop i) Q):GoalLX X P w0 F n l T H Q:=by
 cases l with
 |nil=>exact absurd rfl hl
 |cons c l=>exact fun a w hs k=>hg a w (Sat.freezeSlot hs' hi hs) k
theorem Goal.freeze {Q:Exit→Tr AV→AHeap→Prop} {c:Code} {i j m:Nat} {e e2:TypeId} {cs:List AV} {x f r:Bool} {t:Ty} {xs:List t.den} {cap:Cap} (hj:H.get j=some (.cells e cs x f r)) (hm:cs[m]? =some (.osl e2 t i 0 xs.length cap)) (hi:H.get i=optOwn e2 t xs) (hij:i≠j)
  (hg:GoalX X P w0 F n c T ((H.drop i).set j (.cells e (cs.set m (.lst false t xs)) x f r)) Q):GoalX X P w0 F n c T H Q:=fun a w hs k=>hg a w (Sat.freeze hj hm hi hij hs) k
theorem GoalL.freeze {Q:Exit→Tr AV→AHeap→Prop} {l:List Code} (hl:l≠[]) {i j m:Nat} {e e2:TypeId} {cs:List AV} {x f r:Bool} {t:Ty} {xs:List t.den} {cap:Cap} (hj:H.get j=some (.cells e cs x f r)) (hm:cs[m]? =some (.osl e2 t i 0 xs.length cap)) (hi:H.get i=optOwn e2 t xs) (hij:i≠j)
  (hg:GoalLX X P w0 F n l T ((H.drop i).set j (.cells e (cs.set m (.lst false t xs)) x f r)) Q):GoalLX X P w0 F n l T H Q:=by
 cases l with
 |nil=>exact absurd rfl hl
 |cons c l=>exact Goal.freeze hj hm hi hij hg
theorem GoalL.refit {Q:Exit→Tr AV→AHeap→Prop} {l:List Code} (hl:l≠[]) {σ:Ren} {s:St} (h:fit P σ n T H s) (hg:GoalLX X P w0 F n l s.T s.H Q) (hp:pinned σ s.H.next X.pins=true:=by rfl):GoalLX X P w0 F n l T H Q:=by
 cases l with
 |nil=>exact absurd rfl hl
 |cons c l=>exact Goal.refit h hg hp
end
end Go.Proofs.YtjcbbabaabcdgaaGreatDoor
/- The stock and the train: errors. -/
namespace Go.Proofs.YtjcbbabaabcdgaaGreatDoor
open Go.RowKit Sv
set_option maxRecDepth 100000
set_option linter.unusedVariables false
set_option linter.unusedSimpArgs false
noncomputable section
abbrev tP2:Ty:= .pair (.int .i64) (.int .i64)
abbrev pl (l:List (Int×Int)):AV:= .lst false tP2 l
abbrev g0 (s:List (Int×Int)) (k:Nat):Int×Int:=s.getD k (0,0)
noncomputable def BRt:Code:=(Tryz.f10.body).getD .skip
noncomputable def BGt:Code:=(Tryz.f44.body).getD .skip
def wOut (p:Int×Int):Bool:=decide (p.1<6)||(decide (p.1>400)||(decide (p.2<1)||decide (p.2>999999999)))
def stkAt (s:List (Int×Int)) (k:Nat):Int:=if wOut (g0 s k)=true then 3 else if 0<k∧(g0 s k).1≤(g0 s (k-1)).1 then 11 else 0
def stkFrom (s:List (Int×Int)):Nat→Nat→Int
 |0,_=>0
 |n+1,k=>if stkAt s k≠0 then stkAt s k else stkFrom s n (k+1)
def stkErr (s:List (Int×Int)):Int:=if s.length=0 then 12 else if 32<s.length then 5 else stkFrom s s.length 0
def pOut (p:Int×Int):Bool:=decide (p.1<1)||(decide (p.1>400)||(decide (p.2<1)||decide (p.2>400)))
def trnFrom (s:List (Int×Int)):Nat→Nat→Int
 |0,_=>0
 |n+1,k=>if pOut (g0 s k)=true then 3 else trnFrom s n (k+1)
def trnErr (s:List (Int×Int)):Int:=if 4<s.length then 5 else trnFrom s s.length 0
end
end Go.Proofs.YtjcbbabaabcdgaaGreatDoor
/- The reference of chapter 5: insert, without, paired. -/
namespace Go.Proofs.YtjcbbabaabcdgaaGreatDoor
open Go.RowKit Sv
set_option maxRecDepth 100000
set_option linter.unusedVariables false
set_option linter.unusedSimpArgs false
noncomputable section
abbrev ob5 (j:Nat) (l:List Int):AV:= .osl 3 (.int .i64) j 0 l.length (capOf l.length)
abbrev oe5 (l:List Int):Ent:= .opt 3 (.int .i64) l
abbrev obP (j:Nat) (l:List (Int×Int)):AV:= .osl 60 tP2 j 0 l.length (capOf l.length)
abbrev nilP:List (Int×Int):=[]
abbrev oeP (l:List (Int×Int)):Ent:= .opt 60 tP2 l
noncomputable def BRi:Code:=(Tryz.f53.body).getD .skip
noncomputable def BRw:Code:=(Tryz.f54.body).getD .skip
noncomputable def BRp:Code:=(Tryz.f55.body).getD .skip
abbrev riL:List Nat:=[1,1,1,0,1,0,0]
def SRi (l:List Int) (x:Int) (out:List Int) (done:Bool) (k:Nat):St:={n:=42,sl:=[(0,lv l),(1,iv x),(5,ob5 64 out),(6,bv done),(7,iv k)],en:=[(64,oe5 out)],next:=65}
theorem ri_start (l:List Int) (x:Int):
  Tst.path (vrun0 Tryz.prog (ctrs []) (fl BRi []) 4 42 [lv l,iv x]) [] (toSt Tryz.prog 42 .normal [] (SRi l x [] false 0)):=
 mp (an (rr l) (an (rr x) (an (rr nilI.length) (an rf (an (rr ((0:Int))) (an (rr nilI) trivial))))))
theorem ri_a (l:List Int) (x:Int) (out:List Int) (k:Nat) (h1:(↑k:Int)<(↑l.length:Int)) (h2:k<l.length) (h3:x<List.getD l k (0:Int)) (h4:out.length+(1:Nat)≤1000000) (h5:(blkIs 3 (.int .i64) (some (ABlk.own 3 (.int .i64) (out++[x]))) (out.length+(1:Nat)) Cap.full)=true) (h6:out.length+(1:Nat)+(1:Nat)≤1000000) (h7: -9223372036854775808≤(↑k:Int)+1∧(↑k:Int)+1≤9223372036854775807) (h8:(out.length+(1:Nat)+(1:Nat))=(out++[x]++[List.getD l k (0:Int)]).length) (h9:(Cap.full)=(capOf (out++[x]++[List.getD l k (0:Int)]).length)):
  Tst.path (vall Tryz.prog (ctrs []) (fl BRi riL) (SRi l x out false k)) [true,true,true,true,true,true,true,true,true,false,false] (toSt Tryz.prog 42 .normal [(64,68,none)] (SRi l x (out++[x]++[l.getD k 0]) true (k+1))):=
 mp (an (decide_eq_true h1) (an rt (an rt (an rt (an rt (an (show(decide ((0:Int)≤(↑k:Int)))=true from decide_eq_true (by omega)) (an (decide_eq_true h2) (an rt (an rt (an rt (an (decide_eq_true h3) (an rt (an rf (an (show(blkIs 3 (.int .i64) (optOwn (nat_lit 3) (.int .i64) out) out.length (capOf out.length))=true from(blkIs_optOwn _ _ _)) (an (show(bounded (out.length+(1:Nat)) (8:Nat))=true from bounded_of h4 (by omega)) (an (show(decide ((0:Int)≤(↑k:Int)))=true from decide_eq_true (by omega)) (an (decide_eq_true h2) (an rt (an rf (an (show(blkIs 3 (.int .i64) (some (ABlk.own 3 (.int .i64) (blkXs (.int .i64) (optOwn (nat_lit 3) (.int .i64) out)++[x]))) (out.length+(1:Nat)) Cap.full)=true from(by simp only [blkXs_optOwn]<;>exact(show(blkIs 3 (.int .i64) (some (ABlk.own 3 (.int .i64) (out++[x]))) (out.length+(1:Nat)) Cap.full)=true from h5))) (an (show(bounded (out.length+(1:Nat)+(1:Nat)) (8:Nat))=true from bounded_of h6 (by omega)) (an (fits_i64 h7) (an (rr l) (an (rr x) (an (an (rr ((0:Nat))) (an h8 h9)) (an rt (an (show((↑k:Int)+1)=((↑(k+(1:Nat)):Int))from(by omega)) (an (show(blkXs (.int .i64) (optOwn (nat_lit 3) (.int .i64) out)++[x]++[List.getD l k (0:Int)])=(out++[x]++[List.getD l k (0:Int)])from(by simp only [blkXs_optOwn]<;>rfl)) trivial))))))))))))))))))))))))))))
theorem ri_b (l:List Int) (x:Int) (out:List Int) (k:Nat) (h1:(↑k:Int)<(↑l.length:Int)) (h2:k<l.length) (h3:¬x<List.getD l k (0:Int)) (h4:out.length+(1:Nat)≤1000000) (h5: -9223372036854775808≤(↑k:Int)+1∧(↑k:Int)+1≤9223372036854775807) (h6:(out.length+(1:Nat))=(out++[List.getD l k (0:Int)]).length) (h7:(Cap.full)=(capOf (out++[List.getD l k (0:Int)]).length)):
  Tst.path (vall Tryz.prog (ctrs []) (fl BRi riL) (SRi l x out false k)) [true,true,true,true,true,true,true,true,false,false] (toSt Tryz.prog 42 .normal [(64,66,none)] (SRi l x (out++[l.getD k 0]) false (k+1))):=
 mp (an (decide_eq_true h1) (an rt (an rt (an rt (an rt (an (show(decide ((0:Int)≤(↑k:Int)))=true from decide_eq_true (by omega)) (an (decide_eq_true h2) (an rt (an rt (an rt (an (decide_eq_false h3) (an (show(decide ((0:Int)≤(↑k:Int)))=true from decide_eq_true (by omega)) (an (decide_eq_true h2) (an rt (an rf (an (show(blkIs 3 (.int .i64) (optOwn (nat_lit 3) (.int .i64) out) out.length (capOf out.length))=true from(blkIs_optOwn _ _ _)) (an (show(bounded (out.length+(1:Nat)) (8:Nat))=true from bounded_of h4 (by omega)) (an (fits_i64 h5) (an (rr l) (an (rr x) (an (an (rr ((0:Nat))) (an h6 h7)) (an rf (an (show((↑k:Int)+1)=((↑(k+(1:Nat)):Int))from(by omega)) (an (show(blkXs (.int .i64) (optOwn (nat_lit 3) (.int .i64) out)++[List.getD l k (0:Int)])=(out++[List.getD l k (0:Int)])from(by simp only [blkXs_optOwn]<;>rfl)) trivial))))))))))))))))))))))))
theorem ri_c (l:List Int) (x:Int) (out:List Int) (k:Nat) (h1:(↑k:Int)<(↑l.length:Int)) (h2:k<l.length) (h3:out.length+(1:Nat)≤1000000) (h4: -9223372036854775808≤(↑k:Int)+1∧(↑k:Int)+1≤9223372036854775807) (h5:(out.length+(1:Nat))=(out++[List.getD l k (0:Int)]).length) (h6:(Cap.full)=(capOf (out++[List.getD l k (0:Int)]).length)):
  Tst.path (vall Tryz.prog (ctrs []) (fl BRi riL) (SRi l x out true k)) [true,false,false,false,false,false,false,false,false,false] (toSt Tryz.prog 42 .normal [(64,66,none)] (SRi l x (out++[l.getD k 0]) true (k+1))):=
 mp (an (decide_eq_true h1) (an rf (an rf (an rf (an rf (an rf (an rf (an rf (an rf (an (show(decide ((0:Int)≤(↑k:Int)))=true from decide_eq_true (by omega)) (an (decide_eq_true h2) (an rt (an rf (an (show(blkIs 3 (.int .i64) (optOwn (nat_lit 3) (.int .i64) out) out.length (capOf out.length))=true from(blkIs_optOwn _ _ _)) (an (show(bounded (out.length+(1:Nat)) (8:Nat))=true from bounded_of h3 (by omega)) (an (fits_i64 h4) (an (rr l) (an (rr x) (an (an (rr ((0:Nat))) (an h5 h6)) (an rt (an (show((↑k:Int)+1)=((↑(k+(1:Nat)):Int))from(by omega)) (an (show(blkXs (.int .i64) (optOwn (nat_lit 3) (.int .i64) out)++[List.getD l k (0:Int)])=(out++[List.getD l k (0:Int)])from(by simp only [blkXs_optOwn]<;>rfl)) trivial))))))))))))))))))))))
theorem ri_e0 (l:List Int) (x:Int) (out:List Int) (k:Nat) (h1:¬(↑k:Int)<(↑l.length:Int)):
  Tst.path (vall Tryz.prog (ctrs []) (fl BRi riL) (SRi l x out false k)) [false] (toSt Tryz.prog 42 (.exit 0) [(64,64,none)] (SRi l x out false k)):=
 mp (an (decide_eq_false h1) (an (rr l) (an (rr x) (an (an (rr ((0:Nat))) (an (rr out.length) (rr (capOf out.length)))) (an rf (an (rr ((↑k:Int))) (an (show(fitOpt Tryz.prog none (optOwn (nat_lit 3) (.int .i64) out) (nat_lit 3) (.int .i64) out)from(fitOpt_refl _ _ _ _)) trivial)))))))
theorem ri_e1 (l:List Int) (x:Int) (out:List Int) (k:Nat) (h1:¬(↑k:Int)<(↑l.length:Int)):
  Tst.path (vall Tryz.prog (ctrs []) (fl BRi riL) (SRi l x out true k)) [false] (toSt Tryz.prog 42 (.exit 0) [(64,64,none)] (SRi l x out true k)):=
 mp (an (decide_eq_false h1) (an (rr l) (an (rr x) (an (an (rr ((0:Nat))) (an (rr out.length) (rr (capOf out.length)))) (an rt (an (rr ((↑k:Int))) (an (show(fitOpt Tryz.prog none (optOwn (nat_lit 3) (.int .i64) out) (nat_lit 3) (.int .i64) out)from(fitOpt_refl _ _ _ _)) trivial)))))))
theorem ri_f0 (l:List Int) (x:Int) (out:List Int) (k:Nat) (h1:out.length+(1:Nat)≤1000000) (h2:(out.length+(1:Nat))=(out++[x]).length) (h3:(out++[x])=(List.take (out.length+(1:Nat)) (List.drop (0:Nat) (out++[x])))) (h4:out.length+(1:Nat)=(0:Nat)∨ownHas 3 (.int .i64) (some (ABlk.own 3 (.int .i64) (blkXs (.int .i64) (optOwn (nat_lit 3) (.int .i64) out)++[x]))) ((0:Nat)+(out.length+(1:Nat))-(1:Nat))=true) (h5:false=true→out.length+(1:Nat)≠(0:Nat)):
  Tst.path (vall Tryz.prog (ctrs []) (List.drop 5 (fl BRi [])) (SRi l x out false k)) [true,false] (toRet Tryz.prog Tryz.f53 true (lv (out++[x]))):=
 mp (an rt (an rt (an rf (an (show(blkIs 3 (.int .i64) (optOwn (nat_lit 3) (.int .i64) out) out.length (capOf out.length))=true from(blkIs_optOwn _ _ _)) (an (show(bounded (out.length+(1:Nat)) (8:Nat))=true from bounded_of h1 (by omega)) (an h2 (an (show(out++[x])=(List.take (out.length+(1:Nat)) (List.drop (0:Nat) (blkXs (.int .i64) (optOwn (nat_lit 3) (.int .i64) out)++[x])))from(by simp only [blkXs_optOwn]<;>exact h3)) (an h4 h5))))))))
theorem ri_f1 (l:List Int) (x:Int) (out:List Int) (k:Nat) (h1:(out)=(List.take out.length (List.drop (0:Nat) out))) (h2:out.length=(0:Nat)∨ownHas 3 (.int .i64) (optOwn (nat_lit 3) (.int .i64) out) ((0:Nat)+out.length-(1:Nat))=true) (h3:false=true→out.length≠(0:Nat)):
  Tst.path (vall Tryz.prog (ctrs []) (List.drop 5 (fl BRi [])) (SRi l x out true k)) [false] (toRet Tryz.prog Tryz.f53 true (lv out)):=
 mp (an rf (an (rr out.length) (an (show out=(List.take out.length (List.drop (0:Nat) (blkXs (.int .i64) (optOwn (nat_lit 3) (.int .i64) out))))from(by simp only [blkXs_optOwn]<;>exact h1)) (an h2 h3))))
abbrev rwL:List Nat:=[1,0,1,0,0]
def SRw (l:List Int) (x:Int) (k:Nat):St:={n:=30,sl:=[(0,lv l),(1,iv x),(6,iv k)],en:=[],next:=64}
theorem rw_start (l:List Int) (x:Int):
  Tst.path (vrun0 Tryz.prog (ctrs []) (fl BRw []) 2 30 [lv l,iv x]) [] (toSt Tryz.prog 30 .normal [] (SRw l x 0)):=
 mp (an (rr l) (an (rr x) (an (rr ((0:Int))) trivial)))
theorem rw_h00 (l:List Int) (x:Int) (k:Nat) (h1:(↑k:Int)<(↑l.length:Int)) (h2:k<l.length) (h3:List.getD l k (0:Int)=x) (h4:k≤l.length) (h5:(Nat.beq (List.drop (0:Nat) (List.take k l)).length (0:Nat))=false) (h6:(List.drop (0:Nat) (List.take k l)).length≤1000000) (h7: -9223372036854775808≤(↑k:Int)+1∧(↑k:Int)+1≤9223372036854775807) (h8:Int.toNat ((↑k:Int)+1)≤l.length) (h9:(Nat.beq (List.drop (Int.toNat ((↑k:Int)+1)) (List.take l.length l)).length (0:Nat))=false) (h10:(blkIs (3:Nat) (.int .i64) (some (ABlk.own (3:Nat) (.int .i64) (blkXs (.int .i64) none++List.drop (0:Nat) (List.take k l)))) (List.drop (0:Nat) (List.take k l)).length Cap.full)=true) (h11:(List.drop (0:Nat) (List.take k l)).length+(List.drop (Int.toNat ((↑k:Int)+1)) (List.take l.length l)).length≤1000000) (h12:((List.drop (0:Nat) (List.take k l)).length+(List.drop (Int.toNat ((↑k:Int)+1)) (List.take l.length l)).length)=(List.take k l++List.drop (k+(1:Nat)) l).length) (h13:(List.take k l++List.drop (k+(1:Nat)) l)=(List.take ((List.drop (0:Nat) (List.take k l)).length+(List.drop (Int.toNat ((↑k:Int)+1)) (List.take l.length l)).length) (List.drop (0:Nat) (blkXs (.int .i64) none++List.drop (0:Nat) (List.take k l)++List.drop (Int.toNat ((↑k:Int)+1)) (List.take l.length l))))) (h14:(0:Nat)+(List.drop (0:Nat) (List.take k l)).length+(List.drop (Int.toNat ((↑k:Int)+1)) (List.take l.length l)).length=(0:Nat)∨ownHas (3:Nat) (.int .i64) (some (ABlk.own (3:Nat) (.int .i64) (blkXs (.int .i64) none++List.drop (0:Nat) (List.take k l)++List.drop (Int.toNat ((↑k:Int)+1)) (List.take l.length l)))) ((0:Nat)+((0:Nat)+(List.drop (0:Nat) (List.take k l)).length+(List.drop (Int.toNat ((↑k:Int)+1)) (List.take l.length l)).length)-(1:Nat))=true) (h15:false=true→(0:Nat)+(List.drop (0:Nat) (List.take (Int.toNat (↑k:Int)) l)).length+(List.drop (Int.toNat ((↑k:Int)+1)) (List.take l.length l)).length≠(0:Nat)):
  Tst.path (vall Tryz.prog (ctrs []) (fl BRw rwL) (SRw l x k)) [true,true,false,false] (toRet Tryz.prog Tryz.f54 false (.tuple [lv (l.take k++l.drop (k+1)),bv true])):=
 mp (an (decide_eq_true h1) (an (show(decide ((0:Int)≤(↑k:Int)))=true from decide_eq_true (by omega)) (an (decide_eq_true h2) (an (beq_iff_eq.mpr h3) (an (show(decide ((0:Int)≤(↑k:Int)))=true from decide_eq_true (by omega)) (an (show(decide ((0:Nat)≤k))=true from decide_eq_true (by omega)) (an (decide_eq_true h4) (an rt (an h5 (an rt (an (show(bounded ((0:Nat)+(List.drop (0:Nat) (List.take k l)).length) (8:Nat))=true from(by simp only [Nat.zero_add]<;>exact(show(bounded (List.drop (0:Nat) (List.take k l)).length (8:Nat))=true from bounded_of h6 (by omega)))) (an (fits_i64 h7) (an (show(decide ((0:Int)≤(↑k:Int)+1))=true from decide_eq_true (by omega)) (an (decide_eq_true h8) (an (show(decide (l.length≤l.length))=true from decide_eq_true (by omega)) (an rt (an h9 (an (show(blkIs (3:Nat) (.int .i64) (some (ABlk.own (3:Nat) (.int .i64) (blkXs (.int .i64) none++List.drop (0:Nat) (List.take k l)))) ((0:Nat)+(List.drop (0:Nat) (List.take k l)).length) Cap.full)=true from(by simp only [Nat.zero_add]<;>exact(show(blkIs (3:Nat) (.int .i64) (some (ABlk.own (3:Nat) (.int .i64) (blkXs (.int .i64) none++List.drop (0:Nat) (List.take k l)))) (List.drop (0:Nat) (List.take k l)).length Cap.full)=true from h10))) (an (show(bounded ((0:Nat)+(List.drop (0:Nat) (List.take k l)).length+(List.drop (Int.toNat ((↑k:Int)+1)) (List.take l.length l)).length) (8:Nat))=true from(by simp only [Nat.zero_add]<;>exact(show(bounded ((List.drop (0:Nat) (List.take k l)).length+(List.drop (Int.toNat ((↑k:Int)+1)) (List.take l.length l)).length) (8:Nat))=true from bounded_of h11 (by omega)))) (an (an (show((0:Nat)+(List.drop (0:Nat) (List.take k l)).length+(List.drop (Int.toNat ((↑k:Int)+1)) (List.take l.length l)).length)=(List.take k l++List.drop (k+(1:Nat)) l).length from(by simp only [Nat.zero_add]<;>exact h12)) (an (show(List.take k l++List.drop (k+(1:Nat)) l)=(List.take ((0:Nat)+(List.drop (0:Nat) (List.take k l)).length+(List.drop (Int.toNat ((↑k:Int)+1)) (List.take l.length l)).length) (List.drop (0:Nat) (blkXs (.int .i64) none++List.drop (0:Nat) (List.take k l)++List.drop (Int.toNat ((↑k:Int)+1)) (List.take l.length l))))from(by simp only [Nat.zero_add]<;>exact h13)) (an h14 h15))) (an rt trivial)))))))))))))))))))))
theorem rw_h01 (l:List Int) (x:Int) (k:Nat) (h1:(↑k:Int)<(↑l.length:Int)) (h2:k<l.length) (h3:List.getD l k (0:Int)=x) (h4:k≤l.length) (h5:(Nat.beq (List.drop (0:Nat) (List.take k l)).length (0:Nat))=false) (h6:(List.drop (0:Nat) (List.take k l)).length≤1000000) (h7: -9223372036854775808≤(↑k:Int)+1∧(↑k:Int)+1≤9223372036854775807) (h8:Int.toNat ((↑k:Int)+1)≤l.length) (h9:(List.drop (Int.toNat ((↑k:Int)+1)) (List.take l.length l)).length=(0:Nat)) (h10:(List.drop (0:Nat) (List.take k l)).length=(List.take k l++List.drop (k+(1:Nat)) l).length) (h11:(List.take k l++List.drop (k+(1:Nat)) l)=(List.take (List.drop (0:Nat) (List.take k l)).length (List.drop (0:Nat) (blkXs (.int .i64) none++List.drop (0:Nat) (List.take k l))))) (h12:(0:Nat)+(List.drop (0:Nat) (List.take k l)).length=(0:Nat)∨ownHas (3:Nat) (.int .i64) (some (ABlk.own (3:Nat) (.int .i64) (blkXs (.int .i64) none++List.drop (0:Nat) (List.take k l)))) ((0:Nat)+((0:Nat)+(List.drop (0:Nat) (List.take k l)).length)-(1:Nat))=true) (h13:false=true→(0:Nat)+(List.drop (0:Nat) (List.take (Int.toNat (↑k:Int)) l)).length≠(0:Nat)):
  Tst.path (vall Tryz.prog (ctrs []) (fl BRw rwL) (SRw l x k)) [true,true,false,true] (toRet Tryz.prog Tryz.f54 false (.tuple [lv (l.take k++l.drop (k+1)),bv true])):=
 mp (an (decide_eq_true h1) (an (show(decide ((0:Int)≤(↑k:Int)))=true from decide_eq_true (by omega)) (an (decide_eq_true h2) (an (beq_iff_eq.mpr h3) (an (show(decide ((0:Int)≤(↑k:Int)))=true from decide_eq_true (by omega)) (an (show(decide ((0:Nat)≤k))=true from decide_eq_true (by omega)) (an (decide_eq_true h4) (an rt (an h5 (an rt (an (show(bounded ((0:Nat)+(List.drop (0:Nat) (List.take k l)).length) (8:Nat))=true from(by simp only [Nat.zero_add]<;>exact(show(bounded (List.drop (0:Nat) (List.take k l)).length (8:Nat))=true from bounded_of h6 (by omega)))) (an (fits_i64 h7) (an (show(decide ((0:Int)≤(↑k:Int)+1))=true from decide_eq_true (by omega)) (an (decide_eq_true h8) (an (show(decide (l.length≤l.length))=true from decide_eq_true (by omega)) (an rt (an (beq_of h9) (an (an (show((0:Nat)+(List.drop (0:Nat) (List.take k l)).length)=(List.take k l++List.drop (k+(1:Nat)) l).length from(by simp only [Nat.zero_add]<;>exact h10)) (an (show(List.take k l++List.drop (k+(1:Nat)) l)=(List.take ((0:Nat)+(List.drop (0:Nat) (List.take k l)).length) (List.drop (0:Nat) (blkXs (.int .i64) none++List.drop (0:Nat) (List.take k l))))from(by simp only [Nat.zero_add]<;>exact h11)) (an h12 h13))) (an rt trivial)))))))))))))))))))
theorem rw_h10 (l:List Int) (x:Int) (k:Nat) (h1:(↑k:Int)<(↑l.length:Int)) (h2:k<l.length) (h3:List.getD l k (0:Int)=x) (h4:k≤l.length) (h5:(List.drop (0:Nat) (List.take k l)).length=(0:Nat)) (h6: -9223372036854775808≤(↑k:Int)+1∧(↑k:Int)+1≤9223372036854775807) (h7:Int.toNat ((↑k:Int)+1)≤l.length) (h8:(Nat.beq (List.drop (Int.toNat ((↑k:Int)+1)) (List.take l.length l)).length (0:Nat))=false) (h9:(List.drop (Int.toNat ((↑k:Int)+1)) (List.take l.length l)).length≤1000000) (h10:(List.drop (Int.toNat ((↑k:Int)+1)) (List.take l.length l)).length=(List.take k l++List.drop (k+(1:Nat)) l).length) (h11:(List.take k l++List.drop (k+(1:Nat)) l)=(List.take (List.drop (Int.toNat ((↑k:Int)+1)) (List.take l.length l)).length (List.drop (0:Nat) (blkXs (.int .i64) none++List.drop (Int.toNat ((↑k:Int)+1)) (List.take l.length l))))) (h12:(0:Nat)+(List.drop (Int.toNat ((↑k:Int)+1)) (List.take l.length l)).length=(0:Nat)∨ownHas (3:Nat) (.int .i64) (some (ABlk.own (3:Nat) (.int .i64) (blkXs (.int .i64) none++List.drop (Int.toNat ((↑k:Int)+1)) (List.take l.length l)))) ((0:Nat)+((0:Nat)+(List.drop (Int.toNat ((↑k:Int)+1)) (List.take l.length l)).length)-(1:Nat))=true) (h13:false=true→(0:Nat)+(List.drop (Int.toNat ((↑k:Int)+1)) (List.take l.length l)).length≠(0:Nat)):
  Tst.path (vall Tryz.prog (ctrs []) (fl BRw rwL) (SRw l x k)) [true,true,true,false] (toRet Tryz.prog Tryz.f54 false (.tuple [lv (l.take k++l.drop (k+1)),bv true])):=
 mp (an (decide_eq_true h1) (an (show(decide ((0:Int)≤(↑k:Int)))=true from decide_eq_true (by omega)) (an (decide_eq_true h2) (an (beq_iff_eq.mpr h3) (an (show(decide ((0:Int)≤(↑k:Int)))=true from decide_eq_true (by omega)) (an (show(decide ((0:Nat)≤k))=true from decide_eq_true (by omega)) (an (decide_eq_true h4) (an rt (an (beq_of h5) (an (fits_i64 h6) (an (show(decide ((0:Int)≤(↑k:Int)+1))=true from decide_eq_true (by omega)) (an (decide_eq_true h7) (an (show(decide (l.length≤l.length))=true from decide_eq_true (by omega)) (an rt (an h8 (an rt (an (show(bounded ((0:Nat)+(List.drop (Int.toNat ((↑k:Int)+1)) (List.take l.length l)).length) (8:Nat))=true from(by simp only [Nat.zero_add]<;>exact(show(bounded (List.drop (Int.toNat ((↑k:Int)+1)) (List.take l.length l)).length (8:Nat))=true from bounded_of h9 (by omega)))) (an (an (show((0:Nat)+(List.drop (Int.toNat ((↑k:Int)+1)) (List.take l.length l)).length)=(List.take k l++List.drop (k+(1:Nat)) l).length from(by simp only [Nat.zero_add]<;>exact h10)) (an (show(List.take k l++List.drop (k+(1:Nat)) l)=(List.take ((0:Nat)+(List.drop (Int.toNat ((↑k:Int)+1)) (List.take l.length l)).length) (List.drop (0:Nat) (blkXs (.int .i64) none++List.drop (Int.toNat ((↑k:Int)+1)) (List.take l.length l))))from(by simp only [Nat.zero_add]<;>exact h11)) (an h12 h13))) (an rt trivial)))))))))))))))))))
theorem rw_h11 (l:List Int) (x:Int) (k:Nat) (h1:(↑k:Int)<(↑l.length:Int)) (h2:k<l.length) (h3:List.getD l k (0:Int)=x) (h4:k≤l.length) (h5:(List.drop (0:Nat) (List.take k l)).length=(0:Nat)) (h6: -9223372036854775808≤(↑k:Int)+1∧(↑k:Int)+1≤9223372036854775807) (h7:Int.toNat ((↑k:Int)+1)≤l.length) (h8:(List.drop (Int.toNat ((↑k:Int)+1)) (List.take l.length l)).length=(0:Nat)) (h9:((0:Nat))=(List.take k l++List.drop (k+(1:Nat)) l).length) (h10:(List.take k l++List.drop (k+(1:Nat)) l)=(List.take (0:Nat) (List.drop (0:Nat) (blkXs (.int .i64) none)))) (h11:(0:Nat)=(0:Nat)∨false=true) (h12:false=true→(0:Nat)≠(0:Nat)):
  Tst.path (vall Tryz.prog (ctrs []) (fl BRw rwL) (SRw l x k)) [true,true,true,true] (toRet Tryz.prog Tryz.f54 false (.tuple [lv (l.take k++l.drop (k+1)),bv true])):=
 mp (an (decide_eq_true h1) (an (show(decide ((0:Int)≤(↑k:Int)))=true from decide_eq_true (by omega)) (an (decide_eq_true h2) (an (beq_iff_eq.mpr h3) (an (show(decide ((0:Int)≤(↑k:Int)))=true from decide_eq_true (by omega)) (an (show(decide ((0:Nat)≤k))=true from decide_eq_true (by omega)) (an (decide_eq_true h4) (an rt (an (beq_of h5) (an (fits_i64 h6) (an (show(decide ((0:Int)≤(↑k:Int)+1))=true from decide_eq_true (by omega)) (an (decide_eq_true h7) (an (show(decide (l.length≤l.length))=true from decide_eq_true (by omega)) (an rt (an (beq_of h8) (an (an h9 (an h10 (an h11 h12))) (an rt trivial)))))))))))))))))
theorem rw_go (l:List Int) (x:Int) (k:Nat) (h1:(↑k:Int)<(↑l.length:Int)) (h2:k<l.length) (h3:¬List.getD l k (0:Int)=x) (h4: -9223372036854775808≤(↑k:Int)+1∧(↑k:Int)+1≤9223372036854775807):
  Tst.path (vall Tryz.prog (ctrs []) (fl BRw rwL) (SRw l x k)) [true,false] (toSt Tryz.prog 30 .normal [] (SRw l x (k+1))):=
 mp (an (decide_eq_true h1) (an (show(decide ((0:Int)≤(↑k:Int)))=true from decide_eq_true (by omega)) (an (decide_eq_true h2) (an (beq_eq_false_iff_ne.mpr h3) (an (fits_i64 h4) (an (rr l) (an (rr x) (an (show((↑k:Int)+1)=((↑(k+(1:Nat)):Int))from(by omega)) trivial))))))))
theorem rw_end (l:List Int) (x:Int) (k:Nat) (h1:¬(↑k:Int)<(↑l.length:Int)):
  Tst.path (vall Tryz.prog (ctrs []) (fl BRw rwL) (SRw l x k)) [false] (toSt Tryz.prog 30 (.exit 0) [] (SRw l x k)):=
 mp (an (decide_eq_false h1) (an (rr l) (an (rr x) (an (rr ((↑k:Int))) trivial))))
theorem rw_fin (l:List Int) (x:Int) (k:Nat):
  Tst.path (vall Tryz.prog (ctrs []) (List.drop 3 (fl BRw [])) (SRw l x k)) [] (toRet Tryz.prog Tryz.f54 false (.tuple [lv l,bv false])):=
 mp (an (rr l) (an rf trivial))
abbrev rpL:List Nat:=[1,1,0,1,0,0]
def SRp (a b:List Int) (out:List (Int×Int)) (k:Nat):St:={n:=26,sl:=[(0,lv a),(1,lv b),(5,obP 64 out),(6,iv k)],en:=[(64,oeP out)],next:=65}
theorem rp_start (a b:List Int):
  Tst.path (vrun0 Tryz.prog (ctrs []) (fl BRp []) 3 26 [lv a,lv b]) [] (toSt Tryz.prog 26 .normal [] (SRp a b [] 0)):=
 mp (an (rr a) (an (rr b) (an (rr nilP.length) (an (rr ((0:Int))) (an (rr nilP) trivial)))))
theorem rp_go (a b:List Int) (out:List (Int×Int)) (k:Nat) (h1:(↑k:Int)<(↑a.length:Int)) (h2:k<a.length) (h3:k<b.length) (h4:out.length+(1:Nat)≤1000000) (h5: -9223372036854775808≤(↑k:Int)+1∧(↑k:Int)+1≤9223372036854775807) (h6:(out.length+(1:Nat))=(out++[(List.getD a k (0:Int),List.getD b k (0:Int))]).length) (h7:(Cap.full)=(capOf (out++[(List.getD a k (0:Int),List.getD b k (0:Int))]).length)):
  Tst.path (vall Tryz.prog (ctrs []) (fl BRp rpL) (SRp a b out k)) [true,false] (toSt Tryz.prog 26 .normal [(64,66,none)] (SRp a b (out++[(a.getD k 0,b.getD k 0)]) (k+1))):=
 mp (an (decide_eq_true h1) (an (show(decide ((0:Int)≤(↑k:Int)))=true from decide_eq_true (by omega)) (an (decide_eq_true h2) (an (sr (iv (List.getD a k (0:Int)))) (an (show(decide ((0:Int)≤(↑k:Int)))=true from decide_eq_true (by omega)) (an (decide_eq_true h3) (an (sr (iv (List.getD b k (0:Int)))) (an (sr (iv (List.getD b k (0:Int)))) (an (sr (iv (List.getD a k (0:Int)))) (an rt (an rf (an (show(blkIs 60 tP2 (optOwn (nat_lit 60) tP2 out) out.length (capOf out.length))=true from(blkIs_optOwn _ _ _)) (an (show(bounded (out.length+(1:Nat)) (16:Nat))=true from bounded_of h4 (by omega)) (an (sr (iv (List.getD b k (0:Int)))) (an (sr (iv (List.getD a k (0:Int)))) (an (fits_i64 h5) (an (rr a) (an (rr b) (an (an (rr ((0:Nat))) (an h6 h7)) (an (show((↑k:Int)+1)=((↑(k+(1:Nat)):Int))from(by omega)) (an (show(blkXs tP2 (optOwn (nat_lit 60) tP2 out)++[(List.getD a k (0:Int),List.getD b k (0:Int))])=(out++[(List.getD a k (0:Int),List.getD b k (0:Int))])from(by simp only [blkXs_optOwn]<;>rfl)) trivial)))))))))))))))))))))
theorem rp_end (a b:List Int) (out:List (Int×Int)) (k:Nat) (h1:¬(↑k:Int)<(↑a.length:Int)):
  Tst.path (vall Tryz.prog (ctrs []) (fl BRp rpL) (SRp a b out k)) [false] (toSt Tryz.prog 26 (.exit 0) [(64,64,none)] (SRp a b out k)):=
 mp (an (decide_eq_false h1) (an (rr a) (an (rr b) (an (an (rr ((0:Nat))) (an (rr out.length) (rr (capOf out.length)))) (an (rr ((↑k:Int))) (an (show(fitOpt Tryz.prog none (optOwn (nat_lit 60) tP2 out) (nat_lit 60) tP2 out)from(fitOpt_refl _ _ _ _)) trivial))))))
theorem rp_fin (a b:List Int) (out:List (Int×Int)) (k:Nat) (h1:(out)=(List.take out.length (List.drop (0:Nat) out))) (h2:out.length=(0:Nat)∨ownHas 60 tP2 (optOwn (nat_lit 60) tP2 out) ((0:Nat)+out.length-(1:Nat))=true) (h3:false=true→out.length≠(0:Nat)):
  Tst.path (vall Tryz.prog (ctrs []) (List.drop 4 (fl BRp [])) (SRp a b out k)) [] (toRet Tryz.prog Tryz.f55 true (pl out)):=
 mp (an (rr out.length) (an (show out=(List.take out.length (List.drop (0:Nat) (blkXs tP2 (optOwn (nat_lit 60) tP2 out))))from(by simp only [blkXs_optOwn]<;>exact h1)) (an h2 h3)))
noncomputable def BGj:Code:=(Tryz.f50.body).getD .skip
def SGj (a b:List Int) (out:List (Int×Int)) (k:Nat):St:={n:=26,sl:=[(0,lv a),(1,lv b),(5,obP 64 out),(8,iv a.length),(9,iv k)],en:=[(64,oeP out)],next:=65}
theorem gj_start (a b:List Int):
  Tst.path (vrun0 Tryz.prog (ctrs []) (fl BGj []) 3 26 [lv a,lv b]) [] (toSt Tryz.prog 26 .normal [] (SGj a b [] 0)):=
 mp (an (rr a) (an (rr b) (an (rr nilP.length) (an (rr ((↑a.length:Int))) (an (rr ((0:Int))) (an (rr nilP) trivial))))))
theorem gj_go (a b:List Int) (out:List (Int×Int)) (k:Nat) (h1:(↑k:Int)<(↑a.length:Int)) (h2:k<a.length) (h3:k<b.length) (h4:out.length+(1:Nat)≤1000000) (h5: -9223372036854775808≤(↑k:Int)+1∧(↑k:Int)+1≤9223372036854775807) (h6:(out.length+(1:Nat))=(out++[(List.getD a k (0:Int),List.getD b k (0:Int))]).length) (h7:(Cap.full)=(capOf (out++[(List.getD a k (0:Int),List.getD b k (0:Int))]).length)):
  Tst.path (vall Tryz.prog (ctrs []) (fl BGj rpL) (SGj a b out k)) [true,false] (toSt Tryz.prog 26 .normal [(64,66,none)] (SGj a b (out++[(a.getD k 0,b.getD k 0)]) (k+1))):=
 mp (an (decide_eq_true h1) (an (show(decide ((0:Int)≤(↑k:Int)))=true from decide_eq_true (by omega)) (an (decide_eq_true h2) (an (sr (iv (List.getD a k (0:Int)))) (an (show(decide ((0:Int)≤(↑k:Int)))=true from decide_eq_true (by omega)) (an (decide_eq_true h3) (an (sr (iv (List.getD b k (0:Int)))) (an (sr (iv (List.getD b k (0:Int)))) (an (sr (iv (List.getD a k (0:Int)))) (an rt (an rf (an (show(blkIs 60 tP2 (optOwn (nat_lit 60) tP2 out) out.length (capOf out.length))=true from(blkIs_optOwn _ _ _)) (an (show(bounded (out.length+(1:Nat)) (16:Nat))=true from bounded_of h4 (by omega)) (an (sr (iv (List.getD b k (0:Int)))) (an (sr (iv (List.getD a k (0:Int)))) (an (fits_i64 h5) (an (rr a) (an (rr b) (an (an (rr ((0:Nat))) (an h6 h7)) (an (rr ((↑a.length:Int))) (an (show((↑k:Int)+1)=((↑(k+(1:Nat)):Int))from(by omega)) (an (show(blkXs tP2 (optOwn (nat_lit 60) tP2 out)++[(List.getD a k (0:Int),List.getD b k (0:Int))])=(out++[(List.getD a k (0:Int),List.getD b k (0:Int))])from(by simp only [blkXs_optOwn]<;>rfl)) trivial))))))))))))))))))))))
theorem gj_end (a b:List Int) (out:List (Int×Int)) (k:Nat) (h1:¬(↑k:Int)<(↑a.length:Int)):
  Tst.path (vall Tryz.prog (ctrs []) (fl BGj rpL) (SGj a b out k)) [false] (toSt Tryz.prog 26 (.exit 0) [(64,64,none)] (SGj a b out k)):=
 mp (an (decide_eq_false h1) (an (rr a) (an (rr b) (an (an (rr ((0:Nat))) (an (rr out.length) (rr (capOf out.length)))) (an (rr ((↑a.length:Int))) (an (rr ((↑k:Int))) (an (show(fitOpt Tryz.prog none (optOwn (nat_lit 60) tP2 out) (nat_lit 60) tP2 out)from(fitOpt_refl _ _ _ _)) trivial)))))))
theorem gj_fin (a b:List Int) (out:List (Int×Int)) (k:Nat) (h1:(out)=(List.take out.length (List.drop (0:Nat) out))) (h2:out.length=(0:Nat)∨ownHas 60 tP2 (optOwn (nat_lit 60) tP2 out) ((0:Nat)+out.length-(1:Nat))=true) (h3:false=true→out.length≠(0:Nat)):
  Tst.path (vall Tryz.prog (ctrs []) (List.drop 4 (fl BGj [])) (SGj a b out k)) [] (toRet Tryz.prog Tryz.f50 true (pl out)):=
 mp (an (rr out.length) (an (show out=(List.take out.length (List.drop (0:Nat) (blkXs tP2 (optOwn (nat_lit 60) tP2 out))))from(by simp only [blkXs_optOwn]<;>exact h1)) (an h2 h3)))
theorem cap_sn {α:Type} (l:List α) (x:α):Cap.full=capOf (l++[x]).length:=by simp [capOf]
theorem len_sn {α:Type} (l:List α) (x:α):l.length+1=(l++[x]).length:=by simp
theorem lst_bk {α:Type} (l:List α):l=List.take l.length (List.drop 0 l):=by simp
theorem own_bk (e:TypeId) (t:Ty) (l:List t.den):l.length=0∨ownHas e t (optOwn e t l) (0+l.length-1)=true:=by
 by_cases h:l.length=0
 ·exact .inl h
 ·exact .inr (by rw [ownHas_optOwn];exact decide_eq_true (show 0+l.length-1<l.length by omega))
theorem own_has (e:TypeId) (t:Ty) (l:List t.den) {n:Nat} (h:n<l.length):ownHas e t (some (.own e t l)) n=true:=by
 unfold ownHas
 simp only [Nat.beq_refl,decide_true,Bool.true_and]
 exact Nat.ble_eq_true_of_le h
theorem blk_full (e:TypeId) (t:Ty) (l:List t.den) {n:Nat} (h:l.length=n):blkIs e t (some (.own e t l)) n .full=true:=by
 subst h
 unfold blkIs
 simp [Cap.isFull]
theorem beq0 {n:Nat} (h:n≠0):Nat.beq n 0=false:=by
 cases hb:Nat.beq n 0 with
 |false=>rfl
 |true=>exact absurd (Nat.eq_of_beq_eq_true hb) h
theorem take_is {α:Type} (l:List α) {n:Nat} (h:l.length≤n):l=List.take n (List.drop 0 l):=by rw [List.drop_zero,List.take_of_length_le h]
theorem drop_c5 {l:List Int} {k:Nat} (h:k<l.length):l.drop k=l.getD k 0::l.drop (k+1):=by
 rw [List.drop_eq_getElem_cons h];simp [List.getD_eq_getElem?_getD,h]
def riR (l:List Int) (x:Int) (done:Bool):List Int:=match done with |true=>l|false=>insL l x
theorem ri_holds (l:List Int) (x:Int) (hl:l.length≤1000):Holds Tryz.prog true 53 [lv l,iv x] (lv (insL l x)):=by
 have hS:=none_ok
 obtain⟨r,hr⟩:∃r,insL l x=r:=⟨_,rfl⟩
 rw [hr]
 refine holds_fl (c:=BRi) Tryz.func53 rfl rfl fun w F=> ?_
 refine GoalL.to known mixed hS 4 _ (ri_start l x) (by kernel_rfl) ?_
 refine GoalL.loop (ι:={s:List Int×Bool×Nat//s.2.2≤l.length∧s.1.length≤s.2.2+s.2.1.toNat∧s.1++riR (l.drop s.2.2) x s.2.1=r}) (id:=0) (b:=cat BRi riL) (rest:=List.drop 5 (fl BRi [])) (by kernel_rfl) (fun s=>SRi l x s.1.1 s.1.2.1 s.1.2.2) (fun s=>l.length-s.1.2.2) ⟨([],false,0),Nat.zero_le _,Nat.zero_le _,hr⟩ (fun _=>rfl) ?_
 rintro⟨⟨out,done,k⟩,hk,ho,hx⟩
 have hk:k≤l.length:=hk
 have ho:out.length≤k+done.toNat:=ho
 have hx:out++riR (l.drop k) x done=r:=hx
 by_cases hlt:k<l.length
 ·rw [drop_c5 hlt]at hx
  cases done with
  |true=>
   refine GoalL.all (s:=SRi l x out true k) known mixed hS _ (ri_c l x out k (by omega) hlt (by have:out.length≤k+1:=Nat.le_trans ho (by simp [Bool.toNat]);omega) (by omega) (len_sn _ _) (cap_sn _ _)) (by kernel_rfl) ?_
   refine⟨⟨(out++[l.getD k 0],true,k+1),hlt,by have:out.length≤k+1:=ho;show(out++[l.getD k 0]).length≤k+1+1;simp;omega, ?_⟩,by show l.length-(k+1)<l.length-k;omega,rfl,rfl⟩
   rw [←hx];simp [riR]
  |false=>
   by_cases hc:x<l.getD k 0
   ·refine GoalL.all (s:=SRi l x out false k) known mixed hS _ (ri_a l x out k (by omega) hlt hc (by have:out.length≤k+1:=Nat.le_trans ho (by simp [Bool.toNat]);omega) (blk_full _ (.int .i64) _ (by simp)) (by have:out.length≤k+1:=Nat.le_trans ho (by simp [Bool.toNat]);omega) (by omega) (by simp) (by simp [capOf])) (by kernel_rfl) ?_
    refine⟨⟨(out++[x]++[l.getD k 0],true,k+1),hlt,by have:out.length≤k+0:=ho;show(out++[x]++[l.getD k 0]).length≤k+1+1;simp;omega, ?_⟩,by show l.length-(k+1)<l.length-k;omega,rfl,rfl⟩
    rw [←hx];simp only [riR,insL];rw [if_pos hc];simp
   ·refine GoalL.all (s:=SRi l x out false k) known mixed hS _ (ri_b l x out k (by omega) hlt hc (by have:out.length≤k+1:=Nat.le_trans ho (by simp [Bool.toNat]);omega) (by omega) (len_sn _ _) (cap_sn _ _)) (by kernel_rfl) ?_
    refine⟨⟨(out++[l.getD k 0],false,k+1),hlt,by have:out.length≤k+0:=ho;show(out++[l.getD k 0]).length≤k+1+0;simp;omega, ?_⟩,by show l.length-(k+1)<l.length-k;omega,rfl,rfl⟩
    rw [←hx];simp only [riR,insL];rw [if_neg hc];simp
 ·obtain rfl:k=l.length:=by omega
  rw [List.drop_length]at hx
  cases done with
  |true=>
   refine GoalL.all (s:=SRi l x out true l.length) known mixed hS _ (ri_e1 l x out _ (by omega)) (by kernel_rfl) ?_
   refine onN_exit (inB_exit ?_)
   simp only [riR,List.append_nil]at hx
   subst hx
   exact GoalL.allRet (s:=SRi l x out true l.length) known mixed hS _ (ri_f1 l x out _ (lst_bk _) (own_bk _ (.int .i64) _) (fun h=>by cases h)) fun T H h=>h
  |false=>
   refine GoalL.all (s:=SRi l x out false l.length) known mixed hS _ (ri_e0 l x out _ (by omega)) (by kernel_rfl) ?_
   refine onN_exit (inB_exit ?_)
   simp only [riR,insL]at hx
   subst hx
   exact GoalL.allRet (s:=SRi l x out false l.length) known mixed hS _ (ri_f0 l x out _ (by have:out.length≤l.length+0:=ho;omega) (len_sn _ _) (take_is _ (by simp)) (.inr (by rw [blkXs_optOwn];exact own_has _ (.int .i64) _ (by simp))) (fun h=>by cases h)) fun T H h=>h
noncomputable def cRi:Ctr:={f:=53,ps:=[.list false (.int .i64), .int .i64],rs:=[.list false (.int .i64)],fresh:=true,pre:=fun d=>decide (List.length (α:=Int) d.1≤1000),fn:=fun d=>(insL d.1 d.2.1,())}
theorem cRi_ok:cRi.Ok Tryz.prog:=fun⟨l,x,_⟩ h=>ri_holds l x (of_decide_eq_true h)
def woA (l:List Int) (x:Int):List Int:=if x∈l then l.erase x else l
def woB (l:List Int) (x:Int):Bool:=decide (x∈l)
theorem erase_at {l:List Int} {x:Int} {k:Nat} (hk:k<l.length) (h:l.getD k 0=x) (hn:x∉l.take k):x∈l∧l.erase x=l.take k++l.drop (k+1):=by
 have e:l=l.take k++x::l.drop (k+1):=by
  have:=drop_c5 hk
  rw [h]at this
  rw [←this,List.take_append_drop]
 refine⟨by rw [e];simp, ?_⟩
 have e2:l.erase x=(l.take k++x::l.drop (k+1)).erase x:=by rw [←e]
 rw [e2,List.erase_append_right _ hn,List.erase_cons_head]
theorem rw_holds (l:List Int) (x:Int) (hl:l.length≤1000):Holds Tryz.prog false 54 [lv l,iv x] (.tuple [lv (woA l x),bv (woB l x)]):=by
 have hS:=none_ok
 refine holds_fl (c:=BRw) Tryz.func54 rfl rfl fun w F=> ?_
 refine GoalL.to known mixed hS 2 _ (rw_start l x) (by kernel_rfl) ?_
 refine GoalL.loop (ι:={k:Nat//k≤l.length∧x∉l.take k}) (id:=0) (b:=cat BRw rwL) (rest:=List.drop 3 (fl BRw [])) (by kernel_rfl) (fun k=>SRw l x k.1) (fun k=>l.length-k.1) ⟨0,Nat.zero_le _,by simp⟩ (fun _=>rfl) ?_
 rintro⟨k,hk,hx⟩
 have hk:k≤l.length:=hk
 have hx:x∉l.take k:=hx
 by_cases hlt:k<l.length
 ·by_cases hc:l.getD k 0=x
  ·obtain⟨m1,m2⟩:=erase_at hlt hc hx
   have e1:woA l x=l.take k++l.drop (k+1):=by unfold woA;rw [if_pos m1,m2]
   have e2:woB l x=true:=decide_eq_true m1
   rw [e1,e2]
   have t1:((k:Int)+1).toNat=k+1:=by omega
   have z4:List.take l.length l=l:=List.take_length
   have lA:(l.take k).length=k:=by simp;omega
   have lB:(l.drop (k+1)).length=l.length-(k+1):=by simp
   have q0:=rw_h00 l x k;have q1:=rw_h01 l x k;have q2:=rw_h10 l x k;have q3:=rw_h11 l x k
   simp only [List.drop_zero,t1,z4,Int.toNat_natCast,Nat.zero_add]at q0 q1 q2 q3
   have eA:(l.take k)=[]→(l.drop (k+1))=(l.take k)++(l.drop (k+1)):=fun h=>by rw [h];rfl
   have eB:(l.drop (k+1))=[]→(l.take k)=(l.take k)++(l.drop (k+1)):=fun h=>by rw [h,List.append_nil]
   by_cases c1:k=0
   ·have hA0:(l.take k)=[]:=List.length_eq_zero_iff.1 (by omega)
    by_cases c2:l.length=k+1
    ·have hB0:(l.drop (k+1))=[]:=List.length_eq_zero_iff.1 (by omega)
     exact GoalL.allRet (s:=SRw l x k) known mixed hS _ (q3 (by omega) hlt hc (by omega) (by omega) (by omega) (by omega) (by omega) (by rw [hA0,hB0];rfl) (by rw [hA0,hB0];rfl) (.inl trivial) (fun h=>by cases h)) fun T H h=>h
    ·exact GoalL.allRet (s:=SRw l x k) known mixed hS _ (q2 (by omega) hlt hc (by omega) (by omega) (by omega) (by omega) (beq0 (by omega)) (by omega) (by rw [←eA hA0]) (by rw [←eA hA0];exact take_is (l.drop (k+1)) (Nat.le_refl _)) (.inr (own_has _ (.int .i64) (l.drop (k+1)) (by omega))) (fun h=>by cases h)) fun T H h=>h
   ·by_cases c2:l.length=k+1
    ·have hB0:(l.drop (k+1))=[]:=List.length_eq_zero_iff.1 (by omega)
     exact GoalL.allRet (s:=SRw l x k) known mixed hS _ (q1 (by omega) hlt hc (by omega) (beq0 (by omega)) (by omega) (by omega) (by omega) (by omega) (by rw [←eB hB0]) (by rw [←eB hB0];exact take_is (l.take k) (Nat.le_refl _)) (.inr (own_has _ (.int .i64) (l.take k) (by omega))) (fun h=>by cases h)) fun T H h=>h
    ·exact GoalL.allRet (s:=SRw l x k) known mixed hS _ (q0 (by omega) hlt hc (by omega) (beq0 (by omega)) (by omega) (by omega) (by omega) (beq0 (by omega)) (blk_full _ (.int .i64) (l.take k) rfl) (by omega) (by simp) (take_is ((l.take k)++(l.drop (k+1))) (by simp)) (.inr (own_has _ (.int .i64) ((l.take k)++(l.drop (k+1))) (by simp;omega))) (fun h=>by cases h)) fun T H h=>h
  ·refine GoalL.all (s:=SRw l x k) known mixed hS _ (rw_go l x k (by omega) hlt hc (by omega)) (by kernel_rfl) ?_
   refine⟨⟨k+1,hlt,fun hm=> ?_⟩,by simp;omega,rfl,rfl⟩
   have e:l.take (k+1)=l.take k++[l.getD k 0]:=by simp [List.getD_eq_getElem?_getD,hlt]
   rw [e,List.mem_append,List.mem_singleton]at hm
   exact hm.elim hx fun h=>hc h.symm
 ·refine GoalL.all (s:=SRw l x k) known mixed hS _ (rw_end l x k (by omega)) (by kernel_rfl) ?_
  refine onN_exit (inB_exit ?_)
  obtain rfl:k=l.length:=by omega
  rw [List.take_length]at hx
  have e1:woA l x=l:=if_neg hx
  have e2:woB l x=false:=decide_eq_false hx
  rw [e1,e2]
  exact GoalL.allRet (s:=SRw l x l.length) known mixed hS _ (rw_fin l x _) fun T H h=>h
noncomputable def cRw:Ctr:={f:=54,ps:=[.list false (.int .i64), .int .i64],rs:=[.list false (.int .i64), .bool],fresh:=false,pre:=fun d=>decide (List.length (α:=Int) d.1≤1000),fn:=fun d=>(woA d.1 d.2.1,woB d.1 d.2.1,())}
theorem cRw_ok:cRw.Ok Tryz.prog:=fun⟨l,x,_⟩ h=>rw_holds l x (of_decide_eq_true h)
def zipI (a b:List Int):List (Int×Int):=List.zip a b
def okZip (a b:List Int):Bool:=decide (a.length≤b.length)&&decide (a.length≤1000)
theorem zip_next {a b:List Int} {k:Nat} (h:k<a.length) (h2:a.length≤b.length):(zipI a b).take (k+1)=(zipI a b).take k++[(a.getD k 0,b.getD k 0)]:=by
 unfold zipI
 have hk:k<(List.zip a b).length:=by simp;omega
 rw [List.take_succ_eq_append_getElem hk]
 simp [List.getD_eq_getElem?_getD,h,show k<b.length by omega]
theorem zip_len {a b:List Int} (h2:a.length≤b.length):(zipI a b).length=a.length:=by unfold zipI;simp;omega
theorem rp_holds (a b:List Int) (h1:a.length≤b.length) (h2:a.length≤1000):Holds Tryz.prog true 55 [lv a,lv b] (pl (zipI a b)):=by
 have hS:=none_ok
 have hz:=zip_len h1
 refine holds_fl (c:=BRp) Tryz.func55 rfl rfl fun w F=> ?_
 refine GoalL.to known mixed hS 3 _ (rp_start a b) (by kernel_rfl) ?_
 refine GoalL.loop (ι:={k:Nat//k≤a.length}) (id:=0) (b:=cat BRp rpL) (rest:=List.drop 4 (fl BRp [])) (by kernel_rfl) (fun k=>SRp a b ((zipI a b).take k.1) k.1) (fun k=>a.length-k.1) ⟨0,Nat.zero_le _⟩ (fun _=>rfl) ?_
 rintro⟨k,hk⟩
 have hk:k≤a.length:=hk
 by_cases hlt:k<a.length
 ·refine GoalL.all (s:=SRp a b ((zipI a b).take k) k) known mixed hS _ (rp_go a b _ k (by omega) hlt (by omega) (by simp;omega) (by omega) (len_sn _ _) (cap_sn _ _)) (by kernel_rfl) ?_
  rw [←zip_next hlt h1]
  exact⟨⟨k+1,hlt⟩,by simp;omega,rfl,rfl⟩
 ·refine GoalL.all (s:=SRp a b ((zipI a b).take k) k) known mixed hS _ (rp_end a b _ k (by omega)) (by kernel_rfl) ?_
  refine onN_exit (inB_exit ?_)
  obtain rfl:k=a.length:=by omega
  rw [List.take_of_length_le (by omega)]
  exact GoalL.allRet (s:=SRp a b (zipI a b) a.length) known mixed hS _ (rp_fin a b _ _ (lst_bk _) (own_bk _ tP2 _) (fun h=>by cases h)) fun T H h=>h
theorem gj_holds (a b:List Int) (h1:a.length≤b.length) (h2:a.length≤1000):Holds Tryz.prog true 50 [lv a,lv b] (pl (zipI a b)):=by
 have hS:=none_ok
 have hz:=zip_len h1
 refine holds_fl (c:=BGj) Tryz.func50 rfl rfl fun w F=> ?_
 refine GoalL.to known mixed hS 3 _ (gj_start a b) (by kernel_rfl) ?_
 refine GoalL.loop (ι:={k:Nat//k≤a.length}) (id:=0) (b:=cat BGj rpL) (rest:=List.drop 4 (fl BGj [])) (by kernel_rfl) (fun k=>SGj a b ((zipI a b).take k.1) k.1) (fun k=>a.length-k.1) ⟨0,Nat.zero_le _⟩ (fun _=>rfl) ?_
 rintro⟨k,hk⟩
 have hk:k≤a.length:=hk
 by_cases hlt:k<a.length
 ·refine GoalL.all (s:=SGj a b ((zipI a b).take k) k) known mixed hS _ (gj_go a b _ k (by omega) hlt (by omega) (by simp;omega) (by omega) (len_sn _ _) (cap_sn _ _)) (by kernel_rfl) ?_
  rw [←zip_next hlt h1]
  exact⟨⟨k+1,hlt⟩,by simp;omega,rfl,rfl⟩
 ·refine GoalL.all (s:=SGj a b ((zipI a b).take k) k) known mixed hS _ (gj_end a b _ k (by omega)) (by kernel_rfl) ?_
  refine onN_exit (inB_exit ?_)
  obtain rfl:k=a.length:=by omega
  rw [List.take_of_length_le (by omega)]
  exact GoalL.allRet (s:=SGj a b (zipI a b) a.length) known mixed hS _ (gj_fin a b _ _ (lst_bk _) (own_bk _ tP2 _) (fun h=>by cases h)) fun T H h=>h
noncomputable def cRp:Ctr:={f:=55,ps:=[.list false (.int .i64), .list false (.int .i64)],rs:=[.list false tP2],fresh:=true,pre:=fun d=>okZip d.1 d.2.1,fn:=fun d=>(zipI d.1 d.2.1,())}
noncomputable def cGj:Ctr:={f:=50,ps:=[.list false (.int .i64), .list false (.int .i64)],rs:=[.list false tP2],fresh:=true,pre:=fun d=>okZip d.1 d.2.1,fn:=fun d=>(zipI d.1 d.2.1,())}
theorem cRp_ok:cRp.Ok Tryz.prog:=fun⟨a,b,_⟩ h=>by
 have h:(decide (a.length≤b.length)&&decide (a.length≤1000))=true:=h
 simp only [Bool.and_eq_true,decide_eq_true_eq]at h
 exact rp_holds a b h.1 h.2
theorem cGj_ok:cGj.Ok Tryz.prog:=fun⟨a,b,_⟩ h=>by
 have h:(decide (a.length≤b.length)&&decide (a.length≤1000))=true:=h
 simp only [Bool.and_eq_true,decide_eq_true_eq]at h
 exact gj_holds a b h.1 h.2
end
end Go.Proofs.YtjcbbabaabcdgaaGreatDoor
