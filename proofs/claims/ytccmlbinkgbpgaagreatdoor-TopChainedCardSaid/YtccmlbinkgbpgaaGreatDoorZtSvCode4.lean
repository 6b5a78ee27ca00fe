/- The runner over an abstract memory: a step of a region; a region in order. -/
import Derived.Test.YtccmlbinkgbpgaaGreatDoorZtSvOp7
import Derived.LoopNIn
import Derived.RangeFuncIn
import Derived.RangeFuncLeaves
import Derived.RangeFuncRecord
namespace Go.Proofs.YtccmlbinkgbpgaaGreatDoor.Sv
open Go.RowKit
abbrev FF (r:Option Nat):Fence:={Fence.wide with round:=r}
class Ground where
 g:Nat→Option (Array Value→Prop)
set_option linter.unusedSectionVars false
variable [Ground]
structure Glob (ρ:Env):Prop where
 at':∀g,g<64→∃c,ρ g=some (g,c)
 gz:∀b p,Ground.g b=some p→∃A,ρ.fz b=some A∧p A
theorem Glob.mono {ρ ρ':Env} (h:Glob ρ) (hl:Le ρ ρ'):Glob ρ':=⟨fun g hg=>let ⟨c,hc⟩:=h.at' g hg;⟨c,hl _ _ hc⟩,fun b p hb=>let ⟨A,h1,h2⟩:=h.gz b p hb;⟨A,hl.fz _ _ h1,h2⟩⟩
structure AR (P:Program) (B:Nat) (ρ:Env) (n:Nat) (T:Tr AV) (H:AHeap) (a:Act) (w:World):Prop where
 T:TDen ρ T n a.tmps
 H:HDen P B ρ H w
 G:Glob ρ
section
variable {P:Program} {B:Nat} {ρ:Env} {n:Nat} {T:Tr AV} {H:AHeap} {a:Act} {w:World}
theorem evT_ok (hT:TDen ρ T n a.tmps) (hG:Glob ρ) (x:Operand):Den ρ (evT T x) (a.eval x):=by
 cases x with
 |tmp t=>
  have h:=hT.get t
  show Den ρ (@Option.rec AV (fun _=>AV) (.raw undef) (fun v=>v) (T.get t)) (a.tmps.getD t undef)
  cases hg:T.get t with
  |none=>rw [hg]at h;exact h
  |some v=>rw [hg]at h;exact h
 |const v=>exact .raw v
 |global g=>
  show Den ρ (@Bool.rec (fun _=>AV) (.raw (.pointer (some ⟨g,0,none⟩))) (.ptr g 0) (Nat.ble (Nat.succ g) 64)) (.pointer (some ⟨g,0,none⟩))
  cases hb:Nat.ble (Nat.succ g) 64 with
  |false=>exact .raw _
  |true=>obtain⟨c,hc⟩:=hG.at' g (Nat.le_of_ble_eq_true hb);exact .ptr hc
 |func f=>exact .raw _
theorem getD_set (xs:Array Value) (d t:Nat) (x u:Value) (hd:d<xs.size):(xs.setIfInBounds d x).getD t u=if t=d then x else xs.getD t u:=by
 simp only [Array.getD_eq_getD_getElem?,Array.getElem?_setIfInBounds]
 by_cases h:d=t
 ·subst h;simp [hd]
 ·rw [if_neg h,if_neg (fun e=>h e.symm)]
theorem put_ok {dst:Option Tmp} {v:AV} {x:Value} {T1:Tr AV} (hT:TDen ρ T n a.tmps) (hp:putT T n dst v=some T1) (hd:Den ρ v x):TDen ρ T1 n (a.put dst x).tmps:=by
 cases dst with
 |none=>cases hp;exact hT
 |some d=>
  have e:putT T n (some d) v= @Bool.rec (fun _=>Option (Tr AV)) none (some (T.set d (some v))) (Nat.ble (Nat.succ d) n):=rfl
  rw [e]at hp
  cases hb:Nat.ble (Nat.succ d) n with
  |false=>rw [hb]at hp;cases hp
  |true=>
   rw [hb]at hp
   cases hp
   have hlt:d<a.tmps.size:=by rw [hT.size];exact Nat.le_of_ble_eq_true hb
   refine⟨by simp [Act.put,hT.size],fun t=> ?_⟩
   rw [Tr.get_set]
   show Den ρ _ ((a.tmps.setIfInBounds d x).getD t undef)
   rw [getD_set _ _ _ _ _ hlt]
   by_cases h:d=t
   ·subst h;simpa using hd
   ·rw [if_neg h,if_neg (fun e=>h e.symm)];exact hT.get t
theorem put_defers (dst:Option Tmp) (x:Value):(a.put dst x).defers=a.defers:=by cases dst<;>rfl
theorem den_bool {v:AV} {b:Bool} (h:Den ρ v (.bool b)):v= .raw (.bool b)∨v= .bot:=by
 cases h
 ·exact .inl rfl
 ·exact .inr rfl
theorem awanted_ok {ops:Array Oper} {o:Oper} {b:Bool} (hT:TDen ρ T n a.tmps) (h:awanted T ops o=some b):Region.wanted o (yielded ops a.tmps)=b:=by
 unfold Region.wanted
 cases hg:o.guard with
 |none=>
  have:awanted T ops o=some true:=by unfold awanted;rw [hg]
  rw [this]at h;cases h;rfl
 |some g=>
  obtain⟨j,want⟩:=g
  have e:awanted T ops o=awantedG T ops (j,want):=by unfold awanted;rw [hg]
  rw [e]at h
  unfold awantedG at h
  simp only at h ⊢
  cases hd:(ops[j]?).bind (·.dst)with
  |none=>rw [hd]at h;cases h
  |some d=>
   rw [hd]at h
   simp only at h
   have ht:=hT.get d
   -- what the slot yields
   have key:∀b',(yielded ops a.tmps j=some b')→T.get d=some (.raw (.bool b'))∨T.get d=some .bot:=by
    intro b' hy
    unfold yielded at hy
    rw [hd]at hy
    simp only [Option.bind_some]at hy
    split at hy
    ·rename_i b'' hb
     cases hy
     have:a.tmps.getD d undef= .bool b':=by rw [Array.getD_eq_getD_getElem?,hb];rfl
     rw [this]at ht
     have hq:=den_bool ht
     cases hg2:T.get d with
     |none=>rw [hg2]at hq;rcases hq with hq|hq<;>cases hq
     |some v=>rw [hg2]at hq;simp only [Option.getD_some]at hq;rcases hq with hq|hq<;>rw [hq]<;>simp
    ·cases hy
   split at h
   ·rename_i b' hb
    cases h
    have:a.tmps.getD d undef= .bool b':=by rw [hb]at ht;exact ht.raw_eq
    have hy:yielded ops a.tmps j=some b':=by
     unfold yielded
     rw [hd]
     simp only [Option.bind_some]
     rw [Array.getD_eq_getD_getElem?]at this
     cases hx:a.tmps[d]? with
     |none=>rw [hx]at this;cases this
     |some x=>rw [hx]at this;simp only [Option.getD_some]at this;rw [this]
    rw [hy]
    cases b'<;>cases want<;>rfl
   ·cases h
   ·rename_i hno hno2
    cases h
    cases hy:yielded ops a.tmps j with
    |none=>rfl
    |some b'=>exact((key b' hy).elim (fun k=>hno b' k) (fun k=>hno2 k)).elim
def CallPost (P:Program) (B:Nat) (ρ:Env) (H:AHeap) (w:World) (v:AV) (H':AHeap):Ending→World→Prop:=fun e w'=>∃x ρ',e= .returned x∧Den ρ' v x∧HDen P B ρ' H' w'∧Stp ρ H w ρ' H' w'
structure CallOk (P:Program) (call:Caller):Prop where
 mono:∀f args H v H',call f args H= .ok v H'→H.next≤H'.next
 sim:∀f args H v H',call f args H= .ok v H'→∀B ρ (xs:List Value) w m,HDen P B ρ H w→Glob ρ→Dens ρ args xs→Fr ρ H.next H'.next→CallsIn (FF none) m P f xs.toArray w (CallPost P B ρ H w v H')
structure RoundOk (P:Program) (round:Rounder):Prop where
 mono:∀i args H v H',round i args H= .ok v H'→H.next≤H'.next
 sim:∀i args H v H',round i args H= .ok v H'→∀B ρ (xs:List Value) w b c m,HDen P B ρ H w→Glob ρ→ρ i=some (b,c)→Dens ρ args xs→Fr ρ H.next H'.next→
  ∃fn tmps assign body,(Instr.yield b xs.toArray).run P w= .ok (.round b fn tmps assign body) w∧RoundIn (FF none) m P b fn tmps assign body w (CallPost P B ρ H w v H')
theorem defer_no {o:Oper} {ev:Ev} {c:Call} (h:o.op= .defer c):aop o.op P o ev H= .no:=by rw [h];rfl
variable {call:Caller} {round:Rounder}
theorem aoper_mono (hC:CallOk P call) (hR:RoundOk P round) {o:Oper} {ev:Ev} {v:AV} {H':AHeap} (h:aoper P call round o ev H= .ok v H'):H.next≤H'.next:=by
 have hm:=aop_mono (P:=P) (H:=H) (o:=o) (ev:=ev)
 unfold aoper at h
 cases ha:aop o.op P o ev H with
 |no=>rw [ha]at h;cases h
 |ok v1 H1=>rw [ha]at h hm;cases h;exact hm
 |enter f args H1=>rw [ha]at h hm;exact Nat.le_trans hm (hC.mono _ _ _ _ _ h)
 |round i args H1=>rw [ha]at h hm;exact Nat.le_trans hm (hR.mono _ _ _ _ _ h)
theorem aoper_ok (hK:Known P) (hC:CallOk P call) (hR:RoundOk P round) {o:Oper} {v:AV} {H':AHeap} (hAR:AR P B ρ n T H a w) (h:aoper P call round o (evT T) H= .ok v H') (hf:Fr ρ H.next H'.next) (rd:Option Nat) (m:Nat)
  {next:Act→World→Prop} {Q:Exit→Act→World→Prop} (hnext:∀x ρ' w',Den ρ' v x→HDen P B ρ' H' w'→Stp ρ H w ρ' H' w'→next (a.put o.dst x) w'):o.wpIn (FF rd) m P a w next Q:=by
 have ho:=aop_ok (P:=P) (B:=B) (ρ:=ρ) (H:=H) (w:=w) (o:=o) (ev:=evT T) (e:=a.eval) hK hAR.H (evT_ok hAR.T hAR.G)
 have hsem:o.semAt (FF rd).round a.eval=execOp a.eval o:=Oper.semAt_eq _ _ _ fun c hc=>by
  unfold aoper at h
  rw [defer_no hc]at h
  cases h
 refine⟨fun _ _=>trivial, ?_⟩
 rw [hsem]
 have hdep:(FF rd).depth.isSome=true→1≤m:=fun hh=>by cases hh
 have post:∀{e w''},CallPost P B ρ H w v H' e w''→(match e,w'' with
   | .returned v,w''=>next (a.put o.dst v) w''
   | .panicked chain,w''=>Q (.panic chain) a w''
   | .outgrown,_=>LetsOut Q:Prop):=by
  rintro e w'' ⟨x,ρ',rfl,h1,h2,h3⟩
  exact hnext x ρ' w'' h1 h2 h3
 unfold aoper at h
 cases ha:aop o.op P o (evT T) H with
 |no=>rw [ha]at h;cases h
 |ok v1 H1=>
  rw [ha]at h ho
  cases h
  obtain⟨ρ',x,w',nx,h1,h2,h3,h4,h5⟩:=ho hf
  rw [h1]
  cases nx<;>first |exact h2.elim|skip
  ·cases h2;exact hnext _ ρ' w' h3 h4 h5
  ·cases h2;exact hnext _ ρ' w' h3 h4 h5
 |enter f args H1=>
  rw [ha]at h ho
  obtain⟨rfl,xs,h1,h2⟩:=ho
  rw [h1]
  refine⟨hdep, ?_⟩
  have hc:=(hC.sim f args H1 v H' h B ρ xs w (m-1) hAR.H hAR.G h2 hf).mono (fun e w'' hp=>post hp)
  cases rd with
  |none=>exact hc
  |some l=>exact hc
 |round i args H1=>
  rw [ha]at h ho
  obtain⟨rfl,b,c,xs,h0,h1,h2⟩:=ho
  rw [h1]
  obtain⟨fn,tmps,assign,body,g1,g2⟩:=hR.sim i args H1 v H' h B ρ xs w b c (m-1) hAR.H hAR.G h0 h2 hf
  rw [g1]
  refine⟨hdep, ?_⟩
  have hc:=g2.mono (fun e w'' hp=>post hp)
  cases rd with
  |none=>exact hc
  |some l=>exact hc
theorem AR.next {ρ':Env} {T1:Tr AV} {H':AHeap} {a':Act} {w':World} (h:AR P B ρ n T H a w) (hT:TDen ρ' T1 n a'.tmps) (hH:HDen P B ρ' H' w') (hs:Stp ρ H w ρ' H' w'):AR P B ρ' n T1 H' a' w':=⟨hT,hH,h.G.mono hs.le⟩
theorem astep_ok (hK:Known P) (hC:CallOk P call) (hR:RoundOk P round) {ops:Array Oper} {o:Oper} {i:Nat} (hi:ops[i]? =some o) {k:Tr AV→AHeap→TH} {T':Tr AV} {H':AHeap} (hAR:AR P B ρ n T H a w) (h:astep P call round ops n o T H k= .mk T' H')
  (hkm:∀T1 H1,k T1 H1= .mk T' H'→H1.next≤H'.next) (hf:Fr ρ H.next H'.next) (rd:Option Nat) (m:Nat) {K:Act→World→Prop} {Q:Exit→Act→World→Prop}
  (hK':∀ρ1 T1 H1 a1 w1,k T1 H1= .mk T' H'→AR P B ρ1 n T1 H1 a1 w1→Stp ρ H w ρ1 H1 w1→a1.defers=a.defers→K a1 w1):wpOpIn (FF rd) m P ops Q i K a w:=by
 unfold wpOpIn
 rw [hi]
 simp only
 unfold astep at h
 cases hw:awanted T ops o with
 |none=>rw [hw]at h;cases h
 |some b=>
  rw [hw]at h
  rw [awanted_ok hAR.T hw]
  cases b with
  |false=>
   simp only [Bool.false_eq_true,if_false]
   refine⟨fun _ _=>trivial, ?_⟩
   cases hp:putT T n o.dst (.raw undef)with
   |none=>simp only [hp,th]at h;cases h
   |some T1=>
    simp only [hp,th]at h
    exact hK' ρ T1 H _ w h (hAR.next (put_ok hAR.T hp (.raw undef)) hAR.H (Stp.refl _ _ _)) (Stp.refl _ _ _) (put_defers _ _)
  |true=>
   simp only [if_true]
   cases ha:aoper P call round o (evT T) H with
   |no=>simp only [ha,thV]at h;cases h
   |enter _ _ _=>simp only [ha,thV]at h;cases h
   |round _ _ _=>simp only [ha,thV]at h;cases h
   |ok v H1=>
    simp only [ha,thV]at h
    cases hp:putT T n o.dst v with
    |none=>simp only [hp,th]at h;cases h
    |some T1=>
     simp only [hp,th]at h
     have hm:=hkm T1 H1 h
     refine aoper_ok hK hC hR hAR ha (fun j h1 h2=>hf j h1 (Nat.lt_of_lt_of_le h2 hm)) rd m fun x ρ1 w1 h1 h2 h3=> ?_
     exact hK' ρ1 T1 H1 _ w1 h (hAR.next (put_ok (hAR.T.mono h3.le) hp h1) h2 h3) h3 (put_defers _ _)
theorem Fr.mono' {ρ:Env} {a b c:Nat} (h:Fr ρ a c) (hb:b≤c):Fr ρ a b:=fun i h1 h2=>h i h1 (Nat.lt_of_lt_of_le h2 hb)
theorem Stp.fr {ρ1:Env} {H1 H':AHeap} {w1:World} (h:Stp ρ H w ρ1 H1 w1) (hf:Fr ρ H.next H'.next):Fr ρ1 H1.next H'.next:=fun i h1 h2=>by
 rw [h.ext i (.inr h1)]
 exact hf i (Nat.le_trans h.next h1) h2
theorem astep_mono (hC:CallOk P call) (hR:RoundOk P round) {ops:Array Oper} {o:Oper} {k:Tr AV→AHeap→TH} {T':Tr AV} {H':AHeap} (h:astep P call round ops n o T H k= .mk T' H') (hkm:∀T1 H1,k T1 H1= .mk T' H'→H1.next≤H'.next):H.next≤H'.next:=by
 unfold astep at h
 cases hw:awanted T ops o with
 |none=>rw [hw]at h;cases h
 |some b=>
  rw [hw]at h
  cases b with
  |false=>
   cases hp:putT T n o.dst (.raw undef)with
   |none=>simp only [hp,th]at h;cases h
   |some T1=>simp only [hp,th]at h;exact hkm _ _ h
  |true=>
   cases ha:aoper P call round o (evT T) H with
   |no=>simp only [ha,thV]at h;cases h
   |enter _ _ _=>simp only [ha,thV]at h;cases h
   |round _ _ _=>simp only [ha,thV]at h;cases h
   |ok v H1=>
    simp only [ha,thV]at h
    cases hp:putT T n o.dst v with
    |none=>simp only [hp,th]at h;cases h
    |some T1=>simp only [hp,th]at h;exact Nat.le_trans (aoper_mono hC hR ha) (hkm _ _ h)
theorem aseq_mono (hC:CallOk P call) (hR:RoundOk P round) {ops:Array Oper}:∀(l:List Oper) {T:Tr AV} {H:AHeap} {T':Tr AV} {H':AHeap},aseq P call round ops n l T H= .mk T' H'→H.next≤H'.next
 |[],T,H,T',H',h=>by cases h;exact Nat.le_refl _
 |o::l,T,H,T',H',h=>astep_mono hC hR (k:=aseq P call round ops n l) h fun T1 H1 h1=>aseq_mono hC hR l h1
theorem aseq_ok (hK:Known P) (hC:CallOk P call) (hR:RoundOk P round) {ops:Array Oper} (rd:Option Nat) (m:Nat) {Q:Exit→Act→World→Prop}:∀(l:List Oper) (is:List Nat) {ρ:Env} {T:Tr AV} {H:AHeap} {a:Act} {w:World} {T':Tr AV} {H':AHeap},
  is.map (ops[·]?)=l.map some→AR P B ρ n T H a w→aseq P call round ops n l T H= .mk T' H'→Fr ρ H.next H'.next→
  (∀ρ' a' w',AR P B ρ' n T' H' a' w'→Stp ρ H w ρ' H' w'→a'.defers=a.defers→Q .normal a' w')→wpOpsIn (FF rd) m P ops Q is a w
 |[],[],ρ,T,H,a,w,T',H',_,hAR,h,_,hQ=>by cases h;exact hQ ρ a w hAR (Stp.refl _ _ _) rfl
 |[],_::_,_,_,_,_,_,_,_,hi,_,_,_,_=>by simp at hi
 |_::_,[],_,_,_,_,_,_,_,hi,_,_,_,_=>by simp at hi
 |o::l,i::is,ρ,T,H,a,w,T',H',hi,hAR,h,hf,hQ=>by
  simp only [List.map_cons,List.cons.injEq]at hi
  rw [wpOpsIn_cons]
  refine astep_ok hK hC hR hi.1 (k:=aseq P call round ops n l) hAR h (fun T1 H1 h1=>aseq_mono hC hR l h1) hf rd m fun ρ1 T1 H1 a1 w1 h1 hAR1 hst hd=> ?_
  exact aseq_ok hK hC hR rd m l is hi.2 hAR1 h1 (hst.fr hf) fun ρ' a' w' h2 h3 h4=>hQ ρ' a' w' h2 (hst.trans h3) (h4.trans hd)
end
end Go.Proofs.YtccmlbinkgbpgaaGreatDoor.Sv
/- The runner over an abstract memory: code, calls. -/
namespace Go.Proofs.YtccmlbinkgbpgaaGreatDoor.Sv
open Go.RowKit
set_option linter.unusedSectionVars false
variable [Ground]
def R.out:R→Option (Exit×Tr AV×AHeap×List Nat)
 | .no=>none
 | .normal T H m=>some (.normal,T,H,m)
 | .exit id T H m=>some (.exit id,T,H,m)
 | .goto l T H m=>some (.goto l,T,H,m)
 | .ret T H m=>some (.ret,T,H,m)
def DM (ρ:Env):List Nat→List Deferred→Prop
 |[],ds=>ds=[]
 |i::m,ds=>∃b c ds',ρ i=some (b,c)∧ds={target:= .collected b,args:= #[]}::ds'∧DM ρ m ds'
theorem DM.mono {ρ ρ':Env} (hl:Le ρ ρ'):∀{m:List Nat} {ds:List Deferred},DM ρ m ds→DM ρ' m ds
 |[],_,h=>h
 |_::_,_,⟨b,c,ds',h1,h2,h3⟩=>⟨b,c,ds',hl _ _ h1,h2,DM.mono hl h3⟩
structure RunOk (P:Program) (ih:Runner):Prop where
 mono:∀c n rnd T H m e T' H' m',(ih c n rnd T H m).out=some (e,T',H',m')→H.next≤H'.next
 sim:∀c n rnd T H m e T' H' m',(ih c n rnd T H m).out=some (e,T',H',m')→∀B ρ a w rd k (Q:Exit→Act→World→Prop),rd.isSome=rnd→AR P B ρ n T H a w→DM ρ m a.defers→Fr ρ H.next H'.next→
  (∀ρ' a' w',AR P B ρ' n T' H' a' w'→Stp ρ H w ρ' H' w'→DM ρ' m' a'.defers→Q e a' w')→c.wpIn (FF rd) k P Q a w
structure DrawOk (P:Program) (d:Bool) (draw:ADrawer):Prop where
 mono:∀call round,CallOk P call→RoundOk P round→∀ops n T H T' H',draw call round ops n T H= .mk T' H'→H.next≤H'.next
 sim:∀call round,CallOk P call→RoundOk P round→∀id ops n T H T' H',draw call round ops n T H= .mk T' H'→∀B ρ a w rd k (Q:Exit→Act→World→Prop),AR P B ρ n T H a w→Fr ρ H.next H'.next→
  (∀ρ' a' w',AR P B ρ' n T' H' a' w'→Stp ρ H w ρ' H' w'→a'.defers=a.defers→Q .normal a' w')→(Code.region id ops d).wpIn (FF rd) k P Q a w
section
variable {P:Program} {B:Nat} {ρ:Env} {n:Nat} {T:Tr AV} {H:AHeap} {a:Act} {w:World}
theorem range_map (ops:Array Oper):(List.range ops.size).map (ops[·]?)=ops.toList.map some:=by
 apply List.ext_getElem?
 intro i
 simp only [List.getElem?_map]
 by_cases h:i<ops.size
 ·simp [h]
 ·simp [h]
theorem stepR_scope {b:Frame} {k:List Item} {cs:List Frame} {c:Code}:step P (lone (b.atR a (.code (.scope c)::k)) cs w)= .next (lone (b.atR a (.code c:: .inScope c::k)) cs w):=
 step_lone_go (by simp [stepG,stepG.exec,Frame.atR])
theorem stepR_inScope {b:Frame} {k:List Item} {cs:List Frame} {c:Code}:step P (lone (b.atR a (.inScope c::k)) cs w)= .next (lone (b.atR a k) cs w):=
 step_lone_go (by simp [stepG,stepG.exec,Frame.atR])
theorem wpIn_scope_straight {F:Fence} {n:Nat} {Q:Exit→Act→World→Prop} {c:Code} (h:c.wpIn F n P (Exit.noGoto Q) a w):(Code.scope c).wpIn F n P Q a w:=by
 intro b k cs hro hb hr
 obtain⟨e,a₁,w₁,hq,harr⟩:=h b (.inScope c::k) cs hro hb hr
 have h0:(lone (b.atR a (.code (.scope c)::k)) cs w).fenced P F:=fenced_calm hb hr rfl
 cases e with
 |normal=>exact⟨.normal,a₁,w₁,hq, .head h0 stepR_scope (StepsIn.trans harr (.one (fenced_calm (fr:=b.atR a₁ (.inScope c::k)) hb hr rfl) stepR_inScope))⟩
 |exit id=>
  have hx:exitTo id (.inScope c::k)=exitTo id k:=by simp [exitTo]
  exact⟨.exit id,a₁,w₁,hq,fun k' hk=> .head h0 stepR_scope (harr.1 k' (by rw [hx];exact hk)),fun hr' hk=>let ⟨k₁,h1,h2⟩:=harr.2 hr' (by rw [hx];exact hk);⟨k₁,h1, .head h0 stepR_scope h2⟩⟩
 |goto l=>exact hq.elim
 |ret=>exact⟨_,a₁,w₁,hq, .of_steps (.one h0 stepR_scope) harr⟩
 |panic ch=>exact⟨_,a₁,w₁,hq, .of_steps (.one h0 stepR_scope) harr⟩
 |outgrown=>exact⟨_,a₁,w₁,hq, .of_steps (.one h0 stepR_scope) harr⟩
theorem initT_get:∀(l:List AV) (T:Tr AV) (k t:Nat),(initT l T k).get t=if k≤t∧t<k+l.length then l[t-k]? else T.get t
 |[],T,k,t=>by
  have e:initT [] T k=T:=rfl
  rw [e,if_neg (by simp only [List.length_nil];omega)]
 |v::l,T,k,t=>by
  have e:initT (v::l) T k=initT l (T.set k (some v)) (Nat.succ k):=rfl
  rw [e,initT_get l _ (Nat.succ k) t,Tr.get_set]
  by_cases h1:t=k
  ·subst h1
   rw [if_neg (by omega),if_pos rfl,if_pos (by simp)]
   simp
  ·by_cases h2:Nat.succ k≤t∧t<Nat.succ k+l.length
   ·rw [if_pos h2,if_pos (by simp;omega)]
    have:t-k=(t-Nat.succ k)+1:=by omega
    rw [this];simp
   ·rw [if_neg h2,if_neg (fun e=>h1 e.symm),if_neg (by simp;omega)]
theorem initT_ok {args:List AV} {xs:List Value} (hd:Dens ρ args xs) {n:Nat} (hn:args.length≤n):TDen ρ (initT args .nil 0) n (xs.toArray++Array.replicate (n-xs.toArray.size) undef):=by
 have hl:=hd.length
 refine⟨by simp;omega,fun t=> ?_⟩
 rw [initT_get,Tr.get_nil,Array.getD_eq_getD_getElem?,Array.getElem?_append]
 by_cases h:t<xs.length
 ·rw [if_pos ⟨Nat.zero_le _,by omega⟩,if_pos (by simpa using h)]
  have hv:args[t]? =some (args[t]'(by omega)):=List.getElem?_eq_getElem (by omega)
  obtain⟨x,h1,h2⟩:=hd.get hv
  simp only [Nat.sub_zero,hv,Option.getD_some,List.getElem?_toArray,h1]
  exact h2
 ·rw [if_neg (by omega),if_neg (by simpa using h)]
  simp only [Option.getD_none,Array.getElem?_replicate]
  split<;>exact .raw _
def resOne (tmps:Array Value):ResultVar→Sem Value
 | .tmp t=>pure (tmps.getD t undef)
 | .cell ad t=>do loadVar t (←asAddr (tmps.getD ad undef))
theorem aresult_ok (hAR:AR P B ρ n T H a w) {r:ResultVar} {v:AV} (h:aresult P T H r=some v):∃y,(resOne a.tmps r).run P w= .ok y w∧Den ρ v y:=by
 cases r with
 |tmp t=>cases h;exact⟨_,rfl,hAR.T.get t⟩
 |cell ad t=>
  simp only [aresult]at h
  split at h
  ·rename_i i off ht
   have hp:=hAR.T.get ad
   rw [ht]at hp
   obtain⟨b,c,h1,h2⟩:=hp.ptr_inv
   split at h
   ·rename_i el cs ex frz ro hg
    obtain⟨xs,fz,g1,_,g3,_⟩:=cells_at hAR.H hg h1
    obtain⟨y,k1,k2⟩:=aload_ok g1 g3 h
    exact⟨y,by simp [resOne,h2,asAddr,k1],k2⟩
   ·cases h
  ·cases h
theorem aresultL_ok (hAR:AR P B ρ n T H a w):∀{rs:List ResultVar} {vs:List AV},aresultL P T H rs=some vs→∃ys,(rs.mapM (resOne a.tmps)).run P w= .ok ys w∧Dens ρ vs ys
 |[],vs,h=>by cases h;exact⟨[],by simp, .nil⟩
 |r::rs,vs,h=>by
  simp only [aresultL,Option.bind_eq_some_iff,Option.map_eq_some_iff]at h
  obtain⟨v,hv,vs',hvs,rfl⟩:=h
  obtain⟨y,h1,h2⟩:=aresult_ok hAR hv
  obtain⟨ys,h3,h4⟩:=aresultL_ok hAR hvs
  refine⟨y::ys, ?_, .cons h2 h4⟩
  rw [List.mapM_cons]
  simp only [Sem.run_bind,h1,Result.andThen_ok,h3,Sem.run_pure]
theorem results_run (fn:Func) (tmps:Array Value) (w:World):(results fn tmps).run P w=(((fn.results.toList.mapM (resOne tmps)).run P w).andThen fun(a:List Value) w'=> .ok a.toArray w').andThen fun(a:Array Value) w'=> .ok (if h:a.size=1 then a[0]else .tuple a) w':=by
 unfold results
 rw [Array.mapM_eq_mapM_toList]
 simp only [Sem.run_bind,Sem.run_map,Sem.run_pure]
 rfl
theorem aresults_ok (hAR:AR P B ρ n T H a w) {fn:Func} {v:AV} {H':AHeap} (h:aresults P fn T H= .ok v H'):H'=H∧∃y,(results fn a.tmps).run P w= .ok y w∧Den ρ v y:=by
 have key:∀vs,aresultL P T H fn.results.toList=some vs→∃ys:List Value,(results fn a.tmps).run P w= .ok (if h:ys.toArray.size=1 then ys.toArray[0]else .tuple ys.toArray) w∧Dens ρ vs ys:=by
  intro vs hvs
  obtain⟨ys,h1,h2⟩:=aresultL_ok hAR hvs
  refine⟨ys, ?_,h2⟩
  rw [results_run,h1]
  rfl
 unfold aresults at h
 split at h
 ·rename_i v' hvs
  cases h
  obtain⟨ys,h1,h2⟩:=key _ hvs
  cases h2 with
  |cons h3 h4=>cases h4 with
   |nil=>exact⟨rfl,_,h1,h3⟩
 ·rename_i vs hno hvs
  cases h
  obtain⟨ys,h1,h2⟩:=key _ hvs
  have hl:=h2.length
  have hne:¬ys.toArray.size=1:=fun hh=>by
   have:vs.length=1:=by rw [←hl];simpa using hh
   match vs,this with
   |[v],_=>exact hno v rfl
  rw [dif_neg hne]at h1
  exact⟨rfl,_,h1, .tuple h2⟩
 ·cases h
theorem sim_kill (hH:HDen P B ρ H w) {i b c:Nat} {k0:ABlk} (hi:H.get i=some k0) (hr:ρ i=some (b,c)) (hro:k0.isRo=false) (w':World) (hos:w'.os=w.os) (ht:w'.tape=w.tape) (hout:w'.output=w.output) (hs:w'.heap.size=w.heap.size)
  (hother:∀j,j≠b→w'.heap[j]? =w.heap[j]?):HDen P B ρ (H.drop i) w'∧Stp ρ H w ρ (H.drop i) w':=by
 have g:∀j k,(H.drop i).get j=some k→j≠i∧H.get j=some k:=fun j k hj=>by
  rw [AHeap.get_drop]at hj
  split at hj
  ·cases hj
  ·rename_i e;exact⟨fun x=>e x.symm,hj⟩
 refine⟨⟨fun j k hj=> ?_,fun x y kx ky bb cx cy hx hy=>hH.inj x y kx ky bb cx cy (g x kx hx).2 (g y ky hy).2,fun j k hj=>hH.lt j k (g j k hj).2,by rw [hs];exact hH.base,fun b' A hb'=>by
  obtain⟨⟨e,fr,h1⟩,h2⟩:=hH.fz b' A hb'
  have hne:b'≠b:=fun e=>by
   have:=h2 i k0 c hi (e ▸ hr)
   rw [hro]at this;cases this
  exact⟨⟨e,fr,(hother b' hne).trans h1⟩,fun j k' c' hj hr'=>h2 j k' c' (g j k' hj).2 hr'⟩⟩,
  ⟨Le.refl _,fun _ _=>rfl,Nat.le_refl _,Nat.le_of_eq hs.symm,hos,ht,hout,fun b' _ ho=>hother b' (fun e=>ho (e ▸ ⟨i,k0,c,hi,hro,hr⟩)),fun b' _ ⟨j,k,cc,h1,h2⟩=>⟨j,k,cc,(g j k h1).2,h2⟩,fun b' _ ⟨j,k,cc,h1,h2⟩=>⟨j,k,cc,(g j k h1).2,h2⟩,fun _ _ h=> .inl h⟩⟩
 obtain⟨h1,h2⟩:=g j k hj
 obtain⟨b',c',o,e1,e2,e3,e4⟩:=hH.blk j k h2
 exact⟨b',c',o,e1,by rw [hother b' (fun e=>h1 (hH.inj j i k k0 b' c' c h2 hi e1 (e ▸ hr)))];exact e2,e3,e4⟩
theorem aleave_ok {fn:Func} {v:AV} {H':AHeap} {R:Ending→World→Prop} {k:Nat}:∀(m:List Nat) {ρ:Env} {H:AHeap} {w:World} {ds:List Deferred},AR P B ρ n T H a w→DM ρ m ds→aleave P fn T H m= .ok v H'→
  (∀y w',Den ρ v y→HDen P B ρ H' w'→Stp ρ H w ρ H' w'→R (.returned y) w')→LeavesInM (FF none) k P fn a.tmps R ds .returning w
 |[],ρ,H,w,ds,hAR,hm,h,hR=>by
  have hm:ds=[]:=hm
  subst hm
  obtain⟨rfl,y,h1,h2⟩:=aresults_ok hAR h
  exact⟨y,h1,hR y w h2 hAR.H (Stp.refl _ _ _)⟩
 |i::m,ρ,H,w,ds,hAR,hm,h,hR=>by
  obtain⟨b,c,ds',h1,rfl,h3⟩:=hm
  have e:aleave P fn T H (i::m)= @Option.rec AHeap (fun _=>VR) .no (fun H=>aresults P fn T H) (closeM (i::m) H):=rfl
  rw [e]at h
  unfold closeM at h
  split at h
  ·rename_i hg
   obtain⟨o,g1,g2,_⟩:=hAR.H.at hg h1
   have g2:o= .deferred (some []):=g2
   subst g2
   have ht:=run_takeDeferred (P:=P) g1
   obtain⟨q1,q2⟩:=sim_kill hAR.H hg h1 rfl (w.putObj b (.deferred none)) rfl rfl rfl (by simp) (fun j hj=>World.putObj_heap_other hj)
   refine⟨(fun hh=>by cases hh), .inl ⟨b,_,rfl,ht, ?_⟩⟩
   refine aleave_ok m (hAR.next hAR.T q1 q2) h3 h fun y w' r1 r2 r3=>hR y w' r1 r2 (q2.trans r3)
  ·cases h
theorem closeM_mono:∀(m:List Nat) {H H':AHeap},closeM m H=some H'→H.next=H'.next
 |[],H,H',h=>by cases h;rfl
 |i::m,H,H',h=>by
  unfold closeM at h
  split at h
  ·exact closeM_mono m (H:=H.drop i) h
  ·cases h
theorem aleave_mono {fn:Func} {v:AV} {H':AHeap} {m:List Nat} (h:aleave P fn T H m= .ok v H'):H.next=H'.next:=by
 unfold aleave at h
 cases hc:closeM m H with
 |none=>rw [hc]at h;cases h
 |some H1=>
  rw [hc]at h
  have h:aresults P fn T H1= .ok v H':=h
  unfold aresults at h
  rw [closeM_mono m hc]
  split at h<;>cases h<;>rfl
theorem acall_some {ih:Runner} {f:FuncId} {args:List AV} {v:AV} {H':AHeap} (h:acall P ih f args H= .ok v H'):∃fn c,P.funcs[f]? =some fn∧fn.body=some c∧args.length≤fn.ntmps∧
  ∃e T1 H1 m1,(ih c fn.ntmps false (initT args .nil 0) H []).out=some (e,T1,H1,m1)∧(e= .normal∨e= .ret)∧aleave P fn T1 H1 m1= .ok v H':=by
 unfold acall at h
 cases hf:P.funcs[f]? with
 |none=>rw [hf]at h;cases h
 |some fn=>
  rw [hf]at h
  simp only at h
  cases hb:fn.body with
  |none=>rw [hb]at h;cases h
  |some c=>
   rw [hb]at h
   simp only at h
   unfold acallB at h
   cases hn:Nat.ble args.length fn.ntmps with
   |false=>rw [hn]at h;cases h
   |true=>
    rw [hn]at h
    simp only at h
    refine⟨fn,c,rfl,hb,Nat.le_of_ble_eq_true hn, ?_⟩
    cases hr:ih c fn.ntmps false (initT args .nil 0) H []with
    |no=>rw [hr]at h;cases h
    |normal T1 H1 m1=>rw [hr]at h;exact⟨_,_,_,_,rfl, .inl rfl,h⟩
    |exit _ _ _ _=>rw [hr]at h;cases h
    |goto _ _ _ _=>rw [hr]at h;cases h
    |ret T1 H1 m1=>rw [hr]at h;exact⟨_,_,_,_,rfl, .inr rfl,h⟩
theorem acall_ok {ih:Runner} (hI:RunOk P ih):CallOk P (acall P ih) where
 mono f args H v H' h:=by
  obtain⟨fn,c,_,_,_,e,T1,H1,m1,ho,_,hl⟩:=acall_some h
  exact Nat.le_trans (hI.mono _ _ _ _ _ _ _ _ _ _ ho) (Nat.le_of_eq (aleave_mono hl))
 sim f args H v H' h B ρ xs w m hH hG hd hf:=by
  obtain⟨fn,c,hfn,hb,hn,e,T1,H1,m1,ho,he,hl⟩:=acall_some h
  have hnx:=aleave_mono hl
  refine callsIn_of_wp_marks hfn hb trivial ?_
  refine hI.sim _ _ _ _ _ _ _ _ _ _ ho B ρ _ w none m _ rfl ⟨initT_ok hd hn,hH,hG⟩ rfl (by rw [hnx];exact hf) fun ρ' a' w' h1 h2 h3=> ?_
  have:LeavesInM (FF none) m P fn a'.tmps (CallPost P B ρ H w v H') a'.defers .returning w':=aleave_ok m1 h1 h3 hl fun y w2 r1 r2 r3=>⟨y,ρ',rfl,r1,r2,h2.trans r3⟩
  rcases he with rfl |rfl<;>exact this
end
end Go.Proofs.YtccmlbinkgbpgaaGreatDoor.Sv
/- The runner over an abstract memory: loops over functions; any code. -/
namespace Go.Proofs.YtccmlbinkgbpgaaGreatDoor.Sv
open Go.RowKit
set_option linter.unusedSectionVars false
variable [Ground]
section
variable {P:Program} {B:Nat} {ρ:Env} {n:Nat} {T:Tr AV} {H:AHeap} {a:Act} {w:World}
theorem HDen.lt_size (hH:HDen P B ρ H w) {i b c:Nat} {k:ABlk} (hi:H.get i=some k) (hr:ρ i=some (b,c)):b<w.heap.size:=by
 obtain⟨o,h1,_⟩:=hH.at hi hr
 exact(Array.getElem?_eq_some_iff.1 h1).1
theorem sim_loop (hH:HDen P B ρ H w) {i b c:Nat} {k0:ABlk} (hi:H.get i=some k0) (hr:ρ i=some (b,c)) (hro:k0.isRo=false) {r:ALoop} {R:Loop} (hd:LoopDen ρ r R):HDen P B ρ (H.set i (.loop r)) (w.putObj b (.loop R))∧Stp ρ H w ρ (H.set i (.loop r)) (w.putObj b (.loop R)):=
 sim_set hH hi hr hro _ _ rfl rfl rfl (by simp) (World.putObj_heap_same (hH.lt_size hi hr)) (fun j hj=>World.putObj_heap_other hj) ⟨R,rfl,hd⟩
theorem loop_at (hH:HDen P B ρ H w) {i b c:Nat} {r:ALoop} (hi:H.get i=some (.loop r)) (hr:ρ i=some (b,c)):∃R,w.heap[b]? =some (.loop R)∧LoopDen ρ r R:=by
 obtain⟨o,h1,h2,_⟩:=hH.at hi hr
 obtain⟨R,rfl,h3⟩:=h2
 exact⟨R,h1,h3⟩
theorem setPairs_ok:∀(l:List (Tmp×AV)) (l':List (Tmp×Value)) {T:Tr AV} {xs:Array Value},l.map Prod.fst=l'.map Prod.fst→Dens ρ (l.map Prod.snd) (l'.map Prod.snd)→(∀p∈l,p.1<n)→TDen ρ T n xs→
  TDen ρ (setPairs T l) n (l'.foldl (fun tmps p=>tmps.setIfInBounds p.1 p.2) xs)
 |[],[],T,xs,_,_,_,h=>h
 |[],_::_,_,_,h,_,_,_=>by simp at h
 |_::_,[],_,_,h,_,_,_=>by simp at h
 |(t,v)::l,(t',x)::l',T,xs,h,hd,hb,hT=>by
  simp only [List.map_cons,List.cons.injEq]at h
  obtain⟨rfl,h⟩:=h
  cases hd with
  |cons h1 h2=>
   refine setPairs_ok l l' h h2 (fun p hp=>hb p (List.mem_cons_of_mem _ hp)) ?_
   have hlt:t<xs.size:=by rw [hT.size];exact hb (t,v) List.mem_cons_self
   refine⟨by simp [hT.size],fun u=> ?_⟩
   rw [Tr.get_set]
   show Den ρ _ ((xs.setIfInBounds t x).getD u undef)
   rw [getD_set _ _ _ _ _ hlt]
   by_cases he:t=u
   ·subst he;simpa using h1
   ·rw [if_neg he,if_neg (fun e=>he e.symm)];exact hT.get u
theorem aroundEnd_some {i:Nat} {r:R} {v:AV} {H':AHeap} (h:aroundEnd i r= .ok v H'):∃(e:Exit) (T1:Tr AV) (H1:AHeap) (m1:List Nat) (r1:ALoop) (j:Option Code),r.out=some (e,T1,H1,m1)∧H1.get i=some (.loop r1)∧v= .raw (.bool j.isNone)∧
  H'=H1.set i (.loop {r1 with state:=if j.isNone then .ready else .done,pending:=j})∧(e= .normal∧j=none∨e= .ret∧j=some .ret∨(∃id,e= .exit id∧j=some (.exit id))∨(∃l,e= .goto l∧j=some (.goto l))):=by
 cases r with
 |no=>cases h
 |normal T1 H1 m1=>
  simp only [aroundEnd]at h
  split at h
  ·rename_i r1 hg;cases h;exact⟨_,T1,H1,m1,r1,none,rfl,hg,rfl,rfl, .inl ⟨rfl,rfl⟩⟩
  ·cases h
 |ret T1 H1 m1=>
  simp only [aroundEnd]at h
  split at h
  ·rename_i r1 hg;cases h;exact⟨_,T1,H1,m1,r1,some .ret,rfl,hg,rfl,rfl, .inr (.inl ⟨rfl,rfl⟩)⟩
  ·cases h
 |exit id T1 H1 m1=>
  simp only [aroundEnd]at h
  split at h
  ·rename_i r1 hg;cases h;exact⟨_,T1,H1,m1,r1,some (.exit id),rfl,hg,rfl,rfl, .inr (.inr (.inl ⟨id,rfl,rfl⟩))⟩
  ·cases h
 |goto l T1 H1 m1=>
  simp only [aroundEnd]at h
  split at h
  ·rename_i r1 hg;cases h;exact⟨_,T1,H1,m1,r1,some (.goto l),rfl,hg,rfl,rfl, .inr (.inr (.inr ⟨l,rfl,rfl⟩))⟩
  ·cases h
theorem around_some {ih:Runner} {i:Nat} {args:List AV} {v:AV} {H':AHeap} (h:around ih i args H= .ok v H'):∃r,H.get i=some (.loop r)∧args.length=r.params.size∧(∀t∈r.params.toList,t<r.size)∧
  ∃T1 H1 r',(ih r.assign r.size true (setPairs r.tmps (r.params.toList.zip args)) H []).out=some (.normal,T1,H1,[])∧H1.get i=some (.loop r')∧r'.state= .ready∧
   aroundEnd i (ih r.body r.size true T1 (H1.set i (.loop {r' with state:= .busy})) [])= .ok v H':=by
 unfold around at h
 split at h
 ·rename_i r hg
  split at h
  ·cases hb:(Nat.beq args.length r.params.size&&r.params.toList.all fun t=>Nat.ble (t+1) r.size)with
   |false=>rw [hb]at h;cases h
   |true=>
    rw [hb]at h
    rw [Bool.and_eq_true]at hb
    simp only [cond_true]at h
    refine⟨r,hg,Nat.eq_of_beq_eq_true hb.1,fun t ht=>Nat.le_of_ble_eq_true (List.all_eq_true.1 hb.2 t ht), ?_⟩
    split at h
    ·rename_i T1 H1 hr
     split at h
     ·rename_i r' hg'
      split at h
      ·rename_i hs
       exact⟨T1,H1,r',by rw [hr];rfl,hg',hs,h⟩
      ·cases h
     ·cases h
    ·cases h
  ·cases h
 ·cases h
theorem around_ok {ih:Runner} (hI:RunOk P ih):RoundOk P (around ih) where
 mono i args H v H' h:=by
  obtain⟨r,_,_,_,T1,H1,r',h1,_,_,h2⟩:=around_some h
  obtain⟨e,T2,H2,m2,r1,j,k1,_,_,rfl,_⟩:=aroundEnd_some h2
  have a1:=hI.mono _ _ _ _ _ _ _ _ _ _ h1
  have a2:=hI.mono _ _ _ _ _ _ _ _ _ _ k1
  exact Nat.le_trans a1 a2
 sim i args H v H' h B ρ xs w b c m hH hG hr hd hf:=by
  obtain⟨r,hg,hlen,hpar,T1,H1,r',h1,hg1,hst,h2⟩:=around_some h
  obtain⟨e,T2,H2,m2,r1,j,k1,hg2,rfl,rfl,hj⟩:=aroundEnd_some h2
  have a1:=hI.mono _ _ _ _ _ _ _ _ _ _ h1
  have a2:=hI.mono _ _ _ _ _ _ _ _ _ _ k1
  have a2':H1.next≤H2.next:=a2
  obtain⟨R,hb,hR⟩:=loop_at hH hg hr
  have hl:=hd.length
  have hy:=run_yield (P:=P) (args:=xs.toArray) hb (by rw [hR.params];simp;omega)
  refine⟨_,_,_,_,hy,roundIn_of_wpIn trivial ?_⟩
  -- the slots of the round
  have hT0:TDen ρ (setPairs r.tmps (r.params.toList.zip args)) r.size ((R.params.zip xs.toArray).foldl (fun tmps (t,a)=>tmps.setIfInBounds t a) R.tmps):=by
   have e1:(R.params.zip xs.toArray).foldl (fun tmps (t,a)=>tmps.setIfInBounds t a) R.tmps=(r.params.toList.zip xs).foldl (fun tmps p=>tmps.setIfInBounds p.1 p.2) R.tmps:=by
    rw [←Array.foldl_toList,hR.params]
    congr 1
    simp
   rw [e1]
   have hz:∀{α:Type} (l:List Nat) (ys:List α),ys.length=l.length→(l.zip ys).map Prod.fst=l∧(l.zip ys).map Prod.snd=ys:=fun l ys hh=>⟨by rw [List.map_fst_zip];omega,by rw [List.map_snd_zip];omega⟩
   have z1:=hz r.params.toList args (by simpa using hlen)
   have z2:=hz r.params.toList xs (by rw [hl];simpa using hlen)
   exact setPairs_ok _ _ (by rw [z1.1,z2.1]) (by rw [z1.2,z2.2];exact hd) (fun p hp=>hpar p.1 (List.of_mem_zip hp).1) hR.tmps
  rw [hR.assign,hR.body]
  refine hI.sim _ _ _ _ _ _ _ _ _ _ h1 B ρ _ w (some b) m _ rfl ⟨hT0,hH,hG⟩ rfl (fun x y z=>hf x y (Nat.lt_of_lt_of_le z a2')) fun ρ1 a1_ w1 hA hS hD=> ?_
  have hD:a1_.defers=[]:=hD
  have hr1:ρ1 i=some (b,c):=hS.le _ _ hr
  obtain⟨R1,hb1,hR1⟩:=loop_at hA.H hg1 hr1
  have hbr:=run_beginRound (P:=P) hb1 (by rw [hR1.state,hst])
  refine⟨_,hbr, ?_⟩
  obtain⟨q1,q2⟩:=sim_loop hA.H hg1 hr1 rfl (r:={r' with state:= .busy}) (R:={R1 with state:= .busy}) ⟨rfl,hR1.pending,hR1.params,hR1.assign,hR1.body,hR1.tmps⟩
  refine hI.sim _ _ _ _ _ _ _ _ _ _ k1 B ρ1 a1_ _ (some b) m _ rfl (hA.next hA.T q1 q2) hD ((hS.trans q2).fr hf) fun ρ2 a2_ w2 hA2 hS2 _=> ?_
  have hr2:ρ2 i=some (b,c):=hS2.le _ _ hr1
  obtain⟨R2,hb2,hR2⟩:=loop_at hA2.H hg2 hr2
  have her:=run_endRound (P:=P) j hb2
  obtain⟨q3,q4⟩:=sim_loop hA2.H hg2 hr2 rfl (r:={r1 with state:=if j.isNone then .ready else .done,pending:=j}) (R:={R2 with state:=if j.isNone then .ready else .done,pending:=j}) ⟨rfl,rfl,hR2.params,hR2.assign,hR2.body,hR2.tmps⟩
  have fin:∃v' w',(Instr.endRound b j).run P w2= .ok v' w'∧CallPost P B ρ H w (.raw (.bool j.isNone)) (H2.set i (.loop {r1 with state:=if j.isNone then .ready else .done,pending:=j})) (.returned v') w':=
   ⟨_,_,her,_,ρ2,rfl, .raw _,q3,((hS.trans q2).trans hS2).trans q4⟩
  rcases hj with⟨rfl,rfl⟩|⟨rfl,rfl⟩|⟨id,rfl,rfl⟩|⟨l,rfl,rfl⟩<;>exact fin
end
end Go.Proofs.YtccmlbinkgbpgaaGreatDoor.Sv
/- The runner over an abstract memory: any code. -/
namespace Go.Proofs.YtccmlbinkgbpgaaGreatDoor.Sv
open Go.RowKit
set_option linter.unusedSectionVars false
variable [Ground]
section
variable {P:Program} {B:Nat} {ρ:Env} {n:Nat} {T:Tr AV} {H:AHeap} {a:Act} {w:World}
theorem acallee_func {fv:AV} {v:Value} (hv:Den ρ fv v) {args:List AV} {g:FuncId} {as:List AV} {H2:AHeap} (h:acallee P fv args H= .enter g as H2):∃fn first captured,v= .func fn first captured:=by
 unfold acallee at h
 split at h
 ·rename_i x
  have:=hv.raw_eq;subst this
  cases hg:rawG v with
  |fn f=>
   unfold rawG at hg
   split at hg
   ·exact⟨_,_,_,rfl⟩
   ·cases hg
  |no=>
   rw [hg]at h
   simp only at h
   split at h
   ·exact⟨_,_,_,rfl⟩
   ·cases h
 ·obtain⟨fs,cs,_,_,rfl⟩:=hv.func_inv
  exact⟨_,_,_,rfl⟩
 ·cases h
 ·cases h
theorem arangeEnd_some {ih:Runner} {D:Nat} {m:List Nat} {vr:VR} {e:Exit} {T':Tr AV} {H':AHeap} {m':List Nat} (h:(arangeEnd ih n T D m vr).out=some (e,T',H',m')):∃v H3 r,vr= .ok v H3∧H3.get (D+1)=some (.loop r)∧r.state≠ .busy∧
  (r.pending=none∧e= .normal∧T'=T∧H'=H3.set (D+1) (.loop {r with state:= .exhausted})∧m'=D::m∨
    ∃c,r.pending=some c∧(ih c n false T (H3.set (D+1) (.loop {r with state:= .exhausted})) (D::m)).out=some (e,T',H',m')):=by
 unfold arangeEnd at h
 split at h
 ·rename_i v H3
  split at h
  ·rename_i r hg
   split at h
   ·cases h
   ·rename_i hs
    refine⟨v,H3,r,rfl,hg,fun hh=>hs hh, ?_⟩
    split at h
    ·rename_i hp;cases h;exact .inl ⟨hp,rfl,rfl,rfl,rfl⟩
    ·rename_i c hp;exact .inr ⟨c,hp,h⟩
  ·cases h
 ·cases h
theorem arange_some {ih:Runner} {f:Operand} {params:Array Tmp} {assign body:Code} {m:List Nat} {e:Exit} {T':Tr AV} {H':AHeap} {m':List Nat} (h:(arange P ih f params assign body n T H m).out=some (e,T',H',m')):
  ∃g args H2,acallee P (evT T f) [.yield (H.next+1)] ((H.new .deferred).new (.loop {tmps:=T,size:=n,params,assign,body,state:= .ready,pending:=none}))= .enter g args H2∧
   (arangeEnd ih n T H.next m (acall P ih g args H2)).out=some (e,T',H',m'):=by
 unfold arange at h
 split at h
 ·rename_i g args H2 hc;exact⟨g,args,H2,hc,h⟩
 ·cases h
theorem enter_same {fv:AV} {args:List AV} {g:FuncId} {as:List AV} {H2:AHeap} (h:acallee P fv args H= .enter g as H2):H2=H:=by
 have go:∀{f:FuncId} {l:List AV},aenter P f l H= .enter g as H2→H2=H:=fun {f l} h=>by
  unfold aenter at h
  cases hf:P.funcs[f]? with
  |none=>rw [hf]at h;cases h
  |some fn=>
   rw [hf]at h
   simp only at h
   cases hb:fn.body with
   |none=>
    rw [hb]at h
    simp only at h
    cases hx:aextern P f fn l H with
    |none=>rw [hx]at h;cases h
    |some q=>rw [hx]at h;cases h
   |some c=>rw [hb]at h;cases h;rfl
 unfold acallee at h
 split at h
 ·rename_i x
  cases hg:rawG x with
  |fn f=>rw [hg]at h;exact go h
  |no=>
   rw [hg]at h
   simp only at h
   split at h
   ·exact go h
   ·cases h
 ·exact go h
 ·cases h
 ·cases h
theorem arange_mono {ih:Runner} (hI:RunOk P ih) {f:Operand} {params:Array Tmp} {assign body:Code} {m:List Nat} {e:Exit} {T':Tr AV} {H':AHeap} {m':List Nat} (h:(arange P ih f params assign body n T H m).out=some (e,T',H',m')):H.next+2≤H'.next:=by
 obtain⟨g,args,H2,h1,h2⟩:=arange_some h
 have hH2:=enter_same h1
 obtain⟨v,H3,r,h3,h4,h5,h6⟩:=arangeEnd_some h2
 have hc:=(acall_ok hI).mono _ _ _ _ _ h3
 have e2:H2.next=H.next+2:=by rw [hH2];rfl
 rcases h6 with⟨_,_,_,rfl,_⟩|⟨c,_,h7⟩
 ·show H.next+2≤H3.next
  omega
 ·have:=hI.mono _ _ _ _ _ _ _ _ _ _ h7
  have e3:(H3.set (H.next+1) (ABlk.loop {r with state:= .exhausted})).next=H3.next:=rfl
  omega
theorem arange_ok (hK:Known P) {ih:Runner} (hI:RunOk P ih) {f:Operand} {params:Array Tmp} {assign body:Code} {m:List Nat} {e:Exit} {T':Tr AV} {H':AHeap} {m':List Nat} (h:(arange P ih f params assign body n T H m).out=some (e,T',H',m'))
  (k:Nat) {Q:Exit→Act→World→Prop} (hAR:AR P B ρ n T H a w) (hD:DM ρ m a.defers) (hf:Fr ρ H.next H'.next)
  (hQ:∀ρ' a' w',AR P B ρ' n T' H' a' w'→Stp ρ H w ρ' H' w'→DM ρ' m' a'.defers→Q e a' w'):(Code.rangeFunc f params assign body).wpIn (FF none) k P Q a w:=by
 have hmono:=arange_mono hI h
 obtain⟨g,args,H2,h1,h2⟩:=arange_some h
 have hH2:=enter_same h1
 obtain⟨v,H3,r,h3,h4,h5,h6⟩:=arangeEnd_some h2
 have hcm:=(acall_ok hI).mono _ _ _ _ _ h3
 have e2:H2.next=H.next+2:=by rw [hH2];rfl
 have hlast:H3.next≤H'.next:=by
  rcases h6 with⟨_,_,_,rfl,_⟩|⟨c,_,h7⟩
  ·exact Nat.le_refl _
  ·have:=hI.mono _ _ _ _ _ _ _ _ _ _ h7
   exact this
 refine wpIn_rangeFunc fun fn _=> ?_
 -- the two blocks
 have hn0:ρ H.next=none:=hf _ (Nat.le_refl _) (by omega)
 obtain⟨p1,p2⟩:=sim_new hAR.H (fun i x y=>hf i x (by omega)) 0 .deferred (.deferred (some [])) rfl
 have hf1:=p2.fr hf
 have hn1:(H.new .deferred).next=H.next+1:=rfl
 have hT1:=hAR.T.mono p2.le
 obtain⟨rec,hrec⟩:∃rec:Loop,rec={state:= .ready,pending:=none,fn,tmps:=a.tmps,params,assign,body,defers:=w.heap.size}:=⟨_,rfl⟩
 obtain⟨p3,p4⟩:=sim_new p1 (fun i x y=>hf1 i x (by rw [hn1]at y;omega)) 0 (.loop {tmps:=T,size:=n,params,assign,body,state:= .ready,pending:=none}) (.loop rec) ⟨rec,rfl,by rw [hrec],by rw [hrec],by rw [hrec],by rw [hrec],by rw [hrec],by
  rw [hrec]
  exact hT1.mono (Env.put_le (hf1 _ (Nat.le_refl _) (by rw [hn1];omega)))⟩
 have hle:=p2.trans p4
 rw [←hH2]at p3 p4 hle h1
 obtain⟨ρ2,hρ2⟩:∃ρ2,ρ2=(ρ.put H.next w.heap.size 0).put (H.new .deferred).next (w.alloc (.deferred (some []))).heap.size 0:=⟨_,rfl⟩
 rw [←hρ2]at p3 p4 hle
 have hL:ρ2 (H.next+1)=some (w.heap.size+1,0):=by rw [hρ2,←hn1,Env.put_same];simp
 have hDd:ρ2 H.next=some (w.heap.size,0):=by
  refine p4.le _ _ ?_
  rw [Env.put_same]
 -- the function
 have hfv:=(evT_ok hAR.T hAR.G f).mono hle.le
 obtain⟨ffn,first,captured,hfe⟩:=acallee_func hfv h1
 have hyd:Dens ρ2 [AV.yield (H.next+1)] [.func (.yield (w.heap.size+1)) #[] #[]]:= .cons (.yield hL) .nil
 have hca:=acallee_ok (P:=P) (B:=B) (w:=(w.alloc (.deferred (some []))).alloc (.loop rec)) (fv:=evT T f) hK p3 hfv hyd (r:=(invoke (.fn ffn captured) (first++ #[.func (.yield (w.heap.size+1)) #[] #[]])).run P ((w.alloc (.deferred (some []))).alloc (.loop rec)))
  (fun fn' first' captured' hh=>by rw [hfe]at hh;cases hh;rfl)
 rw [h1]at hca
 obtain⟨_,xs,hinv,hxs⟩:=hca
 refine⟨w.heap.size+1,[{target:= .collected w.heap.size,args:= #[]}],(w.alloc (.deferred (some []))).alloc (.loop rec),{target:= .fn ffn captured,args:=first++ #[.func (.yield (w.heap.size+1)) #[] #[]]},(w.alloc (.deferred (some []))).alloc (.loop rec),g,xs.toArray,
  (w.alloc (.deferred (some []))).alloc (.loop rec), ?_, ?_,fun _ _=>trivial,hinv,(fun hh=>by cases hh), ?_⟩
 ·rw [hrec];exact run_enterLoop_outer fn a.tmps params assign body
 ·have hcv:∀v,a.eval (.const v)=v:=fun _=>rfl
  simp [resolve,hfe,Deferred.ofValue,hcv]
 ·refine((acall_ok hI).sim g args H2 v H3 h3 B ρ2 xs _ (k-1) p3 (hAR.G.mono hle.le) hxs ((hle.fr hf).mono' hlast)).mono ?_
  rintro e0 w3 ⟨x,ρ3,rfl,_,q1,q2⟩
  have hL3:=q2.le _ _ hL
  obtain⟨R,hb,hR⟩:=loop_at q1 h4 hL3
  have hel:=run_endLoop (P:=P) hb (by rw [hR.state];exact h5)
  obtain⟨q3,q4⟩:=sim_loop q1 h4 hL3 rfl (r:={r with state:= .exhausted}) (R:={R with state:= .exhausted}) ⟨rfl,hR.pending,hR.params,hR.assign,hR.body,hR.tmps⟩
  have hstp:=(hle.trans q2).trans q4
  have hDM:DM ρ3 (H.next::m) ([{target:= .collected w.heap.size,args:= #[]}]++a.defers):=⟨w.heap.size,0,a.defers,q2.le _ _ hDd,rfl,(hD.mono (hle.trans q2).le)⟩
  have key:∀jump,jump=r.pending→(match jump with
    |none=>Q .normal {a with defers:=[{target:= .collected w.heap.size,args:= #[]}]++a.defers} (w3.putObj (w.heap.size+1) (.loop {R with state:= .exhausted}))
    |some c=>c.wpIn (FF none) k P Q {a with defers:=[{target:= .collected w.heap.size,args:= #[]}]++a.defers} (w3.putObj (w.heap.size+1) (.loop {R with state:= .exhausted}))):=by
   rintro jump rfl
   rcases h6 with⟨k1,rfl,rfl,rfl,rfl⟩|⟨c,k1,h7⟩
   ·rw [k1]
    exact hQ ρ3 {a with defers:=[{target:= .collected w.heap.size,args:= #[]}]++a.defers} _ ⟨hAR.T.mono hstp.le,q3,hAR.G.mono hstp.le⟩ hstp hDM
   ·rw [k1]
    refine hI.sim _ _ _ _ _ _ _ _ _ _ h7 B ρ3 {a with defers:=[{target:= .collected w.heap.size,args:= #[]}]++a.defers} _ none k Q rfl ⟨hAR.T.mono hstp.le,q3,hAR.G.mono hstp.le⟩ hDM (hstp.fr hf) fun ρ' a' w' r1 r2 r3=>hQ ρ' a' w' r1 (hstp.trans r2) r3
  exact⟨R.pending,_,hel,key _ hR.pending⟩
theorem iter_some {body:Tr AV→AHeap→List Nat→R}:∀(j:Nat) {T:Tr AV} {H:AHeap} {m:List Nat} {e:Exit} {T':Tr AV} {H':AHeap} {m':List Nat},(iter body j T H m).out=some (e,T',H',m')→
  ∃j',j=j'+1∧∃e1 T1 H1 m1,(body T H m).out=some (e1,T1,H1,m1)∧((e1= .normal∧(iter body j' T1 H1 m1).out=some (e,T',H',m'))∨(e1≠ .normal∧e=e1∧T'=T1∧H'=H1∧m'=m1))
 |0,_,_,_,_,_,_,_,h=>by cases h
 |j+1,T,H,m,e,T',H',m',h=>by
  have e0:iter body (j+1) T H m= @R.rec (fun _=>R) .no (iter body j) .exit .goto .ret (body T H m):=rfl
  rw [e0]at h
  refine⟨j,rfl, ?_⟩
  cases hb:body T H m with
  |no=>rw [hb]at h;cases h
  |normal T1 H1 m1=>rw [hb]at h;exact⟨_,_,_,_,rfl, .inl ⟨rfl,h⟩⟩
  |exit id T1 H1 m1=>rw [hb]at h;cases h;exact⟨_,_,_,_,rfl, .inr ⟨(fun hh=>by cases hh),rfl,rfl,rfl,rfl⟩⟩
  |goto l T1 H1 m1=>rw [hb]at h;cases h;exact⟨_,_,_,_,rfl, .inr ⟨(fun hh=>by cases hh),rfl,rfl,rfl,rfl⟩⟩
  |ret T1 H1 m1=>rw [hb]at h;cases h;exact⟨_,_,_,_,rfl, .inr ⟨(fun hh=>by cases hh),rfl,rfl,rfl,rfl⟩⟩
theorem iter_mono {ih:Runner} (hI:RunOk P ih) {c:Code} {rnd:Bool}:∀(j:Nat) {T:Tr AV} {H:AHeap} {m:List Nat} {e:Exit} {T':Tr AV} {H':AHeap} {m':List Nat},(iter (ih c n rnd) j T H m).out=some (e,T',H',m')→H.next≤H'.next
 |0,_,_,_,_,_,_,_,h=>by cases h
 |j+1,T,H,m,e,T',H',m',h=>by
  obtain⟨j',hj,e1,T1,H1,m1,h1,h2⟩:=iter_some (j+1) h
  cases hj
  have a1:=hI.mono _ _ _ _ _ _ _ _ _ _ h1
  rcases h2 with⟨_,h2⟩|⟨_,_,_,rfl,_⟩
  ·exact Nat.le_trans a1 (iter_mono hI j h2)
  ·exact a1
theorem exit_then {Q:Exit→Act→World→Prop} {e:Exit} {a:Act} {w:World} {N:Act→World→Prop} (hn:e≠ .normal) (h:Q e a w):Exit.then N Q e a w:=by
 cases e<;>first |exact absurd rfl hn|exact h
theorem iter_ok {ih:Runner} (hI:RunOk P ih) {c:Code} {rnd:Bool} {rd:Option Nat} (hrd:rd.isSome=rnd) {k:Nat} {Q:Exit→Act→World→Prop}:∀(j:Nat) {ρ:Env} {T:Tr AV} {H:AHeap} {m:List Nat} {a:Act} {w:World} {e:Exit} {T':Tr AV} {H':AHeap} {m':List Nat},
  (iter (ih c n rnd) j T H m).out=some (e,T',H',m')→AR P B ρ n T H a w→DM ρ m a.defers→Fr ρ H.next H'.next→
  (∀ρ' a' w',AR P B ρ' n T' H' a' w'→Stp ρ H w ρ' H' w'→DM ρ' m' a'.defers→Q e a' w')→Code.roundsIn (FF rd) k P c Q j a w
 |0,_,_,_,_,_,_,_,_,_,_,h,_,_,_,_=>by cases h
 |j+1,ρ,T,H,m,a,w,e,T',H',m',h,hAR,hD,hf,hQ=>by
  obtain⟨j',hj,e1,T1,H1,m1,h1,h2⟩:=iter_some (j+1) h
  cases hj
  have hle:H1.next≤H'.next:=by
   rcases h2 with⟨_,h2⟩|⟨_,_,_,rfl,_⟩
   ·exact iter_mono hI j h2
   ·exact Nat.le_refl _
  refine hI.sim _ _ _ _ _ _ _ _ _ _ h1 B ρ a w rd k _ hrd hAR hD (hf.mono' hle) fun ρ1 a1 w1 r1 r2 r3=> ?_
  rcases h2 with⟨rfl,h2⟩|⟨hn,rfl,rfl,rfl,rfl⟩
  ·exact iter_ok hI hrd j h2 r1 r3 (r2.fr hf) fun ρ' a' w' q1 q2 q3=>hQ ρ' a' w' q1 (r2.trans q2) q3
  ·exact exit_then hn (hQ ρ1 a1 w1 r1 r2 r3)
theorem th_out {m:List Nat} {r:TH} {e:Exit} {T':Tr AV} {H':AHeap} {m':List Nat} (h:(thR m r).out=some (e,T',H',m')):r= .mk T' H'∧e= .normal∧m'=m:=by
 cases r with
 |no=>cases h
 |mk T1 H1=>cases h;exact⟨rfl,rfl,rfl⟩
theorem chandle_loop {draw:Drawer} {ih:Runner} {x:Code} {rnd:Bool} {m:List Nat}:chandle (.loop x) P draw ih n rnd T H m=iter (ih x n rnd) rounds T H m:=by
 unfold chandle
 simp only [cLoop]
theorem chandle_ok (hK:Known P) {draw:Drawer} (hdr:∀d,DrawOk P d (draw d)) {ih:Runner} (hI:RunOk P ih):RunOk P (fun c=>chandle c P draw ih) where
 mono c n rnd T H m e T' H' m' h:=by
  have hC:=acall_ok hI
  have hR:=around_ok hI
  cases c with
  |skip=>cases h;exact Nat.le_refl _
  |label l=>cases h;exact Nat.le_refl _
  |exit id=>cases h;exact Nat.le_refl _
  |goto l=>cases h;exact Nat.le_refl _
  |ret=>cases h;exact Nat.le_refl _
  |refuse why=>cases h
  |region id ops d=>
   obtain⟨h1,_,_⟩:=th_out h
   exact(hdr d).mono _ _ hC hR _ _ _ _ _ _ h1
  |seq x y=>
   have h:(@R.rec (fun _=>R) .no (fun T H m=>ih y n rnd T H m) .exit .goto .ret (ih x n rnd T H m)).out=some (e,T',H',m'):=h
   cases hx:ih x n rnd T H m with
   |no=>rw [hx]at h;cases h
   |normal T1 H1 m1=>rw [hx]at h;exact Nat.le_trans (hI.mono x n rnd T H m _ _ _ _ (by rw [hx];rfl)) (hI.mono _ _ _ _ _ _ _ _ _ _ h)
   |exit id T1 H1 m1=>rw [hx]at h;cases h;exact hI.mono x n rnd T H m _ _ _ _ (by rw [hx];rfl)
   |goto l T1 H1 m1=>rw [hx]at h;cases h;exact hI.mono x n rnd T H m _ _ _ _ (by rw [hx];rfl)
   |ret T1 H1 m1=>rw [hx]at h;cases h;exact hI.mono x n rnd T H m _ _ _ _ (by rw [hx];rfl)
  |cond c x y=>
   have h:(@BV.rec (fun _=>R) .no (fun b=> @Bool.rec (fun _=>R) (ih y n rnd T H m) (ih x n rnd T H m) b) (boolV (evT T c))).out=some (e,T',H',m'):=h
   cases hb:boolV (evT T c)with
   |no=>rw [hb]at h;cases h
   |mk b=>rw [hb]at h;cases b<;>exact hI.mono _ _ _ _ _ _ _ _ _ _ h
  |block id x=>
   have h:(@R.rec (fun _=>R) .no .normal (fun i T H m=> @Bool.rec (fun _=>R) (.exit i T H m) (.normal T H m) (Nat.beq i id)) .goto .ret (ih x n rnd T H m)).out=some (e,T',H',m'):=h
   cases hx:ih x n rnd T H m with
   |no=>rw [hx]at h;cases h
   |normal T1 H1 m1=>rw [hx]at h;cases h;exact hI.mono x n rnd T H m _ _ _ _ (by rw [hx];rfl)
   |exit i T1 H1 m1=>
    rw [hx]at h
    simp only at h
    cases hb:Nat.beq i id with
    |true=>rw [hb]at h;cases h;exact hI.mono x n rnd T H m _ _ _ _ (by rw [hx];rfl)
    |false=>rw [hb]at h;cases h;exact hI.mono x n rnd T H m _ _ _ _ (by rw [hx];rfl)
   |goto l T1 H1 m1=>rw [hx]at h;cases h;exact hI.mono x n rnd T H m _ _ _ _ (by rw [hx];rfl)
   |ret T1 H1 m1=>rw [hx]at h;cases h;exact hI.mono x n rnd T H m _ _ _ _ (by rw [hx];rfl)
  |loop x=>rw [chandle_loop]at h;exact iter_mono hI rounds h
  |rangeFunc f ps x y=>
   cases rnd with
   |true=>cases h
   |false=>have:=arange_mono hI (P:=P) h;omega
  |scope x=>
   have h:(@R.rec (fun _=>R) .no .normal .exit (fun _ _ _ _=> .no) .ret (ih x n rnd T H m)).out=some (e,T',H',m'):=h
   cases hx:ih x n rnd T H m with
   |no=>rw [hx]at h;cases h
   |normal T1 H1 m1=>rw [hx]at h;cases h;exact hI.mono x n rnd T H m _ _ _ _ (by rw [hx];rfl)
   |exit id T1 H1 m1=>rw [hx]at h;cases h;exact hI.mono x n rnd T H m _ _ _ _ (by rw [hx];rfl)
   |goto l T1 H1 m1=>rw [hx]at h;cases h
   |ret T1 H1 m1=>rw [hx]at h;cases h;exact hI.mono x n rnd T H m _ _ _ _ (by rw [hx];rfl)
 sim c n rnd T H m e T' H' m' h B ρ a w rd k Q hrd hAR hD hf hQ:=by
  have hC:=acall_ok hI
  have hR:=around_ok hI
  have here:∀{x:Code} {e1 T1 H1 m1},(ih x n rnd T H m).out=some (e1,T1,H1,m1)→H1=H'→∀Q':Exit→Act→World→Prop,(∀ρ' a' w',AR P B ρ' n T1 H1 a' w'→Stp ρ H w ρ' H1 w'→DM ρ' m1 a'.defers→Q' e1 a' w')→x.wpIn (FF rd) k P Q' a w:=
   fun h1 hh Q' hq=>hI.sim _ _ _ _ _ _ _ _ _ _ h1 B ρ a w rd k Q' hrd hAR hD (by rw [hh];exact hf) hq
  cases c with
  |skip=>cases h;exact wpIn_skip (hQ ρ a w hAR (Stp.refl _ _ _) hD)
  |label l=>cases h;exact wpIn_label (hQ ρ a w hAR (Stp.refl _ _ _) hD)
  |exit id=>cases h;exact wpIn_exit (hQ ρ a w hAR (Stp.refl _ _ _) hD)
  |goto l=>cases h;exact wpIn_goto (hQ ρ a w hAR (Stp.refl _ _ _) hD)
  |ret=>cases h;exact wpIn_ret (hQ ρ a w hAR (Stp.refl _ _ _) hD)
  |refuse why=>cases h
  |region id ops d=>
   obtain⟨h1,rfl,rfl⟩:=th_out h
   have hQ':∀ρ' a' w',AR P B ρ' n T' H' a' w'→Stp ρ H w ρ' H' w'→a'.defers=a.defers→Q .normal a' w':=fun ρ' a' w' r1 r2 r3=>hQ ρ' a' w' r1 r2 (by rw [r3];exact hD.mono r2.le)
   exact(hdr d).sim _ _ hC hR id _ _ _ _ _ _ h1 B ρ a w rd k Q hAR hf hQ'
  |seq x y=>
   have h:(@R.rec (fun _=>R) .no (fun T H m=>ih y n rnd T H m) .exit .goto .ret (ih x n rnd T H m)).out=some (e,T',H',m'):=h
   refine wpIn_seq ?_
   cases hx:ih x n rnd T H m with
   |no=>rw [hx]at h;cases h
   |normal T1 H1 m1=>
    rw [hx]at h
    have hle:=hI.mono _ _ _ _ _ _ _ _ _ _ h
    refine hI.sim x n rnd T H m _ _ _ _ (by rw [hx];rfl) B ρ a w rd k _ hrd hAR hD (hf.mono' hle) fun ρ1 a1 w1 r1 r2 r3=> ?_
    exact hI.sim _ _ _ _ _ _ _ _ _ _ h B ρ1 a1 w1 rd k Q hrd r1 r3 (r2.fr hf) fun ρ' a' w' q1 q2 q3=>hQ ρ' a' w' q1 (r2.trans q2) q3
   |exit id T1 H1 m1=>rw [hx]at h;cases h;exact here (x:=x) (by rw [hx];rfl) rfl _ hQ
   |goto l T1 H1 m1=>rw [hx]at h;cases h;exact here (x:=x) (by rw [hx];rfl) rfl _ hQ
   |ret T1 H1 m1=>rw [hx]at h;cases h;exact here (x:=x) (by rw [hx];rfl) rfl _ hQ
  |cond c x y=>
   have h:(@BV.rec (fun _=>R) .no (fun b=> @Bool.rec (fun _=>R) (ih y n rnd T H m) (ih x n rnd T H m) b) (boolV (evT T c))).out=some (e,T',H',m'):=h
   cases hb:boolV (evT T c)with
   |no=>rw [hb]at h;cases h
   |mk b=>
    rw [hb]at h
    have hc:=evT_ok hAR.T hAR.G c
    rw [boolV_mk hb]at hc
    refine wpIn_cond hc.raw_eq ?_
    cases b
    ·exact hI.sim _ _ _ _ _ _ _ _ _ _ h B ρ a w rd k Q hrd hAR hD hf hQ
    ·exact hI.sim _ _ _ _ _ _ _ _ _ _ h B ρ a w rd k Q hrd hAR hD hf hQ
  |block id x=>
   have h:(@R.rec (fun _=>R) .no .normal (fun i T H m=> @Bool.rec (fun _=>R) (.exit i T H m) (.normal T H m) (Nat.beq i id)) .goto .ret (ih x n rnd T H m)).out=some (e,T',H',m'):=h
   refine wpIn_block ?_
   cases hx:ih x n rnd T H m with
   |no=>rw [hx]at h;cases h
   |normal T1 H1 m1=>rw [hx]at h;cases h;exact here (x:=x) (by rw [hx];rfl) rfl _ hQ
   |exit i T1 H1 m1=>
    rw [hx]at h
    simp only at h
    cases hb:Nat.beq i id with
    |true=>
     rw [hb]at h;cases h
     have:=Nat.eq_of_beq_eq_true hb
     subst this
     exact here (x:=x) (by rw [hx];rfl) rfl _ fun ρ' a' w' r1 r2 r3=>by simp only [Exit.inBlock,if_true];exact hQ ρ' a' w' r1 r2 r3
    |false=>
     rw [hb]at h;cases h
     have hne:i≠id:=fun hh=>by subst hh;rw [Nat.beq_refl]at hb;cases hb
     exact here (x:=x) (by rw [hx];rfl) rfl _ fun ρ' a' w' r1 r2 r3=>by simp only [Exit.inBlock,if_neg hne];exact hQ ρ' a' w' r1 r2 r3
   |goto l T1 H1 m1=>rw [hx]at h;cases h;exact here (x:=x) (by rw [hx];rfl) rfl _ hQ
   |ret T1 H1 m1=>rw [hx]at h;cases h;exact here (x:=x) (by rw [hx];rfl) rfl _ hQ
  |loop x=>rw [chandle_loop]at h;exact wpIn_loop_rounds rounds (iter_ok hI hrd rounds h hAR hD hf hQ)
  |rangeFunc f ps x y=>
   cases rnd with
   |true=>cases h
   |false=>
    cases rd with
    |some l=>cases hrd
    |none=>exact arange_ok hK hI h k hAR hD hf hQ
  |scope x=>
   have h:(@R.rec (fun _=>R) .no .normal .exit (fun _ _ _ _=> .no) .ret (ih x n rnd T H m)).out=some (e,T',H',m'):=h
   refine wpIn_scope_straight ?_
   cases hx:ih x n rnd T H m with
   |no=>rw [hx]at h;cases h
   |normal T1 H1 m1=>rw [hx]at h;cases h;exact here (x:=x) (by rw [hx];rfl) rfl _ hQ
   |exit id T1 H1 m1=>rw [hx]at h;cases h;exact here (x:=x) (by rw [hx];rfl) rfl _ hQ
   |goto l T1 H1 m1=>rw [hx]at h;cases h
   |ret T1 H1 m1=>rw [hx]at h;cases h;exact here (x:=x) (by rw [hx];rfl) rfl _ hQ
theorem acode_ok (hK:Known P) {draw:Drawer} (hdr:∀d,DrawOk P d (draw d)):∀fuel,RunOk P (acode P draw fuel)
 |0=>⟨(fun _ _ _ _ _ _ _ _ _ _ h=>by cases h),(fun _ _ _ _ _ _ _ _ _ _ h=>by cases h)⟩
 |f+1=>chandle_ok hK hdr (acode_ok hK hdr f)
end
end Go.Proofs.YtccmlbinkgbpgaaGreatDoor.Sv
