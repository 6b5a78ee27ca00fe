/- The runner over an abstract memory: goals on code, and their rules. -/
import Derived.Test.YtccmlbinkgbpgaaGreatDoorZtSvFit
import Derived.Lib.MakeNoZero
import Derived.Test.YtccmlbinkgbpgaaGreatDoorProg
import Derived.Lib.LaidTab
import Derived.Lib.ItoaNum
namespace Go.Proofs.YtccmlbinkgbpgaaGreatDoor.Sv
open Go.RowKit
set_option linter.unusedSectionVars false
variable [Ground]
noncomputable section
structure Ext where
 rd:Option Nat
 K:Nat→Option Obj
 R:Act→World→Prop
 pin:List Nat:=[]
 A:Nat→Option (Nat×Nat):=fun _=>none
 Z:Nat→Option (Array Value):=fun _=>none
 sz:Nat:=0
 m:List Nat:=[]
 ds:List Deferred:=[]
 Y:Nat→Option Obj:=fun _=>none
def Ext.pins (X:Ext):List Nat:=X.m++X.pin
def X0:Ext:={rd:=none,K:=fun _=>none,R:=fun _ _=>False}
structure Kept (X:Ext) (ρ:Env) (H:AHeap) (w:World):Prop where
 k:∀b o,X.K b=some o→w.heap[b]? =some o∧¬Own ρ H b
 pin:∀i,i∈X.pin→i<H.next∧∀x,X.A i=some x→ρ i=some x
 z:∀b A,X.Z b=some A→ρ.fz b=some A
 sz:X.sz≤w.heap.size
 kz:∀b o,X.K b=some o→ρ.fz b=none
 dm:DM ρ X.m X.ds
 y:∀b o,X.Y b=some o→w.heap[b]? =some o∧¬Own ρ H b
structure SatX (X:Ext) (P:Program) (w0:World) (F:Env) (n:Nat) (T:Tr AV) (H:AHeap) (a:Act) (w:World):Prop where
 ex:∃ρ,AR P w0.heap.size ρ n T H a w∧(∀i,H.next≤i→ρ i=none)∧(∀b A,ρ.fz b=some A→F.fz b=some A∨w0.heap.size≤b)∧Kept X ρ H w
 below:Below w0.heap.size w0 w
 defers:a.defers=X.ds
abbrev Sat:=SatX X0
def GoalX (X:Ext) (P:Program) (w0:World) (F:Env) (n:Nat) (c:Code) (T:Tr AV) (H:AHeap) (Q:Exit→Tr AV→AHeap→Prop):Prop:=
 ∀a w,SatX X P w0 F n T H a w→∀k,c.wpIn (FF X.rd) k P (fun e a' w'=>(∃T' H',Q e T' H'∧SatX X P w0 F n T' H' a' w')∨(e= .ret∧X.R a' w')) a w
abbrev Goal:=GoalX X0
theorem keep_stp {X:Ext} {ρ ρ':Env} {H H':AHeap} {w w':World} (h:Kept X ρ H w) (s:Stp ρ H w ρ' H' w'):Kept X ρ' H' w':=
 ⟨fun b o hb=>by
    obtain⟨h1,h2⟩:=h.k b o hb
    have hlt:b<w.heap.size:=(Array.getElem?_eq_some_iff.1 h1).1
    exact⟨(s.frame b hlt h2).trans h1,fun hh=>h2 (s.own b hlt hh)⟩,
   fun i hi=>⟨Nat.lt_of_lt_of_le (h.pin i hi).1 s.next,fun x hx=>s.le _ _ ((h.pin i hi).2 x hx)⟩,
   fun b A hb=>s.le.fz _ _ (h.z b A hb),Nat.le_trans h.sz s.size,fun b o hb=>by
    obtain⟨h1,h2⟩:=h.k b o hb
    have hlt:b<w.heap.size:=(Array.getElem?_eq_some_iff.1 h1).1
    cases hz:ρ'.fz b with
    |none=>rfl
    |some A=>
     rcases s.fzn b A hz with g|g|g
     ·rw [h.kz b o hb]at g;cases g
     ·omega
     ·exact absurd g h2,h.dm.mono s.le,fun b o hb=>by
    obtain⟨h1,h2⟩:=h.y b o hb
    have hlt:b<w.heap.size:=(Array.getElem?_eq_some_iff.1 h1).1
    exact⟨(s.frame b hlt h2).trans h1,fun hh=>h2 (s.own b hlt hh)⟩⟩
theorem DM.cong {ρ ρ':Env}:∀{m:List Nat} {ds:List Deferred},DM ρ m ds→(∀i∈m,∀x,ρ i=some x→ρ' i=some x)→DM ρ' m ds
 |[],_,h,_=>h
 |i::_,_,⟨b,c,ds',h1,h2,h3⟩,hc=>⟨b,c,ds',hc i List.mem_cons_self _ h1,h2,DM.cong h3 fun j hj=>hc j (List.mem_cons_of_mem _ hj)⟩
theorem DM.unique {ρ:Env}:∀{m:List Nat} {ds ds':List Deferred},DM ρ m ds→DM ρ m ds'→ds=ds'
 |[],_,_,h,h'=>Eq.trans (show _=[]from h) (show _=[]from h').symm
 |i::m,_,_,⟨b,c,ds1,h1,h2,h3⟩,⟨b',c',ds2,k1,k2,k3⟩=>by
  rw [h1]at k1
  cases k1
  rw [h2,k2,DM.unique h3 k3]
theorem Kept.re {X:Ext} {ρ ρ':Env} {H H':AHeap} {w:World} (h:Kept X ρ H w) (hl:Le ρ ρ') (hn:H.next≤H'.next) (ho:∀b,Own ρ' H' b→Own ρ H b) (hz:∀b A,ρ'.fz b=some A→ρ.fz b=some A∨Own ρ H b):Kept X ρ' H' w:=
 ⟨fun b o hb=>⟨(h.k b o hb).1,fun hh=>(h.k b o hb).2 (ho b hh)⟩,fun i hi=>⟨Nat.lt_of_lt_of_le (h.pin i hi).1 hn,fun x hx=>hl _ _ ((h.pin i hi).2 x hx)⟩,fun b A hb=>hl.fz _ _ (h.z b A hb),h.sz,fun b o hb=>by
   cases hz':ρ'.fz b with
   |none=>rfl
   |some A=>
    rcases hz b A hz' with g|g
    ·rw [h.kz b o hb]at g;cases g
    ·exact absurd g (h.k b o hb).2,h.dm.mono hl,fun b o hb=>⟨(h.y b o hb).1,fun hh=>(h.y b o hb).2 (ho b hh)⟩⟩
def pinned (σ:Ren) (next:Nat) (l:List Nat):Bool:=l.all fun i=>Nat.ble (i+1) next&&isAt σ i i
theorem Kept.ren {X:Ext} {ρ:Env} {H:AHeap} {a:Act} {w:World} {P:Program} {B n:Nat} {T:Tr AV} {σ:Ren} {s:St} (h:Kept X ρ H w) (hAR:AR P B ρ n T H a w) (hf:fit P σ n T H s) (hp:pinned σ s.H.next X.pins=true):Kept X (ren σ ρ) s.H w:=
 ⟨fun b o hb=>⟨(h.k b o hb).1,fun hh=>(h.k b o hb).2 (fit_own hAR hf hh)⟩,
   fun i hi=>by
    have:=List.all_eq_true.1 hp i (List.mem_append_right _ hi)
    rw [Bool.and_eq_true]at this
    exact⟨Nat.le_of_ble_eq_true this.1,fun x hx=>ren_at this.2 ((h.pin i hi).2 x hx)⟩,
   h.z,h.sz,h.kz,h.dm.cong fun i hi x hx=>by
    have:=List.all_eq_true.1 hp i (List.mem_append_left _ hi)
    rw [Bool.and_eq_true]at this
    exact ren_at this.2 hx,fun b o hb=>⟨(h.y b o hb).1,fun hh=>(h.y b o hb).2 (fit_own hAR hf hh)⟩⟩
def R.addm (r:R) (m:List Nat):R:=match r with
 | .no=> .no
 | .normal T H k=> .normal T H (k++m)
 | .exit id T H k=> .exit id T H (k++m)
 | .goto l T H k=> .goto l T H (k++m)
 | .ret T H k=> .ret T H (k++m)
theorem addm_addm (r:R) (k m:List Nat):(r.addm k).addm m=r.addm (k++m):=by cases r<;>simp [R.addm,List.append_assoc]
theorem out_addm {r:R} {e:Exit} {T':Tr AV} {H':AHeap} {k m:List Nat} (h:r.out=some (e,T',H',k)):(r.addm m).out=some (e,T',H',k++m):=by
 cases r<;>cases h<;>rfl
theorem iter_m {body:Tr AV→AHeap→List Nat→R} (hb:∀T H m,body T H m=(body T H []).addm m):∀(k:Nat) (T:Tr AV) (H:AHeap) (m:List Nat),iter body k T H m=(iter body k T H []).addm m
 |0,_,_,_=>rfl
 |k+1,T,H,m=>by
  show @R.rec (fun _=>R) .no (iter body k) .exit .goto .ret (body T H m)=(@R.rec (fun _=>R) .no (iter body k) .exit .goto .ret (body T H [])).addm m
  rw [hb T H m]
  cases body T H []with
  |no=>rfl
  |normal T1 H1 k1=>
   show iter body k T1 H1 (k1++m)=(iter body k T1 H1 k1).addm m
   rw [iter_m hb k T1 H1 (k1++m),iter_m hb k T1 H1 k1,addm_addm]
  |exit _ _ _ _=>rfl
  |goto _ _ _ _=>rfl
  |ret _ _ _=>rfl
theorem acode_m {P:Program} {draw:Drawer}:∀(fuel:Nat) (c:Code) (n:Nat) (rnd:Bool) (T:Tr AV) (H:AHeap) (m:List Nat),acode P draw fuel c n rnd T H m=(acode P draw fuel c n rnd T H []).addm m
 |0,_,_,_,_,_,_=>rfl
 |fuel+1,c,n,rnd,T,H,m=>by
  have ih:=acode_m (P:=P) (draw:=draw) fuel
  have e:∀m,acode P draw (fuel+1) c n rnd T H m=chandle c P draw (acode P draw fuel) n rnd T H m:=fun _=>rfl
  rw [e,e]
  generalize acode P draw fuel=r at ih
  cases c with
  |skip=>rfl
  |region id ops d=>
   show thR m (draw d (acall P r) (around r) ops n T H)=(thR [] (draw d (acall P r) (around r) ops n T H)).addm m
   cases draw d (acall P r) (around r) ops n T H<;>rfl
  |seq a b=>
   show @R.rec (fun _=>R) .no (fun T H m=>r b n rnd T H m) .exit .goto .ret (r a n rnd T H m)=(@R.rec (fun _=>R) .no (fun T H m=>r b n rnd T H m) .exit .goto .ret (r a n rnd T H [])).addm m
   rw [ih a n rnd T H m]
   cases r a n rnd T H []with
   |no=>rfl
   |normal T1 H1 k1=>
    show r b n rnd T1 H1 (k1++m)=(r b n rnd T1 H1 k1).addm m
    rw [ih b n rnd T1 H1 (k1++m),ih b n rnd T1 H1 k1,addm_addm]
   |exit _ _ _ _=>rfl
   |goto _ _ _ _=>rfl
   |ret _ _ _=>rfl
  |cond c x y=>
   show @BV.rec (fun _=>R) .no (fun b=> @Bool.rec (fun _=>R) (r y n rnd T H m) (r x n rnd T H m) b) (boolV (evT T c))=(@BV.rec (fun _=>R) .no (fun b=> @Bool.rec (fun _=>R) (r y n rnd T H []) (r x n rnd T H []) b) (boolV (evT T c))).addm m
   cases boolV (evT T c)with
   |no=>rfl
   |mk b=>cases b<;>exact ih _ _ _ _ _ _
  |block id b=>
   show @R.rec (fun _=>R) .no .normal (fun i T H m=> @Bool.rec (fun _=>R) (.exit i T H m) (.normal T H m) (Nat.beq i id)) .goto .ret (r b n rnd T H m)=(@R.rec (fun _=>R) .no .normal (fun i T H m=> @Bool.rec (fun _=>R) (.exit i T H m) (.normal T H m) (Nat.beq i id)) .goto .ret (r b n rnd T H [])).addm m
   rw [ih b n rnd T H m]
   cases r b n rnd T H []with
   |no=>rfl
   |normal _ _ _=>rfl
   |exit i T1 H1 k1=>
    show @Bool.rec (fun _=>R) (.exit i T1 H1 (k1++m)) (.normal T1 H1 (k1++m)) (Nat.beq i id)=(@Bool.rec (fun _=>R) (.exit i T1 H1 k1) (.normal T1 H1 k1) (Nat.beq i id)).addm m
    cases Nat.beq i id<;>rfl
   |goto _ _ _ _=>rfl
   |ret _ _ _=>rfl
  |loop b=>exact iter_m (ih b n rnd) rounds T H m
  |rangeFunc f ps a b=>
   show @Bool.rec (fun _=>R) (arange P r f ps a b n T H m) .no rnd=(@Bool.rec (fun _=>R) (arange P r f ps a b n T H []) .no rnd).addm m
   cases rnd with
   |true=>rfl
   |false=>
    show arange P r f ps a b n T H m=(arange P r f ps a b n T H []).addm m
    unfold arange
    split
    ·rename_i g args H2 _
     unfold arangeEnd
     split
     ·split
      ·split
       ·rfl
       ·split
        ·rfl
        ·rename_i c _
         rw [ih c n false _ _ (H.next::m),ih c n false _ _ [H.next],addm_addm];rfl
      ·rfl
     ·rfl
    ·rfl
  |exit id=>rfl
  |scope b=>
   show @R.rec (fun _=>R) .no .normal .exit (fun _ _ _ _=> .no) .ret (r b n rnd T H m)=(@R.rec (fun _=>R) .no .normal .exit (fun _ _ _ _=> .no) .ret (r b n rnd T H [])).addm m
   rw [ih b n rnd T H m]
   cases r b n rnd T H []<;>rfl
  |label _=>rfl
  |goto _=>rfl
  |ret=>rfl
  |refuse _=>rfl
theorem vcode_true {P:Program} {SV:VCaller}:∀(fuel:Nat) (c:Code) (n:Nat) (T:Tr AV) (H:AHeap) (m:List Nat),vcode P SV fuel c n true T H m=vcode P SV fuel c n false T H m
 |0,_,_,_,_,_=>rfl
 |fuel+1,c,n,T,H,m=>by
  have ih:=vcode_true (P:=P) (SV:=SV) fuel
  show vhandle P (vorc SV (vcall P (vcode P SV fuel))) (vcode P SV fuel) c n true T H m=vhandle P (vorc SV (vcall P (vcode P SV fuel))) (vcode P SV fuel) c n false T H m
  cases c<;>simp only [vhandle,ih]
theorem vcode_rnd {P:Program} {SV:VCaller} (fuel:Nat) (c:Code) (n:Nat) (r:Bool) (T:Tr AV) (H:AHeap) (m:List Nat):vcode P SV fuel c n r T H m=vcode P SV fuel c n false T H m:=by
 cases r with
 |false=>rfl
 |true=>exact vcode_true fuel c n T H m
def outQ (Q:Exit→Tr AV→AHeap→Prop):R→Prop
 | .normal T H []=>Q .normal T H
 | .exit id T H []=>Q (.exit id) T H
 | .ret T H []=>Q .ret T H
 |_=>False
def onN (N:Tr AV→AHeap→Prop) (Q:Exit→Tr AV→AHeap→Prop):Exit→Tr AV→AHeap→Prop
 | .normal,T,H=>N T H
 |e,T,H=>Q e T H
def inB (id:Nat) (Q:Exit→Tr AV→AHeap→Prop):Exit→Tr AV→AHeap→Prop
 | .exit i,T,H=>if i=id then Q .normal T H else Q (.exit i) T H
 |e,T,H=>Q e T H
def cat:Code→List Nat→Code
 |c,[]=>c
 | .seq a _,0::p=>cat a p
 | .seq _ b,_::p=>cat b p
 | .cond _ a _,0::p=>cat a p
 | .cond _ _ b,_::p=>cat b p
 | .block _ b,_::p=>cat b p
 | .loop b,_::p=>cat b p
 | .scope b,_::p=>cat b p
 | .rangeFunc _ _ a _,0::p=>cat a p
 | .rangeFunc _ _ _ b,_::p=>cat b p
 |_,_=> .skip
section
variable {P:Program} {w0:World} {F:Env} {n:Nat} {T:Tr AV} {H:AHeap} {Q:Exit→Tr AV→AHeap→Prop} {c x y:Code}
theorem outQ_out {r:R} (h:outQ Q r):∃e T' H',r.out=some (e,T',H',[])∧Q e T' H':=by
 unfold outQ at h
 split at h
 ·exact⟨_,_,_,rfl,h⟩
 ·exact⟨_,_,_,rfl,h⟩
 ·exact⟨_,_,_,rfl,h⟩
 ·exact h.elim
theorem Goal.mono {X:Ext} {Q':Exit→Tr AV→AHeap→Prop} (h:GoalX X P w0 F n c T H Q) (hq:∀e T H,Q e T H→Q' e T H):GoalX X P w0 F n c T H Q':=fun a w hs k=>
 wpIn_mono (h a w hs k) fun _ _ _ hh=>by
  rcases hh with⟨T',H',h1,h2⟩|hh
  ·exact .inl ⟨T',H',hq _ _ _ h1,h2⟩
  ·exact .inr hh
theorem Goal.run {X:Ext} (hK:Known P) (hm:P.follows .mixedOrders=true) {SV:VCaller} (hS:CallOk P (gS SV)) (fuel:Nat) (D:List Bool) (h:(vcode P SV fuel c n false T H []).path D (outQ Q)):GoalX X P w0 F n c T H Q:=by
 intro a w hs k
 obtain⟨r,h1,h2⟩:=Tst.path_gr _ _ h
 obtain⟨e,T',H',ho,hq⟩:=outQ_out h2
 rw [←vcode_rnd fuel c n X.rd.isSome]at h1
 have hr:=vcode_ref (P:=P) (SV:=SV) fuel c n X.rd.isSome T H [] r h1 (by rintro rfl;cases ho)
 have hI:RunOk P (acode P (sdraw P (gS SV)) fuel):=acode_ok hK (sdraw_ok hK hm hS) fuel
 have ho':(acode P (sdraw P (gS SV)) fuel c n X.rd.isSome T H X.m).out=some (e,T',H',X.m):=by rw [acode_m,hr];exact out_addm ho
 obtain⟨ρ,hAR,hf,hfz,hkp⟩:=hs.ex
 refine hI.sim _ _ _ _ _ _ _ _ _ _ ho' w0.heap.size ρ a w X.rd k _ rfl hAR (by rw [hs.defers];exact hkp.dm) (fun i h1 _=>hf i h1) fun ρ' a' w' g1 g2 g3=> ?_
 refine .inl ⟨T',H',hq,⟨⟨ρ',g1,fun i hi=> ?_,fun b A hb=> ?_,keep_stp hkp g2⟩,hs.below.trans (g2.below hAR.H),g3.unique (hkp.dm.mono g2.le)⟩⟩
 ·rw [g2.ext i (.inr hi)]
  exact hf i (Nat.le_trans g2.next hi)
 ·rcases g2.fzn b A hb with h|h|⟨i,k,c,q1,q2,q3⟩
  ·exact hfz b A h
  ·exact .inr (Nat.le_trans hs.below.size h)
  ·obtain⟨b',c',o,e1,_,_,e4⟩:=hAR.H.blk i k q1
   rw [q3]at e1;cases e1
   exact .inr (e4 q2)
theorem SatX.refit {X:Ext} {a:Act} {w:World} {σ:Ren} {s:St} (hs:SatX X P w0 F n T H a w) (h:fit P σ n T H s) (hp:pinned σ s.H.next X.pins=true):SatX X P w0 F n s.T s.H a w:=by
 obtain⟨ρ,hAR,hf,hfz,hkp⟩:=hs.ex
 obtain⟨h1,h2⟩:=fit_ok hAR h
 exact⟨⟨ren σ ρ,h1,h2,hfz,hkp.ren hAR h hp⟩,hs.below,hs.defers⟩
theorem Goal.refit {X:Ext} {σ:Ren} {s:St} (h:fit P σ n T H s) (hg:GoalX X P w0 F n c s.T s.H Q) (hp:pinned σ s.H.next X.pins=true:=by rfl):GoalX X P w0 F n c T H Q:=fun a w hs k=>hg a w (hs.refit h hp) k
theorem Goal.seq {X:Ext} (hc:c= .seq x y) (h:GoalX X P w0 F n x T H (onN (fun T H=>GoalX X P w0 F n y T H Q) Q)):GoalX X P w0 F n c T H Q:=by
 subst hc
 intro a w hs k
 refine wpIn_seq (wpIn_mono (h a w hs k) fun e a' w' hh=> ?_)
 rcases hh with⟨T',H',h1,h2⟩|⟨rfl,hh⟩
 ·cases e with
  |normal=>exact h1 a' w' h2 k
  |_=>exact .inl ⟨T',H',h1,h2⟩
 ·exact .inr ⟨rfl,hh⟩
theorem Goal.block {X:Ext} {id:Nat} (hc:c= .block id x) (h:GoalX X P w0 F n x T H (inB id Q)):GoalX X P w0 F n c T H Q:=by
 subst hc
 intro a w hs k
 refine wpIn_block (wpIn_mono (h a w hs k) fun e a' w' hh=> ?_)
 rcases hh with⟨T',H',h1,h2⟩|⟨rfl,hh⟩
 ·cases e with
  |exit i=>
   show if i=id then _ else _
   have h1:if i=id then Q .normal T' H' else Q (.exit i) T' H':=h1
   by_cases hi:i=id
   ·rw [if_pos hi]at h1 ⊢;exact .inl ⟨T',H',h1,h2⟩
   ·rw [if_neg hi]at h1 ⊢;exact .inl ⟨T',H',h1,h2⟩
  |_=>exact .inl ⟨T',H',h1,h2⟩
 ·exact .inr ⟨rfl,hh⟩
theorem Goal.scope {X:Ext} (hc:c= .scope x) (h:GoalX X P w0 F n x T H (fun e T H=>(∀l,e≠ .goto l)∧Q e T H)):GoalX X P w0 F n c T H Q:=by
 subst hc
 intro a w hs k
 refine wpIn_scope_straight (wpIn_mono (h a w hs k) fun e a' w' hh=> ?_)
 rcases hh with⟨T',H',h1,h2⟩|⟨rfl,hh⟩
 ·cases e with
  |goto l=>exact absurd rfl (h1.1 l)
  |_=>exact .inl ⟨T',H',h1.2,h2⟩
 ·exact .inr ⟨rfl,hh⟩
theorem Goal.loop {X:Ext} {ι:Type} (hc:c= .loop x) (I:ι→St) (μ:ι→Nat) (σ0:Ren) (i0:ι) (h0:fit P σ0 n T H (I i0))
  (step:∀i,GoalX X P w0 F n x (I i).T (I i).H (onN (fun T H=>∃σ j,μ j<μ i∧fit P σ n T H (I j)) Q)) (hp:∀σ i,pinned σ (I i).H.next X.pins=true:=by exact fun _ _=>rfl):GoalX X P w0 F n c T H Q:=by
 subst hc
 refine Goal.refit h0 ?_ (hp _ _)
 have key:∀m i,μ i<m→∀a w,SatX X P w0 F n (I i).T (I i).H a w→∀k,Code.roundsIn (FF X.rd) k P x (fun e a' w'=>(∃T' H',Q e T' H'∧SatX X P w0 F n T' H' a' w')∨(e= .ret∧X.R a' w')) m a w:=by
  intro m
  induction m with
  |zero=>intro i hi;exact absurd hi (Nat.not_lt_zero _)
  |succ m ih=>
   intro i hi a w hs k
   rw [roundsIn_succ]
   refine wpIn_mono (step i a w hs k) fun e a' w' hh=> ?_
   rcases hh with⟨T',H',h1,h2⟩|⟨rfl,hh⟩
   ·cases e with
    |normal=>
     obtain⟨σ,j,g1,g2⟩:=h1
     exact ih j (by omega) a' w' (h2.refit g2 (hp _ _)) k
    |_=>exact .inl ⟨T',H',h1,h2⟩
   ·exact .inr ⟨rfl,hh⟩
 intro a w hs k
 exact wpIn_loop_rounds (μ i0+1) (key (μ i0+1) i0 (Nat.lt_succ_self _) a w hs k)
end
def Ty.noList:Ty→Bool
 | .list _ _=>false
 | .ptr _=>false
 | .pair a b=>a.noList&&b.noList
 |_=>true
mutual
def frz (fresh:Bool) (H:AHeap):AV→AV→Prop
 | .raw (.slice none 0 0), .lst _ _ ys=>ys=[]
 | .raw a, .raw b=>fitRaw a b
 | .lst z t xs, .lst z' u ys=>chk (!fresh) (lstFit z z' ys.length (eqD t u xs ys))
 | .osl e t i k len _, .lst z u ys=>chk (decide (t=u)&&(!fresh||t.noList)) (len=ys.length∧ys=((blkXs u (H.get i)).drop k).take len∧(len=0∨ownHas e u (H.get i) (k+len-1)=true)∧(z=true→len≠0))
 | .slice i off n _, .lst z u ys=>(match H.get i with
   |some (.cells _ cs _ _ false)=>chk (!fresh||u.noList) (match u.readL n (cut cs off (n*u.size))with
    |some ds=>ds=ys∧(Nat.ble (off+n*u.size) cs.length&&(!z||Nat.ble 1 n))=true
    |none=>False)
   |_=>False)
 | .agg l, .agg l'=>frzs fresh H l l'
 | .tuple l, .tuple l'=>frzs fresh H l l'
 |_,_=>False
def frzs (fresh:Bool) (H:AHeap):List AV→List AV→Prop
 |[],[]=>True
 |v::l,v'::l'=>frz fresh H v v'∧frzs fresh H l l'
 |_,_=>False
end
structure OkF (w:World) (F:Env):Prop where
 glob:∀i x,F i=some x→i<64
 all:∀g,g<64→∃c,F g=some (g,c)
 fz:∀b A,F.fz b=some A→∃e fr,w.heap[b]? =some (.cells A e fr)
def Grd (F:Env):Prop:=∀b p,Ground.g b=some p→∃A,F.fz b=some A∧p A
def Holds (P:Program) (fresh:Bool) (f:FuncId) (args:List AV) (res:AV):Prop:=
 ∀(w:World) (F:Env) (xs:List Value),OkF w F→Grd F→Dens F args xs→Calls P f xs.toArray w fun e w'=>∃x F',e= .returned x∧Den F' res x∧OkF w' F'∧(∀b A,F'.fz b=some A→(fresh=false∧F.fz b=some A)∨w.heap.size≤b)∧Below w.heap.size w w'
def H0:AHeap:=⟨.nil,64⟩
def retQ (P:Program) (fresh:Bool) (fn:Func) (res:AV):Exit→Tr AV→AHeap→Prop:=fun e T H=>match e with
 | .normal| .ret=>(match aresults P fn T H with | .ok v _=>frz fresh H v res|_=>False)
 |_=>False
section
variable {P:Program}
def cellsOf? (w:World) (b:Nat):Option (Array Value):=match w.heap[b]? with
 |some (.cells A _ _)=>some A
 |_=>none
theorem cellsOf?_some {w:World} {b:Nat} {A:Array Value}:cellsOf? w b=some A↔ ∃e fr,w.heap[b]? =some (.cells A e fr):=by
 unfold cellsOf?
 constructor
 ·intro h
  split at h
  ·rename_i A' e fr hb;cases h;exact⟨e,fr,hb⟩
  ·cases h
 ·rintro⟨e,fr,h⟩
  rw [h]
def outF (fresh:Bool) (n0:Nat) (w:World) (F:Env):Env:=⟨F.at',fun b=>if n0≤b then cellsOf? w b else if fresh then none else F.fz b⟩
theorem noList_cells {ρ ρ':Env}:∀(t:Ty) (d:t.den) ys,t.noList=true→Dens ρ (t.cells d) ys→Dens ρ' (t.cells d) ys
 | .int _,d,ys,_,h=>by cases h with |cons h1 h2=>cases h2;rw [h1.raw_eq];exact .cons (.raw _) .nil
 | .bool,d,ys,_,h=>by cases h with |cons h1 h2=>cases h2;rw [h1.raw_eq];exact .cons (.raw _) .nil
 | .str,d,ys,_,h=>by cases h with |cons h1 h2=>cases h2;rw [h1.raw_eq];exact .cons (.raw _) .nil
 | .list z t,d,ys,hn,h=>by cases hn
 | .pair a b,d,ys,hn,h=>by
   simp only [Ty.noList,Bool.and_eq_true]at hn
   obtain⟨y1,y2,rfl,h1,h2⟩:=Dens.split (a:=a.cells d.1) (b:=b.cells d.2) h
   exact(noList_cells a d.1 y1 hn.1 h1).append (noList_cells b d.2 y2 hn.2 h2)
 | .ptr t,d,ys,hn,h=>by cases hn
 | .unit,d,ys,_,h=>by cases h;exact .nil
variable {w0 w:World} {F ρ:Env} {H:AHeap} {fresh:Bool}
mutual
theorem frz_den (hH:HDen P w0.heap.size ρ H w) (hfz:∀b A,ρ.fz b=some A→F.fz b=some A∨w0.heap.size≤b):∀{v v':AV} {x:Value},frz fresh H v v'→Den ρ v x→Den (outF fresh w0.heap.size w F) v' x:=by
 intro v v' x h hd
 have hle':fresh=false→∀b A,ρ.fz b=some A→(outF fresh w0.heap.size w F).fz b=some A:=fun hf b A hb=>by
  show(if w0.heap.size≤b then cellsOf? w b else if fresh then none else F.fz b)=some A
  by_cases h0:w0.heap.size≤b
  ·rw [if_pos h0];exact cellsOf?_some.2 (hH.fz b A hb).1
  ·rw [if_neg h0,hf]
   rcases hfz b A hb with h|h
   ·exact h
   ·exact absurd h h0
 unfold frz at h
 split at h
 ·subst h
  rw [hd.raw_eq]
  exact .lstNil fun _=>⟨rfl,rfl⟩
 ·rw [hd.raw_eq,fitRaw_ok h];exact .raw _
 ·rename_i z t xs z' u ys
  obtain⟨h1,h2⟩:=chk_and h
  obtain⟨h2,h3⟩:=lstFit_ok h2
  obtain⟨e,rfl⟩:=eqD_ok h2
  subst e
  have hf:fresh=false:=by simpa using h1
  rcases hd.lst_inv with⟨rfl,a,k,rfl,hz⟩|⟨b,off,k,A,g1,g2,g3,g4,rfl,g5⟩
  ·exact .lstNil fun e=>(h3 e).elim hz fun hn=>absurd rfl hn
  ·exact .lst (hle' hf _ _ g1) g2 rfl (flat_of_cells (fun d ys=>cells_fz (hle' hf) t d ys) _ _ g3) g4 fun e=>(h3 e).elim g5 fun hn hxs=>hn (by subst hxs;rfl)
 ·rename_i e t i k len cap z u ys
  obtain⟨h1,h2,h3,h4,h5⟩:=chk_and h
  rw [Bool.and_eq_true]at h1
  obtain⟨h1,h6⟩:=h1
  have h1:=of_decide_eq_true h1
  subst h1
  rcases hd.osl_inv with⟨hl,a,rfl⟩|⟨b,c,kc,g1,g2,g3,rfl⟩
  ·subst hl
   have:ys=[]:=List.eq_nil_of_length_eq_zero h2.symm
   subst this
   exact .lstNil fun e=>absurd rfl (h5 e)
  ·rcases h4 with hl|h4
   ·subst hl
    have:ys=[]:=List.eq_nil_of_length_eq_zero h2.symm
    subst this
    exact .lstNil fun e=>absurd rfl (h5 e)
   ·obtain⟨b1,b2⟩:=ownHas_some h4
    by_cases hl:len=0
    ·subst hl
     have:ys=[]:=List.eq_nil_of_length_eq_zero h2.symm
     subst this
     exact .lstNil fun e=>absurd rfl (h5 e)
    ·obtain⟨zs,q1,q2,_⟩:=own_at hH b1 g1
     generalize blkXs t (H.get i)=xs at b1 b2 h3 q2
     have hB:w0.heap.size≤b:=by
      obtain⟨b',c',o,e1,_,_,e4⟩:=hH.blk i _ b1
      rw [g1]at e1;cases e1
      exact e4 rfl
     have hle2:k+len≤xs.length:=by omega
     have e1:(xs.drop k).take len=(xs.take (k+len)).drop k:=by rw [List.take_drop]
     have hpd:=part_den (off:=0) (A:=zs.toList) (l:=k) (h:=k+len) (by simpa using q2) (by omega) hle2
     rw [Nat.zero_add,←e1,←h3]at hpd
     rw [h2]
     refine .lst (A:=zs) ?_ ?_ rfl ?_ (by omega) (fun e hys=>by subst hys;exact hl h2)
     ·show(if w0.heap.size≤b then cellsOf? w b else _)=some zs
      rw [if_pos hB];exact cellsOf?_some.2 ⟨_,_,q1⟩
     ·have e2:=hpd.length
      have:k*t.size+(t.flat ys).length≤zs.toList.length:=by
       have e3:(t.flat xs).length≤zs.toList.length:=by
        have:=q2.length
        simp at this ⊢;omega
       rw [t.flat_len]at e3 ⊢
       rw [←h2,←Nat.add_mul]
       exact Nat.le_trans (Nat.mul_le_mul_right _ hle2) e3
      simpa using this
     ·cases hf:fresh with
      |true=>
       rw [hf]at h6
       have h6:t.noList=true:=by simpa using h6
       exact flat_of_cells (fun d ys=>noList_cells t d ys h6) _ _ hpd
      |false=>rw [←hf];exact flat_of_cells (fun d ys=>cells_fz (hle' hf) t d ys) _ _ hpd
 ·rename_i i off n cap z u ys
  split at h
  ·rename_i e cs x fz hg
   obtain⟨h1,h2⟩:=chk_and h
   split at h2
   ·rename_i ds hrd
    obtain⟨rfl,h3⟩:=h2
    rw [Bool.and_eq_true]at h3
    obtain⟨hle,hzn⟩:=h3
    have hle:=Nat.le_of_ble_eq_true hle
    obtain⟨b,c,k,g1,_,g3,rfl⟩:=hd.slice_inv
    obtain⟨zs,fz',q1,_,q3,_,_,q6⟩:=cells_at hH hg g1
    have hcut:=(q3.drop off).take (n*u.size)
    obtain⟨hfd,hn⟩:=Ty.readL_den hrd hcut
    subst hn
    have hfl:=u.flat_len ds
    have e2:((zs.toList.take cs.length).drop off).take (ds.length*u.size)=(zs.toList.drop off).take (u.flat ds).length:=by
     rw [hfl,List.drop_take,List.take_take,Nat.min_eq_left (by omega)]
    rw [e2]at hfd
    have hB:w0.heap.size≤b:=by
     obtain⟨b',c',o,e1,_,_,e4⟩:=hH.blk i _ hg
     rw [g1]at e1;cases e1
     exact e4 rfl
    refine .lst (A:=zs) ?_ (by rw [hfl];omega) rfl ?_ g3 fun e hys=> ?_
    ·show(if w0.heap.size≤b then cellsOf? w b else _)=some zs
     rw [if_pos hB];exact cellsOf?_some.2 ⟨_,_,q1⟩
    ·cases hf:fresh with
     |true=>
      rw [hf]at h1
      have h1:u.noList=true:=by simpa using h1
      exact flat_of_cells (fun d ys=>noList_cells u d ys h1) _ _ hfd
     |false=>rw [←hf];exact flat_of_cells (fun d ys=>cells_fz (hle' hf) u d ys) _ _ hfd
    ·subst e;subst hys;cases hzn
   ·exact h2.elim
  ·exact h.elim
 ·obtain⟨xs,g1,rfl⟩:=hd.agg_inv
  exact .agg (frzs_den hH hfz h g1)
 ·obtain⟨xs,g1,rfl⟩:=hd.tuple_inv
  exact .tuple (frzs_den hH hfz h g1)
 ·exact h.elim
theorem frzs_den (hH:HDen P w0.heap.size ρ H w) (hfz:∀b A,ρ.fz b=some A→F.fz b=some A∨w0.heap.size≤b):∀{v v':List AV} {x:List Value},frzs fresh H v v'→Dens ρ v x→Dens (outF fresh w0.heap.size w F) v' x:=by
 intro v v' x h hd
 unfold frzs at h
 split at h
 ·cases hd;exact .nil
 ·cases hd with
  |cons h1 h2=>exact .cons (frz_den hH hfz h.1 h1) (frzs_den hH hfz h.2 h2)
 ·exact h.elim
end
theorem holds_of {f:FuncId} {fn:Func} {c:Code} {args:List AV} {res:AV} (hf:P.funcs[f]? =some fn) (hb:fn.body=some c) (hn:args.length≤fn.ntmps)
  (h:∀w F,Goal P w F fn.ntmps c (initT args .nil 0) H0 (retQ P fresh fn res)):Holds P fresh f args res:=by
 intro w F xs hF hG hd
 have hg:=h w F
 have hH:HDen P w.heap.size F H0 w:=⟨fun i k h=>(by rw [show H0.get i=none from Tr.get_nil i]at h;cases h),fun i j ki kj b ci cj h=>(by rw [show H0.get i=none from Tr.get_nil i]at h;cases h),fun i k h=>(by rw [show H0.get i=none from Tr.get_nil i]at h;cases h),Nat.le_refl _,
  fun b A h=>⟨hF.fz b A h,fun i k c hi=>(by rw [show H0.get i=none from Tr.get_nil i]at hi;cases hi)⟩⟩
 have hs:Sat P w F fn.ntmps (initT args .nil 0) H0 {tmps:=xs.toArray++Array.replicate (fn.ntmps-xs.toArray.size) undef,defers:=[]} w:=by
  refine⟨⟨F,⟨initT_ok hd hn,hH,hF.all,hG⟩,fun i hi=> ?_,fun b A h=> .inl h,⟨fun b o h=>(by cases h),fun i hi=>(by cases hi),fun b A h=>(by cases h),Nat.zero_le _,fun b o h=>(by cases h),rfl,fun b o h=>(by cases h)⟩⟩,Below.refl _ _,rfl⟩
  have hi:64≤i:=hi
  cases hfi:F i with
  |none=>rfl
  |some x=>exact absurd (hF.glob i x hfi) (by omega)
 suffices hc:CallsIn (FF none) 0 P f xs.toArray w (fun e w'=>∃x F',e= .returned x∧Den F' res x∧OkF w' F'∧(∀b A,F'.fz b=some A→(fresh=false∧F.fz b=some A)∨w.heap.size≤b)∧Below w.heap.size w w')from callsIn_wide.1 hc
 refine callsIn_of_wp_marks hf hb trivial (wpIn_mono (hg _ _ hs 0) fun e a' w' hh=> ?_)
 obtain⟨T',H',h1,h2⟩:=hh.resolve_right fun q=>q.2
 obtain⟨ρ,hAR,hnone,hfz,_⟩:=h2.ex
 have hd':=h2.defers
 have key:(match aresults P fn T' H' with | .ok v _=>frz fresh H' v res|_=>False)→LeavesInM (FF none) 0 P fn a'.tmps (fun e w'=>∃x F',e= .returned x∧Den F' res x∧OkF w' F'∧(∀b A,F'.fz b=some A→(fresh=false∧F.fz b=some A)∨w.heap.size≤b)∧Below w.heap.size w w') a'.defers .returning w':=by
  intro hr
  split at hr
  ·rename_i v H2 hres
   have hDM:DM ρ [] a'.defers:=hd'
   refine aleave_ok (T:=T') (H:=H') [] hAR hDM (show aleave P fn T' H' []= .ok v H2 from hres) fun y w2 r1 r2 r3=> ?_
   obtain⟨rfl,_⟩:=aresults_ok hAR hres
   refine⟨y,outF fresh w.heap.size w2 F,rfl,frz_den r2 hfz hr r1,⟨hF.glob,hF.all,fun b A hb=> ?_⟩,fun b A hb=> ?_,h2.below.trans (r3.below hAR.H)⟩
   ·have hb:(if w.heap.size≤b then cellsOf? w2 b else if fresh then none else F.fz b)=some A:=hb
    by_cases h0:w.heap.size≤b
    ·rw [if_pos h0]at hb;exact cellsOf?_some.1 hb
    ·rw [if_neg h0]at hb
     cases hfr:fresh with
     |true=>rw [hfr]at hb;cases hb
     |false=>
      rw [hfr]at hb
      obtain⟨e,fr,h3⟩:=hF.fz b A hb
      exact⟨e,fr,((h2.below.trans (r3.below hAR.H)).block b (by omega)).trans h3⟩
   ·have hb:(if w.heap.size≤b then cellsOf? w2 b else if fresh then none else F.fz b)=some A:=hb
    by_cases h0:w.heap.size≤b
    ·exact .inr h0
    ·rw [if_neg h0]at hb
     cases hfr:fresh with
     |true=>rw [hfr]at hb;cases hb
     |false=>rw [hfr]at hb;exact .inl ⟨rfl,hb⟩
  ·exact hr.elim
 cases e with
 |normal=>exact key h1
 |ret=>exact key h1
 |_=>exact h1.elim
end
end
end Go.Proofs.YtccmlbinkgbpgaaGreatDoor.Sv
/- The runner over an abstract memory: functions of which it is known what they return for plain data. -/
namespace Go.Proofs.YtccmlbinkgbpgaaGreatDoor.Sv
open Go.RowKit
set_option linter.unusedSectionVars false
variable [Ground]
noncomputable section
def tup:List Ty→Type
 |[]=>Unit
 |t::l=>t.den×tup l
def hdLstH {β:Type} (H:AHeap) (bor z:Bool) (t:Ty) (no:Tst β) (l:List AV) (f:List t.den→List AV→Tst β):Tst β:=match l with
 | .lst z' t' xs::r=>if h:t'=t then(match !z||z' with |true=>f (h ▸ xs) r|false=> .must (Nat.ble 1 xs.length) (f (h ▸ xs) r))else no
 | .raw (.slice none 0 0)::r=>f [] r
 | .osl e u i k len _::r=>(match bor&&(decide (u=t)&& !z)with
   |true=> .must (Nat.beq len 0||ownHas e t (H.get i) (k+len-1)) (f (((blkXs t (H.get i)).drop k).take len) r)
   |false=>no)
 | .slice i off n _::r=>(match bor&& !z,H.get i with
   |true,some (.cells _ cs _ _ _)=>(match Nat.ble (off+n*t.size) cs.length,t.readL n (cut cs off (n*t.size))with
    |true,some ds=>f ds r
    |_,_=>no)
   |_,_=>no)
 |_=>no
def Ty.takeH {β:Type} (H:AHeap) (bor:Bool) (no:Tst β):(t:Ty)→List AV→(t.den→List AV→Tst β)→Tst β
 | .int k,l,f=>match hdInt k l with |some (x,r)=>f x r|none=>no
 | .bool,l,f=>match hdBool l with |some (x,r)=>f x r|none=>no
 | .str,l,f=>match hdStr l with |some (x,r)=>f x r|none=>no
 | .list z t,l,f=>hdLstH H bor z t no l f
 | .pair a b,l,f=>a.takeH H bor no l fun x r=>b.takeH H bor no r fun y r=>f (x,y) r
 | .ptr t,l,f=>match hdPtr t l with |some (x,r)=>f x r|none=>no
 | .unit,l,f=>f () l
def Ty.isAgg:Ty→Bool
 | .pair _ _=>true
 | .unit=>true
 |_=>false
def argH {β:Type} (H:AHeap) (bor:Bool) (no:Tst β) (t:Ty) (v:AV) (f:t.den→Tst β):Tst β:=match t.isAgg,v with
 |true, .agg cs=>t.takeH H bor no cs fun d r=>match r with |[]=>f d|_=>no
 |true,_=>no
 |false,v=>t.takeH H bor no [v] fun d r=>match r with |[]=>f d|_=>no
def argsH {β:Type} (H:AHeap) (bor:Bool) (no:Tst β):(ps:List Ty)→List AV→(tup ps→Tst β)→Tst β
 |[],[],f=>f ()
 |t::ps,v::vs,f=>argH H bor no t v fun d=>argsH H bor no ps vs fun ds=>f (d,ds)
 |_,_,_=>no
def valV (t:Ty) (d:t.den):AV:=match t.isAgg with
 |true=> .agg (t.cells d)
 |false=>(t.cells d).headD .bot
def valVs:(ts:List Ty)→tup ts→List AV
 |[],_=>[]
 |t::l,d=>valV t d.1::valVs l d.2
def resV (rs:List Ty) (d:tup rs):AV:=match valVs rs d with
 |[v]=>v
 |vs=> .tuple vs
structure Ctr where
 f:FuncId
 ps:List Ty
 rs:List Ty
 fresh:Bool
 pre:tup ps→Bool
 fn:tup ps→tup rs
def Ctr.Ok (P:Program) (c:Ctr):Prop:=∀d,c.pre d=true→Holds P c.fresh c.f (valVs c.ps d) (resV c.rs (c.fn d))
def ctrV (c:Ctr) (args:List AV) (H:AHeap):Tst VR:=argsH H c.fresh (.ret .no) c.ps args fun d=> .must (c.pre d) (.ret (.ok (resV c.rs (c.fn d)) H))
def ctrs:List Ctr→VCaller
 |[],_,_,_=> .ret .no
 |c::l,f,args,H=>match Nat.beq f c.f with |true=>ctrV c args H|false=>ctrs l f args H
section
variable {P:Program} {B:Nat} {ρ:Env} {H:AHeap} {w:World}
def argF (bor:Bool) (w:World) (ρ:Env):Env:=⟨fun i=>if i<64 then ρ i else none,fun b=>if bor then cellsOf? w b else ρ.fz b⟩
theorem argF_fz (hH:HDen P B ρ H w) (bor:Bool):∀b A,ρ.fz b=some A→(argF bor w ρ).fz b=some A:=fun b A h=>by
 cases bor with
 |true=>exact cellsOf?_some.2 (hH.fz b A h).1
 |false=>exact h
theorem argF_cells (hH:HDen P B ρ H w) (bor:Bool) {t:Ty} {d:t.den} {ys:List Value} (h:Dens ρ (t.cells d) ys):Dens (argF bor w ρ) (t.cells d) ys:=cells_fz (argF_fz hH bor) t d ys h
theorem hdLstH_den {β:Type} (hH:HDen P B ρ H w) {bor z:Bool} {t:Ty} {no:Tst β} {b:β} (hno:no.gr≠some b) {l:List AV} {f:List t.den→List AV→Tst β} (h:(hdLstH H bor z t no l f).gr=some b):
  ∃xs r,(f xs r).gr=some b∧∀ys,Dens ρ l ys→∃y1 y2,ys=y1++y2∧Dens (argF bor w ρ) [.lst z t xs] y1∧Dens ρ r y2:=by
 unfold hdLstH at h
 split at h
 ·rename_i z' t' xs r
  split at h
  ·rename_i e
   subst e
   have key:∀(hz:z=true→z'=true∨xs≠[]) ys,Dens ρ (.lst z' t' xs::r) ys→∃y1 y2,ys=y1++y2∧Dens (argF bor w ρ) [.lst z t' xs] y1∧Dens ρ r y2:=by
    intro hz ys hd
    cases hd with
    |cons h1 h2=>
     refine⟨[_],_,rfl, .cons ?_ .nil,h2⟩
     rcases h1.lst_inv with⟨rfl,a,k,rfl,hz'⟩|⟨b,off,k,A,g1,g2,g3,g4,rfl,g5⟩
     ·exact .lstNil fun e=>(hz e).elim hz' fun h=>absurd rfl h
     ·exact .lst (argF_fz hH bor _ _ g1) g2 rfl (flat_of_cells (fun d ys=>argF_cells hH bor) _ _ g3) g4 fun e=>(hz e).elim g5 id
   split at h
   ·rename_i hz
    exact⟨xs,r,h,key fun e=> .inl (by subst e;simpa using hz)⟩
   ·cases hb:Nat.ble 1 xs.length with
    |false=>simp only [hb,Tst.gr,cond_false]at h;cases h
    |true=>
     simp only [hb,Tst.gr,cond_true]at h
     exact⟨xs,r,h,key fun e=> .inr fun hx=>by subst hx;cases hb⟩
  ·exact absurd h hno
 ·rename_i r
  refine⟨[],r,h,fun ys hd=> ?_⟩
  cases hd with
  |cons h1 h2=>
   refine⟨[_],_,rfl, .cons ?_ .nil,h2⟩
   rw [h1.raw_eq]
   exact .lstNil fun _=>⟨rfl,rfl⟩
 ·rename_i e u i k len cap r
  split at h
  ·rename_i hc
   simp only [Bool.and_eq_true,decide_eq_true_eq]at hc
   obtain⟨hb,hu,hz⟩:=hc
   subst hu;subst hb
   have hz:z=false:=by simpa using hz
   subst hz
   cases hm:(Nat.beq len 0||ownHas e u (H.get i) (k+len-1))with
   |false=>rw [hm]at h;cases h
   |true=>
    rw [hm]at h
    refine⟨_,r,h,fun ys hd=> ?_⟩
    cases hd with
    |cons h1 h2=>
     refine⟨[_],_,rfl, .cons ?_ .nil,h2⟩
     rcases h1.osl_inv with⟨rfl,a,rfl⟩|⟨b,c,kc,g1,g2,g3,rfl⟩
     ·rw [List.take_zero];exact .lstNil fun e=>by cases e
     ·rw [Bool.or_eq_true]at hm
      by_cases hl:len=0
      ·subst hl;rw [List.take_zero];exact .lstNil fun e=>by cases e
      ·have hm:=hm.resolve_left fun e=>hl (Nat.eq_of_beq_eq_true e)
       obtain⟨b1,b2⟩:=ownHas_some hm
       obtain⟨zs,q1,q2,_⟩:=own_at hH b1 g1
       generalize blkXs u (H.get i)=xs at b1 b2 q2 ⊢
       have hle2:k+len≤xs.length:=by omega
       have e1:(xs.drop k).take len=(xs.take (k+len)).drop k:=by rw [List.take_drop]
       have hpd:=part_den (off:=0) (A:=zs.toList) (l:=k) (h:=k+len) (by simpa using q2) (by omega) hle2
       rw [Nat.zero_add,←e1]at hpd
       have hn:((xs.drop k).take len).length=len:=by simp;omega
       have hd2:=Den.lst (ρ:=argF true w ρ) (z:=false) (t:=u) (xs:=(xs.drop k).take len) (b:=b) (off:=k*u.size) (k:=kc) (A:=zs) (cellsOf?_some.2 ⟨_,_,q1⟩) (by
        have e3:(u.flat xs).length≤zs.toList.length:=by
         have:=q2.length
         simp at this ⊢;omega
        rw [u.flat_len]at e3 ⊢
        rw [hn,←Nat.add_mul]
        have:=Nat.le_trans (Nat.mul_le_mul_right u.size hle2) e3
        simpa using this) rfl (flat_of_cells (fun d ys=>argF_cells hH true) _ _ hpd) (by omega) (fun e=>by cases e)
       rwa [hn]at hd2
  ·exact absurd h hno
 ·rename_i i off n cap r
  split at h
  ·rename_i e cs x fz ro hc hg
   rw [Bool.and_eq_true]at hc
   obtain⟨hb,hz⟩:=hc
   subst hb
   have hz:z=false:=by simpa using hz
   subst hz
   split at h
   ·rename_i ds hle hrd
    have hle:=Nat.le_of_ble_eq_true hle
    refine⟨ds,r,h,fun ys hd=> ?_⟩
    cases hd with
    |cons h1 h2=>
     refine⟨[_],_,rfl, .cons ?_ .nil,h2⟩
     obtain⟨b,c,k,g1,_,g3,rfl⟩:=h1.slice_inv
     obtain⟨zs,fz',q1,_,q3,_,_,q6⟩:=cells_at hH hg g1
     have hcut:=(q3.drop off).take (n*t.size)
     obtain⟨hfd,hn⟩:=Ty.readL_den hrd hcut
     subst hn
     have hfl:=t.flat_len ds
     have e2:((zs.toList.take cs.length).drop off).take (ds.length*t.size)=(zs.toList.drop off).take (t.flat ds).length:=by
      rw [hfl,List.drop_take,List.take_take,Nat.min_eq_left (by omega)]
     rw [e2]at hfd
     exact .lst (cellsOf?_some.2 ⟨_,_,q1⟩) (by rw [hfl];omega) rfl (flat_of_cells (fun d ys=>argF_cells hH true) _ _ hfd) g3 fun e=>by cases e
   ·exact absurd h hno
  ·exact absurd h hno
 ·exact absurd h hno
theorem hdLstH_inv {β:Type} {bor z:Bool} {t:Ty} {no:Tst β} {b:β} (hno:no.gr≠some b) {l:List AV} {f:List t.den→List AV→Tst β} (h:(hdLstH H bor z t no l f).gr=some b):∃xs r,(f xs r).gr=some b:=by
 unfold hdLstH at h
 split at h
 ·split at h
  ·split at h
   ·exact⟨_,_,h⟩
   ·rename_i xs r _ _ _
    cases hb:Nat.ble 1 xs.length with
    |false=>simp only [hb,Tst.gr,cond_false]at h;cases h
    |true=>simp only [hb,Tst.gr,cond_true]at h;exact⟨_,_,h⟩
  ·exact absurd h hno
 ·exact⟨_,_,h⟩
 ·rename_i e u i k len cap r
  split at h
  ·cases hm:(Nat.beq len 0||ownHas e t (H.get i) (k+len-1))with
   |false=>rw [hm]at h;cases h
   |true=>rw [hm]at h;exact⟨_,_,h⟩
  ·exact absurd h hno
 ·split at h
  ·split at h
   ·exact⟨_,_,h⟩
   ·exact absurd h hno
  ·exact absurd h hno
 ·exact absurd h hno
theorem takeH_inv {β:Type} {bor:Bool} {no:Tst β} {b:β} (hno:no.gr≠some b):∀(t:Ty) {l:List AV} {f:t.den→List AV→Tst β},(t.takeH H bor no l f).gr=some b→∃d r,(f d r).gr=some b
 | .int k,l,f,h=>by
   have h:(match hdInt k l with |some (x,r)=>f x r|none=>no).gr=some b:=h
   split at h
   ·exact⟨_,_,h⟩
   ·exact absurd h hno
 | .bool,l,f,h=>by
   have h:(match hdBool l with |some (x,r)=>f x r|none=>no).gr=some b:=h
   split at h
   ·exact⟨_,_,h⟩
   ·exact absurd h hno
 | .str,l,f,h=>by
   have h:(match hdStr l with |some (x,r)=>f x r|none=>no).gr=some b:=h
   split at h
   ·exact⟨_,_,h⟩
   ·exact absurd h hno
 | .list z t,l,f,h=>hdLstH_inv hno h
 | .pair a c,l,f,h=>by
   obtain⟨x,r,h1⟩:=takeH_inv hno a (f:=fun x r=>c.takeH H bor no r fun y r=>f (x,y) r) h
   obtain⟨y,r',h3⟩:=takeH_inv hno c h1
   exact⟨_,_,h3⟩
 | .ptr t,l,f,h=>by
   have h:(match hdPtr t l with |some (x,r)=>f x r|none=>no).gr=some b:=h
   split at h
   ·exact⟨_,_,h⟩
   ·exact absurd h hno
 | .unit,l,f,h=>⟨(),l,h⟩
theorem argsH_inv {β:Type} {bor:Bool} {no:Tst β} {b:β} (hno:no.gr≠some b):∀(ps:List Ty) {vs:List AV} {f:tup ps→Tst β},(argsH H bor no ps vs f).gr=some b→∃d,(f d).gr=some b
 |[],[],f,h=>⟨(),h⟩
 |[],_::_,f,h=>absurd h hno
 |_::_,[],f,h=>absurd h hno
 |t::ps,v::vs,f,h=>by
  have h:(argH H bor no t v fun d=>argsH H bor no ps vs fun ds=>f (d,ds)).gr=some b:=h
  have:∃d,(argsH H bor no ps vs fun ds=>f (d,ds)).gr=some b:=by
   unfold argH at h
   split at h
   ·obtain⟨d,r,h1⟩:=takeH_inv hno t h
    cases r with
    |cons _ _=>exact absurd h1 hno
    |nil=>exact⟨d,h1⟩
   ·exact absurd h hno
   ·obtain⟨d,r,h1⟩:=takeH_inv hno t h
    cases r with
    |cons _ _=>exact absurd h1 hno
    |nil=>exact⟨d,h1⟩
  obtain⟨d,h1⟩:=this
  obtain⟨ds,h3⟩:=argsH_inv hno ps h1
  exact⟨(d,ds),h3⟩
theorem takeH_den {β:Type} (hH:HDen P B ρ H w) {bor:Bool} {no:Tst β} {b:β} (hno:no.gr≠some b):∀(t:Ty) {l:List AV} {f:t.den→List AV→Tst β},(t.takeH H bor no l f).gr=some b→
  ∃d r,(f d r).gr=some b∧∀ys,Dens ρ l ys→∃y1 y2,ys=y1++y2∧Dens (argF bor w ρ) (t.cells d) y1∧Dens ρ r y2
 | .int k,l,f,h=>by
   have h:(match hdInt k l with |some (x,r)=>f x r|none=>no).gr=some b:=h
   split at h
   ·rename_i x r hx
    refine⟨x,r,h,fun ys hd=> ?_⟩
    obtain⟨y1,y2,e,h1,h2⟩:=Ty.take1_den (.int k) hx hd
    exact⟨y1,y2,e,argF_cells hH bor h1,h2⟩
   ·exact absurd h hno
 | .bool,l,f,h=>by
   have h:(match hdBool l with |some (x,r)=>f x r|none=>no).gr=some b:=h
   split at h
   ·rename_i x r hx
    refine⟨x,r,h,fun ys hd=> ?_⟩
    obtain⟨y1,y2,e,h1,h2⟩:=Ty.take1_den .bool hx hd
    exact⟨y1,y2,e,argF_cells hH bor h1,h2⟩
   ·exact absurd h hno
 | .str,l,f,h=>by
   have h:(match hdStr l with |some (x,r)=>f x r|none=>no).gr=some b:=h
   split at h
   ·rename_i x r hx
    refine⟨x,r,h,fun ys hd=> ?_⟩
    obtain⟨y1,y2,e,h1,h2⟩:=Ty.take1_den .str hx hd
    exact⟨y1,y2,e,argF_cells hH bor h1,h2⟩
   ·exact absurd h hno
 | .list z t,l,f,h=>hdLstH_den hH hno h
 | .pair a c,l,f,h=>by
   obtain⟨x,r,h1,h2⟩:=takeH_den hH hno a (f:=fun x r=>c.takeH H bor no r fun y r=>f (x,y) r) h
   obtain⟨y,r',h3,h4⟩:=takeH_den hH hno c h1
   refine⟨(x,y),r',h3,fun ys hd=> ?_⟩
   obtain⟨y1,y2,rfl,g1,g2⟩:=h2 ys hd
   obtain⟨y3,y4,rfl,g3,g4⟩:=h4 y2 g2
   exact⟨y1++y3,y4,by simp,g1.append g3,g4⟩
 | .ptr t,l,f,h=>by
   have h:(match hdPtr t l with |some (x,r)=>f x r|none=>no).gr=some b:=h
   split at h
   ·rename_i x r hx
    refine⟨x,r,h,fun ys hd=> ?_⟩
    obtain⟨y1,y2,e,h1,h2⟩:=Ty.take1_den (.ptr t) hx hd
    exact⟨y1,y2,e,argF_cells hH bor h1,h2⟩
   ·exact absurd h hno
 | .unit,l,f,h=>⟨(),l,h,fun ys hd=>⟨[],ys,rfl, .nil,hd⟩⟩
theorem valV_single {t:Ty} (h:t.isAgg=false) (d:t.den):t.cells d=[valV t d]:=by
 cases t<;>first |rfl |cases h
theorem argH_den {β:Type} (hH:HDen P B ρ H w) {bor:Bool} {no:Tst β} {b:β} (hno:no.gr≠some b) {t:Ty} {v:AV} {f:t.den→Tst β} (h:(argH H bor no t v f).gr=some b):
  ∃d,(f d).gr=some b∧∀x,Den ρ v x→Den (argF bor w ρ) (valV t d) x:=by
 unfold argH at h
 split at h
 ·rename_i cs ha
  obtain⟨d,r,h1,h2⟩:=takeH_den hH hno t h
  cases r with
  |cons _ _=>exact absurd h1 hno
  |nil=>
   refine⟨d,h1,fun x hx=> ?_⟩
   obtain⟨xs,g1,rfl⟩:=hx.agg_inv
   obtain⟨y1,y2,rfl,g2,g3⟩:=h2 xs g1
   cases g3
   unfold valV
   rw [ha,List.append_nil]
   exact .agg g2
 ·exact absurd h hno
 ·rename_i ha
  obtain⟨d,r,h1,h2⟩:=takeH_den hH hno t h
  cases r with
  |cons _ _=>exact absurd h1 hno
  |nil=>
   refine⟨d,h1,fun x hx=> ?_⟩
   obtain⟨y1,y2,e,g2,g3⟩:=h2 [x] (.cons hx .nil)
   cases g3
   rw [List.append_nil]at e
   subst e
   rw [valV_single ha]at g2
   cases g2 with |cons g _=>exact g
theorem argsH_den {β:Type} (hH:HDen P B ρ H w) {bor:Bool} {no:Tst β} {b:β} (hno:no.gr≠some b):∀(ps:List Ty) {vs:List AV} {f:tup ps→Tst β},(argsH H bor no ps vs f).gr=some b→
  ∃d,(f d).gr=some b∧∀xs,Dens ρ vs xs→Dens (argF bor w ρ) (valVs ps d) xs
 |[],[],f,h=>⟨(),h,fun xs hd=>by cases hd;exact .nil⟩
 |[],_::_,f,h=>absurd h hno
 |_::_,[],f,h=>absurd h hno
 |t::ps,v::vs,f,h=>by
  obtain⟨d,h1,h2⟩:=argH_den hH hno (f:=fun d=>argsH H bor no ps vs fun ds=>f (d,ds)) h
  obtain⟨ds,h3,h4⟩:=argsH_den hH hno ps h1
  refine⟨(d,ds),h3,fun xs hd=> ?_⟩
  cases hd with
  |cons g1 g2=>exact .cons (h2 _ g1) (h4 _ g2)
theorem valV_fz {F F':Env} (hf:∀b A,F.fz b=some A→F'.fz b=some A) {t:Ty} {d:t.den} {x:Value} (h:Den F (valV t d) x):Den F' (valV t d) x:=by
 cases ha:t.isAgg with
 |true=>
  unfold valV at h ⊢
  rw [ha]at h ⊢
  obtain⟨xs,g1,rfl⟩:=h.agg_inv
  exact .agg (cells_fz hf t d xs g1)
 |false=>
  have h1:Dens F (t.cells d) [x]:=by rw [valV_single ha];exact .cons h .nil
  have h2:=cells_fz hf t d _ h1
  rw [valV_single ha]at h2
  cases h2 with |cons g _=>exact g
theorem valVs_fz {F F':Env} (hf:∀b A,F.fz b=some A→F'.fz b=some A):∀(ts:List Ty) {d:tup ts} {xs:List Value},Dens F (valVs ts d) xs→Dens F' (valVs ts d) xs
 |[],_,_,h=>by cases h;exact .nil
 |t::l,d,_,h=>by
  cases h with
  |cons h1 h2=>exact .cons (valV_fz hf h1) (valVs_fz hf l h2)
theorem resV_fz {F F':Env} (hf:∀b A,F.fz b=some A→F'.fz b=some A) {rs:List Ty} {d:tup rs} {x:Value} (h:Den F (resV rs d) x):Den F' (resV rs d) x:=by
 have key:∀l,valVs rs d=l→Den F (match l with |[v]=>v|vs=> .tuple vs) x→Den F' (match l with |[v]=>v|vs=> .tuple vs) x:=by
  intro l hl hd
  have hds:∀xs,Dens F l xs→Dens F' l xs:=fun xs hx=>by rw [←hl]at hx ⊢;exact valVs_fz hf rs hx
  split at hd
  ·rename_i v
   have:=hds [x] (.cons hd .nil)
   cases this with |cons g _=>exact g
  ·rename_i hn
   obtain⟨xs,g1,rfl⟩:=hd.tuple_inv
   exact .tuple (hds _ g1)
 exact key _ rfl h
theorem ctrV_same {c:Ctr} {args:List AV} {v:AV} {H':AHeap} (h:(ctrV c args H).gr=some (.ok v H')):H'=H:=by
 obtain⟨d,h1⟩:=argsH_inv (bor:=c.fresh) (no:=Tst.ret VR.no) (b:=VR.ok v H') (by simp [Tst.gr]) c.ps h
 cases hp:c.pre d with
 |false=>rw [hp]at h1;cases h1
 |true=>rw [hp]at h1;cases h1;rfl
theorem ctrV_ok {c:Ctr} (hc:c.Ok P) {args:List AV} {v:AV} {H':AHeap} (h:(ctrV c args H).gr=some (.ok v H')) {xs:List Value} (m:Nat) (hH:HDen P B ρ H w) (hG:Glob ρ) (hd:Dens ρ args xs):CallsIn (FF none) m P c.f xs.toArray w (CallPost P B ρ H w v H'):=by
 have hsame:=ctrV_same h
 obtain⟨d,h1,h2⟩:=argsH_den (w:=w) hH (bor:=c.fresh) (no:=Tst.ret VR.no) (b:=VR.ok v H') (by simp [Tst.gr]) c.ps h
 have hp:c.pre d=true∧v=resV c.rs (c.fn d):=by
  cases hp:c.pre d with
  |false=>rw [hp]at h1;cases h1
  |true=>rw [hp]at h1;cases h1;exact⟨rfl,rfl⟩
 obtain⟨hp,rfl⟩:=hp
 subst hsame
 have hF:OkF w (argF c.fresh w ρ):=by
  refine⟨fun i x hx=> ?_,fun g hg=> ?_,fun b A hb=> ?_⟩
  ·have hx:(if i<64 then ρ i else none)=some x:=hx
   by_cases h:i<64
   ·exact h
   ·rw [if_neg h]at hx;cases hx
  ·obtain⟨c',hc'⟩:=hG.at' g hg
   exact⟨c',by show(if g<64 then ρ g else none)=_;rw [if_pos hg];exact hc'⟩
  ·have hb:(if c.fresh=true then cellsOf? w b else ρ.fz b)=some A:=hb
   cases hfr:c.fresh with
   |true=>rw [hfr]at hb;exact cellsOf?_some.1 hb
   |false=>rw [hfr]at hb;exact(hH.fz b A hb).1
 have hGr:Grd (argF c.fresh w ρ):=fun b p hb=>by
  obtain⟨A,h1,h2⟩:=hG.gz b p hb
  refine⟨A, ?_,h2⟩
  show(if c.fresh=true then cellsOf? w b else ρ.fz b)=some A
  cases c.fresh with
  |true=>exact cellsOf?_some.2 (hH.fz b A h1).1
  |false=>exact h1
 have hcalls:=hc d hp w (argF c.fresh w ρ) xs hF hGr (h2 xs hd)
 have hin:CallsIn (FF none) m P c.f xs.toArray w _:=callsIn_wide.2 hcalls
 refine hin.mono ?_
 rintro e w' ⟨x,F',rfl,hx,hF',hfz,hb⟩
 have hfzlt:∀b A,ρ.fz b=some A→b<w.heap.size:=fun b A h=>by
  obtain⟨⟨e,fr,h⟩,_⟩:=hH.fz b A h
  exact(Array.getElem?_eq_some_iff.1 h).1
 have hle:Le ρ ⟨ρ.at',fun b=>if w.heap.size≤b then F'.fz b else ρ.fz b⟩:=⟨fun _ _ h=>h,fun b A h=>by
  show(if w.heap.size≤b then F'.fz b else ρ.fz b)=some A
  rw [if_neg (by have:=hfzlt b A h;omega)];exact h⟩
 refine⟨x,⟨ρ.at',fun b=>if w.heap.size≤b then F'.fz b else ρ.fz b⟩,rfl,resV_fz (fun b A hbA=> ?_) hx,⟨fun i k hi=> ?_,hH.inj,hH.lt,Nat.le_trans hH.base hb.size,fun b A hbA=> ?_⟩,
  ⟨hle,fun _ _=>rfl,Nat.le_refl _,hb.size,hb.os,hb.tape,hb.output,fun b hlt _=>hb.block b hlt,fun _ _ h=>h,fun _ _ h=>h,fun b A hbA=> ?_⟩⟩
 ·show(if w.heap.size≤b then F'.fz b else ρ.fz b)=some A
  by_cases h0:w.heap.size≤b
  ·rw [if_pos h0];exact hbA
  ·rw [if_neg h0]
   rcases hfz b A hbA with⟨h3,h4⟩|h3
   ·have h4:(if c.fresh then cellsOf? w b else ρ.fz b)=some A:=h4
    rw [h3]at h4;exact h4
   ·exact absurd h3 h0
 ·obtain⟨b,c',o,e1,e2,e3,e4⟩:=hH.blk i k hi
  have hlt:=(Array.getElem?_eq_some_iff.1 e2).1
  exact⟨b,c',o,e1,(hb.block b hlt).trans e2,e3.mono hle,e4⟩
 ·have hbA:(if w.heap.size≤b then F'.fz b else ρ.fz b)=some A:=hbA
  by_cases h0:w.heap.size≤b
  ·rw [if_pos h0]at hbA
   refine⟨hF'.fz b A hbA,fun i k c' hi hr=> ?_⟩
   obtain⟨b',c2,o,e1,e2,_⟩:=hH.blk i k hi
   have hr:ρ i=some (b,c'):=hr
   rw [hr]at e1;cases e1
   have:=(Array.getElem?_eq_some_iff.1 e2).1
   omega
  ·rw [if_neg h0]at hbA
   obtain⟨⟨e,fr,h3⟩,h4⟩:=hH.fz b A hbA
   exact⟨⟨e,fr,(hb.block b (by omega)).trans h3⟩,h4⟩
 ·have hbA:(if w.heap.size≤b then F'.fz b else ρ.fz b)=some A:=hbA
  by_cases h0:w.heap.size≤b
  ·exact .inr (.inl h0)
  ·rw [if_neg h0]at hbA;exact .inl hbA
theorem ctrs_some {f:FuncId} {args:List AV} {v:AV} {H':AHeap}:∀{l:List Ctr},(ctrs l f args H).gr=some (.ok v H')→∃c∈l,c.f=f∧(ctrV c args H).gr=some (.ok v H')
 |[],h=>by cases h
 |c::l,h=>by
  unfold ctrs at h
  cases hb:Nat.beq f c.f with
  |true=>rw [hb]at h;exact⟨c,List.mem_cons_self,(Nat.eq_of_beq_eq_true hb).symm,h⟩
  |false=>
   rw [hb]at h
   obtain⟨c',h1,h2,h3⟩:=ctrs_some h
   exact⟨c',List.mem_cons_of_mem _ h1,h2,h3⟩
theorem gS_some {SV:VCaller} {f:FuncId} {args:List AV} {v:AV} {H':AHeap} (h:gS SV f args H= .ok v H'):(SV f args H).gr=some (.ok v H'):=by
 unfold gS at h
 cases hg:(SV f args H).gr with
 |none=>rw [hg]at h;cases h
 |some r=>rw [hg]at h;rw [show r= .ok v H' from h]
theorem ctrs_ok {l:List Ctr} (hl:∀c∈l,c.Ok P):CallOk P (gS (ctrs l)) where
 mono f args H v H' h:=by
  obtain⟨c,_,_,h3⟩:=ctrs_some (gS_some h)
  rw [ctrV_same h3];exact Nat.le_refl _
 sim f args H v H' h B ρ xs w m hH hG hd hf:=by
  obtain⟨c,h1,rfl,h3⟩:=ctrs_some (gS_some h)
  exact ctrV_ok (hl c h1) h3 m hH hG hd
end
end
end Go.Proofs.YtccmlbinkgbpgaaGreatDoor.Sv
/- The runner over an abstract memory: how it is used: a function's body as a list of parts; loops; what is returned. -/
namespace Go.Proofs.YtccmlbinkgbpgaaGreatDoor.Sv
open Go.RowKit
set_option linter.unusedSectionVars false
variable [Ground]
noncomputable section
def flatC:Code→List Code
 | .seq a b=>flatC a++flatC b
 |c=>[c]
def fl (c:Code) (p:List Nat):List Code:=flatC (cat c p)
def fuel0:Nat:=400
def vlist (P:Program) (SV:VCaller) (n:Nat):List Code→Tr AV→AHeap→Tst R
 |[],T,H=> .ret (.normal T H [])
 |c::l,T,H=>(vcode P SV fuel0 c n false T H []).bind fun r=>match r with
  | .normal T H []=>vlist P SV n l T H
  |r=> .ret r
def vrun (P:Program) (SV:VCaller) (l:List Code) (k:Nat) (s:St):Tst R:=vlist P SV s.n (l.take k) s.T s.H
def vall (P:Program) (SV:VCaller) (l:List Code) (s:St):Tst R:=vlist P SV s.n l s.T s.H
def vrun0 (P:Program) (SV:VCaller) (l:List Code) (k n:Nat) (args:List AV):Tst R:=vlist P SV n (l.take k) (initT args .nil 0) H0
def toSt (P:Program) (n:Nat) (e:Exit) (σ:Ren) (s':St):R→Prop
 | .normal T H []=>(match e with | .normal=>fit P σ n T H s'|_=>False)
 | .exit id T H []=>(match e with | .exit i=>chk (Nat.beq i id) (fit P σ n T H s')|_=>False)
 |_=>False
def toRet (P:Program) (fn:Func) (fresh:Bool) (res:AV):R→Prop
 | .normal _ _ _=>False
 | .ret T H []=>(match aresults P fn T H with | .ok v _=>frz fresh H v res|_=>False)
 |_=>False
section
variable {P:Program} {w0:World} {F:Env} {n:Nat} {T:Tr AV} {H:AHeap} {Q:Exit→Tr AV→AHeap→Prop}
def GoalLX (X:Ext) (P:Program) (w0:World) (F:Env) (n:Nat):List Code→Tr AV→AHeap→(Exit→Tr AV→AHeap→Prop)→Prop
 |[],T,H,Q=>Q .normal T H
 |c::l,T,H,Q=>GoalX X P w0 F n c T H (onN (fun T H=>GoalLX X P w0 F n l T H Q) Q)
abbrev GoalL:=GoalLX X0
variable {X:Ext}
theorem onN_mono {N N':Tr AV→AHeap→Prop} {Q':Exit→Tr AV→AHeap→Prop} (h1:∀T H,N T H→N' T H) (h2:∀e T H,e≠ .normal→Q e T H→Q' e T H):∀e T H,onN N Q e T H→onN N' Q' e T H:=by
 intro e T H h
 cases e with
 |normal=>exact h1 T H h
 |_=>exact h2 _ T H (by simp) h
theorem GoalL.append:∀{l1 l2:List Code} {T:Tr AV} {H:AHeap},GoalLX X P w0 F n (l1++l2) T H Q→GoalLX X P w0 F n l1 T H (onN (fun T H=>GoalLX X P w0 F n l2 T H Q) Q)
 |[],l2,T,H,h=>h
 |c::l1,l2,T,H,h=>Goal.mono h (onN_mono (fun T H h=>GoalL.append h) fun e T H hn h=>by cases e<;>first |exact absurd rfl hn|exact h)
theorem GoalL.split:∀{l1 l2:List Code} {T:Tr AV} {H:AHeap},GoalLX X P w0 F n l1 T H (onN (fun T H=>GoalLX X P w0 F n l2 T H Q) Q)→GoalLX X P w0 F n (l1++l2) T H Q
 |[],l2,T,H,h=>h
 |c::l1,l2,T,H,h=>Goal.mono h (onN_mono (fun T H h=>GoalL.split h) fun e T H hn h=>by cases e<;>first |exact absurd rfl hn|exact h)
theorem GoalL.mono {Q':Exit→Tr AV→AHeap→Prop} (hq:∀e T H,Q e T H→Q' e T H):∀{l:List Code} {T:Tr AV} {H:AHeap},GoalLX X P w0 F n l T H Q→GoalLX X P w0 F n l T H Q'
 |[],_,_,h=>hq _ _ _ h
 |_::_,_,_,h=>Goal.mono h (onN_mono (fun _ _ h=>GoalL.mono hq h) fun e T H _ h=>hq e T H h)
theorem goal_flat:∀{c:Code} {T:Tr AV} {H:AHeap} {Q:Exit→Tr AV→AHeap→Prop},GoalLX X P w0 F n (flatC c) T H Q→GoalX X P w0 F n c T H Q
 | .seq a b,T,H,Q,h=>by
   refine Goal.seq rfl (goal_flat (GoalL.mono (fun e T H h=> ?_) (GoalL.append (l1:=flatC a) (l2:=flatC b) h)))
   cases e with
   |normal=>exact goal_flat (c:=b) h
   |_=>exact h
 | .skip,T,H,Q,h=>Goal.mono h fun e T H h=>by cases e<;>exact h
 | .region _ _ _,T,H,Q,h=>Goal.mono h fun e T H h=>by cases e<;>exact h
 | .cond _ _ _,T,H,Q,h=>Goal.mono h fun e T H h=>by cases e<;>exact h
 | .block _ _,T,H,Q,h=>Goal.mono h fun e T H h=>by cases e<;>exact h
 | .loop _,T,H,Q,h=>Goal.mono h fun e T H h=>by cases e<;>exact h
 | .rangeFunc _ _ _ _,T,H,Q,h=>Goal.mono h fun e T H h=>by cases e<;>exact h
 | .exit _,T,H,Q,h=>Goal.mono h fun e T H h=>by cases e<;>exact h
 | .scope _,T,H,Q,h=>Goal.mono h fun e T H h=>by cases e<;>exact h
 | .label _,T,H,Q,h=>Goal.mono h fun e T H h=>by cases e<;>exact h
 | .goto _,T,H,Q,h=>Goal.mono h fun e T H h=>by cases e<;>exact h
 | .ret,T,H,Q,h=>Goal.mono h fun e T H h=>by cases e<;>exact h
 | .refuse _,T,H,Q,h=>Goal.mono h fun e T H h=>by cases e<;>exact h
variable {SV:VCaller}
theorem GoalL.vlist (hK:Known P) (hm:P.follows .mixedOrders=true) (hS:CallOk P (gS SV)) {Q1:R→Prop} (hq:∀r,Q1 r→outQ Q r):∀{l:List Code} {T:Tr AV} {H:AHeap} {r:R},(Sv.vlist P SV n l T H).gr=some r→Q1 r→GoalLX X P w0 F n l T H Q
 |[],T,H,r,h,h1=>by
  cases h
  exact hq _ h1
 |c::l,T,H,r,h,h1=>by
  obtain⟨r1,g1,g2⟩:=bind_gr h
  have run:∀Q2:Exit→Tr AV→AHeap→Prop,outQ Q2 r1→GoalX X P w0 F n c T H Q2:=fun Q2 h2=>by
   intro a w hs k
   obtain⟨e,T',H',ho,hq2⟩:=outQ_out h2
   have g1:=g1
   rw [←vcode_rnd fuel0 c n X.rd.isSome]at g1
   have hr:=vcode_ref (P:=P) (SV:=SV) fuel0 c n X.rd.isSome T H [] r1 g1 (by rintro rfl;cases ho)
   have hI:RunOk P (acode P (sdraw P (gS SV)) fuel0):=acode_ok hK (sdraw_ok hK hm hS) fuel0
   have ho':(acode P (sdraw P (gS SV)) fuel0 c n X.rd.isSome T H X.m).out=some (e,T',H',X.m):=by rw [acode_m,hr];exact out_addm ho
   obtain⟨ρ,hAR,hf,hfz,hkp⟩:=hs.ex
   refine hI.sim _ _ _ _ _ _ _ _ _ _ ho' w0.heap.size ρ a w X.rd k _ rfl hAR (by rw [hs.defers];exact hkp.dm) (fun i h1 _=>hf i h1) fun ρ' a' w' g1 g2 g3=> ?_
   refine .inl ⟨T',H',hq2,⟨⟨ρ',g1,fun i hi=> ?_,fun b A hb=> ?_,keep_stp hkp g2⟩,hs.below.trans (g2.below hAR.H),g3.unique (hkp.dm.mono g2.le)⟩⟩
   ·rw [g2.ext i (.inr hi)]
    exact hf i (Nat.le_trans g2.next hi)
   ·rcases g2.fzn b A hb with h|h|⟨i,k,c,q1,q2,q3⟩
    ·exact hfz b A h
    ·exact .inr (Nat.le_trans hs.below.size h)
    ·obtain⟨b',c',o,e1,_,_,e4⟩:=hAR.H.blk i k q1
     rw [q3]at e1;cases e1
     exact .inr (e4 q2)
  refine run _ ?_
  have hr1:∀r2,(match r1 with | .normal T H []=>Sv.vlist P SV n l T H|r=>Tst.ret r).gr=some r2→Q1 r2→outQ (onN (fun T H=>GoalLX X P w0 F n l T H Q) Q) r1:=by
   intro r2 h2 hq2
   split at h2
   ·exact GoalL.vlist hK hm hS hq h2 hq2
   ·cases h2
    have:=hq _ hq2
    revert this
    rename_i hnn
    cases r1 with
    |no=>exact id
    |normal T1 H1 m1=>
     cases m1 with
     |nil=>exact absurd rfl (hnn T1 H1)
     |cons _ _=>exact id
    |exit id' T1 H1 m1=>cases m1<;>exact id
    |goto l' T1 H1 m1=>exact id
    |ret T1 H1 m1=>cases m1<;>exact id
  exact hr1 r g2 h1
theorem Goal.monoF {c:Code} {Q':Exit→Tr AV→AHeap→Prop} (h:GoalX X P w0 F n c T H Q) (hq:∀e T H,Q e T H→Q' e T H∨∃σ s,fit P σ n T H s∧pinned σ s.H.next X.pins=true∧Q' e s.T s.H):GoalX X P w0 F n c T H Q':=fun a w hs k=>
 wpIn_mono (h a w hs k) fun e a' w' hh=>by
  rcases hh with⟨T',H',h1,h2⟩|hh
  ·rcases hq _ _ _ h1 with h3|⟨σ,s,h3,h5,h4⟩
   ·exact .inl ⟨T',H',h3,h2⟩
   ·exact .inl ⟨s.T,s.H,h4,h2.refit h3 h5⟩
  ·exact .inr hh
theorem GoalL.fitQ {s':St} {e:Exit} (hq:Q e s'.T s'.H):∀{l:List Code} {T:Tr AV} {H:AHeap},l≠[]→GoalLX X P w0 F n l T H (fun e' T' H'=>e'=e∧∃σ,fit P σ n T' H' s'∧pinned σ s'.H.next X.pins=true)→GoalLX X P w0 F n l T H Q
 |[],_,_,hl,_=>absurd rfl hl
 |[c],T,H,_,h=>Goal.monoF h fun e' T' H' h'=> .inr (by
    cases e' with
    |normal=>obtain⟨rfl,σ,hf,hp⟩:=h';exact⟨σ,s',hf,hp,hq⟩
    |_=>obtain⟨rfl,σ,hf,hp⟩:=h';exact⟨σ,s',hf,hp,hq⟩)
 |c::c2::l,T,H,_,h=>Goal.monoF h fun e' T' H' h'=>by
   cases e' with
   |normal=>exact .inl (GoalL.fitQ hq (by simp) h')
   |_=>obtain⟨rfl,σ,hf,hp⟩:=h';exact .inr ⟨σ,s',hf,hp,hq⟩
theorem GoalL.to (hK:Known P) (hm:P.follows .mixedOrders=true) (hS:CallOk P (gS SV)) {l:List Code} {s':St} {e:Exit} {σ:Ren} (k:Nat) (D:List Bool) (h:(Sv.vlist P SV n (l.take k) T H).path D (toSt P n e σ s')) (hne:(l.take k).isEmpty=false)
  (hq:onN (fun T H=>GoalLX X P w0 F n (l.drop k) T H Q) Q e s'.T s'.H) (hp:pinned σ s'.H.next X.pins=true:=by rfl):GoalLX X P w0 F n l T H Q:=by
 obtain⟨r,h1,h2⟩:=Tst.path_gr _ _ h
 have key:GoalLX X P w0 F n (l.take k) T H (fun e' T' H'=>e'=e∧∃σ,fit P σ n T' H' s'∧pinned σ s'.H.next X.pins=true):=by
  refine GoalL.vlist hK hm hS (Q1:=toSt P n e σ s') (fun r hr=> ?_) h1 h2
  unfold toSt at hr
  split at hr
  ·split at hr
   ·exact⟨rfl,σ,hr,hp⟩
   ·exact hr.elim
  ·split at hr
   ·obtain⟨g1,g2⟩:=chk_and hr
    rw [Nat.eq_of_beq_eq_true g1]
    exact⟨rfl,σ,g2,hp⟩
   ·exact hr.elim
  ·exact hr.elim
 have key2:GoalLX X P w0 F n (l.take k) T H (onN (fun T H=>GoalLX X P w0 F n (l.drop k) T H Q) Q):=GoalL.fitQ (s':=s') (e:=e) hq (fun hh=>by rw [hh]at hne;cases hne) key
 have:=GoalL.split key2
 rwa [List.take_append_drop]at this
theorem GoalL.toW (hK:Known P) (hm:P.follows .mixedOrders=true) (hS:CallOk P (gS SV)) {l:List Code} {s':St} {e:Exit} {σ:Ren} (k:Nat) (D:List Bool) (h:(Sv.vlist P SV n (l.take k) T H).pathW D (toSt P n e σ s')) (hne:(l.take k).isEmpty=false)
  (hq:onN (fun T H=>GoalLX X P w0 F n (l.drop k) T H Q) Q e s'.T s'.H) (hp:pinned σ s'.H.next X.pins=true:=by rfl):GoalLX X P w0 F n l T H Q:=by
 obtain⟨r,h1,h2⟩:=Tst.pathW_gr _ _ h
 have key:GoalLX X P w0 F n (l.take k) T H (fun e' T' H'=>e'=e∧∃σ,fit P σ n T' H' s'∧pinned σ s'.H.next X.pins=true):=by
  refine GoalL.vlist hK hm hS (Q1:=toSt P n e σ s') (fun r hr=> ?_) h1 h2
  unfold toSt at hr
  split at hr
  ·split at hr
   ·exact⟨rfl,σ,hr,hp⟩
   ·exact hr.elim
  ·split at hr
   ·obtain⟨g1,g2⟩:=chk_and hr
    rw [Nat.eq_of_beq_eq_true g1]
    exact⟨rfl,σ,g2,hp⟩
   ·exact hr.elim
  ·exact hr.elim
 have key2:GoalLX X P w0 F n (l.take k) T H (onN (fun T H=>GoalLX X P w0 F n (l.drop k) T H Q) Q):=GoalL.fitQ (s':=s') (e:=e) hq (fun hh=>by rw [hh]at hne;cases hne) key
 have:=GoalL.split key2
 rwa [List.take_append_drop]at this
theorem GoalL.st (hK:Known P) (hm:P.follows .mixedOrders=true) (hS:CallOk P (gS SV)) {l:List Code} {s s':St} {e:Exit} {σ:Ren} (k:Nat) (D:List Bool) (h:(vrun P SV l k s).path D (toSt P s.n e σ s')) (hne:(l.take k).isEmpty=false)
  (hq:onN (fun T H=>GoalLX X P w0 F s.n (l.drop k) T H Q) Q e s'.T s'.H) (hp:pinned σ s'.H.next X.pins=true:=by rfl):GoalLX X P w0 F s.n l s.T s.H Q:=GoalL.to hK hm hS k D h hne hq hp
theorem GoalL.all (hK:Known P) (hm:P.follows .mixedOrders=true) (hS:CallOk P (gS SV)) {l:List Code} {s s':St} {e:Exit} {σ:Ren} (D:List Bool) (h:(vall P SV l s).path D (toSt P s.n e σ s')) (hne:l.isEmpty=false)
  (hq:Q e s'.T s'.H) (hp:pinned σ s'.H.next X.pins=true:=by rfl):GoalLX X P w0 F s.n l s.T s.H Q:=by
 have hk:l.take l.length=l:=List.take_length
 refine GoalL.to hK hm hS (s':=s') (e:=e) (σ:=σ) l.length D (by rw [hk];exact h) (by rw [hk];exact hne) ?_ hp
 rw [List.drop_length]
 cases e<;>exact hq
theorem onN_exit {N:Tr AV→AHeap→Prop} {i:Nat} {T:Tr AV} {H:AHeap} (h:Q (.exit i) T H):onN N Q (.exit i) T H:=h
theorem GoalL.ret (hK:Known P) (hm:P.follows .mixedOrders=true) (hS:CallOk P (gS SV)) {l:List Code} {fn:Func} {fresh:Bool} {res:AV} (k:Nat) (D:List Bool) (h:(Sv.vlist P SV n (l.take k) T H).path D (toRet P fn fresh res))
  (hq:∀T H,retQ P fresh fn res .ret T H→Q .ret T H):GoalLX X P w0 F n l T H Q:=by
 obtain⟨r,h1,h2⟩:=Tst.path_gr _ _ h
 have key:GoalLX X P w0 F n (l.take k) T H (onN (fun T H=>GoalLX X P w0 F n (l.drop k) T H Q) Q):=by
  refine GoalL.vlist hK hm hS (Q1:=toRet P fn fresh res) (fun r hr=> ?_) h1 h2
  unfold toRet at hr
  split at hr
  ·exact hr.elim
  ·exact hq _ _ hr
  ·exact hr.elim
 have:=GoalL.split key
 rwa [List.take_append_drop]at this
theorem GoalL.allRet (hK:Known P) (hm:P.follows .mixedOrders=true) (hS:CallOk P (gS SV)) {l:List Code} {s:St} {fn:Func} {fresh:Bool} {res:AV} (D:List Bool) (h:(vall P SV l s).path D (toRet P fn fresh res))
  (hq:∀T H,retQ P fresh fn res .ret T H→Q .ret T H):GoalLX X P w0 F s.n l s.T s.H Q:=by
 refine GoalL.ret hK hm hS (fn:=fn) (fresh:=fresh) (res:=res) l.length D ?_ hq
 rw [List.take_length];exact h
theorem GoalL.loop {ι:Type} {l rest:List Code} {id:Nat} {b:Code} (hl:l= .block id (.loop b)::rest) (I:ι→St) (μ:ι→Nat) (i0:ι) (_:∀i,(I i).n=n)
  (step:∀i,GoalLX X P w0 F n (flatC b) (I i).T (I i).H (onN (fun T H=>∃j,μ j<μ i∧T=(I j).T∧H=(I j).H) (inB id (onN (fun T H=>GoalLX X P w0 F n rest T H Q) Q)))):GoalLX X P w0 F n l (I i0).T (I i0).H Q:=by
 subst hl
 refine Goal.block (x:= .loop b) rfl ?_
 have key:∀m i,μ i<m→∀a w,SatX X P w0 F n (I i).T (I i).H a w→∀k,Code.roundsIn (FF X.rd) k P b (fun e a' w'=>(∃T' H',inB id (onN (fun T H=>GoalLX X P w0 F n rest T H Q) Q) e T' H'∧SatX X P w0 F n T' H' a' w')∨(e= .ret∧X.R a' w')) m a w:=by
  intro m
  induction m with
  |zero=>intro i hi;exact absurd hi (Nat.not_lt_zero _)
  |succ m ih=>
   intro i hi a w hs k
   rw [roundsIn_succ]
   refine wpIn_mono (goal_flat (step i) a w hs k) fun e a' w' hh=> ?_
   rcases hh with⟨T',H',h1,h2⟩|⟨rfl,hh⟩
   ·cases e with
    |normal=>
     obtain⟨j,g1,rfl,rfl⟩:=h1
     exact ih j (by omega) a' w' h2 k
    |_=>exact .inl ⟨T',H',h1,h2⟩
   ·exact .inr ⟨rfl,hh⟩
 intro a w hs k
 exact wpIn_loop_rounds (μ i0+1) (key (μ i0+1) i0 (Nat.lt_succ_self _) a w hs k)
theorem inB_exit {id:Nat} {T:Tr AV} {H:AHeap} (h:Q .normal T H):inB id Q (.exit id) T H:=by
 show if id=id then _ else _
 rw [if_pos rfl];exact h
theorem fits_i64 {r:Int} (h: -9223372036854775808≤r∧r≤9223372036854775807):fits .i64 r=true:=by
 unfold fits
 rw [Bool.and_eq_true]
 exact⟨decide_eq_true h.1,decide_eq_true h.2⟩
theorem beq_of {a b:Nat} (h:a=b):Nat.beq a b=true:=by rw [h,Nat.beq_refl]
def goodR:Value→Bool
 | .int _ _| .bool _| .string _| .pointer none| .slice none _ _| .map none| .nilFunc| .nilIface=>true
 | .func _ ⟨[]⟩ ⟨[]⟩=>true
 |_=>false
def good1:AV→Bool
 | .raw v=>goodR v
 | .ptr _ _| .slice _ _ _ _| .map _| .func _ [] []| .lst _ _ _| .lptr _ _ _ _| .osl _ _ _ _ _ _| .optr _ _ _ _ _=>true
 |_=>false
def goodV:AV→Bool
 | .agg l| .tuple l=>l.all good1
 |v=>good1 v
theorem vsameD_refl {v:Value} (h:goodR v=true):vsameD 3 v v=true:=by
 unfold goodR at h
 split at h<;>first |(simp [vsameD,vsame];done)|cases h
theorem Ty.beq_refl:∀(t:Ty) (a:t.den),t.beq a a=true
 | .int _,a=>decide_eq_true rfl
 | .bool,a=>beq_self_eq_true a
 | .str,a=>decide_eq_true rfl
 | .list _ t,a=>by
   show(Nat.beq (List.length a) (List.length a)&&(List.zip a a).all fun p=>t.beq p.1 p.2)=true
   rw [Nat.beq_refl,Bool.true_and,List.all_eq_true]
   intro p hp
   obtain⟨i,h1,h2⟩:=List.mem_iff_getElem.1 hp
   have h2':p=((a:List t.den)[i]'(by simp at h1;exact h1),(a:List t.den)[i]'(by simp at h1;exact h1)):=by rw [←h2];simp
   rw [h2'];exact t.beq_refl _
 | .pair s t,a=>by
   show(s.beq a.1 a.1&&t.beq a.2 a.2)=true
   rw [s.beq_refl,t.beq_refl];rfl
 | .ptr t,a=>t.beq_refl a
 | .unit,_=>rfl
theorem beqL_refl (t:Ty) (xs:List t.den):beqL t t xs xs=true:=by
 unfold beqL
 rw [dif_pos rfl]
 exact Ty.beq_refl (.list false t) xs
theorem capSame_refl (c:Cap):c.same c=true:=by cases c<;>simp [Cap.same]
theorem same1_refl {v:AV} (h:good1 v=true):same1 v v=true:=by
 unfold good1 at h
 split at h
 ·simp [same1,vsameD_refl h]
 all_goals first |(simp [same1,beqL_refl,capSame_refl];done)|cases h
theorem sameL_refl:∀{l:List AV},l.all good1=true→sameL l l=true
 |[],_=>rfl
 |v::l,h=>by
  rw [List.all_cons,Bool.and_eq_true]at h
  show(same1 v v&&sameL l l)=true
  rw [same1_refl h.1,sameL_refl h.2];rfl
theorem same_refl {v:AV} (h:goodV v=true):AV.same v v=true:=by
 unfold goodV at h
 split at h
 ·exact sameL_refl h
 ·exact sameL_refl h
 ·next h1 h2=>
  cases v with
  |func f a b=>
   cases a<;>cases b<;>first |exact same1_refl h|exact absurd h (by simp [good1])
  |_=>first |exact absurd rfl (h1 _)|exact absurd rfl (h2 _)|exact same1_refl h
theorem cat_nil (c:Code):cat c []=c:=by cases c<;>rfl
theorem holds_fl {fresh:Bool} {f:FuncId} {fn:Func} {c:Code} {args:List AV} {res:AV} (hf:P.funcs[f]? =some fn) (hb:fn.body=some c) (hl:Nat.ble args.length fn.ntmps=true)
  (h:∀w F,GoalL P w F fn.ntmps (fl c []) (initT args .nil 0) H0 (retQ P fresh fn res)):Holds P fresh f args res:=
 holds_of hf hb (Nat.le_of_ble_eq_true hl) fun w F=>goal_flat (by have:=h w F;rwa [fl,cat_nil]at this)
end
end
end Go.Proofs.YtccmlbinkgbpgaaGreatDoor.Sv
/- The runner over an abstract memory: functions that write into a row of the caller's own. -/
namespace Go.Proofs.YtccmlbinkgbpgaaGreatDoor.Sv
open Go.RowKit
set_option linter.unusedSectionVars false
variable [Ground]
noncomputable section
structure ECtr where
 f:FuncId
 e:TypeId
 t:Ty
 ps:List Ty
 rs:List Ty
 pre:List t.den→Nat→Nat→tup ps→Bool
 out:List t.den→Nat→Nat→tup ps→List t.den
 fn:List t.den→Nat→Nat→tup ps→tup rs
def XE (A:Nat→Option (Nat×Nat)) (Y:Nat→Option Obj):Ext:={rd:=none,K:=fun _=>none,R:=fun _ _=>False,pin:=[64],A:=A,Y:=Y}
def He (e:TypeId) (t:Ty) (xs:List t.den):AHeap:=⟨setEn .nil [(64, .blk (.own e t xs))],65⟩
def retE (P:Program) (fn:Func) (e:TypeId) (t:Ty) (xs:List t.den) (res:AV):Exit→Tr AV→AHeap→Prop:=fun ex T H=>match ex with
 | .normal| .ret=>(match aresults P fn T H with | .ok v _=>frz true H v res∧H.get 64=some (.own e t xs)|_=>False)
 |_=>False
def noLists:List Ty→Bool
 |[]=>true
 |t::l=>t.noList&&noLists l
def ECtr.Ok (P:Program) (c:ECtr):Prop:=c.t.noList=true∧noLists c.rs=true∧∃fn code,P.funcs[c.f]? =some fn∧fn.body=some code∧c.ps.length+1≤fn.ntmps∧
 ∀(xs:List c.t.den) (k len:Nat) (cap:Cap) (d:tup c.ps),c.pre xs k len d=true→1≤len→k+len≤xs.length→∀A Y w F,
  GoalLX (XE A Y) P w F fn.ntmps (fl code []) (initT (.osl c.e c.t 64 k len cap::valVs c.ps d) .nil 0) (He c.e c.t xs) (retE P fn c.e c.t (c.out xs k len d) (resV c.rs (c.fn xs k len d)))
def ectrV (c:ECtr) (args:List AV) (H:AHeap):Tst VR:=match args with
 | .osl e t i k len _::vs=>(match Nat.beq e c.e&&decide (t=c.t)with
   |true=>argsH H false (.ret .no) c.ps vs fun d=> .must (ownHas c.e c.t (H.get i) (k+len-1)&&Nat.ble 1 len) (.must (c.pre (blkXs c.t (H.get i)) k len d)
     (.ret (.ok (resV c.rs (c.fn (blkXs c.t (H.get i)) k len d)) (H.set i (.own c.e c.t (c.out (blkXs c.t (H.get i)) k len d))))))
   |false=> .ret .no)
 |_=> .ret .no
def ectrs (l:List ECtr) (SV:VCaller):VCaller:=fun f args H=>match l with
 |[]=>SV f args H
 |c::l=>match Nat.beq f c.f with |true=>ectrV c args H|false=>ectrs l SV f args H
section
variable {P:Program} {B:Nat} {ρ:Env} {H:AHeap} {w:World}
theorem valVs_len:∀(ts:List Ty) (d:tup ts),(valVs ts d).length=ts.length
 |[],_=>rfl
 |_::l,d=>by simp [valVs,valVs_len l d.2]
theorem valV_any {F F':Env} {t:Ty} (ht:t.noList=true) {d:t.den} {x:Value} (h:Den F (valV t d) x):Den F' (valV t d) x:=by
 cases ha:t.isAgg with
 |true=>
  unfold valV at h ⊢
  rw [ha]at h ⊢
  obtain⟨xs,g1,rfl⟩:=h.agg_inv
  exact .agg (noList_cells t d xs ht g1)
 |false=>
  have h1:Dens F (t.cells d) [x]:=by rw [valV_single ha];exact .cons h .nil
  have h2:=noList_cells (ρ':=F') t d _ ht h1
  rw [valV_single ha]at h2
  cases h2 with |cons g _=>exact g
theorem valVs_any {F F':Env}:∀(ts:List Ty),noLists ts=true→∀{d:tup ts} {xs:List Value},Dens F (valVs ts d) xs→Dens F' (valVs ts d) xs
 |[],_,_,_,h=>by cases h;exact .nil
 |t::l,hn,d,_,h=>by
  have hn:(t.noList&&noLists l)=true:=hn
  rw [Bool.and_eq_true]at hn
  cases h with
  |cons h1 h2=>exact .cons (valV_any hn.1 h1) (valVs_any l hn.2 h2)
theorem resV_any {F F':Env} {rs:List Ty} (hn:noLists rs=true) {d:tup rs} {x:Value} (h:Den F (resV rs d) x):Den F' (resV rs d) x:=by
 have key:∀l,valVs rs d=l→Den F (match l with |[v]=>v|vs=> .tuple vs) x→Den F' (match l with |[v]=>v|vs=> .tuple vs) x:=by
  intro l hl hd
  have hds:∀xs,Dens F l xs→Dens F' l xs:=fun xs hx=>by rw [←hl]at hx ⊢;exact valVs_any rs hn hx
  split at hd
  ·rename_i v
   have:=hds [x] (.cons hd .nil)
   cases this with |cons g _=>exact g
  ·obtain⟨xs,g1,rfl⟩:=hd.tuple_inv
   exact .tuple (hds _ g1)
 exact key _ rfl h
theorem noList_flat {ρ ρ':Env} {t:Ty} (ht:t.noList=true) {xs:List t.den} {ys:List Value} (h:Dens ρ (t.flat xs) ys):Dens ρ' (t.flat xs) ys:=flat_of_cells (fun d ys=>noList_cells t d ys ht) xs ys h
theorem He_get {e:TypeId} {t:Ty} {xs:List t.den} {i:Nat} {k:ABlk} (h:(He e t xs).get i=some k):i=64∧k= .own e t xs:=by
 have h:(setEn .nil [(64, .blk (.own e t xs))]).get i=some k:=h
 rw [get_setEn]at h
 by_cases hi:i=64
 ·subst hi;cases h;exact⟨rfl,rfl⟩
 ·have hb:Nat.beq 64 i=false:=by
   cases hb:Nat.beq 64 i with
   |false=>rfl
   |true=>exact absurd (Nat.eq_of_beq_eq_true hb).symm hi
  simp only [List.find?,hb]at h
  rw [Tr.get_nil]at h;cases h
theorem ectrV_inv {c:ECtr} {args:List AV} {v:AV} {H':AHeap} (h:(ectrV c args H).gr=some (.ok v H')):∃i k len cap vs xs d,args= .osl c.e c.t i k len cap::vs∧H.get i=some (.own c.e c.t xs)∧1≤len∧k+len≤xs.length∧c.pre xs k len d=true∧
  v=resV c.rs (c.fn xs k len d)∧H'=H.set i (.own c.e c.t (c.out xs k len d))∧(∀F xv,HDen P B ρ H w→F=argF false w ρ→Dens ρ vs xv→Dens F (valVs c.ps d) xv):=by
 unfold ectrV at h
 split at h
 ·rename_i e t i k len cap vs
  split at h
  ·rename_i he
   rw [Bool.and_eq_true]at he
   have e1:=Nat.eq_of_beq_eq_true he.1
   have e2:=of_decide_eq_true he.2
   subst e1;subst e2
   have main:∃d:tup c.ps,(Tst.must (ownHas c.e c.t (H.get i) (k+len-1)&&Nat.ble 1 len) (.must (c.pre (blkXs c.t (H.get i)) k len d)
    (.ret (VR.ok (resV c.rs (c.fn (blkXs c.t (H.get i)) k len d)) (H.set i (.own c.e c.t (c.out (blkXs c.t (H.get i)) k len d))))))).gr=some (.ok v H')∧(∀F xv,HDen P B ρ H w→F=argF false w ρ→Dens ρ vs xv→Dens F (valVs c.ps d) xv):=by
    by_cases hH:HDen P B ρ H w
    ·obtain⟨d,h1,h2⟩:=argsH_den (w:=w) hH (bor:=false) (no:=Tst.ret VR.no) (b:=VR.ok v H') (by simp [Tst.gr]) c.ps h
     exact⟨d,h1,fun F xv _ hF hx=>by subst hF;exact h2 xv hx⟩
    ·obtain⟨d,h1⟩:=argsH_inv (bor:=false) (no:=Tst.ret VR.no) (b:=VR.ok v H') (by simp [Tst.gr]) c.ps h
     exact⟨d,h1,fun F xv hh=>absurd hh hH⟩
   obtain⟨d,h1,h2⟩:=main
   cases hm:(ownHas c.e c.t (H.get i) (k+len-1)&&Nat.ble 1 len)with
   |false=>rw [hm]at h1;cases h1
   |true=>
    rw [hm]at h1
    rw [Bool.and_eq_true]at hm
    obtain⟨b1,b2⟩:=ownHas_some hm.1
    have b3:=Nat.le_of_ble_eq_true hm.2
    cases hp:c.pre (blkXs c.t (H.get i)) k len d with
    |false=>rw [hp]at h1;cases h1
    |true=>
     rw [hp]at h1
     simp only [Tst.gr,cond_true,Option.some.injEq,VR.ok.injEq]at h1
     obtain⟨rfl,rfl⟩:=h1
     exact⟨i,k,len,cap,vs,blkXs c.t (H.get i),d,rfl,b1,b3,by omega,hp,rfl,rfl,h2⟩
  ·cases h
 ·cases h
theorem ectrV_ok {c:ECtr} (hc:c.Ok P) {args:List AV} {v:AV} {H':AHeap} (h:(ectrV c args H).gr=some (.ok v H')) {xs:List Value} (m:Nat) (hH:HDen P B ρ H w) (hG:Glob ρ) (hd:Dens ρ args xs):CallsIn (FF none) m P c.f xs.toArray w (CallPost P B ρ H w v H'):=by
 obtain⟨i,k,len,cap,vs,us,d,rfl,hi,hlen,hk,hp,rfl,rfl,hvs⟩:=ectrV_inv (P:=P) (B:=B) (ρ:=ρ) (w:=w) h
 obtain⟨htl,hrl,fn,code,hf,hb,hn,hbody⟩:=hc
 cases hd with
 |cons hd0 hds=>
  rename_i x0 xr
  rcases hd0.osl_inv with⟨h0,_⟩|⟨b,c0,kc,hr,hcap,hlk,rfl⟩
  ·omega
  obtain⟨b',c',o,e1,e2,e3,e4⟩:=hH.blk i _ hi
  rw [hr]at e1;cases e1
  have hbs:b<w.heap.size:=(Array.getElem?_eq_some_iff.1 e2).1
  let ρc:Env:=⟨fun j=>if j<64 then ρ j else if j=64 then some (b,c0)else none,ρ.fz⟩
  let A:Nat→Option (Nat×Nat):=fun j=>if j=64 then some (b,c0)else none
  let Y:Nat→Option Obj:=fun q=>if q=b then none else w.heap[q]?
  let w0:World:={w with heap:=w.heap.extract 0 b}
  have hw0:w0.heap.size=b:=by show(w.heap.extract 0 b).size=b;simp;omega
  have h64:ρc 64=some (b,c0):=rfl
  have hown:∀ρ2:Env,ρ2 64=some (b,c0)→∀o,BDen P ρ i (.own c.e c.t us) o→BDen P ρ2 64 (.own c.e c.t us) o:=by
   rintro ρ2 h2 o ⟨⟨zs,fz,g1,g2,g3,g4,g5⟩,g6⟩
   refine⟨⟨zs,fz,g1,g2,noList_flat htl g3,g4,fun hx=> ?_⟩,g6⟩
   obtain⟨b1,c1,q1,q2⟩:=g5 hx
   rw [hr]at q1;cases q1
   exact⟨b,c0,h2,q2⟩
  have hHc:HDen P b ρc (He c.e c.t us) w:=by
   refine⟨fun j q hj=> ?_,fun j j' q q' bb cj cj' hj hj' _ _=> ?_,fun j q hj=> ?_,Nat.le_of_lt hbs,fun bb AA hz=> ?_⟩
   ·obtain⟨rfl,rfl⟩:=He_get hj
    exact⟨b,c0,o,rfl,e2,hown _ rfl _ e3,fun _=>Nat.le_refl _⟩
   ·rw [(He_get hj).1,(He_get hj').1]
   ·rw [(He_get hj).1];exact Nat.lt_succ_self _
   ·refine⟨(hH.fz bb AA hz).1,fun j q cj hj hr'=> ?_⟩
    obtain⟨rfl,rfl⟩:=He_get hj
    rw [h64]at hr';cases hr'
    exact(hH.fz _ AA hz).2 i _ c0 hi hr
  have hds':Dens ρc (.osl c.e c.t 64 k len cap::valVs c.ps d) (.slice (some ⟨b,k*c.t.size,none⟩) len kc::xr):=by
   refine .cons (.osl h64 hcap hlk) (Dens.mono (ρ:=argF false w ρ) (ρ':=ρc) ⟨fun j x hj=> ?_,fun _ _ h=>h⟩ (hvs _ xr hH rfl hds))
   have hj:(if j<64 then ρ j else none)=some x:=hj
   by_cases h6:j<64
   ·rw [if_pos h6]at hj
    show(if j<64 then ρ j else _)=some x
    rw [if_pos h6];exact hj
   ·rw [if_neg h6]at hj;cases hj
  have hs:SatX (XE A Y) P w0 ρc fn.ntmps (initT (.osl c.e c.t 64 k len cap::valVs c.ps d) .nil 0) (He c.e c.t us) {tmps:=(Value.slice (some ⟨b,k*c.t.size,none⟩) len kc::xr).toArray++Array.replicate (fn.ntmps-(Value.slice (some ⟨b,k*c.t.size,none⟩) len kc::xr).toArray.size) undef,defers:=[]} w:=by
   refine⟨⟨ρc,⟨initT_ok hds' (by simp [valVs_len];omega),by rw [hw0];exact hHc,fun g hg=> ?_,hG.gz⟩,fun j hj=> ?_,fun bb AA hz=> .inl hz,⟨fun bb oo h=>(by cases h),fun j hj=> ?_,fun bb AA h=>(by cases h),Nat.zero_le _,fun bb oo h=>(by cases h),rfl,fun bb oo hy=> ?_⟩⟩,⟨rfl,rfl,rfl,by rw [hw0];exact Nat.le_of_lt hbs,fun q hq=> ?_⟩,rfl⟩
   ·obtain⟨cg,hcg⟩:=hG.at' g hg
    exact⟨cg,by show(if g<64 then ρ g else _)=_;rw [if_pos hg];exact hcg⟩
   ·have hj:65≤j:=hj
    show(if j<64 then ρ j else if j=64 then some (b,c0)else none)=none
    rw [if_neg (by omega),if_neg (by omega)]
   ·have hj:j∈[64]:=hj
    rw [List.mem_singleton]at hj
    subst hj
    exact⟨Nat.lt_succ_self _,fun x hx=>hx⟩
   ·have hy:(if bb=b then none else w.heap[bb]?)=some oo:=hy
    by_cases hbb:bb=b
    ·rw [if_pos hbb]at hy;cases hy
    ·rw [if_neg hbb]at hy
     refine⟨hy,fun⟨j,q,cj,hj,_,hr'⟩=> ?_⟩
     obtain⟨rfl,rfl⟩:=He_get hj
     rw [h64]at hr';cases hr'
     exact hbb rfl
   ·have hq:q<b:=by rw [←hw0];exact hq
    show w.heap[q]? =(w.heap.extract 0 b)[q]?
    rw [Array.getElem?_extract]
    rw [if_pos (by omega)];simp
  refine callsIn_of_wp_marks hf hb trivial (wpIn_mono (goal_flat (by have:=hbody us k len cap d hp hlen hk A Y w0 ρc;rwa [fl,cat_nil]at this) _ _ hs m) fun e a' w' hh=> ?_)
  obtain⟨T',H1,h1,h2⟩:=hh.resolve_right fun q=>q.2
  obtain⟨ρ2,hAR,hnone,hfz,hkp⟩:=h2.ex
  have hd':=h2.defers
  have key:(match aresults P fn T' H1 with | .ok v _=>frz true H1 v (resV c.rs (c.fn us k len d))∧H1.get 64=some (.own c.e c.t (c.out us k len d))|_=>False)→LeavesInM (FF none) m P fn a'.tmps (CallPost P B ρ H w (resV c.rs (c.fn us k len d)) (H.set i (.own c.e c.t (c.out us k len d)))) a'.defers .returning w':=by
   intro hr0
   split at hr0
   ·rename_i v1 H2 hres
    obtain⟨hr1,hr2⟩:=hr0
    have hDM:DM ρ2 [] a'.defers:=hd'
    refine aleave_ok (T:=T') (H:=H1) [] hAR hDM (show aleave P fn T' H1 []= .ok v1 H2 from hres) fun y w2 r1 r2 r3=> ?_
    obtain⟨rfl,_⟩:=aresults_ok hAR hres
    have hk2:=keep_stp hkp r3
    have h642:ρ2 64=some (b,c0):=(hk2.pin 64 (List.mem_singleton.2 rfl)).2 (b,c0) rfl
    have hbl:=h2.below.trans (r3.below hAR.H)
    have hsz:w.heap.size≤w2.heap.size:=by
     by_cases hz:w.heap.size=b+1
     ·obtain⟨b1,c1,o1,q1,q2,_⟩:=r2.blk 64 _ hr2
      rw [h642]at q1;cases q1
      have:=(Array.getElem?_eq_some_iff.1 q2).1
      omega
     ·have hy:=hk2.y (w.heap.size-1) _ (show(if w.heap.size-1=b then none else w.heap[w.heap.size-1]?)=some (w.heap[w.heap.size-1]'(by omega)) by rw [if_neg (by omega)];simp)
      have:=(Array.getElem?_eq_some_iff.1 hy.1).1
      omega
    have hkeep:∀q,q<w.heap.size→q≠b→w2.heap[q]? =w.heap[q]? :=fun q hq hqb=>by
     have hy:=hk2.y q _ (show(if q=b then none else w.heap[q]?)=some (w.heap[q]'hq) by rw [if_neg hqb];simp [hq])
     rw [hy.1];simp [hq]
    have hnf:∀bb AA,ρ.fz bb=some AA→bb≠b∧bb<w.heap.size:=fun bb AA hz=>by
     obtain⟨⟨ee,fr,q1⟩,q2⟩:=hH.fz bb AA hz
     refine⟨fun hbb=> ?_,(Array.getElem?_eq_some_iff.1 q1).1⟩
     subst hbb
     have:=q2 i _ c0 hi hr
     cases this
    have hget:∀j q,(H.set i (.own c.e c.t (c.out us k len d))).get j=some q→∃q',H.get j=some q'∧q'.isRo=q.isRo:=fun j q hj=>by
     rw [AHeap.get_set]at hj
     by_cases hij:i=j
     ·subst hij
      rw [if_pos rfl]at hj
      cases hj
      exact⟨_,hi,rfl⟩
     ·rw [if_neg hij]at hj
      exact⟨q,hj,rfl⟩
    refine⟨y,ρ,rfl,resV_any hrl (frz_den r2 hfz hr1 r1),⟨fun j q hj=> ?_,fun j j' q q' bb cj cj' hj hj' hrj hrj'=> ?_,fun j q hj=> ?_,Nat.le_trans hH.base hsz,fun bb AA hz=> ?_⟩,
     ⟨Le.refl _,fun _ _=>rfl,Nat.le_refl _,hsz,hbl.os,hbl.tape,hbl.output,fun q hq hno=> ?_,fun q hq ⟨j,q2,cj,hj,hro,hrj⟩=> ?_,fun q hq ⟨j,q2,cj,hj,hrj⟩=> ?_,fun _ _ h=> .inl h⟩⟩
    ·rw [AHeap.get_set]at hj
     by_cases hij:i=j
     ·subst hij
      rw [if_pos rfl]at hj
      cases hj
      obtain⟨b1,c1,o1,q1,q2,⟨⟨zs,fz,g1,g2,g3,g4,g5⟩,g6⟩,_⟩:=r2.blk 64 _ hr2
      have g5:=g5 rfl
      rw [h642]at q1 g5
      cases q1
      refine⟨b,c0,o1,hr,q2,⟨⟨zs,fz,g1,g2,noList_flat htl g3,g4,fun _=> ?_⟩,g6⟩,fun _=>e4 rfl⟩
      obtain⟨b3,c3,k1,k2⟩:=g5
      cases k1
      exact⟨b,c0,hr,k2⟩
     ·rw [if_neg hij]at hj
      obtain⟨bj,cj,oj,p1,p2,p3,p4⟩:=hH.blk j q hj
      have hne:bj≠b:=fun hbb=>hij (hH.inj i j _ _ b c0 cj hi hj hr (by rw [←hbb];exact p1))
      exact⟨bj,cj,oj,p1,(hkeep bj (Array.getElem?_eq_some_iff.1 p2).1 hne).trans p2,p3,p4⟩
    ·obtain⟨q1,g1,_⟩:=hget j q hj
     obtain⟨q2,g2,_⟩:=hget j' q' hj'
     exact hH.inj j j' _ _ bb cj cj' g1 g2 hrj hrj'
    ·obtain⟨q1,g1,_⟩:=hget j q hj
     exact hH.lt j _ g1
    ·obtain⟨hnb,hlt⟩:=hnf bb AA hz
     obtain⟨⟨ee,fr,q1⟩,q2⟩:=hH.fz bb AA hz
     refine⟨⟨ee,fr,(hkeep bb hlt hnb).trans q1⟩,fun j q cj hj hrj=> ?_⟩
     obtain⟨q',g1,g2⟩:=hget j q hj
     rw [←g2]
     exact q2 j q' cj g1 hrj
    ·exact hkeep q hq fun hqb=>hno ⟨i,_,c0,hi,rfl,by rw [hqb];exact hr⟩
    ·obtain⟨q',g1,g2⟩:=hget j q2 hj
     exact⟨j,q',cj,g1,g2.trans hro,hrj⟩
    ·obtain⟨q',g1,_⟩:=hget j q2 hj
     exact⟨j,q',cj,g1,hrj⟩
   ·exact hr0.elim
  cases e with
  |normal=>exact key h1
  |ret=>exact key h1
  |_=>exact h1.elim
theorem ectrs_some {SV:VCaller} {f:FuncId} {args:List AV} {v:AV} {H':AHeap}:∀{l:List ECtr},(ectrs l SV f args H).gr=some (.ok v H')→(∃c∈l,c.f=f∧(ectrV c args H).gr=some (.ok v H'))∨(SV f args H).gr=some (.ok v H')
 |[],h=> .inr h
 |c::l,h=>by
  unfold ectrs at h
  cases hb:Nat.beq f c.f with
  |true=>simp only [hb]at h;exact .inl ⟨c,List.mem_cons_self,(Nat.eq_of_beq_eq_true hb).symm,h⟩
  |false=>
   simp only [hb]at h
   rcases ectrs_some h with⟨c',h1,h2⟩|h1
   ·exact .inl ⟨c',List.mem_cons_of_mem _ h1,h2⟩
   ·exact .inr h1
theorem ectrV_next {c:ECtr} {args:List AV} {v:AV} {H':AHeap} (h:(ectrV c args H).gr=some (.ok v H')):H'.next=H.next:=by
 unfold ectrV at h
 split at h
 ·rename_i e t i k len cap vs
  split at h
  ·obtain⟨d,h1⟩:=argsH_inv (bor:=false) (no:=Tst.ret VR.no) (b:=VR.ok v H') (by simp [Tst.gr]) c.ps h
   cases hm:(ownHas c.e c.t (H.get i) (k+len-1)&&Nat.ble 1 len)with
   |false=>rw [hm]at h1;cases h1
   |true=>
    rw [hm]at h1
    cases hp:c.pre (blkXs c.t (H.get i)) k len d with
    |false=>rw [hp]at h1;cases h1
    |true=>
     rw [hp]at h1
     simp only [Tst.gr,cond_true,Option.some.injEq,VR.ok.injEq]at h1
     obtain⟨_,rfl⟩:=h1
     rfl
  ·cases h
 ·cases h
theorem ectrs_ok {l:List ECtr} {SV:VCaller} (hl:∀c∈l,c.Ok P) (hS:CallOk P (gS SV)):CallOk P (gS (ectrs l SV)) where
 mono f args H v H' h:=by
  rcases ectrs_some (gS_some h)with⟨c,_,_,h3⟩|h3
  ·rw [ectrV_next h3];exact Nat.le_refl _
  ·exact hS.mono f args H v H' (by unfold gS;rw [h3];rfl)
 sim f args H v H' h B ρ xs w m hH hG hd hf:=by
  rcases ectrs_some (gS_some h)with⟨c,h1,rfl,h3⟩|h3
  ·exact ectrV_ok (hl c h1) h3 m hH hG hd
  ·exact hS.sim f args H v H' (by unfold gS;rw [h3];rfl) B ρ xs w m hH hG hd hf
structure RCtr where
 f:FuncId
 res:List AV→Tst (Option AV)
def RCtr.Ok (P:Program) (c:RCtr):Prop:=∀args v,(c.res args).gr=some (some v)→∀(w:World) (F:Env) (xs:List Value),(∀b A,F.fz b=some A→∃e fr,w.heap[b]? =some (.cells A e fr))→Grd F→Dens F args xs→
 Calls P c.f xs.toArray w fun e w'=>∃x,e= .returned x∧Den F v x∧Below w.heap.size w w'
def rctrV (c:RCtr) (args:List AV) (H:AHeap):Tst VR:=(c.res args).bind fun r=>match r with |some v=> .ret (.ok v H)|none=> .ret .no
def rctrs (l:List RCtr) (SV:VCaller):VCaller:=fun f args H=>match l with
 |[]=>SV f args H
 |c::l=>match Nat.beq f c.f with |true=>rctrV c args H|false=>rctrs l SV f args H
theorem rctrV_inv {c:RCtr} {args:List AV} {v:AV} {H':AHeap} (h:(rctrV c args H).gr=some (.ok v H')):H'=H∧(c.res args).gr=some (some v):=by
 unfold rctrV at h
 rw [Tst.gr_bind]at h
 cases hr:(c.res args).gr with
 |none=>rw [hr]at h;cases h
 |some r=>
  rw [hr]at h
  cases r with
  |none=>cases h
  |some v'=>cases h;exact⟨rfl,rfl⟩
theorem rctrV_ok {c:RCtr} (hc:c.Ok P) {args:List AV} {v:AV} {H':AHeap} (h:(rctrV c args H).gr=some (.ok v H')) {xs:List Value} (m:Nat) (hH:HDen P B ρ H w) (hG:Glob ρ) (hd:Dens ρ args xs):CallsIn (FF none) m P c.f xs.toArray w (CallPost P B ρ H w v H'):=by
 obtain⟨rfl,h1⟩:=rctrV_inv h
 have hcalls:=hc args v h1 w ρ xs (fun b A hb=>(hH.fz b A hb).1) hG.gz hd
 have hin:CallsIn (FF none) m P c.f xs.toArray w _:=callsIn_wide.2 hcalls
 refine hin.mono ?_
 rintro e w' ⟨x,rfl,hx,hb⟩
 have hkeep:∀b o,w.heap[b]? =some o→w'.heap[b]? =some o:=fun b o ho=>(hb.block b (Array.getElem?_eq_some_iff.1 ho).1).trans ho
 refine⟨x,ρ,rfl,hx,⟨fun i k hi=> ?_,hH.inj,hH.lt,Nat.le_trans hH.base hb.size,fun b A hbA=> ?_⟩,⟨Le.refl _,fun _ _=>rfl,Nat.le_refl _,hb.size,hb.os,hb.tape,hb.output,fun b hlt _=>hb.block b hlt,fun _ _ h=>h,fun _ _ h=>h,fun b A hbA=> .inl hbA⟩⟩
 ·obtain⟨b,c',o,e1,e2,e3,e4⟩:=hH.blk i k hi
  exact⟨b,c',o,e1,hkeep b o e2,e3,e4⟩
 ·obtain⟨⟨e,fr,h3⟩,h4⟩:=hH.fz b A hbA
  exact⟨⟨e,fr,hkeep b _ h3⟩,h4⟩
theorem rctrs_some {SV:VCaller} {f:FuncId} {args:List AV} {v:AV} {H':AHeap}:∀{l:List RCtr},(rctrs l SV f args H).gr=some (.ok v H')→(∃c∈l,c.f=f∧(rctrV c args H).gr=some (.ok v H'))∨(SV f args H).gr=some (.ok v H')
 |[],h=> .inr h
 |c::l,h=>by
  unfold rctrs at h
  cases hb:Nat.beq f c.f with
  |true=>simp only [hb]at h;exact .inl ⟨c,List.mem_cons_self,(Nat.eq_of_beq_eq_true hb).symm,h⟩
  |false=>
   simp only [hb]at h
   rcases rctrs_some h with⟨c',h1,h2⟩|h1
   ·exact .inl ⟨c',List.mem_cons_of_mem _ h1,h2⟩
   ·exact .inr h1
theorem rctrs_ok {l:List RCtr} {SV:VCaller} (hl:∀c∈l,c.Ok P) (hS:CallOk P (gS SV)):CallOk P (gS (rctrs l SV)) where
 mono f args H v H' h:=by
  rcases rctrs_some (gS_some h)with⟨c,_,_,h3⟩|h3
  ·rw [(rctrV_inv h3).1];exact Nat.le_refl _
  ·exact hS.mono f args H v H' (by unfold gS;rw [h3];rfl)
 sim f args H v H' h B ρ xs w m hH hG hd hf:=by
  rcases rctrs_some (gS_some h)with⟨c,h1,rfl,h3⟩|h3
  ·exact rctrV_ok (hl c h1) h3 m hH hG hd
  ·exact hS.sim f args H v H' (by unfold gS;rw [h3];rfl) B ρ xs w m hH hG hd hf
end
end
end Go.Proofs.YtccmlbinkgbpgaaGreatDoor.Sv
/- The runner over an abstract memory: functions that hand back a new row, which is the caller's own from then on. -/
namespace Go.Proofs.YtccmlbinkgbpgaaGreatDoor.Sv
open Go.RowKit
set_option linter.unusedSectionVars false
variable [Ground]
noncomputable section
structure OCtr where
 f:FuncId
 e:TypeId
 t:Ty
 ps:List Ty
 pre:tup ps→Bool
 out:tup ps→List t.den
def retO (P:Program) (fn:Func) (e:TypeId) (t:Ty) (xs:List t.den):Exit→Tr AV→AHeap→Prop:=fun ex T H=>match ex with
 | .normal| .ret=>(match aresults P fn T H with
   | .ok (.osl e' t' i k n cap) _=>e'=e∧k=0∧n=xs.length∧cap= .full∧t'=t∧H.get i=some (.own e t xs)
   |_=>False)
 |_=>False
def OCtr.Ok (P:Program) (c:OCtr):Prop:=c.t.noList=true∧∃fn code,P.funcs[c.f]? =some fn∧fn.body=some code∧c.ps.length≤fn.ntmps∧
 ∀d:tup c.ps,c.pre d=true→1≤(c.out d).length∧∀w F,GoalL P w F fn.ntmps (fl code []) (initT (valVs c.ps d) .nil 0) H0 (retO P fn c.e c.t (c.out d))
def octrV (c:OCtr) (args:List AV) (H:AHeap):Tst VR:=argsH H false (.ret .no) c.ps args fun d=> .must (c.pre d) (.ret (.ok (.osl c.e c.t H.next 0 (c.out d).length .full) (H.new (.own c.e c.t (c.out d)))))
def octrs (l:List OCtr) (SV:VCaller):VCaller:=fun f args H=>match l with
 |[]=>SV f args H
 |c::l=>match Nat.beq f c.f with |true=>octrV c args H|false=>octrs l SV f args H
section
variable {P:Program} {B:Nat} {ρ:Env} {H:AHeap} {w:World}
theorem octrV_next {c:OCtr} {args:List AV} {v:AV} {H':AHeap} (h:(octrV c args H).gr=some (.ok v H')):H'.next=H.next+1:=by
 obtain⟨d,h1⟩:=argsH_inv (bor:=false) (no:=Tst.ret VR.no) (b:=VR.ok v H') (by simp [Tst.gr]) c.ps h
 cases hp:c.pre d with
 |false=>rw [hp]at h1;cases h1
 |true=>rw [hp]at h1;cases h1;rfl
theorem octrV_ok {c:OCtr} (hc:c.Ok P) {args:List AV} {v:AV} {H':AHeap} (h:(octrV c args H).gr=some (.ok v H')) {xs:List Value} (m:Nat) (hH:HDen P B ρ H w) (hG:Glob ρ) (hd:Dens ρ args xs) (hfr:Fr ρ H.next H'.next):CallsIn (FF none) m P c.f xs.toArray w (CallPost P B ρ H w v H'):=by
 obtain⟨htl,fn,code,hf,hb,hn,hbody⟩:=hc
 obtain⟨d,h1,h2⟩:=argsH_den (w:=w) hH (bor:=false) (no:=Tst.ret VR.no) (b:=VR.ok v H') (by simp [Tst.gr]) c.ps h
 have hp:c.pre d=true∧v= .osl c.e c.t H.next 0 (c.out d).length .full∧H'=H.new (.own c.e c.t (c.out d)):=by
  cases hp:c.pre d with
  |false=>rw [hp]at h1;cases h1
  |true=>rw [hp]at h1;cases h1;exact⟨rfl,rfl,rfl⟩
 obtain⟨hp,rfl,rfl⟩:=hp
 obtain⟨hlen,hgo⟩:=hbody d hp
 have hds:=h2 xs hd
 have hgl:∀i x,(argF false w ρ) i=some x→i<64:=fun i x hx=>by
  have hx:(if i<64 then ρ i else none)=some x:=hx
  by_cases h:i<64
  ·exact h
  ·rw [if_neg h]at hx;cases hx
 have hHc:HDen P w.heap.size (argF false w ρ) H0 w:=⟨fun i k h=>(by rw [show H0.get i=none from Tr.get_nil i]at h;cases h),fun i j ki kj b ci cj h=>(by rw [show H0.get i=none from Tr.get_nil i]at h;cases h),fun i k h=>(by rw [show H0.get i=none from Tr.get_nil i]at h;cases h),Nat.le_refl _,
  fun b A h=>⟨(hH.fz b A h).1,fun i k c hi=>(by rw [show H0.get i=none from Tr.get_nil i]at hi;cases hi)⟩⟩
 have hs:Sat P w (argF false w ρ) fn.ntmps (initT (valVs c.ps d) .nil 0) H0 {tmps:=xs.toArray++Array.replicate (fn.ntmps-xs.toArray.size) undef,defers:=[]} w:=by
  refine⟨⟨argF false w ρ,⟨initT_ok hds (by rw [valVs_len];exact hn),hHc,fun g hg=> ?_,hG.gz⟩,fun i hi=> ?_,fun b A h=> .inl h,⟨fun b o h=>(by cases h),fun i hi=>(by cases hi),fun b A h=>(by cases h),Nat.zero_le _,fun b o h=>(by cases h),rfl,fun b o h=>(by cases h)⟩⟩,Below.refl _ _,rfl⟩
  ·obtain⟨cg,hcg⟩:=hG.at' g hg
   exact⟨cg,by show(if g<64 then ρ g else none)=_;rw [if_pos hg];exact hcg⟩
  ·have hi:64≤i:=hi
   cases hfi:(argF false w ρ) i with
   |none=>rfl
   |some x=>exact absurd (hgl i x hfi) (by omega)
 refine callsIn_of_wp_marks hf hb trivial (wpIn_mono (goal_flat (by have:=hgo w (argF false w ρ);rwa [fl,cat_nil]at this) _ _ hs m) fun e a' w' hh=> ?_)
 obtain⟨T',H1,g1,g2⟩:=hh.resolve_right fun q=>q.2
 obtain⟨ρ2,hAR,hnone,hfz,_⟩:=g2.ex
 have hd':=g2.defers
 have key:(match aresults P fn T' H1 with | .ok (.osl e' t' i k n cap) _=>e'=c.e∧k=0∧n=(c.out d).length∧cap= .full∧t'=c.t∧H1.get i=some (.own c.e c.t (c.out d))|_=>False)→LeavesInM (FF none) m P fn a'.tmps (CallPost P B ρ H w (.osl c.e c.t H.next 0 (c.out d).length .full) (H.new (.own c.e c.t (c.out d)))) a'.defers .returning w':=by
  intro hr
  split at hr
  ·rename_i e' t' i k n cap H2 hres
   obtain⟨rfl,rfl,rfl,rfl,rfl,hget⟩:=hr
   have hDM:DM ρ2 [] a'.defers:=hd'
   refine aleave_ok (T:=T') (H:=H1) [] hAR hDM (show aleave P fn T' H1 []= .ok _ H2 from hres) fun y w2 r1 r2 r3=> ?_
   obtain⟨rfl,_⟩:=aresults_ok hAR hres
   have hbl:=g2.below.trans (r3.below hAR.H)
   rcases r1.osl_inv with⟨h0,_⟩|⟨b,c0,kc,q1,q2,q3,rfl⟩
   ·omega
   obtain⟨b',c',o,e1,e2,e3,e4⟩:=r2.blk i _ hget
   rw [q1]at e1;cases e1
   have hB:w.heap.size≤b:=e4 rfl
   have hkeep:∀q,q<w.heap.size→w2.heap[q]? =w.heap[q]? :=fun q hq=>hbl.block q hq
   have hnx:ρ H.next=none:=hfr H.next (Nat.le_refl _) (Nat.lt_succ_self _)
   let ρ':Env:=⟨fun j=>if j=H.next then some (b,c0)else ρ j,ρ.fz⟩
   have hnew:ρ' H.next=some (b,c0):=if_pos rfl
   have hold:∀j,j≠H.next→ρ' j=ρ j:=fun j hj=>if_neg hj
   have hle:Le ρ ρ':=⟨fun j x hj=>by
    by_cases hjn:j=H.next
    ·rw [hjn,hnx]at hj;cases hj
    ·rw [hold j hjn];exact hj,fun _ _ h=>h⟩
   have hHn:∀j,H.get j≠none→j≠H.next:=fun j hj hjn=>by
    cases hg:H.get j with
    |none=>exact hj hg
    |some k=>have:=hH.lt j k hg;omega
   have hnf:∀bb AA,ρ.fz bb=some AA→bb<w.heap.size:=fun bb AA hz=>by
    obtain⟨⟨ee,fr,h3⟩,_⟩:=hH.fz bb AA hz
    exact(Array.getElem?_eq_some_iff.1 h3).1
   have hget':∀j k,(H.new (.own c.e c.t (c.out d))).get j=some k→(j=H.next∧k= .own c.e c.t (c.out d))∨(j≠H.next∧H.get j=some k):=fun j k hj=>by
    rw [AHeap.get_new]at hj
    by_cases hjn:H.next=j
    ·rw [if_pos hjn]at hj;cases hj;exact .inl ⟨hjn.symm,rfl⟩
    ·rw [if_neg hjn]at hj;exact .inr ⟨fun h=>hjn h.symm,hj⟩
   refine⟨_,ρ',rfl, .osl hnew q2 q3,⟨fun j k hj=> ?_,fun j j' k k' bb cj cj' hj hj' r1 r2=> ?_,fun j k hj=> ?_,Nat.le_trans hH.base hbl.size,fun bb AA hz=> ?_⟩,⟨hle,fun j hj=> ?_,Nat.le_succ _,hbl.size,hbl.os,hbl.tape,hbl.output,fun q hq _=>hkeep q hq,fun q hq ⟨j,k,cj,hj,hro,hrj⟩=> ?_,fun q hq ⟨j,k,cj,hj,hrj⟩=> ?_,fun _ _ h=> .inl h⟩⟩
   ·rcases hget' j k hj with⟨rfl,rfl⟩|⟨hjn,hj⟩
    ·obtain⟨⟨zs,fz,g1,g2,g3,g4,g5⟩,g6⟩:=e3
     refine⟨b,c0,o,hnew,e2,⟨⟨zs,fz,g1,g2,noList_flat htl g3,g4,fun hx=> ?_⟩,g6⟩,fun _=>Nat.le_trans hH.base hB⟩
     obtain⟨b1,c1,k1,k2⟩:=g5 hx
     rw [q1]at k1;cases k1
     exact⟨b,c0,hnew,k2⟩
    ·obtain⟨bj,cj,oj,p1,p2,p3,p4⟩:=hH.blk j k hj
     exact⟨bj,cj,oj,hle _ _ p1,(hkeep bj (Array.getElem?_eq_some_iff.1 p2).1).trans p2,p3.mono hle,p4⟩
   ·rcases hget' j k hj with⟨rfl,rfl⟩|⟨hjn,hj⟩<;>rcases hget' j' k' hj' with⟨rfl,rfl⟩|⟨hjn',hj'⟩
    ·rfl
    ·rw [hnew]at r1;cases r1
     rw [hold j' hjn']at r2
     obtain⟨bj,cj,oj,p1,p2,_⟩:=hH.blk j' k' hj'
     rw [r2]at p1;cases p1
     have:=(Array.getElem?_eq_some_iff.1 p2).1
     omega
    ·rw [hnew]at r2;cases r2
     rw [hold j hjn]at r1
     obtain⟨bj,cj,oj,p1,p2,_⟩:=hH.blk j k hj
     rw [r1]at p1;cases p1
     have:=(Array.getElem?_eq_some_iff.1 p2).1
     omega
    ·rw [hold j hjn]at r1
     rw [hold j' hjn']at r2
     exact hH.inj j j' k k' bb cj cj' hj hj' r1 r2
   ·rcases hget' j k hj with⟨rfl,rfl⟩|⟨hjn,hj⟩
    ·exact Nat.lt_succ_self _
    ·exact Nat.lt_succ_of_lt (hH.lt j k hj)
   ·obtain⟨⟨ee,fr,h3⟩,h4⟩:=hH.fz bb AA hz
    refine⟨⟨ee,fr,(hkeep bb (hnf bb AA hz)).trans h3⟩,fun j k cj hj hrj=> ?_⟩
    rcases hget' j k hj with⟨rfl,rfl⟩|⟨hjn,hj⟩
    ·rw [hnew]at hrj;cases hrj
     have:=hnf _ AA hz
     omega
    ·rw [hold j hjn]at hrj
     exact h4 j k cj hj hrj
   ·refine hold j fun hjn=> ?_
    subst hjn
    rcases hj with h|h
    ·exact absurd h (Nat.lt_irrefl _)
    ·exact absurd h (Nat.not_succ_le_self _)
   ·rcases hget' j k hj with⟨rfl,rfl⟩|⟨hjn,hj⟩
    ·rw [hnew]at hrj;cases hrj;omega
    ·rw [hold j hjn]at hrj;exact⟨j,k,cj,hj,hro,hrj⟩
   ·rcases hget' j k hj with⟨rfl,rfl⟩|⟨hjn,hj⟩
    ·rw [hnew]at hrj;cases hrj;omega
    ·rw [hold j hjn]at hrj;exact⟨j,k,cj,hj,hrj⟩
  ·exact hr.elim
 cases e with
 |normal=>exact key g1
 |ret=>exact key g1
 |_=>exact g1.elim
theorem octrs_some {SV:VCaller} {f:FuncId} {args:List AV} {v:AV} {H':AHeap}:∀{l:List OCtr},(octrs l SV f args H).gr=some (.ok v H')→(∃c∈l,c.f=f∧(octrV c args H).gr=some (.ok v H'))∨(SV f args H).gr=some (.ok v H')
 |[],h=> .inr h
 |c::l,h=>by
  unfold octrs at h
  cases hb:Nat.beq f c.f with
  |true=>simp only [hb]at h;exact .inl ⟨c,List.mem_cons_self,(Nat.eq_of_beq_eq_true hb).symm,h⟩
  |false=>
   simp only [hb]at h
   rcases octrs_some h with⟨c',h1,h2⟩|h1
   ·exact .inl ⟨c',List.mem_cons_of_mem _ h1,h2⟩
   ·exact .inr h1
theorem octrs_ok {l:List OCtr} {SV:VCaller} (hl:∀c∈l,c.Ok P) (hS:CallOk P (gS SV)):CallOk P (gS (octrs l SV)) where
 mono f args H v H' h:=by
  rcases octrs_some (gS_some h)with⟨c,_,_,h3⟩|h3
  ·rw [octrV_next h3];exact Nat.le_succ _
  ·exact hS.mono f args H v H' (by unfold gS;rw [h3];rfl)
 sim f args H v H' h B ρ xs w m hH hG hd hf:=by
  rcases octrs_some (gS_some h)with⟨c,h1,rfl,h3⟩|h3
  ·exact octrV_ok (hl c h1) h3 m hH hG hd hf
  ·exact hS.sim f args H v H' (by unfold gS;rw [h3];rfl) B ρ xs w m hH hG hd hf
end
def toRetO (P:Program) (fn:Func) (e:TypeId) (t:Ty) (xs:List t.den):R→Prop
 | .ret T H []=>(match aresults P fn T H with
   | .ok (.osl e' t' i k n cap) _=>(match H.get i with
     |some (.own e2 t2 ys)=>chk (Nat.beq e' e&&(Nat.beq e2 e&&(Nat.beq k 0&&decide (t'=t)))) (n=xs.length∧cap= .full∧eqD t2 t ys xs)
     |_=>False)
   |_=>False)
 |_=>False
theorem GoalL.retOwn {P:Program} {w0:World} {F:Env} {n:Nat} {T:Tr AV} {H:AHeap} {Q:Exit→Tr AV→AHeap→Prop} (hK:Known P) (hm:P.follows .mixedOrders=true) {SV:VCaller} (hS:CallOk P (gS SV)) {l:List Code} {fn:Func} {e:TypeId} {t:Ty} {xs:List t.den} (k:Nat) (D:List Bool) (h:(Sv.vlist P SV n (l.take k) T H).path D (toRetO P fn e t xs))
  (hq:∀T H,retO P fn e t xs .ret T H→Q .ret T H):GoalLX X0 P w0 F n l T H Q:=by
 obtain⟨r,h1,h2⟩:=Tst.path_gr _ _ h
 have key:GoalLX X0 P w0 F n (l.take k) T H (onN (fun T H=>GoalLX X0 P w0 F n (l.drop k) T H Q) Q):=by
  refine GoalL.vlist hK hm hS (Q1:=toRetO P fn e t xs) (fun r hr=> ?_) h1 h2
  unfold toRetO at hr
  split at hr
  ·refine hq _ _ ?_
   rename_i T' H'
   show(match aresults P fn T' H' with | .ok (.osl e' t' i k n cap) _=>e'=e∧k=0∧n=xs.length∧cap= .full∧t'=t∧H'.get i=some (.own e t xs)|_=>False)
   split at hr
   ·split at hr
    ·rename_i hg
     obtain⟨k1,k2,k3,k4⟩:=chk_and hr
     simp only [Bool.and_eq_true,decide_eq_true_eq]at k1
     obtain⟨e1,rfl⟩:=eqD_ok k4
     subst e1
     exact⟨Nat.eq_of_beq_eq_true k1.1,Nat.eq_of_beq_eq_true k1.2.2.1,k2,k3,k1.2.2.2,by rw [hg,Nat.eq_of_beq_eq_true k1.2.1]⟩
    ·exact hr.elim
   ·exact hr.elim
  ·exact hr.elim
 have:=GoalL.split key
 rwa [List.take_append_drop]at this
end
end Go.Proofs.YtccmlbinkgbpgaaGreatDoor.Sv
/- What the runner over an abstract memory leans on in this program. -/
namespace Go.Proofs.YtccmlbinkgbpgaaGreatDoor
open Go.RowKit Sv
theorem funcs_all {P:Program} {p:Func→Bool} (h:P.funcs.toList.all p=true) {f:FuncId} {fn:Func} (hf:P.funcs[f]? =some fn):p fn=true:=
 List.all_eq_true.1 h fn (List.mem_of_getElem? (by simpa using hf))
theorem funcs_at {P:Program} {p:Func→Bool} {k:Nat} (h:(P.funcs.toList.zipIdx.all fun q=> !p q.1||Nat.beq q.2 k)=true) {f:FuncId} {fn:Func} (hf:P.funcs[f]? =some fn) (hp:p fn=true):f=k:=by
 have:=List.all_eq_true.1 h (fn,f) (List.mk_mem_zipIdx_iff_getElem?.2 (by simpa using hf))
 simp only [hp,Bool.not_true,Bool.false_or]at this
 exact Nat.eq_of_beq_eq_true this
set_option maxRecDepth 100000
theorem noGo:(Tryz.prog.funcs.toList.all fun fn=> !(fn.body.isSome&&fn.name== "runtime.NumGoroutine"))=true:=by kernel_rfl
theorem atNoEscape:(Tryz.prog.funcs.toList.zipIdx.all fun q=> !(q.1.body.isNone&&q.1.name== "internal/abi.NoEscape")||Nat.beq q.2 198)=true:=by kernel_rfl
theorem atMakeNoZero:(Tryz.prog.funcs.toList.zipIdx.all fun q=> !(q.1.body.isNone&&q.1.name== "internal/bytealg.MakeNoZero")||Nat.beq q.2 218)=true:=by kernel_rfl
theorem findNoEscape:(Tryz.prog.funcs[198]?).bind (fun fn=>Extern.find fn)=some Extern.AbiNoEscape.same:=by kernel_rfl
theorem nextNoEscape:(Tryz.prog.funcs[198]?).map (fun fn=>(Extern.findNext fn).isNone)=some true:=by kernel_rfl
theorem findMakeNoZero:(Tryz.prog.funcs[218]?).bind (fun fn=>Extern.find fn)=(Tryz.prog.funcs[218]?).map (fun fn=>Extern.BytealgMakeNoZero.makeNoZero fn.params fn.resultTypes):=by kernel_rfl
theorem nextMakeNoZero:(Tryz.prog.funcs[218]?).map (fun fn=>(Extern.findNext fn).isNone)=some true:=by kernel_rfl
theorem oneMakeNoZero:(Tryz.prog.funcs[218]?).map (fun fn=>fn.resultTypes.size)=some 1:=by kernel_rfl
theorem mixed:Tryz.prog.follows .mixedOrders=true:=by kernel_rfl
theorem known:Known Tryz.prog where
 noGo f fn hf hb:=by
  have:=funcs_all noGo hf
  simpa [hb]using this
 noEscape f fn hf hb hn x w:=by
  have e:=funcs_at (p:=fun fn=>fn.body.isNone&&fn.name== "internal/abi.NoEscape") atNoEscape hf (by simp only [hb,hn];rfl)
  subst e
  have h1:=findNoEscape
  have h2:=nextNoEscape
  rw [hf]at h1 h2
  simp only [Option.bind_some,Option.map_some,Option.some.injEq,Option.isNone_iff_eq_none]at h1 h2
  have hname:(fn.name== "runtime.NumGoroutine")=false:=by
   rw [eq_of_beq hn];rfl
  rw [run_callFunc_extern hf hname (by rw [hb];rfl) h2 h1]
  rfl
 makeNoZero f fn t el hf hb hn ht hu n w hle:=by
  have e:=funcs_at (p:=fun fn=>fn.body.isNone&&fn.name== "internal/bytealg.MakeNoZero") atMakeNoZero hf (by simp only [hb,hn];rfl)
  subst e
  have h1:=findMakeNoZero
  have h2:=nextMakeNoZero
  have h3:=oneMakeNoZero
  rw [hf]at h1 h2 h3
  simp only [Option.bind_some,Option.map_some,Option.some.injEq,Option.isNone_iff_eq_none]at h1 h2 h3
  have hname:(fn.name== "runtime.NumGoroutine")=false:=by
   rw [eq_of_beq hn];rfl
  have hr:fn.resultTypes= #[t]:=by
   apply Array.ext
   ·exact h3
   ·intro i hi1 hi2
    have:i=0:=by simp at hi2;exact hi2
    subst this
    simpa [Array.getElem?_eq_getElem hi1]using ht
  rw [hr]at h1
  obtain⟨cs,k1,k2,_⟩:=Lib.run_makeNoZero (P:=Tryz.prog) w fn.params t el hu n (by omega)
  refine⟨cs,k2, ?_⟩
  rw [run_callFunc_extern hf hname (by rw [hb];rfl) h2 h1,k1]
  rfl
end Go.Proofs.YtccmlbinkgbpgaaGreatDoor
/- Words that all texts of this kind share; what some package-level variables hold. -/
namespace Go.Proofs.YtccmlbinkgbpgaaGreatDoor
open Go.RowKit Sv
set_option maxRecDepth 100000
set_option linter.unusedVariables false
noncomputable section
instance gnd:Sv.Ground:=⟨fun b=>if b=2 then some (fun A=>∃m,A= #[.int .i64 m])else if b=3 then some (fun A=>A=(Lib.pow10Tab.map fun z=>Value.int .u64 z).toArray)else none⟩
theorem mp {a b:Prop} (p:b) (h:a=b:=by kernel_rfl):a:=h.mpr p
theorem sr (v:AV) (h:goodV v=true:=by kernel_rfl):AV.same v v=true:=same_refl h
theorem an {a b:Prop} (x:a) (y:b):a∧b:=⟨x,y⟩
theorem rr {α:Type} (x:α):x=x:=rfl
theorem rt:true=true:=rfl
theorem rf:false=false:=rfl
theorem bT {a b:Bool} (h:a=b):(a==true)=(b==true):=by rw [h]
theorem bF {a b:Bool} (h:a=b):(a==false)=(b==false):=by rw [h]
theorem bN {a b:Bool} (h:a=b):(!a)=(!b):=by rw [h]
abbrev iv (x:Int):AV:= .raw (.int .i64 x)
abbrev bv (x:Bool):AV:= .raw (.bool x)
abbrev nilI:List Int:=[]
abbrev lv (l:List Int):AV:= .lst false (.int .i64) l
theorem bounded_of {n b:Nat} (h:n≤1000000) (hb:b≤1000000):bounded n b=true:=by
 unfold bounded
 have:=Nat.mul_le_mul h hb
 rw [Nat.ble_eq_true_of_le (by omega),Nat.ble_eq_true_of_le (by omega)];rfl
theorem none_ok:CallOk Tryz.prog (gS (ctrs [])):=ctrs_ok (l:=[]) fun c h=>by cases h
theorem one_ok {c:Ctr} (h:c.Ok Tryz.prog):CallOk Tryz.prog (gS (ctrs [c])):=ctrs_ok fun c' hc=>by rw [List.mem_singleton.1 hc];exact h
theorem goalL_blk {X:Ext} {P:Program} {w0:World} {F:Env} {n:Nat} {T:Tr AV} {H:AHeap} {Q:Exit→Tr AV→AHeap→Prop} {l rest:List Code} {id:Nat} {c:Code} (hl:l= .block id c::rest)
  (h:GoalLX X P w0 F n (flatC c) T H (inB id (onN (fun T H=>GoalLX X P w0 F n rest T H Q) Q))):GoalLX X P w0 F n l T H Q:=by
 subst hl
 exact Goal.block (x:=c) rfl (goal_flat h)
abbrev sv (s:ByteArray):AV:= .raw (.string s)
end
end Go.Proofs.YtccmlbinkgbpgaaGreatDoor
