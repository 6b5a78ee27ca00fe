import Derived.Test.YtibikmmdbdlafaaGreatDoorZnSvOp7
import Derived.LoopNIn
import Derived.RangeFuncRecord
set_option linter.defProp false
set_option linter.unusedSectionVars false
set_option linter.unusedSimpArgs false
namespace Go.Proofs.YtibikmmdbdlafaaGreatDoor.Sv
open Go.RowKit
section
abbrev dU (r:Option Nat):Fence:={Fence.wide with round:=r}
class Ground where
 g:Nat->Option (Array Value->Prop)
variable [Ground]
structure n9 (ρ:Env):Prop where
 at':∀g,g<64->∃c,ρ g=some (g,c)
 zR:∀b p,Ground.g b=some p->∃A,ρ.fz b=some A/\p A
def n9.mono {ρ ρ':Env} (h:n9 ρ) (hl:cD ρ ρ'):n9 ρ':=⟨fun g hg=>let ⟨c,hc⟩:=h.at' g hg;⟨c,hl _ _ hc⟩,fun b p hb=>let ⟨A,h1,h2⟩:=h.zR b p hb;⟨A,hl.fz _ _ h1,h2⟩⟩
structure eE (P:Program) (B:Nat) (ρ:Env) (n:Nat) (T:au af) (H:ai) (a:Act) (w:World):Prop where
 T:jY ρ T n a.tmps
 H:bk P B ρ H w
 G:n9 ρ
section
variable {P:Program} {B:Nat} {ρ:Env} {n:Nat} {T:au af} {H:ai} {a:Act} {w:World}
def xE (hT:jY ρ T n a.tmps) (cv:n9 ρ) (x:Operand):Den ρ (cq T x) (a.eval x):=by
 cases x with
 |tmp t=>
  have h:=hT.get t;show Den ρ (@Option.rec af (fun _=>af) (.raw undef) (fun v=>v) (T.get t)) (a.tmps.getD t undef)
  cases hg:T.get t with
  |none=>rw [hg]at h;exact h
  |some v=>rw [hg]at h;exact h
 |const v=>exact .raw v
 |global g=>
  show Den ρ (@Bool.rec (fun _=>af) (.raw (.pointer (some ⟨g,0,none⟩))) (.ptr g 0) (Nat.ble (Nat.succ g) 64)) (.pointer (some ⟨g,0,none⟩))
  cases hb:Nat.ble (Nat.succ g) 64 with
  |false=>exact .raw _
  |true=>obtain⟨c,hc⟩:=cv.at' g (bV hb);exact .ptr hc
 |func f=>exact .raw _
def Q1 (xs:Array Value) (d t:Nat) (x u:Value) (hd:d<xs.size):(xs.setIfInBounds d x).getD t u=if t=d then x else xs.getD t u:=by
 simp only [Array.getD_eq_getD_getElem?,Array.getElem?_setIfInBounds];by_cases h:d=t
 .subst h;simp [hd]
 .rw [if_neg h,if_neg (fun e=>h e.symm)]
def JH {dst:Option Tmp} {v:af} {x:Value} {T1:au af} (hT:jY ρ T n a.tmps) (hp:iP T n dst v=some T1) (hd:Den ρ v x):jY ρ T1 n (a.put dst x).tmps:=by
 cases dst with
 |none=>cases hp;exact hT
 |some d=>
  have e:iP T n (some d) v= @Bool.rec (fun _=>Option (au af)) none (some (T.set d (some v))) (Nat.ble (Nat.succ d) n):=rfl;rw [e]at hp;cases hb:Nat.ble (Nat.succ d) n with
  |false=>rw [hb]at hp;cases hp
  |true=>
   rw [hb]at hp;cases hp;have hlt:d<a.tmps.size:=by rw [hT.size];exact bV hb
   refine⟨by simp [Act.put,hT.size],fun t=> ?_⟩;rw [au.gp];show Den ρ _ ((a.tmps.setIfInBounds d x).getD t undef);rw [Q1 _ _ _ _ _ hlt];by_cases h:d=t
   .subst h;simpa using hd
   .rw [if_neg h,if_neg (fun e=>h e.symm)];exact hT.get t
def put_defers (dst:Option Tmp) (x:Value):(a.put dst x).defers=a.defers:=by cases dst<;>rfl
def abu {v:af} {b:Bool} (h:Den ρ v (.bool b)):v= .raw (.bool b)\/v= .bot:=by
 cases h
 .exact .inl rfl
 .exact .inr rfl
def JI {ops:Array Oper} {o:Oper} {b:Bool} (hT:jY ρ T n a.tmps) (h:gS T ops o=some b):Region.wanted o (yielded ops a.tmps)=b:=by
 unfold Region.wanted;cases hg:o.guard with
 |none=>
  have:gS T ops o=some true:=by unfold gS;rw [hg]
  rw [this]at h;cases h;rfl
 |some g=>
  obtain⟨j,want⟩:=g;have e:gS T ops o=xd T ops (j,want):=by unfold gS;rw [hg]
  rw [e]at h;unfold xd at h;simp only at h ⊢;cases hd:(ops[j]?).bind (·.dst)with
  |none=>rw [hd]at h;cases h
  |some d=>
   rw [hd]at h;simp only at h;have ht:=hT.get d
   -- what the slot yields
   have key:∀b',(yielded ops a.tmps j=some b')->T.get d=some (.raw (.bool b'))\/T.get d=some .bot:=by
    intro b' hy;unfold yielded at hy;rw [hd]at hy;simp only [Option.bind_some]at hy;split at hy
    .rename_i b'' hb;cases hy;have:a.tmps.getD d undef= .bool b':=by rw [Array.getD_eq_getD_getElem?,hb];rfl
     rw [this]at ht;have hq:=abu ht;cases hg2:T.get d with
     |none=>rw [hg2]at hq;rcases hq with hq|hq<;>cases hq
     |some v=>rw [hg2]at hq;simp only [Option.getD_some]at hq;rcases hq with hq|hq<;>rw [hq]<;>simp
    .cases hy
   split at h
   .rename_i b' hb;cases h;have:a.tmps.getD d undef= .bool b':=by rw [hb]at ht;exact ht.cc
    have hy:yielded ops a.tmps j=some b':=by
     unfold yielded;rw [hd];simp only [Option.bind_some];rw [Array.getD_eq_getD_getElem?]at this;cases hx:a.tmps[d]? with
     |none=>rw [hx]at this;cases this
     |some x=>rw [hx]at this;simp only [Option.getD_some]at this;rw [this]
    rw [hy];cases b'<;>cases want<;>rfl
   .cases h
   .rename_i hno EX;cases h;cases hy:yielded ops a.tmps j with
    |none=>rfl
    |some b'=>exact((key b' hy).elim (fun k=>hno b' k) (fun k=>EX k)).elim
def dt (P:Program) (B:Nat) (ρ:Env) (H:ai) (w:World) (v:af) (H':ai):Ending->World->Prop:=fun e w'=>∃x ρ',e= .returned x/\Den ρ' v x/\bk P B ρ' H' w'/\bR ρ H w ρ' H' w'
structure bD (P:Program) (call:eC):Prop where
 mono:∀f args H v H',call f args H= .ok v H'->H.next<=H'.next
 cz:∀f args H v H',call f args H= .ok v H'->∀B ρ (xs:List Value) w m,bk P B ρ H w->n9 ρ->aI ρ args xs->Fr ρ H.next H'.next->CallsIn (dU none) m P f xs.toArray w (dt P B ρ H w v H')
structure lN (P:Program) (round:jW):Prop where
 mono:∀i args H v H',round i args H= .ok v H'->H.next<=H'.next
 cz:∀i args H v H',round i args H= .ok v H'->∀B ρ (xs:List Value) w b c m,bk P B ρ H w->n9 ρ->ρ i=some (b,c)->aI ρ args xs->Fr ρ H.next H'.next->
  ∃fn tmps assign body,(Instr.yield b xs.toArray).run P w= .ok (.round b fn tmps assign body) w/\RoundIn (dU none) m P b fn tmps assign body w (dt P B ρ H w v H')
def abv {o:Oper} {ev:dO} {c:Call} (h:o.op= .defer c):fc o.op P o ev H= .no:=by rw [h];rfl
variable {call:eC} {round:jW}
def ui (hC:bD P call) (hR:lN P round) {o:Oper} {ev:dO} {v:af} {H':ai} (h:fx P call round o ev H= .ok v H'):H.next<=H'.next:=by
 have hm:=abt (P:=P) (H:=H) (o:=o) (ev:=ev);unfold fx at h;cases ha:fc o.op P o ev H with
 |no=>rw [ha]at h;cases h
 |ok v1 H1=>rw [ha]at h hm;cases h;exact hm
 |enter f args H1=>rw [ha]at h hm;exact dc hm (hC.mono _ _ _ _ _ h)
 |round i args H1=>rw [ha]at h hm;exact dc hm (hR.mono _ _ _ _ _ h)
def Q2 (hK:ff P) (hC:bD P call) (hR:lN P round) {o:Oper} {v:af} {H':ai} (aR:eE P B ρ n T H a w) (h:fx P call round o (cq T) H= .ok v H') (hf:Fr ρ H.next H'.next) (rd:Option Nat) (m:Nat)
  {next:Act->World->Prop} {Q:Exit->Act->World->Prop} (hnext:∀x ρ' w',Den ρ' v x->bk P B ρ' H' w'->bR ρ H w ρ' H' w'->next (a.put o.dst x) w'):o.wpIn (dU rd) m P a w next Q:=by
 have ho:=abc (P:=P) (B:=B) (ρ:=ρ) (H:=H) (w:=w) (o:=o) (ev:=cq T) (e:=a.eval) hK aR.H (xE aR.T aR.G);have abw:o.semAt (dU rd).round a.eval=execOp a.eval o:=Oper.semAt_eq _ _ _ fun c hc=>by
  unfold fx at h;rw [abv hc]at h;cases h
 refine⟨fun _ _=>trivial, ?_⟩;rw [abw];have Q3:(dU rd).depth.isSome=true->1<=m:=fun hh=>by cases hh
 have post:∀{e w''},dt P B ρ H w v H' e w''->(match e,w'' with
   | .returned v,w''=>next (a.put o.dst v) w''
   | .panicked chain,w''=>Q (.panic chain) a w''
   | .outgrown,_=>LetsOut Q:Prop):=by
  rintro e w'' ⟨x,ρ',rfl,h1,h2,h3⟩;exact hnext x ρ' w'' h1 h2 h3
 unfold fx at h;cases ha:fc o.op P o (cq T) H with
 |no=>rw [ha]at h;cases h
 |ok v1 H1=>
  rw [ha]at h ho;cases h;obtain⟨ρ',x,w',eO,h1,h2,h3,h4,h5⟩:=ho hf;rw [h1];cases eO<;>first |exact h2.elim|skip
  .cases h2;exact hnext _ ρ' w' h3 h4 h5
  .cases h2;exact hnext _ ρ' w' h3 h4 h5
 |enter f args H1=>
  rw [ha]at h ho;obtain⟨rfl,xs,h1,h2⟩:=ho;rw [h1];refine⟨Q3, ?_⟩;have hc:=(hC.cz f args H1 v H' h B ρ xs w (m-1) aR.H aR.G h2 hf).mono (fun e w'' hp=>post hp);cases rd with
  |none=>exact hc
  |some l=>exact hc
 |round i args H1=>
  rw [ha]at h ho;obtain⟨rfl,b,c,xs,h0,h1,h2⟩:=ho;rw [h1];obtain⟨fn,tmps,assign,body,g1,g2⟩:=hR.cz i args H1 v H' h B ρ xs w b c (m-1) aR.H aR.G h0 h2 hf;rw [g1];refine⟨Q3, ?_⟩;have hc:=g2.mono (fun e w'' hp=>post hp);cases rd with
  |none=>exact hc
  |some l=>exact hc
def eE.next {ρ':Env} {T1:au af} {H':ai} {a':Act} {w':World} (h:eE P B ρ n T H a w) (hT:jY ρ' T1 n a'.tmps) (hH:bk P B ρ' H' w') (hs:bR ρ H w ρ' H' w'):eE P B ρ' n T1 H' a' w':=⟨hT,hH,h.G.mono hs.le⟩
def abx (hK:ff P) (hC:bD P call) (hR:lN P round) {ops:Array Oper} {o:Oper} {i:Nat} (hi:ops[i]? =some o) {k:au af->ai->e4} {aO:au af} {H':ai} (aR:eE P B ρ n T H a w) (h:xe P call round ops n o T H k= .mk aO H')
  (hkm:∀T1 H1,k T1 H1= .mk aO H'->H1.next<=H'.next) (hf:Fr ρ H.next H'.next) (rd:Option Nat) (m:Nat) {K:Act->World->Prop} {Q:Exit->Act->World->Prop}
  (hK':∀cS T1 H1 a1 w1,k T1 H1= .mk aO H'->eE P B cS n T1 H1 a1 w1->bR ρ H w cS H1 w1->a1.defers=a.defers->K a1 w1):wpOpIn (dU rd) m P ops Q i K a w:=by
 unfold wpOpIn;rw [hi];simp only;unfold xe at h;cases hw:gS T ops o with
 |none=>rw [hw]at h;cases h
 |some b=>
  rw [hw]at h;rw [JI aR.T hw];cases b with
  |false=>
   simp only [Bool.false_eq_true,if_false];refine⟨fun _ _=>trivial, ?_⟩;cases hp:iP T n o.dst (.raw undef)with
   |none=>simp only [hp,n4]at h;cases h
   |some T1=>
    simp only [hp,n4]at h;exact hK' ρ T1 H _ w h (aR.next (JH aR.T hp (.raw undef)) aR.H (bR.refl _ _ _)) (bR.refl _ _ _) (put_defers _ _)
  |true=>
   simp only [if_true];cases ha:fx P call round o (cq T) H with
   |no=>simp only [ha,tE]at h;cases h
   |enter _ _ _=>simp only [ha,tE]at h;cases h
   |round _ _ _=>simp only [ha,tE]at h;cases h
   |ok v H1=>
    simp only [ha,tE]at h;cases hp:iP T n o.dst v with
    |none=>simp only [hp,n4]at h;cases h
    |some T1=>
     simp only [hp,n4]at h;have hm:=hkm T1 H1 h;refine Q2 hK hC hR aR ha (fun j h1 h2=>hf j h1 (Nat.lt_of_lt_of_le h2 hm)) rd m fun x cS w1 h1 h2 h3=> ?_
     exact hK' cS T1 H1 _ w1 h (aR.next (JH (aR.T.mono h3.le) hp h1) h2 h3) h3 (put_defers _ _)
def Fr.mono' {ρ:Env} {a b c:Nat} (h:Fr ρ a c) (hb:b<=c):Fr ρ a b:=fun i h1 h2=>h i h1 (Nat.lt_of_lt_of_le h2 hb)
def bR.fr {cS:Env} {H1 H':ai} {w1:World} (h:bR ρ H w cS H1 w1) (hf:Fr ρ H.next H'.next):Fr cS H1.next H'.next:=fun i h1 h2=>by
 rw [h.ext i (.inr h1)];exact hf i (dc h.next h1) h2
def aby (hC:bD P call) (hR:lN P round) {ops:Array Oper} {o:Oper} {k:au af->ai->e4} {aO:au af} {H':ai} (h:xe P call round ops n o T H k= .mk aO H') (hkm:∀T1 H1,k T1 H1= .mk aO H'->H1.next<=H'.next):H.next<=H'.next:=by
 unfold xe at h;cases hw:gS T ops o with
 |none=>rw [hw]at h;cases h
 |some b=>
  rw [hw]at h;cases b with
  |false=>
   cases hp:iP T n o.dst (.raw undef)with
   |none=>simp only [hp,n4]at h;cases h
   |some T1=>simp only [hp,n4]at h;exact hkm _ _ h
  |true=>
   cases ha:fx P call round o (cq T) H with
   |no=>simp only [ha,tE]at h;cases h
   |enter _ _ _=>simp only [ha,tE]at h;cases h
   |round _ _ _=>simp only [ha,tE]at h;cases h
   |ok v H1=>
    simp only [ha,tE]at h;cases hp:iP T n o.dst v with
    |none=>simp only [hp,n4]at h;cases h
    |some T1=>simp only [hp,n4]at h;exact dc (ui hC hR ha) (hkm _ _ h)
def JJ (hC:bD P call) (hR:lN P round) {ops:Array Oper}:∀(l:List Oper) {T:au af} {H:ai} {aO:au af} {H':ai},xg P call round ops n l T H= .mk aO H'->H.next<=H'.next
 |[],T,H,aO,H',h=>by cases h;exact aK _
 |o::l,T,H,aO,H',h=>aby hC hR (k:=xg P call round ops n l) h fun T1 H1 h1=>JJ hC hR l h1
def Q4 (hK:ff P) (hC:bD P call) (hR:lN P round) {ops:Array Oper} (rd:Option Nat) (m:Nat) {Q:Exit->Act->World->Prop}:∀(l:List Oper) (is:List Nat) {ρ:Env} {T:au af} {H:ai} {a:Act} {w:World} {aO:au af} {H':ai},
  is.map (ops[·]?)=l.map some->eE P B ρ n T H a w->xg P call round ops n l T H= .mk aO H'->Fr ρ H.next H'.next->
  (∀ρ' a' w',eE P B ρ' n aO H' a' w'->bR ρ H w ρ' H' w'->a'.defers=a.defers->Q .normal a' w')->wpOpsIn (dU rd) m P ops Q is a w
 |[],[],ρ,T,H,a,w,aO,H',_,aR,h,_,hQ=>by cases h;exact hQ ρ a w aR (bR.refl _ _ _) rfl
 |[],_::_,_,_,_,_,_,_,_,hi,_,_,_,_=>by simp at hi
 |_::_,[],_,_,_,_,_,_,_,hi,_,_,_,_=>by simp at hi
 |o::l,i::is,ρ,T,H,a,w,aO,H',hi,aR,h,hf,hQ=>by
  simp only [List.map_cons,List.cons.injEq]at hi;rw [wpOpsIn_cons];refine abx hK hC hR hi.1 (k:=xg P call round ops n l) aR h (fun T1 H1 h1=>JJ hC hR l h1) hf rd m fun cS T1 H1 a1 w1 h1 abz hst hd=> ?_
  exact Q4 hK hC hR rd m l is hi.2 abz h1 (hst.fr hf) fun ρ' a' w' h2 h3 h4=>hQ ρ' a' w' h2 (hst.trans h3) (h4.trans hd)
end
end
section
variable [Ground]
def R.out:R->Option (Exit×au af×ai×List Nat)
 | .no=>none
 | .normal T H m=>some (.normal,T,H,m)
 | .exit id T H m=>some (.exit id,T,H,m)
 | .goto l T H m=>some (.goto l,T,H,m)
 | .ret T H m=>some (.ret,T,H,m)
def eF (ρ:Env):List Nat->List Deferred->Prop
 |[],ds=>ds=[]
 |i::m,ds=>∃b c ds',ρ i=some (b,c)/\ds={target:= .collected b,args:= #[]}::ds'/\eF ρ m ds'
def eF.mono {ρ ρ':Env} (hl:cD ρ ρ'):∀{m:List Nat} {ds:List Deferred},eF ρ m ds->eF ρ' m ds
 |[],_,h=>h
 |_::_,_,⟨b,c,ds',h1,h2,h3⟩=>⟨b,c,ds',hl _ _ h1,h2,eF.mono hl h3⟩
structure qq (P:Program) (ih:hU):Prop where
 mono:∀c n aN T H m e aO H' m',(ih c n aN T H m).out=some (e,aO,H',m')->H.next<=H'.next
 cz:∀c n aN T H m e aO H' m',(ih c n aN T H m).out=some (e,aO,H',m')->∀B ρ a w rd k (Q:Exit->Act->World->Prop),rd.isSome=aN->eE P B ρ n T H a w->eF ρ m a.defers->Fr ρ H.next H'.next->
  (∀ρ' a' w',eE P B ρ' n aO H' a' w'->bR ρ H w ρ' H' w'->eF ρ' m' a'.defers->Q e a' w')->c.wpIn (dU rd) k P Q a w
structure xF (P:Program) (d:Bool) (draw:I7):Prop where
 mono:∀call round,bD P call->lN P round->∀ops n T H aO H',draw call round ops n T H= .mk aO H'->H.next<=H'.next
 cz:∀call round,bD P call->lN P round->∀id ops n T H aO H',draw call round ops n T H= .mk aO H'->∀B ρ a w rd k (Q:Exit->Act->World->Prop),eE P B ρ n T H a w->Fr ρ H.next H'.next->
  (∀ρ' a' w',eE P B ρ' n aO H' a' w'->bR ρ H w ρ' H' w'->a'.defers=a.defers->Q .normal a' w')->(Code.region id ops d).wpIn (dU rd) k P Q a w
section
variable {P:Program} {B:Nat} {ρ:Env} {n:Nat} {T:au af} {H:ai} {a:Act} {w:World}
def abA (ops:Array Oper):(List.range ops.size).map (ops[·]?)=ops.toList.map some:=by
 apply List.ext_getElem?;intro i;simp only [List.getElem?_map];by_cases h:i<ops.size
 .simp [h]
 .simp [h]
section
variable {b:Frame} {k:List Item} {cs:List Frame} {c:Code}
def zS:step P (lone (b.atR a (.code (.scope c)::k)) cs w)= .next (lone (b.atR a (.code c:: .inScope c::k)) cs w):=
 step_lone_go (by simp [stepG,stepG.exec,Frame.atR])
def v6:step P (lone (b.atR a (.inScope c::k)) cs w)= .next (lone (b.atR a k) cs w):=
 step_lone_go (by simp [stepG,stepG.exec,Frame.atR])
end
def JK {F:Fence} {n:Nat} {Q:Exit->Act->World->Prop} {c:Code} (h:c.wpIn F n P (Exit.noGoto Q) a w):(Code.scope c).wpIn F n P Q a w:=by
 intro b k cs hro hb hr;obtain⟨e,a₁,w₁,hq,zT⟩:=h b (.inScope c::k) cs hro hb hr;have h0:(lone (b.atR a (.code (.scope c)::k)) cs w).fenced P F:=fenced_calm hb hr rfl;cases e with
 |normal=>exact⟨.normal,a₁,w₁,hq, .head h0 zS (StepsIn.trans zT (.one (fenced_calm (fr:=b.atR a₁ (.inScope c::k)) hb hr rfl) v6))⟩
 |exit id=>
  have hx:exitTo id (.inScope c::k)=exitTo id k:=by simp [exitTo]
  exact⟨.exit id,a₁,w₁,hq,fun k' hk=> .head h0 zS (zT.1 k' (by rw [hx];exact hk)),fun hr' hk=>let ⟨k₁,h1,h2⟩:=zT.2 hr' (by rw [hx];exact hk);⟨k₁,h1, .head h0 zS h2⟩⟩
 |goto l=>exact hq.elim
 |ret=>exact⟨_,a₁,w₁,hq, .of_steps (.one h0 zS) zT⟩
 |panic ch=>exact⟨_,a₁,w₁,hq, .of_steps (.one h0 zS) zT⟩
 |outgrown=>exact⟨_,a₁,w₁,hq, .of_steps (.one h0 zS) zT⟩
def JL:∀(l:List af) (T:au af) (k t:Nat),(fX l T k).get t=if k<=t/\t<k+l.length then l[t-k]? else T.get t
 |[],T,k,t=>by
  have e:fX [] T k=T:=rfl;rw [e,if_neg (by simp only [List.length_nil];omega)]
 |v::l,T,k,t=>by
  have e:fX (v::l) T k=fX l (T.set k (some v)) (Nat.succ k):=rfl;rw [e,JL l _ (Nat.succ k) t,au.gp];by_cases h1:t=k
  .subst h1;rw [if_neg (by omega),if_pos rfl,if_pos (by simp)];simp
  .by_cases h2:Nat.succ k<=t/\t<Nat.succ k+l.length
   .rw [if_pos h2,if_pos (by simp;omega)];have:t-k=(t-Nat.succ k)+1:=by omega
    rw [this];simp
   .rw [if_neg h2,if_neg (fun e=>h1 e.symm),if_neg (by simp;omega)]
def Ce {args:List af} {xs:List Value} (hd:aI ρ args xs) {n:Nat} (hn:args.length<=n):jY ρ (fX args .nil 0) n (xs.toArray++Array.replicate (n-xs.toArray.size) undef):=by
 have hl:=hd.length;refine⟨by simp;omega,fun t=> ?_⟩;rw [JL,au.get_nil,Array.getD_eq_getD_getElem?,Array.getElem?_append];by_cases h:t<xs.length
 .rw [if_pos ⟨Nat.zero_le _,by omega⟩,if_pos (by simpa using h)];have hv:args[t]? =some (args[t]'(by omega)):=BH (by omega);obtain⟨x,h1,h2⟩:=hd.get hv;simp only [Nat.sub_zero,hv,Option.getD_some,List.getElem?_toArray,h1];exact h2
 .rw [if_neg (by omega),if_neg (by simpa using h)];simp only [Option.getD_none,Array.getElem?_replicate];split<;>exact .raw _
def EY (tmps:Array Value):ResultVar->Sem Value
 | .tmp t=>pure (tmps.getD t undef)
 | .cell ad t=>do loadVar t (<-asAddr (tmps.getD ad undef))
def Do (aR:eE P B ρ n T H a w) {r:ResultVar} {v:af} (h:I5 P T H r=some v):∃y,(EY a.tmps r).run P w= .ok y w/\Den ρ v y:=by
 cases r with
 |tmp t=>cases h;exact⟨_,rfl,aR.T.get t⟩
 |cell ad t=>
  simp only [I5]at h;split at h
  .rename_i i off ht;have hp:=aR.T.get ad;rw [ht]at hp;obtain⟨b,c,h1,h2⟩:=hp.kR;split at h
   .rename_i el cs ex cG ro hg;obtain⟨xs,fz,g1,_,g3,_⟩:=dp aR.H hg h1;obtain⟨y,k1,k2⟩:=EN g1 g3 h;exact⟨y,by simp [EY,h2,asAddr,k1],k2⟩
   .cases h
  .cases h
def Q5 (aR:eE P B ρ n T H a w):∀{rs:List ResultVar} {vs:List af},B0 P T H rs=some vs->∃ys,(rs.mapM (EY a.tmps)).run P w= .ok ys w/\aI ρ vs ys
 |[],vs,h=>by cases h;exact⟨[],by simp, .nil⟩
 |r::rs,vs,h=>by
  simp only [B0,dN,am]at h;obtain⟨v,hv,vs',hvs,rfl⟩:=h;obtain⟨y,h1,h2⟩:=Do aR hv;obtain⟨ys,h3,h4⟩:=Q5 aR hvs;refine⟨y::ys, ?_, .cons h2 h4⟩;rw [List.mapM_cons];simp only [Sem.run_bind,h1,Result.andThen_ok,h3,Sem.run_pure]
def abB (fn:Func) (tmps:Array Value) (w:World):(results fn tmps).run P w=(((fn.results.toList.mapM (EY tmps)).run P w).andThen fun(a:List Value) w'=> .ok a.toArray w').andThen fun(a:Array Value) w'=> .ok (if h:a.size=1 then a[0]else .tuple a) w':=by
 unfold results;rw [Array.mapM_eq_mapM_toList];simp only [Sem.run_bind,Sem.run_map,Sem.run_pure];rfl
def EZ (aR:eE P B ρ n T H a w) {fn:Func} {v:af} {H':ai} (h:jX P fn T H= .ok v H'):H'=H/\∃y,(results fn a.tmps).run P w= .ok y w/\Den ρ v y:=by
 have key:∀vs,B0 P T H fn.results.toList=some vs->∃ys:List Value,(results fn a.tmps).run P w= .ok (if h:ys.toArray.size=1 then ys.toArray[0]else .tuple ys.toArray) w/\aI ρ vs ys:=by
  intro vs hvs;obtain⟨ys,h1,h2⟩:=Q5 aR hvs;refine⟨ys, ?_,h2⟩;rw [abB,h1];rfl
 unfold jX at h;split at h
 .rename_i v' hvs;cases h;obtain⟨ys,h1,h2⟩:=key _ hvs;cases h2 with
  |cons h3 h4=>cases h4 with
   |nil=>exact⟨rfl,_,h1,h3⟩
 .rename_i vs hno hvs;cases h;obtain⟨ys,h1,h2⟩:=key _ hvs;have hl:=h2.length;have hne:¬ys.toArray.size=1:=fun hh=>by
   have:vs.length=1:=by rw [<-hl];simpa using hh
   match vs,this with
   |[v],_=>exact hno v rfl
  rw [dif_neg hne]at h1;exact⟨rfl,_,h1, .tuple h2⟩
 .cases h
def abC (hH:bk P B ρ H w) {i b c:Nat} {k0:bq} (hi:H.get i=some k0) (hr:ρ i=some (b,c)) (hro:k0.eU=false) (w':World) (hos:w'.os=w.os) (ht:w'.tape=w.tape) (hout:w'.output=w.output) (hs:w'.heap.size=w.heap.size)
  (mC:∀j,j≠b->w'.heap[j]? =w.heap[j]?):bk P B ρ (H.drop i) w'/\bR ρ H w ρ (H.drop i) w':=by
 have g:∀j k,(H.drop i).get j=some k->j≠i/\H.get j=some k:=fun j k hj=>by
  rw [ai.o8]at hj;split at hj
  .cases hj
  .rename_i e;exact⟨fun x=>e x.symm,hj⟩
 refine⟨⟨fun j k hj=> ?_,fun x y kx ky bb qs cY hx hy=>hH.inj x y kx ky bb qs cY (g x kx hx).2 (g y ky hy).2,fun j k hj=>hH.lt j k (g j k hj).2,by rw [hs];exact hH.base,fun b' A hb'=>by
  obtain⟨⟨e,fr,h1⟩,h2⟩:=hH.fz b' A hb';have hne:b'≠b:=fun e=>by
   have:=h2 i k0 c hi (e ▸ hr);rw [hro]at this;cases this
  exact⟨⟨e,fr,(mC b' hne).trans h1⟩,fun j k' c' hj hr'=>h2 j k' c' (g j k' hj).2 hr'⟩⟩,
  ⟨cD.refl _,fun _ _=>rfl,aK _,Nat.le_of_eq hs.symm,hos,ht,hout,fun b' _ ho=>mC b' (fun e=>ho (e ▸ ⟨i,k0,c,hi,hro,hr⟩)),fun b' _ ⟨j,k,Cf,h1,h2⟩=>⟨j,k,Cf,(g j k h1).2,h2⟩,fun b' _ ⟨j,k,Cf,h1,h2⟩=>⟨j,k,Cf,(g j k h1).2,h2⟩,fun _ _ h=> .inl h⟩⟩
 obtain⟨h1,h2⟩:=g j k hj;obtain⟨b',c',o,e1,e2,e3,bW⟩:=hH.blk j k h2;exact⟨b',c',o,e1,by rw [mC b' (fun e=>h1 (hH.inj j i k k0 b' c' c h2 hi e1 (e ▸ hr)))];exact e2,e3,bW⟩
def xG {fn:Func} {v:af} {H':ai} {R:Ending->World->Prop} {k:Nat}:∀(m:List Nat) {ρ:Env} {H:ai} {w:World} {ds:List Deferred},eE P B ρ n T H a w->eF ρ m ds->ko P fn T H m= .ok v H'->
  (∀y w',Den ρ v y->bk P B ρ H' w'->bR ρ H w ρ H' w'->R (.returned y) w')->LeavesInM (dU none) k P fn a.tmps R ds .returning w
 |[],ρ,H,w,ds,aR,hm,h,hR=>by
  have hm:ds=[]:=hm;subst hm;obtain⟨rfl,y,h1,h2⟩:=EZ aR h;exact⟨y,h1,hR y w h2 aR.H (bR.refl _ _ _)⟩
 |i::m,ρ,H,w,ds,aR,hm,h,hR=>by
  obtain⟨b,c,ds',h1,rfl,h3⟩:=hm;have e:ko P fn T H (i::m)= @Option.rec ai (fun _=>aM) .no (fun H=>jX P fn T H) (xh (i::m) H):=rfl;rw [e]at h;unfold xh at h;split at h
  .rename_i hg;obtain⟨o,g1,g2,_⟩:=aR.H.at hg h1;have g2:o= .deferred (some []):=g2;subst g2;have ht:=run_takeDeferred (P:=P) g1;obtain⟨q1,aP⟩:=abC aR.H hg h1 rfl (w.putObj b (.deferred none)) rfl rfl rfl (by simp) (fun j hj=>World.putObj_heap_other hj);refine⟨(fun hh=>by cases hh), .inl ⟨b,_,rfl,ht, ?_⟩⟩;refine xG m (aR.next aR.T q1 aP) h3 h fun y w' r1 r2 r3=>hR y w' r1 r2 (aP.trans r3)
  .cases h
def Q6:∀(m:List Nat) {H H':ai},xh m H=some H'->H.next=H'.next
 |[],H,H',h=>by cases h;rfl
 |i::m,H,H',h=>by
  unfold xh at h;split at h
  .exact Q6 m (H:=H.drop i) h
  .cases h
def zU {fn:Func} {v:af} {H':ai} {m:List Nat} (h:ko P fn T H m= .ok v H'):H.next=H'.next:=by
 unfold ko at h;cases hc:xh m H with
 |none=>rw [hc]at h;cases h
 |some H1=>
  rw [hc]at h;have h:jX P fn T H1= .ok v H':=h;unfold jX at h;rw [Q6 m hc];split at h<;>cases h<;>rfl
def Q7 {ih:hU} {f:FuncId} {args:List af} {v:af} {H':ai} (h:nk P ih f args H= .ok v H'):∃fn c,P.funcs[f]? =some fn/\fn.body=some c/\args.length<=fn.ntmps/\
  ∃e T1 H1 m1,(ih c fn.ntmps false (fX args .nil 0) H []).out=some (e,T1,H1,m1)/\(e= .normal\/e= .ret)/\ko P fn T1 H1 m1= .ok v H':=by
 unfold nk at h;cases hf:P.funcs[f]? with
 |none=>rw [hf]at h;cases h
 |some fn=>
  rw [hf]at h;simp only at h;cases hb:fn.body with
  |none=>rw [hb]at h;cases h
  |some c=>
   rw [hb]at h;simp only at h;unfold I6 at h;cases hn:Nat.ble args.length fn.ntmps with
   |false=>rw [hn]at h;cases h
   |true=>
    rw [hn]at h;simp only at h;refine⟨fn,c,rfl,hb,bV hn, ?_⟩;cases hr:ih c fn.ntmps false (fX args .nil 0) H []with
    |no=>rw [hr]at h;cases h
    |normal T1 H1 m1=>rw [hr]at h;exact⟨_,_,_,_,rfl, .inl rfl,h⟩
    |exit _ _ _ _=>rw [hr]at h;cases h
    |goto _ _ _ _=>rw [hr]at h;cases h
    |ret T1 H1 m1=>rw [hr]at h;exact⟨_,_,_,_,rfl, .inr rfl,h⟩
def Cg {ih:hU} (hI:qq P ih):bD P (nk P ih) where
 mono f args H v H' h:=by
  obtain⟨fn,c,_,_,_,e,T1,H1,m1,ho,_,hl⟩:=Q7 h;exact dc (hI.mono _ _ _ _ _ _ _ _ _ _ ho) (Nat.le_of_eq (zU hl))
 cz f args H v H' h B ρ xs w m hH cv hd hf:=by
  obtain⟨fn,c,hfn,hb,hn,e,T1,H1,m1,ho,he,hl⟩:=Q7 h;have hnx:=zU hl;refine callsIn_of_wp_marks hfn hb trivial ?_;refine hI.cz _ _ _ _ _ _ _ _ _ _ ho B ρ _ w none m _ rfl ⟨Ce hd hn,hH,cv⟩ rfl (by rw [hnx];exact hf) fun ρ' a' w' h1 h2 h3=> ?_
  have:LeavesInM (dU none) m P fn a'.tmps (dt P B ρ H w v H') a'.defers .returning w':=xG m1 h1 h3 hl fun y w2 r1 r2 r3=>⟨y,ρ',rfl,r1,r2,h2.trans r3⟩
  rcases he with rfl |rfl<;>exact this
end
end
section
variable [Ground]
section
variable {P:Program} {B:Nat} {ρ:Env} {n:Nat} {T:au af} {H:ai} {a:Act} {w:World}
def bk.lt_size (hH:bk P B ρ H w) {i b c:Nat} {k:bq} (hi:H.get i=some k) (hr:ρ i=some (b,c)):b<w.heap.size:=by
 obtain⟨o,h1,_⟩:=hH.at hi hr;exact(dG.1 h1).1
def i7 (hH:bk P B ρ H w) {i b c:Nat} {k0:bq} (hi:H.get i=some k0) (hr:ρ i=some (b,c)) (hro:k0.eU=false) {r:BI} {R:Loop} (hd:Jc ρ r R):bk P B ρ (H.set i (.loop r)) (w.putObj b (.loop R))/\bR ρ H w ρ (H.set i (.loop r)) (w.putObj b (.loop R)):=
 vo hH hi hr hro _ _ rfl rfl rfl (by simp) (World.putObj_heap_same (hH.lt_size hi hr)) (fun j hj=>World.putObj_heap_other hj) ⟨R,rfl,hd⟩
def rM (hH:bk P B ρ H w) {i b c:Nat} {r:BI} (hi:H.get i=some (.loop r)) (hr:ρ i=some (b,c)):∃R,w.heap[b]? =some (.loop R)/\Jc ρ r R:=by
 obtain⟨o,h1,h2,_⟩:=hH.at hi hr;obtain⟨R,rfl,h3⟩:=h2;exact⟨R,h1,h3⟩
def JM:∀(l:List (Tmp×af)) (l':List (Tmp×Value)) {T:au af} {xs:Array Value},l.map Prod.fst=l'.map Prod.fst->aI ρ (l.map Prod.snd) (l'.map Prod.snd)->(∀p∈l,p.1<n)->jY ρ T n xs->
  jY ρ (xj T l) n (l'.foldl (fun tmps p=>tmps.setIfInBounds p.1 p.2) xs)
 |[],[],T,xs,_,_,_,h=>h
 |[],_::_,_,_,h,_,_,_=>by simp at h
 |_::_,[],_,_,h,_,_,_=>by simp at h
 |(t,v)::l,(t',x)::l',T,xs,h,hd,hb,hT=>by
  simp only [List.map_cons,List.cons.injEq]at h;obtain⟨rfl,h⟩:=h;cases hd with
  |cons h1 h2=>
   refine JM l l' h h2 (fun p hp=>hb p (mh _ hp)) ?_;have hlt:t<xs.size:=by rw [hT.size];exact hb (t,v) mj
   refine⟨by simp [hT.size],fun u=> ?_⟩;rw [au.gp];show Den ρ _ ((xs.setIfInBounds t x).getD u undef);rw [Q1 _ _ _ _ _ hlt];by_cases he:t=u
   .subst he;simpa using h1
   .rw [if_neg he,if_neg (fun e=>he e.symm)];exact hT.get u
def E0 {i:Nat} {r:R} {v:af} {H':ai} (h:fa i r= .ok v H'):∃(e:Exit) (T1:au af) (H1:ai) (m1:List Nat) (r1:BI) (j:Option Code),r.out=some (e,T1,H1,m1)/\H1.get i=some (.loop r1)/\v= .raw (.bool j.isNone)/\
  H'=H1.set i (.loop {r1 with state:=if j.isNone then .ready else .done,pending:=j})/\(e= .normal/\j=none\/e= .ret/\j=some .ret\/(∃id,e= .exit id/\j=some (.exit id))\/(∃l,e= .goto l/\j=some (.goto l))):=by
 cases r with
 |no=>cases h
 |normal T1 H1 m1=>
  simp only [fa]at h;split at h
  .rename_i r1 hg;cases h;exact⟨_,T1,H1,m1,r1,none,rfl,hg,rfl,rfl, .inl ⟨rfl,rfl⟩⟩
  .cases h
 |ret T1 H1 m1=>
  simp only [fa]at h;split at h
  .rename_i r1 hg;cases h;exact⟨_,T1,H1,m1,r1,some .ret,rfl,hg,rfl,rfl, .inr (.inl ⟨rfl,rfl⟩)⟩
  .cases h
 |exit id T1 H1 m1=>
  simp only [fa]at h;split at h
  .rename_i r1 hg;cases h;exact⟨_,T1,H1,m1,r1,some (.exit id),rfl,hg,rfl,rfl, .inr (.inr (.inl ⟨id,rfl,rfl⟩))⟩
  .cases h
 |goto l T1 H1 m1=>
  simp only [fa]at h;split at h
  .rename_i r1 hg;cases h;exact⟨_,T1,H1,m1,r1,some (.goto l),rfl,hg,rfl,rfl, .inr (.inr (.inr ⟨l,rfl,rfl⟩))⟩
  .cases h
def Q8 {ih:hU} {i:Nat} {args:List af} {v:af} {H':ai} (h:tF ih i args H= .ok v H'):∃r,H.get i=some (.loop r)/\args.length=r.params.size/\(∀t∈r.params.toList,t<r.size)/\
  ∃T1 H1 r',(ih r.assign r.size true (xj r.tmps (r.params.toList.zip args)) H []).out=some (.normal,T1,H1,[])/\H1.get i=some (.loop r')/\r'.state= .ready/\
   fa i (ih r.body r.size true T1 (H1.set i (.loop {r' with state:= .busy})) [])= .ok v H':=by
 unfold tF at h;split at h
 .rename_i r hg;split at h
  .cases hb:(Nat.beq args.length r.params.size&&r.params.toList.all fun t=>Nat.ble (t+1) r.size)with
   |false=>rw [hb]at h;cases h
   |true=>
    rw [hb]at h;rw [ae]at hb;simp only [cond_true]at h;refine⟨r,hg,ac hb.1,fun t ht=>bV (List.all_eq_true.1 hb.2 t ht), ?_⟩;split at h
    .rename_i T1 H1 hr;split at h
     .rename_i r' hg';split at h
      .rename_i hs;exact⟨T1,H1,r',by rw [hr];rfl,hg',hs,h⟩
      .cases h
     .cases h
    .cases h
  .cases h
 .cases h
def Q9 {ih:hU} (hI:qq P ih):lN P (tF ih) where
 mono i args H v H' h:=by
  obtain⟨r,_,_,_,T1,H1,r',h1,_,_,h2⟩:=Q8 h;obtain⟨e,T2,H2,m2,r1,j,k1,_,_,rfl,_⟩:=E0 h2;have a1:=hI.mono _ _ _ _ _ _ _ _ _ _ h1;have a2:=hI.mono _ _ _ _ _ _ _ _ _ _ k1;exact dc a1 a2
 cz i args H v H' h B ρ xs w b c m hH cv hr hd hf:=by
  obtain⟨r,hg,hlen,hpar,T1,H1,r',h1,qt,hst,h2⟩:=Q8 h;obtain⟨e,T2,H2,m2,r1,j,k1,hg2,rfl,rfl,hj⟩:=E0 h2;have a1:=hI.mono _ _ _ _ _ _ _ _ _ _ h1;have a2:=hI.mono _ _ _ _ _ _ _ _ _ _ k1;have JN:H1.next<=H2.next:=a2;obtain⟨R,hb,hR⟩:=rM hH hg hr;have hl:=hd.length;have hy:=run_yield (P:=P) (args:=xs.toArray) hb (by rw [hR.params];simp;omega);refine⟨_,_,_,_,hy,roundIn_of_wpIn trivial ?_⟩
  -- the slots of the round
  have JO:jY ρ (xj r.tmps (r.params.toList.zip args)) r.size ((R.params.zip xs.toArray).foldl (fun tmps (t,a)=>tmps.setIfInBounds t a) R.tmps):=by
   have e1:(R.params.zip xs.toArray).foldl (fun tmps (t,a)=>tmps.setIfInBounds t a) R.tmps=(r.params.toList.zip xs).foldl (fun tmps p=>tmps.setIfInBounds p.1 p.2) R.tmps:=by
    rw [<-Array.foldl_toList,hR.params];congr 1;simp
   rw [e1];have hz:∀{α:Type} (l:List Nat) (ys:List α),ys.length=l.length->(l.zip ys).map Prod.fst=l/\(l.zip ys).map Prod.snd=ys:=fun l ys hh=>⟨by rw [List.map_fst_zip];omega,by rw [List.map_snd_zip];omega⟩
   have cT:=hz r.params.toList args (by simpa using hlen);have z2:=hz r.params.toList xs (by rw [hl];simpa using hlen);exact JM _ _ (by rw [cT.1,z2.1]) (by rw [cT.2,z2.2];exact hd) (fun p hp=>hpar p.1 (List.of_mem_zip hp).1) hR.tmps
  rw [hR.assign,hR.body];refine hI.cz _ _ _ _ _ _ _ _ _ _ h1 B ρ _ w (some b) m _ rfl ⟨JO,hH,cv⟩ rfl (fun x y z=>hf x y (Nat.lt_of_lt_of_le z JN)) fun cS Ch w1 hA hS hD=> ?_
  have hD:Ch.defers=[]:=hD;have kU:cS i=some (b,c):=hS.le _ _ hr;obtain⟨JP,kq,lQ⟩:=rM hA.H qt kU;have JQ:=run_beginRound (P:=P) kq (by rw [lQ.state,hst]);refine⟨_,JQ, ?_⟩;obtain⟨q1,aP⟩:=i7 hA.H qt kU rfl (r:={r' with state:= .busy}) (R:={JP with state:= .busy}) ⟨rfl,lQ.pending,lQ.params,lQ.assign,lQ.body,lQ.tmps⟩;refine hI.cz _ _ _ _ _ _ _ _ _ _ k1 B cS Ch _ (some b) m _ rfl (hA.next hA.T q1 aP) hD ((hS.trans aP).fr hf) fun en abD w2 vA Ci _=> ?_
  have hr2:en i=some (b,c):=Ci.le _ _ kU;obtain⟨JR,kS,tQ⟩:=rM vA.H hg2 hr2;have JS:=run_endRound (P:=P) j kS;obtain⟨b8,ez⟩:=i7 vA.H hg2 hr2 rfl (r:={r1 with state:=if j.isNone then .ready else .done,pending:=j}) (R:={JR with state:=if j.isNone then .ready else .done,pending:=j}) ⟨rfl,rfl,tQ.params,tQ.assign,tQ.body,tQ.tmps⟩;have fin:∃v' w',(Instr.endRound b j).run P w2= .ok v' w'/\dt P B ρ H w (.raw (.bool j.isNone)) (H2.set i (.loop {r1 with state:=if j.isNone then .ready else .done,pending:=j})) (.returned v') w':=
   ⟨_,_,JS,_,en,rfl, .raw _,b8,((hS.trans aP).trans Ci).trans ez⟩
  rcases hj with⟨rfl,rfl⟩|⟨rfl,rfl⟩|⟨id,rfl,rfl⟩|⟨l,rfl,rfl⟩<;>exact fin
end
end
section
variable [Ground]
section
variable {P:Program} {B:Nat} {ρ:Env} {n:Nat} {T:au af} {H:ai} {a:Act} {w:World}
def JT {fv:af} {v:Value} (hv:Den ρ fv v) {args:List af} {g:FuncId} {as:List af} {H2:ai} (h:mz P fv args H= .enter g as H2):∃fn first captured,v= .func fn first captured:=by
 unfold mz at h;split at h
 .rename_i x;have:=hv.cc;subst this;cases hg:w6 v with
  |fn f=>
   unfold w6 at hg;split at hg
   .exact⟨_,_,_,rfl⟩
   .cases hg
  |no=>
   rw [hg]at h;simp only at h;split at h
   .exact⟨_,_,_,rfl⟩
   .cases h
 .obtain⟨fs,cs,_,_,rfl⟩:=hv.B3;exact⟨_,_,_,rfl⟩
 .cases h
 .cases h
def Ra {ih:hU} {D:Nat} {m:List Nat} {ag:aM} {e:Exit} {aO:au af} {H':ai} {m':List Nat} (h:(B1 ih n T D m ag).out=some (e,aO,H',m')):∃v H3 r,ag= .ok v H3/\H3.get (D+1)=some (.loop r)/\r.state≠ .busy/\
  (r.pending=none/\e= .normal/\aO=T/\H'=H3.set (D+1) (.loop {r with state:= .exhausted})/\m'=D::m\/
    ∃c,r.pending=some c/\(ih c n false T (H3.set (D+1) (.loop {r with state:= .exhausted})) (D::m)).out=some (e,aO,H',m')):=by
 unfold B1 at h;split at h
 .rename_i v H3;split at h
  .rename_i r hg;split at h
   .cases h
   .rename_i hs;refine⟨v,H3,r,rfl,hg,fun hh=>hs hh, ?_⟩;split at h
    .rename_i hp;cases h;exact .inl ⟨hp,rfl,rfl,rfl,rfl⟩
    .rename_i c hp;exact .inr ⟨c,hp,h⟩
  .cases h
 .cases h
def Rb {ih:hU} {f:Operand} {params:Array Tmp} {assign body:Code} {m:List Nat} {e:Exit} {aO:au af} {H':ai} {m':List Nat} (h:(rI P ih f params assign body n T H m).out=some (e,aO,H',m')):
  ∃g args H2,mz P (cq T f) [.yield (H.next+1)] ((H.new .deferred).new (.loop {tmps:=T,size:=n,params,assign,body,state:= .ready,pending:=none}))= .enter g args H2/\
   (B1 ih n T H.next m (nk P ih g args H2)).out=some (e,aO,H',m'):=by
 unfold rI at h;split at h
 .rename_i g args H2 hc;exact⟨g,args,H2,hc,h⟩
 .cases h
def zV {fv:af} {args:List af} {g:FuncId} {as:List af} {H2:ai} (h:mz P fv args H= .enter g as H2):H2=H:=by
 have go:∀{f:FuncId} {l:List af},tu P f l H= .enter g as H2->H2=H:=fun {f l} h=>by
  unfold tu at h;cases hf:P.funcs[f]? with
  |none=>rw [hf]at h;cases h
  |some fn=>
   rw [hf]at h;simp only at h;cases hb:fn.body with
   |none=>
    rw [hb]at h;simp only at h;cases hx:zv P f fn l H with
    |none=>rw [hx]at h;cases h
    |some q=>rw [hx]at h;cases h
   |some c=>rw [hb]at h;cases h;rfl
 unfold mz at h;split at h
 .rename_i x;cases hg:w6 x with
  |fn f=>rw [hg]at h;exact go h
  |no=>
   rw [hg]at h;simp only at h;split at h
   .exact go h
   .cases h
 .exact go h
 .cases h
 .cases h
def Rc {ih:hU} (hI:qq P ih) {f:Operand} {params:Array Tmp} {assign body:Code} {m:List Nat} {e:Exit} {aO:au af} {H':ai} {m':List Nat} (h:(rI P ih f params assign body n T H m).out=some (e,aO,H',m')):H.next+2<=H'.next:=by
 obtain⟨g,args,H2,h1,h2⟩:=Rb h;have nv:=zV h1;obtain⟨v,H3,r,h3,h4,h5,h6⟩:=Ra h2;have hc:=(Cg hI).mono _ _ _ _ _ h3;have e2:H2.next=H.next+2:=by rw [nv];rfl
 rcases h6 with⟨_,_,_,rfl,_⟩|⟨c,_,h7⟩
 .show H.next+2<=H3.next;omega
 .have:=hI.mono _ _ _ _ _ _ _ _ _ _ h7;have e3:(H3.set (H.next+1) (bq.loop {r with state:= .exhausted})).next=H3.next:=rfl;omega
def abE (hK:ff P) {ih:hU} (hI:qq P ih) {f:Operand} {params:Array Tmp} {assign body:Code} {m:List Nat} {e:Exit} {aO:au af} {H':ai} {m':List Nat} (h:(rI P ih f params assign body n T H m).out=some (e,aO,H',m'))
  (k:Nat) {Q:Exit->Act->World->Prop} (aR:eE P B ρ n T H a w) (hD:eF ρ m a.defers) (hf:Fr ρ H.next H'.next)
  (hQ:∀ρ' a' w',eE P B ρ' n aO H' a' w'->bR ρ H w ρ' H' w'->eF ρ' m' a'.defers->Q e a' w'):(Code.rangeFunc f params assign body).wpIn (dU none) k P Q a w:=by
 have hmono:=Rc hI h;obtain⟨g,args,H2,h1,h2⟩:=Rb h;have nv:=zV h1;obtain⟨v,H3,r,h3,h4,h5,h6⟩:=Ra h2;have hcm:=(Cg hI).mono _ _ _ _ _ h3;have e2:H2.next=H.next+2:=by rw [nv];rfl
 have Cj:H3.next<=H'.next:=by
  rcases h6 with⟨_,_,_,rfl,_⟩|⟨c,_,h7⟩
  .exact aK _
  .have:=hI.mono _ _ _ _ _ _ _ _ _ _ h7;exact this
 refine wpIn_rangeFunc fun fn _=> ?_
 -- the two blocks
 have hn0:ρ H.next=none:=hf _ (aK _) (by omega);obtain⟨p1,p2⟩:=tH aR.H (fun i x y=>hf i x (by omega)) 0 .deferred (.deferred (some [])) rfl;have xH:=p2.fr hf;have nw:(H.new .deferred).next=H.next+1:=rfl;have Ck:=aR.T.mono p2.le;obtain⟨rec,iC⟩:∃rec:Loop,rec={state:= .ready,pending:=none,fn,tmps:=a.tmps,params,assign,body,defers:=w.heap.size}:=⟨_,rfl⟩;obtain⟨p3,dM⟩:=tH p1 (fun i x y=>xH i x (by rw [nw]at y;omega)) 0 (.loop {tmps:=T,size:=n,params,assign,body,state:= .ready,pending:=none}) (.loop rec) ⟨rec,rfl,by rw [iC],by rw [iC],by rw [iC],by rw [iC],by rw [iC],by
  rw [iC];exact Ck.mono (Env.o9 (xH _ (aK _) (by rw [nw];omega)))⟩
 have hle:=p2.trans dM;rw [<-nv]at p3 dM hle h1;obtain⟨en,vB⟩:∃en,en=(ρ.put H.next w.heap.size 0).put (H.new .deferred).next (w.alloc (.deferred (some []))).heap.size 0:=⟨_,rfl⟩;rw [<-vB]at p3 dM hle;have hL:en (H.next+1)=some (w.heap.size+1,0):=by rw [vB,<-nw,Env.dA];simp
 have JU:en H.next=some (w.heap.size,0):=by
  refine dM.le _ _ ?_;rw [Env.dA]
 -- the function
 have vC:=(xE aR.T aR.G f).mono hle.le;obtain⟨vD,first,captured,fZ⟩:=JT vC h1;have Cl:aI en [af.yield (H.next+1)] [.func (.yield (w.heap.size+1)) #[] #[]]:= .cons (.yield hL) .nil;have hca:=EV (P:=P) (B:=B) (w:=(w.alloc (.deferred (some []))).alloc (.loop rec)) (fv:=cq T f) hK p3 vC Cl (r:=(invoke (.fn vD captured) (first++ #[.func (.yield (w.heap.size+1)) #[] #[]])).run P ((w.alloc (.deferred (some []))).alloc (.loop rec)))
  (fun fn' first' captured' hh=>by rw [fZ]at hh;cases hh;rfl)
 rw [h1]at hca;obtain⟨_,xs,hinv,hxs⟩:=hca;refine⟨w.heap.size+1,[{target:= .collected w.heap.size,args:= #[]}],(w.alloc (.deferred (some []))).alloc (.loop rec),{target:= .fn vD captured,args:=first++ #[.func (.yield (w.heap.size+1)) #[] #[]]},(w.alloc (.deferred (some []))).alloc (.loop rec),g,xs.toArray,
  (w.alloc (.deferred (some []))).alloc (.loop rec), ?_, ?_,fun _ _=>trivial,hinv,(fun hh=>by cases hh), ?_⟩
 .rw [iC];exact run_enterLoop_outer fn a.tmps params assign body
 .have hcv:∀v,a.eval (.const v)=v:=fun _=>rfl
  simp [resolve,fZ,Deferred.ofValue,hcv]
 .refine((Cg hI).cz g args H2 v H3 h3 B en xs _ (k-1) p3 (aR.G.mono hle.le) hxs ((hle.fr hf).mono' Cj)).mono ?_;rintro e0 w3 ⟨x,qu,rfl,_,q1,aP⟩;have vE:=aP.le _ _ hL;obtain⟨R,hb,hR⟩:=rM q1 h4 vE;have hel:=run_endLoop (P:=P) hb (by rw [hR.state];exact h5);obtain⟨b8,ez⟩:=i7 q1 h4 vE rfl (r:={r with state:= .exhausted}) (R:={R with state:= .exhausted}) ⟨rfl,hR.pending,hR.params,hR.assign,hR.body,hR.tmps⟩;have ia:=(hle.trans aP).trans ez;have nx:eF qu (H.next::m) ([{target:= .collected w.heap.size,args:= #[]}]++a.defers):=⟨w.heap.size,0,a.defers,aP.le _ _ JU,rfl,(hD.mono (hle.trans aP).le)⟩;have key:∀jump,jump=r.pending->(match jump with
    |none=>Q .normal {a with defers:=[{target:= .collected w.heap.size,args:= #[]}]++a.defers} (w3.putObj (w.heap.size+1) (.loop {R with state:= .exhausted}))
    |some c=>c.wpIn (dU none) k P Q {a with defers:=[{target:= .collected w.heap.size,args:= #[]}]++a.defers} (w3.putObj (w.heap.size+1) (.loop {R with state:= .exhausted}))):=by
   rintro jump rfl;rcases h6 with⟨k1,rfl,rfl,rfl,rfl⟩|⟨c,k1,h7⟩
   .rw [k1];exact hQ qu {a with defers:=[{target:= .collected w.heap.size,args:= #[]}]++a.defers} _ ⟨aR.T.mono ia.le,b8,aR.G.mono ia.le⟩ ia nx
   .rw [k1];refine hI.cz _ _ _ _ _ _ _ _ _ _ h7 B qu {a with defers:=[{target:= .collected w.heap.size,args:= #[]}]++a.defers} _ none k Q rfl ⟨aR.T.mono ia.le,b8,aR.G.mono ia.le⟩ nx (ia.fr hf) fun ρ' a' w' r1 r2 r3=>hQ ρ' a' w' r1 (ia.trans r2) r3
  exact⟨R.pending,_,hel,key _ hR.pending⟩
def E1 {body:au af->ai->List Nat->R}:∀(j:Nat) {T:au af} {H:ai} {m:List Nat} {e:Exit} {aO:au af} {H':ai} {m':List Nat},(iter body j T H m).out=some (e,aO,H',m')->
  ∃j',j=j'+1/\∃e1 T1 H1 m1,(body T H m).out=some (e1,T1,H1,m1)/\((e1= .normal/\(iter body j' T1 H1 m1).out=some (e,aO,H',m'))\/(e1≠ .normal/\e=e1/\aO=T1/\H'=H1/\m'=m1))
 |0,_,_,_,_,_,_,_,h=>by cases h
 |j+1,T,H,m,e,aO,H',m',h=>by
  have e0:iter body (j+1) T H m= @R.rec (fun _=>R) .no (iter body j) .exit .goto .ret (body T H m):=rfl;rw [e0]at h;refine⟨j,rfl, ?_⟩;cases hb:body T H m with
  |no=>rw [hb]at h;cases h
  |normal T1 H1 m1=>rw [hb]at h;exact⟨_,_,_,_,rfl, .inl ⟨rfl,h⟩⟩
  |exit id T1 H1 m1=>rw [hb]at h;cases h;exact⟨_,_,_,_,rfl, .inr ⟨(fun hh=>by cases hh),rfl,rfl,rfl,rfl⟩⟩
  |goto l T1 H1 m1=>rw [hb]at h;cases h;exact⟨_,_,_,_,rfl, .inr ⟨(fun hh=>by cases hh),rfl,rfl,rfl,rfl⟩⟩
  |ret T1 H1 m1=>rw [hb]at h;cases h;exact⟨_,_,_,_,rfl, .inr ⟨(fun hh=>by cases hh),rfl,rfl,rfl,rfl⟩⟩
def JV {ih:hU} (hI:qq P ih) {c:Code} {aN:Bool}:∀(j:Nat) {T:au af} {H:ai} {m:List Nat} {e:Exit} {aO:au af} {H':ai} {m':List Nat},(iter (ih c n aN) j T H m).out=some (e,aO,H',m')->H.next<=H'.next
 |0,_,_,_,_,_,_,_,h=>by cases h
 |j+1,T,H,m,e,aO,H',m',h=>by
  obtain⟨j',hj,e1,T1,H1,m1,h1,h2⟩:=E1 (j+1) h;cases hj;have a1:=hI.mono _ _ _ _ _ _ _ _ _ _ h1;rcases h2 with⟨_,h2⟩|⟨_,_,_,rfl,_⟩
  .exact dc a1 (JV hI j h2)
  .exact a1
def Re {Q:Exit->Act->World->Prop} {e:Exit} {a:Act} {w:World} {N:Act->World->Prop} (hn:e≠ .normal) (h:Q e a w):Exit.then N Q e a w:=by
 cases e<;>first |exact absurd rfl hn|exact h
def Rf {ih:hU} (hI:qq P ih) {c:Code} {aN:Bool} {rd:Option Nat} (hrd:rd.isSome=aN) {k:Nat} {Q:Exit->Act->World->Prop}:∀(j:Nat) {ρ:Env} {T:au af} {H:ai} {m:List Nat} {a:Act} {w:World} {e:Exit} {aO:au af} {H':ai} {m':List Nat},
  (iter (ih c n aN) j T H m).out=some (e,aO,H',m')->eE P B ρ n T H a w->eF ρ m a.defers->Fr ρ H.next H'.next->
  (∀ρ' a' w',eE P B ρ' n aO H' a' w'->bR ρ H w ρ' H' w'->eF ρ' m' a'.defers->Q e a' w')->Code.roundsIn (dU rd) k P c Q j a w
 |0,_,_,_,_,_,_,_,_,_,_,h,_,_,_,_=>by cases h
 |j+1,ρ,T,H,m,a,w,e,aO,H',m',h,aR,hD,hf,hQ=>by
  obtain⟨j',hj,e1,T1,H1,m1,h1,h2⟩:=E1 (j+1) h;cases hj;have hle:H1.next<=H'.next:=by
   rcases h2 with⟨_,h2⟩|⟨_,_,_,rfl,_⟩
   .exact JV hI j h2
   .exact aK _
  refine hI.cz _ _ _ _ _ _ _ _ _ _ h1 B ρ a w rd k _ hrd aR hD (hf.mono' hle) fun cS a1 w1 r1 r2 r3=> ?_
  rcases h2 with⟨rfl,h2⟩|⟨hn,rfl,rfl,rfl,rfl⟩
  .exact Rf hI hrd j h2 r1 r3 (r2.fr hf) fun ρ' a' w' q1 aP b8=>hQ ρ' a' w' q1 (r2.trans aP) b8
  .exact Re hn (hQ cS a1 w1 r1 r2 r3)
def E2 {m:List Nat} {r:e4} {e:Exit} {aO:au af} {H':ai} {m':List Nat} (h:(zD m r).out=some (e,aO,H',m')):r= .mk aO H'/\e= .normal/\m'=m:=by
 cases r with
 |no=>cases h
 |mk T1 H1=>cases h;exact⟨rfl,rfl,rfl⟩
def Rg {draw:o6} {ih:hU} {x:Code} {aN:Bool} {m:List Nat}:zE (.loop x) P draw ih n aN T H m=iter (ih x n aN) rounds T H m:=by
 unfold zE;simp only [P7]
def abF (hK:ff P) {draw:o6} (hdr:∀d,xF P d (draw d)) {ih:hU} (hI:qq P ih):qq P (fun c=>zE c P draw ih) where
 mono c n aN T H m e aO H' m' h:=by
  have hC:=Cg hI;have hR:=Q9 hI;cases c with
  |skip=>cases h;exact aK _
  |label l=>cases h;exact aK _
  |exit id=>cases h;exact aK _
  |goto l=>cases h;exact aK _
  |ret=>cases h;exact aK _
  |refuse why=>cases h
  |region id ops d=>
   obtain⟨h1,_,_⟩:=E2 h;exact(hdr d).mono _ _ hC hR _ _ _ _ _ _ h1
  |seq x y=>
   have h:(@R.rec (fun _=>R) .no (fun T H m=>ih y n aN T H m) .exit .goto .ret (ih x n aN T H m)).out=some (e,aO,H',m'):=h;cases hx:ih x n aN T H m with
   |no=>rw [hx]at h;cases h
   |normal T1 H1 m1=>rw [hx]at h;exact dc (hI.mono x n aN T H m _ _ _ _ (by rw [hx];rfl)) (hI.mono _ _ _ _ _ _ _ _ _ _ h)
   |exit id T1 H1 m1=>rw [hx]at h;cases h;exact hI.mono x n aN T H m _ _ _ _ (by rw [hx];rfl)
   |goto l T1 H1 m1=>rw [hx]at h;cases h;exact hI.mono x n aN T H m _ _ _ _ (by rw [hx];rfl)
   |ret T1 H1 m1=>rw [hx]at h;cases h;exact hI.mono x n aN T H m _ _ _ _ (by rw [hx];rfl)
  |cond c x y=>
   have h:(@ni.rec (fun _=>R) .no (fun b=> @Bool.rec (fun _=>R) (ih y n aN T H m) (ih x n aN T H m) b) (gR (cq T c))).out=some (e,aO,H',m'):=h;cases hb:gR (cq T c)with
   |no=>rw [hb]at h;cases h
   |mk b=>rw [hb]at h;cases b<;>exact hI.mono _ _ _ _ _ _ _ _ _ _ h
  |block id x=>
   have h:(@R.rec (fun _=>R) .no .normal (fun i T H m=> @Bool.rec (fun _=>R) (.exit i T H m) (.normal T H m) (Nat.beq i id)) .goto .ret (ih x n aN T H m)).out=some (e,aO,H',m'):=h;cases hx:ih x n aN T H m with
   |no=>rw [hx]at h;cases h
   |normal T1 H1 m1=>rw [hx]at h;cases h;exact hI.mono x n aN T H m _ _ _ _ (by rw [hx];rfl)
   |exit i T1 H1 m1=>
    rw [hx]at h;simp only at h;cases hb:Nat.beq i id with
    |true=>rw [hb]at h;cases h;exact hI.mono x n aN T H m _ _ _ _ (by rw [hx];rfl)
    |false=>rw [hb]at h;cases h;exact hI.mono x n aN T H m _ _ _ _ (by rw [hx];rfl)
   |goto l T1 H1 m1=>rw [hx]at h;cases h;exact hI.mono x n aN T H m _ _ _ _ (by rw [hx];rfl)
   |ret T1 H1 m1=>rw [hx]at h;cases h;exact hI.mono x n aN T H m _ _ _ _ (by rw [hx];rfl)
  |loop x=>rw [Rg]at h;exact JV hI rounds h
  |rangeFunc f ps x y=>
   cases aN with
   |true=>cases h
   |false=>have:=Rc hI (P:=P) h;omega
  |scope x=>
   have h:(@R.rec (fun _=>R) .no .normal .exit (fun _ _ _ _=> .no) .ret (ih x n aN T H m)).out=some (e,aO,H',m'):=h;cases hx:ih x n aN T H m with
   |no=>rw [hx]at h;cases h
   |normal T1 H1 m1=>rw [hx]at h;cases h;exact hI.mono x n aN T H m _ _ _ _ (by rw [hx];rfl)
   |exit id T1 H1 m1=>rw [hx]at h;cases h;exact hI.mono x n aN T H m _ _ _ _ (by rw [hx];rfl)
   |goto l T1 H1 m1=>rw [hx]at h;cases h
   |ret T1 H1 m1=>rw [hx]at h;cases h;exact hI.mono x n aN T H m _ _ _ _ (by rw [hx];rfl)
 cz c n aN T H m e aO H' m' h B ρ a w rd k Q hrd aR hD hf hQ:=by
  have hC:=Cg hI;have hR:=Q9 hI;have here:∀{x:Code} {e1 T1 H1 m1},(ih x n aN T H m).out=some (e1,T1,H1,m1)->H1=H'->∀Q':Exit->Act->World->Prop,(∀ρ' a' w',eE P B ρ' n T1 H1 a' w'->bR ρ H w ρ' H1 w'->eF ρ' m1 a'.defers->Q' e1 a' w')->x.wpIn (dU rd) k P Q' a w:=
   fun h1 hh Q' hq=>hI.cz _ _ _ _ _ _ _ _ _ _ h1 B ρ a w rd k Q' hrd aR hD (by rw [hh];exact hf) hq
  cases c with
  |skip=>cases h;exact wpIn_skip (hQ ρ a w aR (bR.refl _ _ _) hD)
  |label l=>cases h;exact wpIn_label (hQ ρ a w aR (bR.refl _ _ _) hD)
  |exit id=>cases h;exact wpIn_exit (hQ ρ a w aR (bR.refl _ _ _) hD)
  |goto l=>cases h;exact wpIn_goto (hQ ρ a w aR (bR.refl _ _ _) hD)
  |ret=>cases h;exact wpIn_ret (hQ ρ a w aR (bR.refl _ _ _) hD)
  |refuse why=>cases h
  |region id ops d=>
   obtain⟨h1,rfl,rfl⟩:=E2 h;have JW:∀ρ' a' w',eE P B ρ' n aO H' a' w'->bR ρ H w ρ' H' w'->a'.defers=a.defers->Q .normal a' w':=fun ρ' a' w' r1 r2 r3=>hQ ρ' a' w' r1 r2 (by rw [r3];exact hD.mono r2.le)
   exact(hdr d).cz _ _ hC hR id _ _ _ _ _ _ h1 B ρ a w rd k Q aR hf JW
  |seq x y=>
   have h:(@R.rec (fun _=>R) .no (fun T H m=>ih y n aN T H m) .exit .goto .ret (ih x n aN T H m)).out=some (e,aO,H',m'):=h;refine wpIn_seq ?_;cases hx:ih x n aN T H m with
   |no=>rw [hx]at h;cases h
   |normal T1 H1 m1=>
    rw [hx]at h;have hle:=hI.mono _ _ _ _ _ _ _ _ _ _ h;refine hI.cz x n aN T H m _ _ _ _ (by rw [hx];rfl) B ρ a w rd k _ hrd aR hD (hf.mono' hle) fun cS a1 w1 r1 r2 r3=> ?_
    exact hI.cz _ _ _ _ _ _ _ _ _ _ h B cS a1 w1 rd k Q hrd r1 r3 (r2.fr hf) fun ρ' a' w' q1 aP b8=>hQ ρ' a' w' q1 (r2.trans aP) b8
   |exit id T1 H1 m1=>rw [hx]at h;cases h;exact here (x:=x) (by rw [hx];rfl) rfl _ hQ
   |goto l T1 H1 m1=>rw [hx]at h;cases h;exact here (x:=x) (by rw [hx];rfl) rfl _ hQ
   |ret T1 H1 m1=>rw [hx]at h;cases h;exact here (x:=x) (by rw [hx];rfl) rfl _ hQ
  |cond c x y=>
   have h:(@ni.rec (fun _=>R) .no (fun b=> @Bool.rec (fun _=>R) (ih y n aN T H m) (ih x n aN T H m) b) (gR (cq T c))).out=some (e,aO,H',m'):=h;cases hb:gR (cq T c)with
   |no=>rw [hb]at h;cases h
   |mk b=>
    rw [hb]at h;have hc:=xE aR.T aR.G c;rw [EE hb]at hc;refine wpIn_cond hc.cc ?_;cases b
    .exact hI.cz _ _ _ _ _ _ _ _ _ _ h B ρ a w rd k Q hrd aR hD hf hQ
    .exact hI.cz _ _ _ _ _ _ _ _ _ _ h B ρ a w rd k Q hrd aR hD hf hQ
  |block id x=>
   have h:(@R.rec (fun _=>R) .no .normal (fun i T H m=> @Bool.rec (fun _=>R) (.exit i T H m) (.normal T H m) (Nat.beq i id)) .goto .ret (ih x n aN T H m)).out=some (e,aO,H',m'):=h;refine wpIn_block ?_;cases hx:ih x n aN T H m with
   |no=>rw [hx]at h;cases h
   |normal T1 H1 m1=>rw [hx]at h;cases h;exact here (x:=x) (by rw [hx];rfl) rfl _ hQ
   |exit i T1 H1 m1=>
    rw [hx]at h;simp only at h;cases hb:Nat.beq i id with
    |true=>
     rw [hb]at h;cases h;have:=ac hb;subst this;exact here (x:=x) (by rw [hx];rfl) rfl _ fun ρ' a' w' r1 r2 r3=>by simp only [Exit.inBlock,if_true];exact hQ ρ' a' w' r1 r2 r3
    |false=>
     rw [hb]at h;cases h;have hne:i≠id:=fun hh=>by subst hh;rw [Nat.beq_refl]at hb;cases hb
     exact here (x:=x) (by rw [hx];rfl) rfl _ fun ρ' a' w' r1 r2 r3=>by simp only [Exit.inBlock,if_neg hne];exact hQ ρ' a' w' r1 r2 r3
   |goto l T1 H1 m1=>rw [hx]at h;cases h;exact here (x:=x) (by rw [hx];rfl) rfl _ hQ
   |ret T1 H1 m1=>rw [hx]at h;cases h;exact here (x:=x) (by rw [hx];rfl) rfl _ hQ
  |loop x=>rw [Rg]at h;exact wpIn_loop_rounds rounds (Rf hI hrd rounds h aR hD hf hQ)
  |rangeFunc f ps x y=>
   cases aN with
   |true=>cases h
   |false=>
    cases rd with
    |some l=>cases hrd
    |none=>exact abE hK hI h k aR hD hf hQ
  |scope x=>
   have h:(@R.rec (fun _=>R) .no .normal .exit (fun _ _ _ _=> .no) .ret (ih x n aN T H m)).out=some (e,aO,H',m'):=h;refine JK ?_;cases hx:ih x n aN T H m with
   |no=>rw [hx]at h;cases h
   |normal T1 H1 m1=>rw [hx]at h;cases h;exact here (x:=x) (by rw [hx];rfl) rfl _ hQ
   |exit id T1 H1 m1=>rw [hx]at h;cases h;exact here (x:=x) (by rw [hx];rfl) rfl _ hQ
   |goto l T1 H1 m1=>rw [hx]at h;cases h
   |ret T1 H1 m1=>rw [hx]at h;cases h;exact here (x:=x) (by rw [hx];rfl) rfl _ hQ
def JX (hK:ff P) {draw:o6} (hdr:∀d,xF P d (draw d)):∀fuel,qq P (qj P draw fuel)
 |0=>⟨(fun _ _ _ _ _ _ _ _ _ _ h=>by cases h),(fun _ _ _ _ _ _ _ _ _ _ h=>by cases h)⟩
 |f+1=>abF hK hdr (JX hK hdr f)
end
end
end Go.Proofs.YtibikmmdbdlafaaGreatDoor.Sv
