/- The runner over an abstract memory: a step of a region; a region in order. -/
import Derived.Test.YtibikmmdbdlafaaGreatDoorZxSvOp7
import Derived.LoopNIn
import Derived.RangeFuncIn
import Derived.RangeFuncLeaves
import Derived.RangeFuncRecord
set_option linter.unusedSectionVars false
set_option linter.unusedSimpArgs false
namespace Go.Proofs.YtibikmmdbdlafaaGreatDoor.Sv
open Go.RowKit
abbrev dM (r:Option Nat):Fence:={Fence.wide with round:=r}
class Ground where
 g:Nat->Option (Array Value->Prop)
variable [Ground]
structure nP (ρ:Env):Prop where
 at':∀g,g<64->∃c,ρ g=some (g,c)
 zk:∀b p,Ground.g b=some p->∃A,ρ.fz b=some A/\p A
theorem nP.mono {ρ ρ':Env} (h:nP ρ) (hl:cw ρ ρ'):nP ρ':=⟨fun g hg=>let ⟨c,hc⟩:=h.at' g hg;⟨c,hl _ _ hc⟩,fun b p hb=>let ⟨A,h1,h2⟩:=h.zk b p hb;⟨A,hl.fz _ _ h1,h2⟩⟩
structure ew (P:Program) (B:Nat) (ρ:Env) (n:Nat) (T:av aa) (H:ai) (a:Act) (w:World):Prop where
 T:jE ρ T n a.tmps
 H:aX P B ρ H w
 G:nP ρ
section
variable {P:Program} {B:Nat} {ρ:Env} {n:Nat} {T:av aa} {H:ai} {a:Act} {w:World}
theorem w9 (hT:jE ρ T n a.tmps) (cn:nP ρ) (x:Operand):Den ρ (cc T x) (a.eval x):=by
 cases x with
 |tmp t=>
  have h:=hT.get t;show Den ρ (@Option.rec aa (fun _=>aa) (.raw undef) (fun v=>v) (T.get t)) (a.tmps.getD t undef)
  cases hg:T.get t with
  |none=>rw [hg]at h;exact h
  |some v=>rw [hg]at h;exact h
 |const v=>exact .raw v
 |global g=>
  show Den ρ (@Bool.rec (fun _=>aa) (.raw (.pointer (some ⟨g,0,none⟩))) (.ptr g 0) (Nat.ble (Nat.succ g) 64)) (.pointer (some ⟨g,0,none⟩))
  cases hb:Nat.ble (Nat.succ g) 64 with
  |false=>exact .raw _
  |true=>obtain⟨c,hc⟩:=cn.at' g (bR hb);exact .ptr hc
 |func f=>exact .raw _
theorem Pf (xs:Array Value) (d t:Nat) (x u:Value) (hd:d<xs.size):(xs.setIfInBounds d x).getD t u=if t=d then x else xs.getD t u:=by
 simp only [Array.getD_eq_getD_getElem?,Array.getElem?_setIfInBounds];by_cases h:d=t
 .subst h;simp [hd]
 .rw [if_neg h,if_neg (fun e=>h e.symm)]
theorem Ib {dst:Option Tmp} {v:aa} {x:Value} {T1:av aa} (hT:jE ρ T n a.tmps) (hp:iC T n dst v=some T1) (hd:Den ρ v x):jE ρ T1 n (a.put dst x).tmps:=by
 cases dst with
 |none=>cases hp;exact hT
 |some d=>
  have e:iC T n (some d) v= @Bool.rec (fun _=>Option (av aa)) none (some (T.set d (some v))) (Nat.ble (Nat.succ d) n):=rfl;rw [e]at hp;cases hb:Nat.ble (Nat.succ d) n with
  |false=>rw [hb]at hp;cases hp
  |true=>
   rw [hb]at hp;cases hp;have hlt:d<a.tmps.size:=by rw [hT.size];exact bR hb
   refine⟨by simp [Act.put,hT.size],fun t=> ?_⟩;rw [av.fQ];show Den ρ _ ((a.tmps.setIfInBounds d x).getD t undef);rw [Pf _ _ _ _ _ hlt];by_cases h:d=t
   .subst h;simpa using hd
   .rw [if_neg h,if_neg (fun e=>h e.symm)];exact hT.get t
theorem put_defers (dst:Option Tmp) (x:Value):(a.put dst x).defers=a.defers:=by cases dst<;>rfl
theorem Zk {v:aa} {b:Bool} (h:Den ρ v (.bool b)):v= .raw (.bool b)\/v= .bot:=by
 cases h
 .exact .inl rfl
 .exact .inr rfl
theorem Ic {ops:Array Oper} {o:Oper} {b:Bool} (hT:jE ρ T n a.tmps) (h:gu T ops o=some b):Region.wanted o (yielded ops a.tmps)=b:=by
 unfold Region.wanted;cases hg:o.guard with
 |none=>
  have:gu T ops o=some true:=by unfold gu;rw [hg]
  rw [this]at h;cases h;rfl
 |some g=>
  obtain⟨j,want⟩:=g;have e:gu T ops o=wN T ops (j,want):=by unfold gu;rw [hg]
  rw [e]at h;unfold wN at h;simp only at h ⊢;cases hd:(ops[j]?).bind (·.dst)with
  |none=>rw [hd]at h;cases h
  |some d=>
   rw [hd]at h;simp only at h;have ht:=hT.get d
   -- what the slot yields
   have key:∀b',(yielded ops a.tmps j=some b')->T.get d=some (.raw (.bool b'))\/T.get d=some .bot:=by
    intro b' hy;unfold yielded at hy;rw [hd]at hy;simp only [Option.bind_some]at hy;split at hy
    .rename_i b'' hb;cases hy;have:a.tmps.getD d undef= .bool b':=by rw [Array.getD_eq_getD_getElem?,hb];rfl
     rw [this]at ht;have hq:=Zk ht;cases hg2:T.get d with
     |none=>rw [hg2]at hq;rcases hq with hq|hq<;>cases hq
     |some v=>rw [hg2]at hq;simp only [Option.getD_some]at hq;rcases hq with hq|hq<;>rw [hq]<;>simp
    .cases hy
   split at h
   .rename_i b' hb;cases h;have:a.tmps.getD d undef= .bool b':=by rw [hb]at ht;exact ht.b7
    have hy:yielded ops a.tmps j=some b':=by
     unfold yielded;rw [hd];simp only [Option.bind_some];rw [Array.getD_eq_getD_getElem?]at this;cases hx:a.tmps[d]? with
     |none=>rw [hx]at this;cases this
     |some x=>rw [hx]at this;simp only [Option.getD_some]at this;rw [this]
    rw [hy];cases b'<;>cases want<;>rfl
   .cases h
   .rename_i hno DZ;cases h;cases hy:yielded ops a.tmps j with
    |none=>rfl
    |some b'=>exact((key b' hy).elim (fun k=>hno b' k) (fun k=>DZ k)).elim
def mb (P:Program) (B:Nat) (ρ:Env) (H:ai) (w:World) (v:aa) (H':ai):Ending->World->Prop:=fun e w'=>∃x ρ',e= .returned x/\Den ρ' v x/\aX P B ρ' H' w'/\bL ρ H w ρ' H' w'
structure bB (P:Program) (call:er):Prop where
 mono:∀f args H v H',call f args H= .ok v H'->H.next<=H'.next
 ct:∀f args H v H',call f args H= .ok v H'->∀B ρ (xs:List Value) w m,aX P B ρ H w->nP ρ->aF ρ args xs->Fr ρ H.next H'.next->CallsIn (dM none) m P f xs.toArray w (mb P B ρ H w v H')
structure lq (P:Program) (round:jC):Prop where
 mono:∀i args H v H',round i args H= .ok v H'->H.next<=H'.next
 ct:∀i args H v H',round i args H= .ok v H'->∀B ρ (xs:List Value) w b c m,aX P B ρ H w->nP ρ->ρ i=some (b,c)->aF ρ args xs->Fr ρ H.next H'.next->
  ∃fn tmps assign body,(Instr.yield b xs.toArray).run P w= .ok (.round b fn tmps assign body) w/\RoundIn (dM none) m P b fn tmps assign body w (mb P B ρ H w v H')
theorem Zl {o:Oper} {ev:dH} {c:Call} (h:o.op= .defer c):eU o.op P o ev H= .no:=by rw [h];rfl
variable {call:er} {round:jC}
theorem sf (hC:bB P call) (hR:lq P round) {o:Oper} {ev:dH} {v:aa} {H':ai} (h:iO P call round o ev H= .ok v H'):H.next<=H'.next:=by
 have hm:=Zj (P:=P) (H:=H) (o:=o) (ev:=ev);unfold iO at h;cases ha:eU o.op P o ev H with
 |no=>rw [ha]at h;cases h
 |ok v1 H1=>rw [ha]at h hm;cases h;exact hm
 |enter f args H1=>rw [ha]at h hm;exact cX hm (hC.mono _ _ _ _ _ h)
 |round i args H1=>rw [ha]at h hm;exact cX hm (hR.mono _ _ _ _ _ h)
theorem Pg (hK:eW P) (hC:bB P call) (hR:lq P round) {o:Oper} {v:aa} {H':ai} (aN:ew P B ρ n T H a w) (h:iO P call round o (cc T) H= .ok v H') (hf:Fr ρ H.next H'.next) (rd:Option Nat) (m:Nat)
  {next:Act->World->Prop} {Q:Exit->Act->World->Prop} (hnext:∀x ρ' w',Den ρ' v x->aX P B ρ' H' w'->bL ρ H w ρ' H' w'->next (a.put o.dst x) w'):o.wpIn (dM rd) m P a w next Q:=by
 have ho:=Y3 (P:=P) (B:=B) (ρ:=ρ) (H:=H) (w:=w) (o:=o) (ev:=cc T) (e:=a.eval) hK aN.H (w9 aN.T aN.G);have Zm:o.semAt (dM rd).round a.eval=execOp a.eval o:=Oper.semAt_eq _ _ _ fun c hc=>by
  unfold iO at h;rw [Zl hc]at h;cases h
 refine⟨fun _ _=>trivial, ?_⟩;rw [Zm];have Ph:(dM rd).depth.isSome=true->1<=m:=fun hh=>by cases hh
 have post:∀{e w''},mb P B ρ H w v H' e w''->(match e,w'' with
   | .returned v,w''=>next (a.put o.dst v) w''
   | .panicked chain,w''=>Q (.panic chain) a w''
   | .outgrown,_=>LetsOut Q:Prop):=by
  rintro e w'' ⟨x,ρ',rfl,h1,h2,h3⟩;exact hnext x ρ' w'' h1 h2 h3
 unfold iO at h;cases ha:eU o.op P o (cc T) H with
 |no=>rw [ha]at h;cases h
 |ok v1 H1=>
  rw [ha]at h ho;cases h;obtain⟨ρ',x,w',eC,h1,h2,h3,h4,h5⟩:=ho hf;rw [h1];cases eC<;>first |exact h2.elim|skip
  .cases h2;exact hnext _ ρ' w' h3 h4 h5
  .cases h2;exact hnext _ ρ' w' h3 h4 h5
 |enter f args H1=>
  rw [ha]at h ho;obtain⟨rfl,xs,h1,h2⟩:=ho;rw [h1];refine⟨Ph, ?_⟩;have hc:=(hC.ct f args H1 v H' h B ρ xs w (m-1) aN.H aN.G h2 hf).mono (fun e w'' hp=>post hp);cases rd with
  |none=>exact hc
  |some l=>exact hc
 |round i args H1=>
  rw [ha]at h ho;obtain⟨rfl,b,c,xs,h0,h1,h2⟩:=ho;rw [h1];obtain⟨fn,tmps,assign,body,g1,g2⟩:=hR.ct i args H1 v H' h B ρ xs w b c (m-1) aN.H aN.G h0 h2 hf;rw [g1];refine⟨Ph, ?_⟩;have hc:=g2.mono (fun e w'' hp=>post hp);cases rd with
  |none=>exact hc
  |some l=>exact hc
theorem ew.next {ρ':Env} {T1:av aa} {H':ai} {a':Act} {w':World} (h:ew P B ρ n T H a w) (hT:jE ρ' T1 n a'.tmps) (hH:aX P B ρ' H' w') (hs:bL ρ H w ρ' H' w'):ew P B ρ' n T1 H' a' w':=⟨hT,hH,h.G.mono hs.le⟩
theorem Zn (hK:eW P) (hC:bB P call) (hR:lq P round) {ops:Array Oper} {o:Oper} {i:Nat} (hi:ops[i]? =some o) {k:av aa->ai->eN} {aL:av aa} {H':ai} (aN:ew P B ρ n T H a w) (h:wO P call round ops n o T H k= .mk aL H')
  (hkm:∀T1 H1,k T1 H1= .mk aL H'->H1.next<=H'.next) (hf:Fr ρ H.next H'.next) (rd:Option Nat) (m:Nat) {K:Act->World->Prop} {Q:Exit->Act->World->Prop}
  (hK':∀cK T1 H1 a1 w1,k T1 H1= .mk aL H'->ew P B cK n T1 H1 a1 w1->bL ρ H w cK H1 w1->a1.defers=a.defers->K a1 w1):wpOpIn (dM rd) m P ops Q i K a w:=by
 unfold wpOpIn;rw [hi];simp only;unfold wO at h;cases hw:gu T ops o with
 |none=>rw [hw]at h;cases h
 |some b=>
  rw [hw]at h;rw [Ic aN.T hw];cases b with
  |false=>
   simp only [Bool.false_eq_true,if_false];refine⟨fun _ _=>trivial, ?_⟩;cases hp:iC T n o.dst (.raw undef)with
   |none=>simp only [hp,pP]at h;cases h
   |some T1=>
    simp only [hp,pP]at h;exact hK' ρ T1 H _ w h (aN.next (Ib aN.T hp (.raw undef)) aN.H (bL.refl _ _ _)) (bL.refl _ _ _) (put_defers _ _)
  |true=>
   simp only [if_true];cases ha:iO P call round o (cc T) H with
   |no=>simp only [ha,sM]at h;cases h
   |enter _ _ _=>simp only [ha,sM]at h;cases h
   |round _ _ _=>simp only [ha,sM]at h;cases h
   |ok v H1=>
    simp only [ha,sM]at h;cases hp:iC T n o.dst v with
    |none=>simp only [hp,pP]at h;cases h
    |some T1=>
     simp only [hp,pP]at h;have hm:=hkm T1 H1 h;refine Pg hK hC hR aN ha (fun j h1 h2=>hf j h1 (Nat.lt_of_lt_of_le h2 hm)) rd m fun x cK w1 h1 h2 h3=> ?_
     exact hK' cK T1 H1 _ w1 h (aN.next (Ib (aN.T.mono h3.le) hp h1) h2 h3) h3 (put_defers _ _)
theorem Fr.mono' {ρ:Env} {a b c:Nat} (h:Fr ρ a c) (hb:b<=c):Fr ρ a b:=fun i h1 h2=>h i h1 (Nat.lt_of_lt_of_le h2 hb)
theorem bL.fr {cK:Env} {H1 H':ai} {w1:World} (h:bL ρ H w cK H1 w1) (hf:Fr ρ H.next H'.next):Fr cK H1.next H'.next:=fun i h1 h2=>by
 rw [h.ext i (.inr h1)];exact hf i (cX h.next h1) h2
theorem Zo (hC:bB P call) (hR:lq P round) {ops:Array Oper} {o:Oper} {k:av aa->ai->eN} {aL:av aa} {H':ai} (h:wO P call round ops n o T H k= .mk aL H') (hkm:∀T1 H1,k T1 H1= .mk aL H'->H1.next<=H'.next):H.next<=H'.next:=by
 unfold wO at h;cases hw:gu T ops o with
 |none=>rw [hw]at h;cases h
 |some b=>
  rw [hw]at h;cases b with
  |false=>
   cases hp:iC T n o.dst (.raw undef)with
   |none=>simp only [hp,pP]at h;cases h
   |some T1=>simp only [hp,pP]at h;exact hkm _ _ h
  |true=>
   cases ha:iO P call round o (cc T) H with
   |no=>simp only [ha,sM]at h;cases h
   |enter _ _ _=>simp only [ha,sM]at h;cases h
   |round _ _ _=>simp only [ha,sM]at h;cases h
   |ok v H1=>
    simp only [ha,sM]at h;cases hp:iC T n o.dst v with
    |none=>simp only [hp,pP]at h;cases h
    |some T1=>simp only [hp,pP]at h;exact cX (sf hC hR ha) (hkm _ _ h)
theorem Ie (hC:bB P call) (hR:lq P round) {ops:Array Oper}:∀(l:List Oper) {T:av aa} {H:ai} {aL:av aa} {H':ai},wP P call round ops n l T H= .mk aL H'->H.next<=H'.next
 |[],T,H,aL,H',h=>by cases h;exact aE _
 |o::l,T,H,aL,H',h=>Zo hC hR (k:=wP P call round ops n l) h fun T1 H1 h1=>Ie hC hR l h1
theorem Pj (hK:eW P) (hC:bB P call) (hR:lq P round) {ops:Array Oper} (rd:Option Nat) (m:Nat) {Q:Exit->Act->World->Prop}:∀(l:List Oper) (is:List Nat) {ρ:Env} {T:av aa} {H:ai} {a:Act} {w:World} {aL:av aa} {H':ai},
  is.map (ops[·]?)=l.map some->ew P B ρ n T H a w->wP P call round ops n l T H= .mk aL H'->Fr ρ H.next H'.next->
  (∀ρ' a' w',ew P B ρ' n aL H' a' w'->bL ρ H w ρ' H' w'->a'.defers=a.defers->Q .normal a' w')->wpOpsIn (dM rd) m P ops Q is a w
 |[],[],ρ,T,H,a,w,aL,H',_,aN,h,_,hQ=>by cases h;exact hQ ρ a w aN (bL.refl _ _ _) rfl
 |[],_::_,_,_,_,_,_,_,_,hi,_,_,_,_=>by simp at hi
 |_::_,[],_,_,_,_,_,_,_,hi,_,_,_,_=>by simp at hi
 |o::l,i::is,ρ,T,H,a,w,aL,H',hi,aN,h,hf,hQ=>by
  simp only [List.map_cons,List.cons.injEq]at hi;rw [wpOpsIn_cons];refine Zn hK hC hR hi.1 (k:=wP P call round ops n l) aN h (fun T1 H1 h1=>Ie hC hR l h1) hf rd m fun cK T1 H1 a1 w1 h1 Zp hst hd=> ?_
  exact Pj hK hC hR rd m l is hi.2 Zp h1 (hst.fr hf) fun ρ' a' w' h2 h3 h4=>hQ ρ' a' w' h2 (hst.trans h3) (h4.trans hd)
end
end Go.Proofs.YtibikmmdbdlafaaGreatDoor.Sv
/- The runner over an abstract memory: code, calls. -/
namespace Go.Proofs.YtibikmmdbdlafaaGreatDoor.Sv
open Go.RowKit
variable [Ground]
def R.out:R->Option (Exit×av aa×ai×List Nat)
 | .no=>none
 | .normal T H m=>some (.normal,T,H,m)
 | .exit id T H m=>some (.exit id,T,H,m)
 | .goto l T H m=>some (.goto l,T,H,m)
 | .ret T H m=>some (.ret,T,H,m)
def ey (ρ:Env):List Nat->List Deferred->Prop
 |[],ds=>ds=[]
 |i::m,ds=>∃b c ds',ρ i=some (b,c)/\ds={target:= .collected b,args:= #[]}::ds'/\ey ρ m ds'
theorem ey.mono {ρ ρ':Env} (hl:cw ρ ρ'):∀{m:List Nat} {ds:List Deferred},ey ρ m ds->ey ρ' m ds
 |[],_,h=>h
 |_::_,_,⟨b,c,ds',h1,h2,h3⟩=>⟨b,c,ds',hl _ _ h1,h2,ey.mono hl h3⟩
structure pX (P:Program) (ih:gL):Prop where
 mono:∀c n aK T H m e aL H' m',(ih c n aK T H m).out=some (e,aL,H',m')->H.next<=H'.next
 ct:∀c n aK T H m e aL H' m',(ih c n aK T H m).out=some (e,aL,H',m')->∀B ρ a w rd k (Q:Exit->Act->World->Prop),rd.isSome=aK->ew P B ρ n T H a w->ey ρ m a.defers->Fr ρ H.next H'.next->
  (∀ρ' a' w',ew P B ρ' n aL H' a' w'->bL ρ H w ρ' H' w'->ey ρ' m' a'.defers->Q e a' w')->c.wpIn (dM rd) k P Q a w
structure xb (P:Program) (d:Bool) (draw:Hz):Prop where
 mono:∀call round,bB P call->lq P round->∀ops n T H aL H',draw call round ops n T H= .mk aL H'->H.next<=H'.next
 ct:∀call round,bB P call->lq P round->∀id ops n T H aL H',draw call round ops n T H= .mk aL H'->∀B ρ a w rd k (Q:Exit->Act->World->Prop),ew P B ρ n T H a w->Fr ρ H.next H'.next->
  (∀ρ' a' w',ew P B ρ' n aL H' a' w'->bL ρ H w ρ' H' w'->a'.defers=a.defers->Q .normal a' w')->(Code.region id ops d).wpIn (dM rd) k P Q a w
section
variable {P:Program} {B:Nat} {ρ:Env} {n:Nat} {T:av aa} {H:ai} {a:Act} {w:World}
theorem Zq (ops:Array Oper):(List.range ops.size).map (ops[·]?)=ops.toList.map some:=by
 apply List.ext_getElem?;intro i;simp only [List.getElem?_map];by_cases h:i<ops.size
 .simp [h]
 .simp [h]
theorem fp {b:Frame} {k:List Item} {cs:List Frame} {c:Code}:step P (lone (b.atR a (.code (.scope c)::k)) cs w)= .next (lone (b.atR a (.code c:: .inScope c::k)) cs w):=
 step_lone_go (by simp [stepG,stepG.exec,Frame.atR])
theorem Zr {b:Frame} {k:List Item} {cs:List Frame} {c:Code}:step P (lone (b.atR a (.inScope c::k)) cs w)= .next (lone (b.atR a k) cs w):=
 step_lone_go (by simp [stepG,stepG.exec,Frame.atR])
theorem Ig {F:Fence} {n:Nat} {Q:Exit->Act->World->Prop} {c:Code} (h:c.wpIn F n P (Exit.noGoto Q) a w):(Code.scope c).wpIn F n P Q a w:=by
 intro b k cs hro hb hr;obtain⟨e,a₁,w₁,hq,zl⟩:=h b (.inScope c::k) cs hro hb hr;have h0:(lone (b.atR a (.code (.scope c)::k)) cs w).fenced P F:=fenced_calm hb hr rfl;cases e with
 |normal=>exact⟨.normal,a₁,w₁,hq, .head h0 fp (StepsIn.trans zl (.one (fenced_calm (fr:=b.atR a₁ (.inScope c::k)) hb hr rfl) Zr))⟩
 |exit id=>
  have hx:exitTo id (.inScope c::k)=exitTo id k:=by simp [exitTo]
  exact⟨.exit id,a₁,w₁,hq,fun k' hk=> .head h0 fp (zl.1 k' (by rw [hx];exact hk)),fun hr' hk=>let ⟨k₁,h1,h2⟩:=zl.2 hr' (by rw [hx];exact hk);⟨k₁,h1, .head h0 fp h2⟩⟩
 |goto l=>exact hq.elim
 |ret=>exact⟨_,a₁,w₁,hq, .of_steps (.one h0 fp) zl⟩
 |panic ch=>exact⟨_,a₁,w₁,hq, .of_steps (.one h0 fp) zl⟩
 |outgrown=>exact⟨_,a₁,w₁,hq, .of_steps (.one h0 fp) zl⟩
theorem Ih:∀(l:List aa) (T:av aa) (k t:Nat),(fG l T k).get t=if k<=t/\t<k+l.length then l[t-k]? else T.get t
 |[],T,k,t=>by
  have e:fG [] T k=T:=rfl;rw [e,if_neg (by simp only [List.length_nil];omega)]
 |v::l,T,k,t=>by
  have e:fG (v::l) T k=fG l (T.set k (some v)) (Nat.succ k):=rfl;rw [e,Ih l _ (Nat.succ k) t,av.fQ];by_cases h1:t=k
  .subst h1;rw [if_neg (by omega),if_pos rfl,if_pos (by simp)];simp
  .by_cases h2:Nat.succ k<=t/\t<Nat.succ k+l.length
   .rw [if_pos h2,if_pos (by simp;omega)];have:t-k=(t-Nat.succ k)+1:=by omega
    rw [this];simp
   .rw [if_neg h2,if_neg (fun e=>h1 e.symm),if_neg (by simp;omega)]
theorem BF {args:List aa} {xs:List Value} (hd:aF ρ args xs) {n:Nat} (hn:args.length<=n):jE ρ (fG args .nil 0) n (xs.toArray++Array.replicate (n-xs.toArray.size) undef):=by
 have hl:=hd.length;refine⟨by simp;omega,fun t=> ?_⟩;rw [Ih,av.get_nil,Array.getD_eq_getD_getElem?,Array.getElem?_append];by_cases h:t<xs.length
 .rw [if_pos ⟨Nat.zero_le _,by omega⟩,if_pos (by simpa using h)];have hv:args[t]? =some (args[t]'(by omega)):=mP (by omega);obtain⟨x,h1,h2⟩:=hd.get hv;simp only [Nat.sub_zero,hv,Option.getD_some,List.getElem?_toArray,h1];exact h2
 .rw [if_neg (by omega),if_neg (by simpa using h)];simp only [Option.getD_none,Array.getElem?_replicate];split<;>exact .raw _
def D0 (tmps:Array Value):ResultVar->Sem Value
 | .tmp t=>pure (tmps.getD t undef)
 | .cell ad t=>do loadVar t (<-asAddr (tmps.getD ad undef))
theorem Zs (aN:ew P B ρ n T H a w) {r:ResultVar} {v:aa} (h:wt P T H r=some v):∃y,(D0 a.tmps r).run P w= .ok y w/\Den ρ v y:=by
 cases r with
 |tmp t=>cases h;exact⟨_,rfl,aN.T.get t⟩
 |cell ad t=>
  simp only [wt]at h;split at h
  .rename_i i off ht;have hp:=aN.T.get ad;rw [ht]at hp;obtain⟨b,c,h1,h2⟩:=hp.kz;split at h
   .rename_i el cs ex cz ro hg;obtain⟨xs,fz,g1,_,g3,_⟩:=l6 aN.H hg h1;obtain⟨y,k1,k2⟩:=DR g1 g3 h;exact⟨y,by simp [D0,h2,asAddr,k1],k2⟩
   .cases h
  .cases h
theorem Pk (aN:ew P B ρ n T H a w):∀{rs:List ResultVar} {vs:List aa},Br P T H rs=some vs->∃ys,(rs.mapM (D0 a.tmps)).run P w= .ok ys w/\aF ρ vs ys
 |[],vs,h=>by cases h;exact⟨[],by simp, .nil⟩
 |r::rs,vs,h=>by
  simp only [Br,dG,am]at h;obtain⟨v,hv,vs',hvs,rfl⟩:=h;obtain⟨y,h1,h2⟩:=Zs aN hv;obtain⟨ys,h3,h4⟩:=Pk aN hvs;refine⟨y::ys, ?_, .cons h2 h4⟩;rw [List.mapM_cons];simp only [Sem.run_bind,h1,Result.andThen_ok,h3,Sem.run_pure]
theorem Zt (fn:Func) (tmps:Array Value) (w:World):(results fn tmps).run P w=(((fn.results.toList.mapM (D0 tmps)).run P w).andThen fun(a:List Value) w'=> .ok a.toArray w').andThen fun(a:Array Value) w'=> .ok (if h:a.size=1 then a[0]else .tuple a) w':=by
 unfold results;rw [Array.mapM_eq_mapM_toList];simp only [Sem.run_bind,Sem.run_map,Sem.run_pure];rfl
theorem D1 (aN:ew P B ρ n T H a w) {fn:Func} {v:aa} {H':ai} (h:jD P fn T H= .ok v H'):H'=H/\∃y,(results fn a.tmps).run P w= .ok y w/\Den ρ v y:=by
 have key:∀vs,Br P T H fn.results.toList=some vs->∃ys:List Value,(results fn a.tmps).run P w= .ok (if h:ys.toArray.size=1 then ys.toArray[0]else .tuple ys.toArray) w/\aF ρ vs ys:=by
  intro vs hvs;obtain⟨ys,h1,h2⟩:=Pk aN hvs;refine⟨ys, ?_,h2⟩;rw [Zt,h1];rfl
 unfold jD at h;split at h
 .rename_i v' hvs;cases h;obtain⟨ys,h1,h2⟩:=key _ hvs;cases h2 with
  |cons h3 h4=>cases h4 with
   |nil=>exact⟨rfl,_,h1,h3⟩
 .rename_i vs hno hvs;cases h;obtain⟨ys,h1,h2⟩:=key _ hvs;have hl:=h2.length;have hne:¬ys.toArray.size=1:=fun hh=>by
   have:vs.length=1:=by rw [<-hl];simpa using hh
   match vs,this with
   |[v],_=>exact hno v rfl
  rw [dif_neg hne]at h1;exact⟨rfl,_,h1, .tuple h2⟩
 .cases h
theorem Id (hH:aX P B ρ H w) {i b c:Nat} {k0:bf} (hi:H.get i=some k0) (hr:ρ i=some (b,c)) (hro:k0.eF=false) (w':World) (hos:w'.os=w.os) (ht:w'.tape=w.tape) (hout:w'.output=w.output) (hs:w'.heap.size=w.heap.size)
  (lZ:∀j,j≠b->w'.heap[j]? =w.heap[j]?):aX P B ρ (H.drop i) w'/\bL ρ H w ρ (H.drop i) w':=by
 have g:∀j k,(H.drop i).get j=some k->j≠i/\H.get j=some k:=fun j k hj=>by
  rw [ai.oG]at hj;split at hj
  .cases hj
  .rename_i e;exact⟨fun x=>e x.symm,hj⟩
 refine⟨⟨fun j k hj=> ?_,fun x y kx ky bb pY cP hx hy=>hH.inj x y kx ky bb pY cP (g x kx hx).2 (g y ky hy).2,fun j k hj=>hH.lt j k (g j k hj).2,by rw [hs];exact hH.base,fun b' A hb'=>by
  obtain⟨⟨e,fr,h1⟩,h2⟩:=hH.fz b' A hb';have hne:b'≠b:=fun e=>by
   have:=h2 i k0 c hi (e ▸ hr);rw [hro]at this;cases this
  exact⟨⟨e,fr,(lZ b' hne).trans h1⟩,fun j k' c' hj hr'=>h2 j k' c' (g j k' hj).2 hr'⟩⟩,
  ⟨cw.refl _,fun _ _=>rfl,aE _,Nat.le_of_eq hs.symm,hos,ht,hout,fun b' _ ho=>lZ b' (fun e=>ho (e ▸ ⟨i,k0,c,hi,hro,hr⟩)),fun b' _ ⟨j,k,Ii,h1,h2⟩=>⟨j,k,Ii,(g j k h1).2,h2⟩,fun b' _ ⟨j,k,Ii,h1,h2⟩=>⟨j,k,Ii,(g j k h1).2,h2⟩,fun _ _ h=> .inl h⟩⟩
 obtain⟨h1,h2⟩:=g j k hj;obtain⟨b',c',o,e1,e2,e3,bP⟩:=hH.blk j k h2;exact⟨b',c',o,e1,by rw [lZ b' (fun e=>h1 (hH.inj j i k k0 b' c' c h2 hi e1 (e ▸ hr)))];exact e2,e3,bP⟩
theorem xd {fn:Func} {v:aa} {H':ai} {R:Ending->World->Prop} {k:Nat}:∀(m:List Nat) {ρ:Env} {H:ai} {w:World} {ds:List Deferred},ew P B ρ n T H a w->ey ρ m ds->jZ P fn T H m= .ok v H'->
  (∀y w',Den ρ v y->aX P B ρ H' w'->bL ρ H w ρ H' w'->R (.returned y) w')->LeavesInM (dM none) k P fn a.tmps R ds .returning w
 |[],ρ,H,w,ds,aN,hm,h,hR=>by
  have hm:ds=[]:=hm;subst hm;obtain⟨rfl,y,h1,h2⟩:=D1 aN h;exact⟨y,h1,hR y w h2 aN.H (bL.refl _ _ _)⟩
 |i::m,ρ,H,w,ds,aN,hm,h,hR=>by
  obtain⟨b,c,ds',h1,rfl,h3⟩:=hm;have e:jZ P fn T H (i::m)= @Option.rec ai (fun _=>aI) .no (fun H=>jD P fn T H) (mt (i::m) H):=rfl;rw [e]at h;unfold mt at h;split at h
  .rename_i hg;obtain⟨o,g1,g2,_⟩:=aN.H.at hg h1;have g2:o= .deferred (some []):=g2;subst g2;have ht:=run_takeDeferred (P:=P) g1;obtain⟨q1,aO⟩:=Id aN.H hg h1 rfl (w.putObj b (.deferred none)) rfl rfl rfl (by simp) (fun j hj=>World.putObj_heap_other hj);refine⟨(fun hh=>by cases hh), .inl ⟨b,_,rfl,ht, ?_⟩⟩;refine xd m (aN.next aN.T q1 aO) h3 h fun y w' r1 r2 r3=>hR y w' r1 r2 (aO.trans r3)
  .cases h
theorem Pm:∀(m:List Nat) {H H':ai},mt m H=some H'->H.next=H'.next
 |[],H,H',h=>by cases h;rfl
 |i::m,H,H',h=>by
  unfold mt at h;split at h
  .exact Pm m (H:=H.drop i) h
  .cases h
theorem zm {fn:Func} {v:aa} {H':ai} {m:List Nat} (h:jZ P fn T H m= .ok v H'):H.next=H'.next:=by
 unfold jZ at h;cases hc:mt m H with
 |none=>rw [hc]at h;cases h
 |some H1=>
  rw [hc]at h;have h:jD P fn T H1= .ok v H':=h;unfold jD at h;rw [Pm m hc];split at h<;>cases h<;>rfl
theorem Pn {ih:gL} {f:FuncId} {args:List aa} {v:aa} {H':ai} (h:mU P ih f args H= .ok v H'):∃fn c,P.funcs[f]? =some fn/\fn.body=some c/\args.length<=fn.ntmps/\
  ∃e T1 H1 m1,(ih c fn.ntmps false (fG args .nil 0) H []).out=some (e,T1,H1,m1)/\(e= .normal\/e= .ret)/\jZ P fn T1 H1 m1= .ok v H':=by
 unfold mU at h;cases hf:P.funcs[f]? with
 |none=>rw [hf]at h;cases h
 |some fn=>
  rw [hf]at h;simp only at h;cases hb:fn.body with
  |none=>rw [hb]at h;cases h
  |some c=>
   rw [hb]at h;simp only at h;unfold Hy at h;cases hn:Nat.ble args.length fn.ntmps with
   |false=>rw [hn]at h;cases h
   |true=>
    rw [hn]at h;simp only at h;refine⟨fn,c,rfl,hb,bR hn, ?_⟩;cases hr:ih c fn.ntmps false (fG args .nil 0) H []with
    |no=>rw [hr]at h;cases h
    |normal T1 H1 m1=>rw [hr]at h;exact⟨_,_,_,_,rfl, .inl rfl,h⟩
    |exit _ _ _ _=>rw [hr]at h;cases h
    |goto _ _ _ _=>rw [hr]at h;cases h
    |ret T1 H1 m1=>rw [hr]at h;exact⟨_,_,_,_,rfl, .inr rfl,h⟩
theorem BG {ih:gL} (hI:pX P ih):bB P (mU P ih) where
 mono f args H v H' h:=by
  obtain⟨fn,c,_,_,_,e,T1,H1,m1,ho,_,hl⟩:=Pn h;exact cX (hI.mono _ _ _ _ _ _ _ _ _ _ ho) (Nat.le_of_eq (zm hl))
 ct f args H v H' h B ρ xs w m hH cn hd hf:=by
  obtain⟨fn,c,hfn,hb,hn,e,T1,H1,m1,ho,he,hl⟩:=Pn h;have hnx:=zm hl;refine callsIn_of_wp_marks hfn hb trivial ?_;refine hI.ct _ _ _ _ _ _ _ _ _ _ ho B ρ _ w none m _ rfl ⟨BF hd hn,hH,cn⟩ rfl (by rw [hnx];exact hf) fun ρ' a' w' h1 h2 h3=> ?_
  have:LeavesInM (dM none) m P fn a'.tmps (mb P B ρ H w v H') a'.defers .returning w':=xd m1 h1 h3 hl fun y w2 r1 r2 r3=>⟨y,ρ',rfl,r1,r2,h2.trans r3⟩
  rcases he with rfl |rfl<;>exact this
end
end Go.Proofs.YtibikmmdbdlafaaGreatDoor.Sv
/- The runner over an abstract memory: loops over functions; any code. -/
namespace Go.Proofs.YtibikmmdbdlafaaGreatDoor.Sv
open Go.RowKit
variable [Ground]
section
variable {P:Program} {B:Nat} {ρ:Env} {n:Nat} {T:av aa} {H:ai} {a:Act} {w:World}
theorem aX.lt_size (hH:aX P B ρ H w) {i b c:Nat} {k:bf} (hi:H.get i=some k) (hr:ρ i=some (b,c)):b<w.heap.size:=by
 obtain⟨o,h1,_⟩:=hH.at hi hr;exact(dx.1 h1).1
theorem xe (hH:aX P B ρ H w) {i b c:Nat} {k0:bf} (hi:H.get i=some k0) (hr:ρ i=some (b,c)) (hro:k0.eF=false) {r:Bb} {R:Loop} (hd:HD ρ r R):aX P B ρ (H.set i (.loop r)) (w.putObj b (.loop R))/\bL ρ H w ρ (H.set i (.loop r)) (w.putObj b (.loop R)):=
 uK hH hi hr hro _ _ rfl rfl rfl (by simp) (World.putObj_heap_same (hH.lt_size hi hr)) (fun j hj=>World.putObj_heap_other hj) ⟨R,rfl,hd⟩
theorem qW (hH:aX P B ρ H w) {i b c:Nat} {r:Bb} (hi:H.get i=some (.loop r)) (hr:ρ i=some (b,c)):∃R,w.heap[b]? =some (.loop R)/\HD ρ r R:=by
 obtain⟨o,h1,h2,_⟩:=hH.at hi hr;obtain⟨R,rfl,h3⟩:=h2;exact⟨R,h1,h3⟩
theorem Ij:∀(l:List (Tmp×aa)) (l':List (Tmp×Value)) {T:av aa} {xs:Array Value},l.map Prod.fst=l'.map Prod.fst->aF ρ (l.map Prod.snd) (l'.map Prod.snd)->(∀p∈l,p.1<n)->jE ρ T n xs->
  jE ρ (wQ T l) n (l'.foldl (fun tmps p=>tmps.setIfInBounds p.1 p.2) xs)
 |[],[],T,xs,_,_,_,h=>h
 |[],_::_,_,_,h,_,_,_=>by simp at h
 |_::_,[],_,_,h,_,_,_=>by simp at h
 |(t,v)::l,(t',x)::l',T,xs,h,hd,hb,hT=>by
  simp only [List.map_cons,List.cons.injEq]at h;obtain⟨rfl,h⟩:=h;cases hd with
  |cons h1 h2=>
   refine Ij l l' h h2 (fun p hp=>hb p (k6 _ hp)) ?_;have hlt:t<xs.size:=by rw [hT.size];exact hb (t,v) k7
   refine⟨by simp [hT.size],fun u=> ?_⟩;rw [av.fQ];show Den ρ _ ((xs.setIfInBounds t x).getD u undef);rw [Pf _ _ _ _ _ hlt];by_cases he:t=u
   .subst he;simpa using h1
   .rw [if_neg he,if_neg (fun e=>he e.symm)];exact hT.get u
theorem D2 {i:Nat} {r:R} {v:aa} {H':ai} (h:eh i r= .ok v H'):∃(e:Exit) (T1:av aa) (H1:ai) (m1:List Nat) (r1:Bb) (j:Option Code),r.out=some (e,T1,H1,m1)/\H1.get i=some (.loop r1)/\v= .raw (.bool j.isNone)/\
  H'=H1.set i (.loop {r1 with state:=if j.isNone then .ready else .done,pending:=j})/\(e= .normal/\j=none\/e= .ret/\j=some .ret\/(∃id,e= .exit id/\j=some (.exit id))\/(∃l,e= .goto l/\j=some (.goto l))):=by
 cases r with
 |no=>cases h
 |normal T1 H1 m1=>
  simp only [eh]at h;split at h
  .rename_i r1 hg;cases h;exact⟨_,T1,H1,m1,r1,none,rfl,hg,rfl,rfl, .inl ⟨rfl,rfl⟩⟩
  .cases h
 |ret T1 H1 m1=>
  simp only [eh]at h;split at h
  .rename_i r1 hg;cases h;exact⟨_,T1,H1,m1,r1,some .ret,rfl,hg,rfl,rfl, .inr (.inl ⟨rfl,rfl⟩)⟩
  .cases h
 |exit id T1 H1 m1=>
  simp only [eh]at h;split at h
  .rename_i r1 hg;cases h;exact⟨_,T1,H1,m1,r1,some (.exit id),rfl,hg,rfl,rfl, .inr (.inr (.inl ⟨id,rfl,rfl⟩))⟩
  .cases h
 |goto l T1 H1 m1=>
  simp only [eh]at h;split at h
  .rename_i r1 hg;cases h;exact⟨_,T1,H1,m1,r1,some (.goto l),rfl,hg,rfl,rfl, .inr (.inr (.inr ⟨l,rfl,rfl⟩))⟩
  .cases h
theorem BH {ih:gL} {i:Nat} {args:List aa} {v:aa} {H':ai} (h:sN ih i args H= .ok v H'):∃r,H.get i=some (.loop r)/\args.length=r.params.size/\(∀t∈r.params.toList,t<r.size)/\
  ∃T1 H1 r',(ih r.assign r.size true (wQ r.tmps (r.params.toList.zip args)) H []).out=some (.normal,T1,H1,[])/\H1.get i=some (.loop r')/\r'.state= .ready/\
   eh i (ih r.body r.size true T1 (H1.set i (.loop {r' with state:= .busy})) [])= .ok v H':=by
 unfold sN at h;split at h
 .rename_i r hg;split at h
  .cases hb:(Nat.beq args.length r.params.size&&r.params.toList.all fun t=>Nat.ble (t+1) r.size)with
   |false=>rw [hb]at h;cases h
   |true=>
    rw [hb]at h;rw [ae]at hb;simp only [cond_true]at h;refine⟨r,hg,ac hb.1,fun t ht=>bR (List.all_eq_true.1 hb.2 t ht), ?_⟩;split at h
    .rename_i T1 H1 hr;split at h
     .rename_i r' hg';split at h
      .rename_i hs;exact⟨T1,H1,r',by rw [hr];rfl,hg',hs,h⟩
      .cases h
     .cases h
    .cases h
  .cases h
 .cases h
theorem Po {ih:gL} (hI:pX P ih):lq P (sN ih) where
 mono i args H v H' h:=by
  obtain⟨r,_,_,_,T1,H1,r',h1,_,_,h2⟩:=BH h;obtain⟨e,T2,H2,m2,r1,j,k1,_,_,rfl,_⟩:=D2 h2;have a1:=hI.mono _ _ _ _ _ _ _ _ _ _ h1;have a2:=hI.mono _ _ _ _ _ _ _ _ _ _ k1;exact cX a1 a2
 ct i args H v H' h B ρ xs w b c m hH cn hr hd hf:=by
  obtain⟨r,hg,hlen,hpar,T1,H1,r',h1,pZ,hst,h2⟩:=BH h;obtain⟨e,T2,H2,m2,r1,j,k1,hg2,rfl,rfl,hj⟩:=D2 h2;have a1:=hI.mono _ _ _ _ _ _ _ _ _ _ h1;have a2:=hI.mono _ _ _ _ _ _ _ _ _ _ k1;have Ik:H1.next<=H2.next:=a2;obtain⟨R,hb,hR⟩:=qW hH hg hr;have hl:=hd.length;have hy:=run_yield (P:=P) (args:=xs.toArray) hb (by rw [hR.params];simp;omega);refine⟨_,_,_,_,hy,roundIn_of_wpIn trivial ?_⟩
  -- the slots of the round
  have Il:jE ρ (wQ r.tmps (r.params.toList.zip args)) r.size ((R.params.zip xs.toArray).foldl (fun tmps (t,a)=>tmps.setIfInBounds t a) R.tmps):=by
   have e1:(R.params.zip xs.toArray).foldl (fun tmps (t,a)=>tmps.setIfInBounds t a) R.tmps=(r.params.toList.zip xs).foldl (fun tmps p=>tmps.setIfInBounds p.1 p.2) R.tmps:=by
    rw [<-Array.foldl_toList,hR.params];congr 1;simp
   rw [e1];have hz:∀{α:Type} (l:List Nat) (ys:List α),ys.length=l.length->(l.zip ys).map Prod.fst=l/\(l.zip ys).map Prod.snd=ys:=fun l ys hh=>⟨by rw [List.map_fst_zip];omega,by rw [List.map_snd_zip];omega⟩
   have dD:=hz r.params.toList args (by simpa using hlen);have z2:=hz r.params.toList xs (by rw [hl];simpa using hlen);exact Ij _ _ (by rw [dD.1,z2.1]) (by rw [dD.2,z2.2];exact hd) (fun p hp=>hpar p.1 (List.of_mem_zip hp).1) hR.tmps
  rw [hR.assign,hR.body];refine hI.ct _ _ _ _ _ _ _ _ _ _ h1 B ρ _ w (some b) m _ rfl ⟨Il,hH,cn⟩ rfl (fun x y z=>hf x y (Nat.lt_of_lt_of_le z Ik)) fun cK BI w1 hA hS hD=> ?_
  have hD:BI.defers=[]:=hD;have kE:cK i=some (b,c):=hS.le _ _ hr;obtain⟨Im,lp,lu⟩:=qW hA.H pZ kE;have Io:=run_beginRound (P:=P) lp (by rw [lu.state,hst]);refine⟨_,Io, ?_⟩;obtain⟨q1,aO⟩:=xe hA.H pZ kE rfl (r:={r' with state:= .busy}) (R:={Im with state:= .busy}) ⟨rfl,lu.pending,lu.params,lu.assign,lu.body,lu.tmps⟩;refine hI.ct _ _ _ _ _ _ _ _ _ _ k1 B cK BI _ (some b) m _ rfl (hA.next hA.T q1 aO) hD ((hS.trans aO).fr hf) fun dW Zu w2 uR BJ _=> ?_
  have hr2:dW i=some (b,c):=BJ.le _ _ kE;obtain⟨Ip,kA,sZ⟩:=qW uR.H hg2 hr2;have Iq:=run_endRound (P:=P) j kA;obtain⟨bZ,ei⟩:=xe uR.H hg2 hr2 rfl (r:={r1 with state:=if j.isNone then .ready else .done,pending:=j}) (R:={Ip with state:=if j.isNone then .ready else .done,pending:=j}) ⟨rfl,rfl,sZ.params,sZ.assign,sZ.body,sZ.tmps⟩;have fin:∃v' w',(Instr.endRound b j).run P w2= .ok v' w'/\mb P B ρ H w (.raw (.bool j.isNone)) (H2.set i (.loop {r1 with state:=if j.isNone then .ready else .done,pending:=j})) (.returned v') w':=
   ⟨_,_,Iq,_,dW,rfl, .raw _,bZ,((hS.trans aO).trans BJ).trans ei⟩
  rcases hj with⟨rfl,rfl⟩|⟨rfl,rfl⟩|⟨id,rfl,rfl⟩|⟨l,rfl,rfl⟩<;>exact fin
end
end Go.Proofs.YtibikmmdbdlafaaGreatDoor.Sv
/- The runner over an abstract memory: any code. -/
namespace Go.Proofs.YtibikmmdbdlafaaGreatDoor.Sv
open Go.RowKit
variable [Ground]
section
variable {P:Program} {B:Nat} {ρ:Env} {n:Nat} {T:av aa} {H:ai} {a:Act} {w:World}
theorem Ir {fv:aa} {v:Value} (hv:Den ρ fv v) {args:List aa} {g:FuncId} {as:List aa} {H2:ai} (h:dE P fv args H= .enter g as H2):∃fn first captured,v= .func fn first captured:=by
 unfold dE at h;split at h
 .rename_i x;have:=hv.b7;subst this;cases hg:wL v with
  |fn f=>
   unfold wL at hg;split at hg
   .exact⟨_,_,_,rfl⟩
   .cases hg
  |no=>
   rw [hg]at h;simp only at h;split at h
   .exact⟨_,_,_,rfl⟩
   .cases h
 .obtain⟨fs,cs,_,_,rfl⟩:=hv.Bt;exact⟨_,_,_,rfl⟩
 .cases h
 .cases h
theorem Pp {ih:gL} {D:Nat} {m:List Nat} {ag:aI} {e:Exit} {aL:av aa} {H':ai} {m':List Nat} (h:(Bs ih n T D m ag).out=some (e,aL,H',m')):∃v H3 r,ag= .ok v H3/\H3.get (D+1)=some (.loop r)/\r.state≠ .busy/\
  (r.pending=none/\e= .normal/\aL=T/\H'=H3.set (D+1) (.loop {r with state:= .exhausted})/\m'=D::m\/
    ∃c,r.pending=some c/\(ih c n false T (H3.set (D+1) (.loop {r with state:= .exhausted})) (D::m)).out=some (e,aL,H',m')):=by
 unfold Bs at h;split at h
 .rename_i v H3;split at h
  .rename_i r hg;split at h
   .cases h
   .rename_i hs;refine⟨v,H3,r,rfl,hg,fun hh=>hs hh, ?_⟩;split at h
    .rename_i hp;cases h;exact .inl ⟨hp,rfl,rfl,rfl,rfl⟩
    .rename_i c hp;exact .inr ⟨c,hp,h⟩
  .cases h
 .cases h
theorem Pq {ih:gL} {f:Operand} {params:Array Tmp} {assign body:Code} {m:List Nat} {e:Exit} {aL:av aa} {H':ai} {m':List Nat} (h:(qR P ih f params assign body n T H m).out=some (e,aL,H',m')):
  ∃g args H2,dE P (cc T f) [.yield (H.next+1)] ((H.new .deferred).new (.loop {tmps:=T,size:=n,params,assign,body,state:= .ready,pending:=none}))= .enter g args H2/\
   (Bs ih n T H.next m (mU P ih g args H2)).out=some (e,aL,H',m'):=by
 unfold qR at h;split at h
 .rename_i g args H2 hc;exact⟨g,args,H2,hc,h⟩
 .cases h
theorem zn {fv:aa} {args:List aa} {g:FuncId} {as:List aa} {H2:ai} (h:dE P fv args H= .enter g as H2):H2=H:=by
 have go:∀{f:FuncId} {l:List aa},sF P f l H= .enter g as H2->H2=H:=fun {f l} h=>by
  unfold sF at h;cases hf:P.funcs[f]? with
  |none=>rw [hf]at h;cases h
  |some fn=>
   rw [hf]at h;simp only at h;cases hb:fn.body with
   |none=>
    rw [hb]at h;simp only at h;cases hx:lr P f fn l H with
    |none=>rw [hx]at h;cases h
    |some q=>rw [hx]at h;cases h
   |some c=>rw [hb]at h;cases h;rfl
 unfold dE at h;split at h
 .rename_i x;cases hg:wL x with
  |fn f=>rw [hg]at h;exact go h
  |no=>
   rw [hg]at h;simp only at h;split at h
   .exact go h
   .cases h
 .exact go h
 .cases h
 .cases h
theorem Pr {ih:gL} (hI:pX P ih) {f:Operand} {params:Array Tmp} {assign body:Code} {m:List Nat} {e:Exit} {aL:av aa} {H':ai} {m':List Nat} (h:(qR P ih f params assign body n T H m).out=some (e,aL,H',m')):H.next+2<=H'.next:=by
 obtain⟨g,args,H2,h1,h2⟩:=Pq h;have mW:=zn h1;obtain⟨v,H3,r,h3,h4,h5,h6⟩:=Pp h2;have hc:=(BG hI).mono _ _ _ _ _ h3;have e2:H2.next=H.next+2:=by rw [mW];rfl
 rcases h6 with⟨_,_,_,rfl,_⟩|⟨c,_,h7⟩
 .show H.next+2<=H3.next;omega
 .have:=hI.mono _ _ _ _ _ _ _ _ _ _ h7;have e3:(H3.set (H.next+1) (bf.loop {r with state:= .exhausted})).next=H3.next:=rfl;omega
theorem Zv (hK:eW P) {ih:gL} (hI:pX P ih) {f:Operand} {params:Array Tmp} {assign body:Code} {m:List Nat} {e:Exit} {aL:av aa} {H':ai} {m':List Nat} (h:(qR P ih f params assign body n T H m).out=some (e,aL,H',m'))
  (k:Nat) {Q:Exit->Act->World->Prop} (aN:ew P B ρ n T H a w) (hD:ey ρ m a.defers) (hf:Fr ρ H.next H'.next)
  (hQ:∀ρ' a' w',ew P B ρ' n aL H' a' w'->bL ρ H w ρ' H' w'->ey ρ' m' a'.defers->Q e a' w'):(Code.rangeFunc f params assign body).wpIn (dM none) k P Q a w:=by
 have hmono:=Pr hI h;obtain⟨g,args,H2,h1,h2⟩:=Pq h;have mW:=zn h1;obtain⟨v,H3,r,h3,h4,h5,h6⟩:=Pp h2;have hcm:=(BG hI).mono _ _ _ _ _ h3;have e2:H2.next=H.next+2:=by rw [mW];rfl
 have BK:H3.next<=H'.next:=by
  rcases h6 with⟨_,_,_,rfl,_⟩|⟨c,_,h7⟩
  .exact aE _
  .have:=hI.mono _ _ _ _ _ _ _ _ _ _ h7;exact this
 refine wpIn_rangeFunc fun fn _=> ?_
 -- the two blocks
 have hn0:ρ H.next=none:=hf _ (aE _) (by omega);obtain⟨p1,p2⟩:=sP aN.H (fun i x y=>hf i x (by omega)) 0 .deferred (.deferred (some [])) rfl;have xg:=p2.fr hf;have mX:(H.new .deferred).next=H.next+1:=rfl;have BL:=aN.T.mono p2.le;obtain⟨rec,hM⟩:∃rec:Loop,rec={state:= .ready,pending:=none,fn,tmps:=a.tmps,params,assign,body,defers:=w.heap.size}:=⟨_,rfl⟩;obtain⟨p3,ek⟩:=sP p1 (fun i x y=>xg i x (by rw [mX]at y;omega)) 0 (.loop {tmps:=T,size:=n,params,assign,body,state:= .ready,pending:=none}) (.loop rec) ⟨rec,rfl,by rw [hM],by rw [hM],by rw [hM],by rw [hM],by rw [hM],by
  rw [hM];exact BL.mono (Env.oH (xg _ (aE _) (by rw [mX];omega)))⟩
 have hle:=p2.trans ek;rw [<-mW]at p3 ek hle h1;obtain⟨dW,uS⟩:∃dW,dW=(ρ.put H.next w.heap.size 0).put (H.new .deferred).next (w.alloc (.deferred (some []))).heap.size 0:=⟨_,rfl⟩;rw [<-uS]at p3 ek hle;have hL:dW (H.next+1)=some (w.heap.size+1,0):=by rw [uS,<-mX,Env.dm];simp
 have Is:dW H.next=some (w.heap.size,0):=by
  refine ek.le _ _ ?_;rw [Env.dm]
 -- the function
 have uT:=(w9 aN.T aN.G f).mono hle.le;obtain⟨uU,first,captured,fI⟩:=Ir uT h1;have BM:aF dW [aa.yield (H.next+1)] [.func (.yield (w.heap.size+1)) #[] #[]]:= .cons (.yield hL) .nil;have hca:=DX (P:=P) (B:=B) (w:=(w.alloc (.deferred (some []))).alloc (.loop rec)) (fv:=cc T f) hK p3 uT BM (r:=(invoke (.fn uU captured) (first++ #[.func (.yield (w.heap.size+1)) #[] #[]])).run P ((w.alloc (.deferred (some []))).alloc (.loop rec)))
  (fun fn' first' captured' hh=>by rw [fI]at hh;cases hh;rfl)
 rw [h1]at hca;obtain⟨_,xs,hinv,hxs⟩:=hca;refine⟨w.heap.size+1,[{target:= .collected w.heap.size,args:= #[]}],(w.alloc (.deferred (some []))).alloc (.loop rec),{target:= .fn uU captured,args:=first++ #[.func (.yield (w.heap.size+1)) #[] #[]]},(w.alloc (.deferred (some []))).alloc (.loop rec),g,xs.toArray,
  (w.alloc (.deferred (some []))).alloc (.loop rec), ?_, ?_,fun _ _=>trivial,hinv,(fun hh=>by cases hh), ?_⟩
 .rw [hM];exact run_enterLoop_outer fn a.tmps params assign body
 .have hcv:∀v,a.eval (.const v)=v:=fun _=>rfl
  simp [resolve,fI,Deferred.ofValue,hcv]
 .refine((BG hI).ct g args H2 v H3 h3 B dW xs _ (k-1) p3 (aN.G.mono hle.le) hxs ((hle.fr hf).mono' BK)).mono ?_;rintro e0 w3 ⟨x,p0,rfl,_,q1,aO⟩;have uV:=aO.le _ _ hL;obtain⟨R,hb,hR⟩:=qW q1 h4 uV;have hel:=run_endLoop (P:=P) hb (by rw [hR.state];exact h5);obtain⟨bZ,ei⟩:=xe q1 h4 uV rfl (r:={r with state:= .exhausted}) (R:={R with state:= .exhausted}) ⟨rfl,hR.pending,hR.params,hR.assign,hR.body,hR.tmps⟩;have gN:=(hle.trans aO).trans ei;have mY:ey p0 (H.next::m) ([{target:= .collected w.heap.size,args:= #[]}]++a.defers):=⟨w.heap.size,0,a.defers,aO.le _ _ Is,rfl,(hD.mono (hle.trans aO).le)⟩;have key:∀jump,jump=r.pending->(match jump with
    |none=>Q .normal {a with defers:=[{target:= .collected w.heap.size,args:= #[]}]++a.defers} (w3.putObj (w.heap.size+1) (.loop {R with state:= .exhausted}))
    |some c=>c.wpIn (dM none) k P Q {a with defers:=[{target:= .collected w.heap.size,args:= #[]}]++a.defers} (w3.putObj (w.heap.size+1) (.loop {R with state:= .exhausted}))):=by
   rintro jump rfl;rcases h6 with⟨k1,rfl,rfl,rfl,rfl⟩|⟨c,k1,h7⟩
   .rw [k1];exact hQ p0 {a with defers:=[{target:= .collected w.heap.size,args:= #[]}]++a.defers} _ ⟨aN.T.mono gN.le,bZ,aN.G.mono gN.le⟩ gN mY
   .rw [k1];refine hI.ct _ _ _ _ _ _ _ _ _ _ h7 B p0 {a with defers:=[{target:= .collected w.heap.size,args:= #[]}]++a.defers} _ none k Q rfl ⟨aN.T.mono gN.le,bZ,aN.G.mono gN.le⟩ mY (gN.fr hf) fun ρ' a' w' r1 r2 r3=>hQ ρ' a' w' r1 (gN.trans r2) r3
  exact⟨R.pending,_,hel,key _ hR.pending⟩
theorem D3 {body:av aa->ai->List Nat->R}:∀(j:Nat) {T:av aa} {H:ai} {m:List Nat} {e:Exit} {aL:av aa} {H':ai} {m':List Nat},(iter body j T H m).out=some (e,aL,H',m')->
  ∃j',j=j'+1/\∃e1 T1 H1 m1,(body T H m).out=some (e1,T1,H1,m1)/\((e1= .normal/\(iter body j' T1 H1 m1).out=some (e,aL,H',m'))\/(e1≠ .normal/\e=e1/\aL=T1/\H'=H1/\m'=m1))
 |0,_,_,_,_,_,_,_,h=>by cases h
 |j+1,T,H,m,e,aL,H',m',h=>by
  have e0:iter body (j+1) T H m= @R.rec (fun _=>R) .no (iter body j) .exit .goto .ret (body T H m):=rfl;rw [e0]at h;refine⟨j,rfl, ?_⟩;cases hb:body T H m with
  |no=>rw [hb]at h;cases h
  |normal T1 H1 m1=>rw [hb]at h;exact⟨_,_,_,_,rfl, .inl ⟨rfl,h⟩⟩
  |exit id T1 H1 m1=>rw [hb]at h;cases h;exact⟨_,_,_,_,rfl, .inr ⟨(fun hh=>by cases hh),rfl,rfl,rfl,rfl⟩⟩
  |goto l T1 H1 m1=>rw [hb]at h;cases h;exact⟨_,_,_,_,rfl, .inr ⟨(fun hh=>by cases hh),rfl,rfl,rfl,rfl⟩⟩
  |ret T1 H1 m1=>rw [hb]at h;cases h;exact⟨_,_,_,_,rfl, .inr ⟨(fun hh=>by cases hh),rfl,rfl,rfl,rfl⟩⟩
theorem It {ih:gL} (hI:pX P ih) {c:Code} {aK:Bool}:∀(j:Nat) {T:av aa} {H:ai} {m:List Nat} {e:Exit} {aL:av aa} {H':ai} {m':List Nat},(iter (ih c n aK) j T H m).out=some (e,aL,H',m')->H.next<=H'.next
 |0,_,_,_,_,_,_,_,h=>by cases h
 |j+1,T,H,m,e,aL,H',m',h=>by
  obtain⟨j',hj,e1,T1,H1,m1,h1,h2⟩:=D3 (j+1) h;cases hj;have a1:=hI.mono _ _ _ _ _ _ _ _ _ _ h1;rcases h2 with⟨_,h2⟩|⟨_,_,_,rfl,_⟩
  .exact cX a1 (It hI j h2)
  .exact a1
theorem Pt {Q:Exit->Act->World->Prop} {e:Exit} {a:Act} {w:World} {N:Act->World->Prop} (hn:e≠ .normal) (h:Q e a w):Exit.then N Q e a w:=by
 cases e<;>first |exact absurd rfl hn|exact h
theorem Pu {ih:gL} (hI:pX P ih) {c:Code} {aK:Bool} {rd:Option Nat} (hrd:rd.isSome=aK) {k:Nat} {Q:Exit->Act->World->Prop}:∀(j:Nat) {ρ:Env} {T:av aa} {H:ai} {m:List Nat} {a:Act} {w:World} {e:Exit} {aL:av aa} {H':ai} {m':List Nat},
  (iter (ih c n aK) j T H m).out=some (e,aL,H',m')->ew P B ρ n T H a w->ey ρ m a.defers->Fr ρ H.next H'.next->
  (∀ρ' a' w',ew P B ρ' n aL H' a' w'->bL ρ H w ρ' H' w'->ey ρ' m' a'.defers->Q e a' w')->Code.roundsIn (dM rd) k P c Q j a w
 |0,_,_,_,_,_,_,_,_,_,_,h,_,_,_,_=>by cases h
 |j+1,ρ,T,H,m,a,w,e,aL,H',m',h,aN,hD,hf,hQ=>by
  obtain⟨j',hj,e1,T1,H1,m1,h1,h2⟩:=D3 (j+1) h;cases hj;have hle:H1.next<=H'.next:=by
   rcases h2 with⟨_,h2⟩|⟨_,_,_,rfl,_⟩
   .exact It hI j h2
   .exact aE _
  refine hI.ct _ _ _ _ _ _ _ _ _ _ h1 B ρ a w rd k _ hrd aN hD (hf.mono' hle) fun cK a1 w1 r1 r2 r3=> ?_
  rcases h2 with⟨rfl,h2⟩|⟨hn,rfl,rfl,rfl,rfl⟩
  .exact Pu hI hrd j h2 r1 r3 (r2.fr hf) fun ρ' a' w' q1 aO bZ=>hQ ρ' a' w' q1 (r2.trans aO) bZ
  .exact Pt hn (hQ cK a1 w1 r1 r2 r3)
theorem D4 {m:List Nat} {r:eN} {e:Exit} {aL:av aa} {H':ai} {m':List Nat} (h:(y7 m r).out=some (e,aL,H',m')):r= .mk aL H'/\e= .normal/\m'=m:=by
 cases r with
 |no=>cases h
 |mk T1 H1=>cases h;exact⟨rfl,rfl,rfl⟩
theorem nn {draw:oE} {ih:gL} {x:Code} {aK:Bool} {m:List Nat}:lw (.loop x) P draw ih n aK T H m=iter (ih x n aK) rounds T H m:=by
 unfold lw;simp only [Ol]
theorem Zw (hK:eW P) {draw:oE} (hdr:∀d,xb P d (draw d)) {ih:gL} (hI:pX P ih):pX P (fun c=>lw c P draw ih) where
 mono c n aK T H m e aL H' m' h:=by
  have hC:=BG hI;have hR:=Po hI;cases c with
  |skip=>cases h;exact aE _
  |label l=>cases h;exact aE _
  |exit id=>cases h;exact aE _
  |goto l=>cases h;exact aE _
  |ret=>cases h;exact aE _
  |refuse why=>cases h
  |region id ops d=>
   obtain⟨h1,_,_⟩:=D4 h;exact(hdr d).mono _ _ hC hR _ _ _ _ _ _ h1
  |seq x y=>
   have h:(@R.rec (fun _=>R) .no (fun T H m=>ih y n aK T H m) .exit .goto .ret (ih x n aK T H m)).out=some (e,aL,H',m'):=h;cases hx:ih x n aK T H m with
   |no=>rw [hx]at h;cases h
   |normal T1 H1 m1=>rw [hx]at h;exact cX (hI.mono x n aK T H m _ _ _ _ (by rw [hx];rfl)) (hI.mono _ _ _ _ _ _ _ _ _ _ h)
   |exit id T1 H1 m1=>rw [hx]at h;cases h;exact hI.mono x n aK T H m _ _ _ _ (by rw [hx];rfl)
   |goto l T1 H1 m1=>rw [hx]at h;cases h;exact hI.mono x n aK T H m _ _ _ _ (by rw [hx];rfl)
   |ret T1 H1 m1=>rw [hx]at h;cases h;exact hI.mono x n aK T H m _ _ _ _ (by rw [hx];rfl)
  |cond c x y=>
   have h:(@mS.rec (fun _=>R) .no (fun b=> @Bool.rec (fun _=>R) (ih y n aK T H m) (ih x n aK T H m) b) (gq (cc T c))).out=some (e,aL,H',m'):=h;cases hb:gq (cc T c)with
   |no=>rw [hb]at h;cases h
   |mk b=>rw [hb]at h;cases b<;>exact hI.mono _ _ _ _ _ _ _ _ _ _ h
  |block id x=>
   have h:(@R.rec (fun _=>R) .no .normal (fun i T H m=> @Bool.rec (fun _=>R) (.exit i T H m) (.normal T H m) (Nat.beq i id)) .goto .ret (ih x n aK T H m)).out=some (e,aL,H',m'):=h;cases hx:ih x n aK T H m with
   |no=>rw [hx]at h;cases h
   |normal T1 H1 m1=>rw [hx]at h;cases h;exact hI.mono x n aK T H m _ _ _ _ (by rw [hx];rfl)
   |exit i T1 H1 m1=>
    rw [hx]at h;simp only at h;cases hb:Nat.beq i id with
    |true=>rw [hb]at h;cases h;exact hI.mono x n aK T H m _ _ _ _ (by rw [hx];rfl)
    |false=>rw [hb]at h;cases h;exact hI.mono x n aK T H m _ _ _ _ (by rw [hx];rfl)
   |goto l T1 H1 m1=>rw [hx]at h;cases h;exact hI.mono x n aK T H m _ _ _ _ (by rw [hx];rfl)
   |ret T1 H1 m1=>rw [hx]at h;cases h;exact hI.mono x n aK T H m _ _ _ _ (by rw [hx];rfl)
  |loop x=>rw [nn]at h;exact It hI rounds h
  |rangeFunc f ps x y=>
   cases aK with
   |true=>cases h
   |false=>have:=Pr hI (P:=P) h;omega
  |scope x=>
   have h:(@R.rec (fun _=>R) .no .normal .exit (fun _ _ _ _=> .no) .ret (ih x n aK T H m)).out=some (e,aL,H',m'):=h;cases hx:ih x n aK T H m with
   |no=>rw [hx]at h;cases h
   |normal T1 H1 m1=>rw [hx]at h;cases h;exact hI.mono x n aK T H m _ _ _ _ (by rw [hx];rfl)
   |exit id T1 H1 m1=>rw [hx]at h;cases h;exact hI.mono x n aK T H m _ _ _ _ (by rw [hx];rfl)
   |goto l T1 H1 m1=>rw [hx]at h;cases h
   |ret T1 H1 m1=>rw [hx]at h;cases h;exact hI.mono x n aK T H m _ _ _ _ (by rw [hx];rfl)
 ct c n aK T H m e aL H' m' h B ρ a w rd k Q hrd aN hD hf hQ:=by
  have hC:=BG hI;have hR:=Po hI;have here:∀{x:Code} {e1 T1 H1 m1},(ih x n aK T H m).out=some (e1,T1,H1,m1)->H1=H'->∀Q':Exit->Act->World->Prop,(∀ρ' a' w',ew P B ρ' n T1 H1 a' w'->bL ρ H w ρ' H1 w'->ey ρ' m1 a'.defers->Q' e1 a' w')->x.wpIn (dM rd) k P Q' a w:=
   fun h1 hh Q' hq=>hI.ct _ _ _ _ _ _ _ _ _ _ h1 B ρ a w rd k Q' hrd aN hD (by rw [hh];exact hf) hq
  cases c with
  |skip=>cases h;exact wpIn_skip (hQ ρ a w aN (bL.refl _ _ _) hD)
  |label l=>cases h;exact wpIn_label (hQ ρ a w aN (bL.refl _ _ _) hD)
  |exit id=>cases h;exact wpIn_exit (hQ ρ a w aN (bL.refl _ _ _) hD)
  |goto l=>cases h;exact wpIn_goto (hQ ρ a w aN (bL.refl _ _ _) hD)
  |ret=>cases h;exact wpIn_ret (hQ ρ a w aN (bL.refl _ _ _) hD)
  |refuse why=>cases h
  |region id ops d=>
   obtain⟨h1,rfl,rfl⟩:=D4 h;have Iu:∀ρ' a' w',ew P B ρ' n aL H' a' w'->bL ρ H w ρ' H' w'->a'.defers=a.defers->Q .normal a' w':=fun ρ' a' w' r1 r2 r3=>hQ ρ' a' w' r1 r2 (by rw [r3];exact hD.mono r2.le)
   exact(hdr d).ct _ _ hC hR id _ _ _ _ _ _ h1 B ρ a w rd k Q aN hf Iu
  |seq x y=>
   have h:(@R.rec (fun _=>R) .no (fun T H m=>ih y n aK T H m) .exit .goto .ret (ih x n aK T H m)).out=some (e,aL,H',m'):=h;refine wpIn_seq ?_;cases hx:ih x n aK T H m with
   |no=>rw [hx]at h;cases h
   |normal T1 H1 m1=>
    rw [hx]at h;have hle:=hI.mono _ _ _ _ _ _ _ _ _ _ h;refine hI.ct x n aK T H m _ _ _ _ (by rw [hx];rfl) B ρ a w rd k _ hrd aN hD (hf.mono' hle) fun cK a1 w1 r1 r2 r3=> ?_
    exact hI.ct _ _ _ _ _ _ _ _ _ _ h B cK a1 w1 rd k Q hrd r1 r3 (r2.fr hf) fun ρ' a' w' q1 aO bZ=>hQ ρ' a' w' q1 (r2.trans aO) bZ
   |exit id T1 H1 m1=>rw [hx]at h;cases h;exact here (x:=x) (by rw [hx];rfl) rfl _ hQ
   |goto l T1 H1 m1=>rw [hx]at h;cases h;exact here (x:=x) (by rw [hx];rfl) rfl _ hQ
   |ret T1 H1 m1=>rw [hx]at h;cases h;exact here (x:=x) (by rw [hx];rfl) rfl _ hQ
  |cond c x y=>
   have h:(@mS.rec (fun _=>R) .no (fun b=> @Bool.rec (fun _=>R) (ih y n aK T H m) (ih x n aK T H m) b) (gq (cc T c))).out=some (e,aL,H',m'):=h;cases hb:gq (cc T c)with
   |no=>rw [hb]at h;cases h
   |mk b=>
    rw [hb]at h;have hc:=w9 aN.T aN.G c;rw [DI hb]at hc;refine wpIn_cond hc.b7 ?_;cases b
    .exact hI.ct _ _ _ _ _ _ _ _ _ _ h B ρ a w rd k Q hrd aN hD hf hQ
    .exact hI.ct _ _ _ _ _ _ _ _ _ _ h B ρ a w rd k Q hrd aN hD hf hQ
  |block id x=>
   have h:(@R.rec (fun _=>R) .no .normal (fun i T H m=> @Bool.rec (fun _=>R) (.exit i T H m) (.normal T H m) (Nat.beq i id)) .goto .ret (ih x n aK T H m)).out=some (e,aL,H',m'):=h;refine wpIn_block ?_;cases hx:ih x n aK T H m with
   |no=>rw [hx]at h;cases h
   |normal T1 H1 m1=>rw [hx]at h;cases h;exact here (x:=x) (by rw [hx];rfl) rfl _ hQ
   |exit i T1 H1 m1=>
    rw [hx]at h;simp only at h;cases hb:Nat.beq i id with
    |true=>
     rw [hb]at h;cases h;have:=ac hb;subst this;exact here (x:=x) (by rw [hx];rfl) rfl _ fun ρ' a' w' r1 r2 r3=>by simp only [Exit.inBlock,if_true];exact hQ ρ' a' w' r1 r2 r3
    |false=>
     rw [hb]at h;cases h;have hne:i≠id:=fun hh=>by subst hh;rw [Nat.beq_refl]at hb;cases hb
     exact here (x:=x) (by rw [hx];rfl) rfl _ fun ρ' a' w' r1 r2 r3=>by simp only [Exit.inBlock,if_neg hne];exact hQ ρ' a' w' r1 r2 r3
   |goto l T1 H1 m1=>rw [hx]at h;cases h;exact here (x:=x) (by rw [hx];rfl) rfl _ hQ
   |ret T1 H1 m1=>rw [hx]at h;cases h;exact here (x:=x) (by rw [hx];rfl) rfl _ hQ
  |loop x=>rw [nn]at h;exact wpIn_loop_rounds rounds (Pu hI hrd rounds h aN hD hf hQ)
  |rangeFunc f ps x y=>
   cases aK with
   |true=>cases h
   |false=>
    cases rd with
    |some l=>cases hrd
    |none=>exact Zv hK hI h k aN hD hf hQ
  |scope x=>
   have h:(@R.rec (fun _=>R) .no .normal .exit (fun _ _ _ _=> .no) .ret (ih x n aK T H m)).out=some (e,aL,H',m'):=h;refine Ig ?_;cases hx:ih x n aK T H m with
   |no=>rw [hx]at h;cases h
   |normal T1 H1 m1=>rw [hx]at h;cases h;exact here (x:=x) (by rw [hx];rfl) rfl _ hQ
   |exit id T1 H1 m1=>rw [hx]at h;cases h;exact here (x:=x) (by rw [hx];rfl) rfl _ hQ
   |goto l T1 H1 m1=>rw [hx]at h;cases h
   |ret T1 H1 m1=>rw [hx]at h;cases h;exact here (x:=x) (by rw [hx];rfl) rfl _ hQ
theorem sh (hK:eW P) {draw:oE} (hdr:∀d,xb P d (draw d)):∀fuel,pX P (pQ P draw fuel)
 |0=>⟨(fun _ _ _ _ _ _ _ _ _ _ h=>by cases h),(fun _ _ _ _ _ _ _ _ _ _ h=>by cases h)⟩
 |f+1=>Zw hK hdr (sh hK hdr f)
end
end Go.Proofs.YtibikmmdbdlafaaGreatDoor.Sv
