import Derived.Test.YtibikmmdbdlafaaGreatDoorZfSvOp7
import Derived.LoopNIn
import Derived.RangeFuncRecord
set_option linter.defProp false
set_option linter.unusedSectionVars false
set_option linter.unusedSimpArgs false
namespace Go.Proofs.YtibikmmdbdlafaaGreatDoor.Sv
open Go.RowKit
section
abbrev dO (r:Option Nat):Fence:={Fence.wide with round:=r}
class Ground where
 g:Nat->Option (Array Value->Prop)
variable [Ground]
structure nZ (ρ:Env):Prop where
 at':∀g,g<64->∃c,ρ g=some (g,c)
 zS:∀b p,Ground.g b=some p->∃A,ρ.fz b=some A/\p A
def nZ.mono {ρ ρ':Env} (h:nZ ρ) (hl:cA ρ ρ'):nZ ρ':=⟨fun g hg=>let ⟨c,hc⟩:=h.at' g hg;⟨c,hl _ _ hc⟩,fun b p hb=>let ⟨A,h1,h2⟩:=h.zS b p hb;⟨A,hl.fz _ _ h1,h2⟩⟩
structure ez (P:Program) (B:Nat) (ρ:Env) (n:Nat) (T:au af) (H:ai) (a:Act) (w:World):Prop where
 T:jS ρ T n a.tmps
 H:bh P B ρ H w
 G:nZ ρ
section
variable {P:Program} {B:Nat} {ρ:Env} {n:Nat} {T:au af} {H:ai} {a:Act} {w:World}
def nF (hT:jS ρ T n a.tmps) (ct:nZ ρ) (x:Operand):Den ρ (cm T x) (a.eval x):=by
 cases x with
 |tmp t=>
  have h:=hT.get t;show Den ρ (@Option.rec af (fun _=>af) (.raw undef) (fun v=>v) (T.get t)) (a.tmps.getD t undef)
  cases hg:T.get t with
  |none=>rw [hg]at h;exact h
  |some v=>rw [hg]at h;exact h
 |const v=>exact .raw v
 |global g=>
  show Den ρ (@Bool.rec (fun _=>af) (.raw (.pointer (some ⟨g,0,none⟩))) (.ptr g 0) (Nat.ble (Nat.succ g) 64)) (.pointer (some ⟨g,0,none⟩))
  cases hb:Nat.ble (Nat.succ g) 64 with
  |false=>exact .raw _
  |true=>obtain⟨c,hc⟩:=ct.at' g (bU hb);exact .ptr hc
 |func f=>exact .raw _
def Rf (xs:Array Value) (d t:Nat) (x u:Value) (hd:d<xs.size):(xs.setIfInBounds d x).getD t u=if t=d then x else xs.getD t u:=by
 simp only [Array.getD_eq_getD_getElem?,Array.getElem?_setIfInBounds];by_cases h:d=t
 .subst h;simp [hd]
 .rw [if_neg h,if_neg (fun e=>h e.symm)]
def JN {dst:Option Tmp} {v:af} {x:Value} {T1:au af} (hT:jS ρ T n a.tmps) (hp:iI T n dst v=some T1) (hd:Den ρ v x):jS ρ T1 n (a.put dst x).tmps:=by
 cases dst with
 |none=>cases hp;exact hT
 |some d=>
  have e:iI T n (some d) v= @Bool.rec (fun _=>Option (au af)) none (some (T.set d (some v))) (Nat.ble (Nat.succ d) n):=rfl;rw [e]at hp;cases hb:Nat.ble (Nat.succ d) n with
  |false=>rw [hb]at hp;cases hp
  |true=>
   rw [hb]at hp;cases hp;have hlt:d<a.tmps.size:=by rw [hT.size];exact bU hb
   refine⟨by simp [Act.put,hT.size],fun t=> ?_⟩;rw [au.fY];show Den ρ _ ((a.tmps.setIfInBounds d x).getD t undef);rw [Rf _ _ _ _ _ hlt];by_cases h:d=t
   .subst h;simpa using hd
   .rw [if_neg h,if_neg (fun e=>h e.symm)];exact hT.get t
def put_defers (dst:Option Tmp) (x:Value):(a.put dst x).defers=a.defers:=by cases dst<;>rfl
def abx {v:af} {b:Bool} (h:Den ρ v (.bool b)):v= .raw (.bool b)\/v= .bot:=by
 cases h
 .exact .inl rfl
 .exact .inr rfl
def JO {ops:Array Oper} {o:Oper} {b:Bool} (hT:jS ρ T n a.tmps) (h:gJ T ops o=some b):Region.wanted o (yielded ops a.tmps)=b:=by
 unfold Region.wanted;cases hg:o.guard with
 |none=>
  have:gJ T ops o=some true:=by unfold gJ;rw [hg]
  rw [this]at h;cases h;rfl
 |some g=>
  obtain⟨j,want⟩:=g;have e:gJ T ops o=xk T ops (j,want):=by unfold gJ;rw [hg]
  rw [e]at h;unfold xk at h;simp only at h ⊢;cases hd:(ops[j]?).bind (·.dst)with
  |none=>rw [hd]at h;cases h
  |some d=>
   rw [hd]at h;simp only at h;have ht:=hT.get d
   -- what the slot yields
   have key:∀b',(yielded ops a.tmps j=some b')->T.get d=some (.raw (.bool b'))\/T.get d=some .bot:=by
    intro b' hy;unfold yielded at hy;rw [hd]at hy;simp only [Option.bind_some]at hy;split at hy
    .rename_i b'' hb;cases hy;have:a.tmps.getD d undef= .bool b':=by rw [Array.getD_eq_getD_getElem?,hb];rfl
     rw [this]at ht;have hq:=abx ht;cases hg2:T.get d with
     |none=>rw [hg2]at hq;rcases hq with hq|hq<;>cases hq
     |some v=>rw [hg2]at hq;simp only [Option.getD_some]at hq;rcases hq with hq|hq<;>rw [hq]<;>simp
    .cases hy
   split at h
   .rename_i b' hb;cases h;have:a.tmps.getD d undef= .bool b':=by rw [hb]at ht;exact ht.cc
    have hy:yielded ops a.tmps j=some b':=by
     unfold yielded;rw [hd];simp only [Option.bind_some];rw [Array.getD_eq_getD_getElem?]at this;cases hx:a.tmps[d]? with
     |none=>rw [hx]at this;cases this
     |some x=>rw [hx]at this;simp only [Option.getD_some]at this;rw [this]
    rw [hy];cases b'<;>cases want<;>rfl
   .cases h
   .rename_i hno EZ;cases h;cases hy:yielded ops a.tmps j with
    |none=>rfl
    |some b'=>exact((key b' hy).elim (fun k=>hno b' k) (fun k=>EZ k)).elim
def mm (P:Program) (B:Nat) (ρ:Env) (H:ai) (w:World) (v:af) (H':ai):Ending->World->Prop:=fun e w'=>∃x ρ',e= .returned x/\Den ρ' v x/\bh P B ρ' H' w'/\bS ρ H w ρ' H' w'
structure bD (P:Program) (call:ew):Prop where
 mono:∀f args H v H',call f args H= .ok v H'->H.next<=H'.next
 cw:∀f args H v H',call f args H= .ok v H'->∀B ρ (xs:List Value) w m,bh P B ρ H w->nZ ρ->aH ρ args xs->Fr ρ H.next H'.next->CallsIn (dO none) m P f xs.toArray w (mm P B ρ H w v H')
structure lG (P:Program) (round:jQ):Prop where
 mono:∀i args H v H',round i args H= .ok v H'->H.next<=H'.next
 cw:∀i args H v H',round i args H= .ok v H'->∀B ρ (xs:List Value) w b c m,bh P B ρ H w->nZ ρ->ρ i=some (b,c)->aH ρ args xs->Fr ρ H.next H'.next->
  ∃fn tmps assign body,(Instr.yield b xs.toArray).run P w= .ok (.round b fn tmps assign body) w/\RoundIn (dO none) m P b fn tmps assign body w (mm P B ρ H w v H')
def aby {o:Oper} {ev:dJ} {c:Call} (h:o.op= .defer c):e5 o.op P o ev H= .no:=by rw [h];rfl
variable {call:ew} {round:jQ}
def ub (hC:bD P call) (hR:lG P round) {o:Oper} {ev:dJ} {v:af} {H':ai} (h:fm P call round o ev H= .ok v H'):H.next<=H'.next:=by
 have hm:=abw (P:=P) (H:=H) (o:=o) (ev:=ev);unfold fm at h;cases ha:e5 o.op P o ev H with
 |no=>rw [ha]at h;cases h
 |ok v1 H1=>rw [ha]at h hm;cases h;exact hm
 |enter f args H1=>rw [ha]at h hm;exact c6 hm (hC.mono _ _ _ _ _ h)
 |round i args H1=>rw [ha]at h hm;exact c6 hm (hR.mono _ _ _ _ _ h)
def Rg (hK:e7 P) (hC:bD P call) (hR:lG P round) {o:Oper} {v:af} {H':ai} (aR:ez P B ρ n T H a w) (h:fm P call round o (cm T) H= .ok v H') (hf:Fr ρ H.next H'.next) (rd:Option Nat) (m:Nat)
  {next:Act->World->Prop} {Q:Exit->Act->World->Prop} (hnext:∀x ρ' w',Den ρ' v x->bh P B ρ' H' w'->bS ρ H w ρ' H' w'->next (a.put o.dst x) w'):o.wpIn (dO rd) m P a w next Q:=by
 have ho:=abg (P:=P) (B:=B) (ρ:=ρ) (H:=H) (w:=w) (o:=o) (ev:=cm T) (e:=a.eval) hK aR.H (nF aR.T aR.G);have abz:o.semAt (dO rd).round a.eval=execOp a.eval o:=Oper.semAt_eq _ _ _ fun c hc=>by
  unfold fm at h;rw [aby hc]at h;cases h
 refine⟨fun _ _=>trivial, ?_⟩;rw [abz];have Rh:(dO rd).depth.isSome=true->1<=m:=fun hh=>by cases hh
 have post:∀{e w''},mm P B ρ H w v H' e w''->(match e,w'' with
   | .returned v,w''=>next (a.put o.dst v) w''
   | .panicked chain,w''=>Q (.panic chain) a w''
   | .outgrown,_=>LetsOut Q:Prop):=by
  rintro e w'' ⟨x,ρ',rfl,h1,h2,h3⟩;exact hnext x ρ' w'' h1 h2 h3
 unfold fm at h;cases ha:e5 o.op P o (cm T) H with
 |no=>rw [ha]at h;cases h
 |ok v1 H1=>
  rw [ha]at h ho;cases h;obtain⟨ρ',x,w',eH,h1,h2,h3,h4,h5⟩:=ho hf;rw [h1];cases eH<;>first |exact h2.elim|skip
  .cases h2;exact hnext _ ρ' w' h3 h4 h5
  .cases h2;exact hnext _ ρ' w' h3 h4 h5
 |enter f args H1=>
  rw [ha]at h ho;obtain⟨rfl,xs,h1,h2⟩:=ho;rw [h1];refine⟨Rh, ?_⟩;have hc:=(hC.cw f args H1 v H' h B ρ xs w (m-1) aR.H aR.G h2 hf).mono (fun e w'' hp=>post hp);cases rd with
  |none=>exact hc
  |some l=>exact hc
 |round i args H1=>
  rw [ha]at h ho;obtain⟨rfl,b,c,xs,h0,h1,h2⟩:=ho;rw [h1];obtain⟨fn,tmps,assign,body,g1,g2⟩:=hR.cw i args H1 v H' h B ρ xs w b c (m-1) aR.H aR.G h0 h2 hf;rw [g1];refine⟨Rh, ?_⟩;have hc:=g2.mono (fun e w'' hp=>post hp);cases rd with
  |none=>exact hc
  |some l=>exact hc
def ez.next {ρ':Env} {T1:au af} {H':ai} {a':Act} {w':World} (h:ez P B ρ n T H a w) (hT:jS ρ' T1 n a'.tmps) (hH:bh P B ρ' H' w') (hs:bS ρ H w ρ' H' w'):ez P B ρ' n T1 H' a' w':=⟨hT,hH,h.G.mono hs.le⟩
def abA (hK:e7 P) (hC:bD P call) (hR:lG P round) {ops:Array Oper} {o:Oper} {i:Nat} (hi:ops[i]? =some o) {k:au af->ai->eV} {aO:au af} {H':ai} (aR:ez P B ρ n T H a w) (h:xm P call round ops n o T H k= .mk aO H')
  (hkm:∀T1 H1,k T1 H1= .mk aO H'->H1.next<=H'.next) (hf:Fr ρ H.next H'.next) (rd:Option Nat) (m:Nat) {K:Act->World->Prop} {Q:Exit->Act->World->Prop}
  (hK':∀cL T1 H1 a1 w1,k T1 H1= .mk aO H'->ez P B cL n T1 H1 a1 w1->bS ρ H w cL H1 w1->a1.defers=a.defers->K a1 w1):wpOpIn (dO rd) m P ops Q i K a w:=by
 unfold wpOpIn;rw [hi];simp only;unfold xm at h;cases hw:gJ T ops o with
 |none=>rw [hw]at h;cases h
 |some b=>
  rw [hw]at h;rw [JO aR.T hw];cases b with
  |false=>
   simp only [Bool.false_eq_true,if_false];refine⟨fun _ _=>trivial, ?_⟩;cases hp:iI T n o.dst (.raw undef)with
   |none=>simp only [hp,qg]at h;cases h
   |some T1=>
    simp only [hp,qg]at h;exact hK' ρ T1 H _ w h (aR.next (JN aR.T hp (.raw undef)) aR.H (bS.refl _ _ _)) (bS.refl _ _ _) (put_defers _ _)
  |true=>
   simp only [if_true];cases ha:fm P call round o (cm T) H with
   |no=>simp only [ha,tA]at h;cases h
   |enter _ _ _=>simp only [ha,tA]at h;cases h
   |round _ _ _=>simp only [ha,tA]at h;cases h
   |ok v H1=>
    simp only [ha,tA]at h;cases hp:iI T n o.dst v with
    |none=>simp only [hp,qg]at h;cases h
    |some T1=>
     simp only [hp,qg]at h;have hm:=hkm T1 H1 h;refine Rg hK hC hR aR ha (fun j h1 h2=>hf j h1 (Nat.lt_of_lt_of_le h2 hm)) rd m fun x cL w1 h1 h2 h3=> ?_
     exact hK' cL T1 H1 _ w1 h (aR.next (JN (aR.T.mono h3.le) hp h1) h2 h3) h3 (put_defers _ _)
def Fr.mono' {ρ:Env} {a b c:Nat} (h:Fr ρ a c) (hb:b<=c):Fr ρ a b:=fun i h1 h2=>h i h1 (Nat.lt_of_lt_of_le h2 hb)
def bS.fr {cL:Env} {H1 H':ai} {w1:World} (h:bS ρ H w cL H1 w1) (hf:Fr ρ H.next H'.next):Fr cL H1.next H'.next:=fun i h1 h2=>by
 rw [h.ext i (.inr h1)];exact hf i (c6 h.next h1) h2
def abB (hC:bD P call) (hR:lG P round) {ops:Array Oper} {o:Oper} {k:au af->ai->eV} {aO:au af} {H':ai} (h:xm P call round ops n o T H k= .mk aO H') (hkm:∀T1 H1,k T1 H1= .mk aO H'->H1.next<=H'.next):H.next<=H'.next:=by
 unfold xm at h;cases hw:gJ T ops o with
 |none=>rw [hw]at h;cases h
 |some b=>
  rw [hw]at h;cases b with
  |false=>
   cases hp:iI T n o.dst (.raw undef)with
   |none=>simp only [hp,qg]at h;cases h
   |some T1=>simp only [hp,qg]at h;exact hkm _ _ h
  |true=>
   cases ha:fm P call round o (cm T) H with
   |no=>simp only [ha,tA]at h;cases h
   |enter _ _ _=>simp only [ha,tA]at h;cases h
   |round _ _ _=>simp only [ha,tA]at h;cases h
   |ok v H1=>
    simp only [ha,tA]at h;cases hp:iI T n o.dst v with
    |none=>simp only [hp,qg]at h;cases h
    |some T1=>simp only [hp,qg]at h;exact c6 (ub hC hR ha) (hkm _ _ h)
def qk (hC:bD P call) (hR:lG P round) {ops:Array Oper}:∀(l:List Oper) {T:au af} {H:ai} {aO:au af} {H':ai},CH P call round ops n l T H= .mk aO H'->H.next<=H'.next
 |[],T,H,aO,H',h=>by cases h;exact aJ _
 |o::l,T,H,aO,H',h=>abB hC hR (k:=CH P call round ops n l) h fun T1 H1 h1=>qk hC hR l h1
def Ri (hK:e7 P) (hC:bD P call) (hR:lG P round) {ops:Array Oper} (rd:Option Nat) (m:Nat) {Q:Exit->Act->World->Prop}:∀(l:List Oper) (is:List Nat) {ρ:Env} {T:au af} {H:ai} {a:Act} {w:World} {aO:au af} {H':ai},
  is.map (ops[·]?)=l.map some->ez P B ρ n T H a w->CH P call round ops n l T H= .mk aO H'->Fr ρ H.next H'.next->
  (∀ρ' a' w',ez P B ρ' n aO H' a' w'->bS ρ H w ρ' H' w'->a'.defers=a.defers->Q .normal a' w')->wpOpsIn (dO rd) m P ops Q is a w
 |[],[],ρ,T,H,a,w,aO,H',_,aR,h,_,hQ=>by cases h;exact hQ ρ a w aR (bS.refl _ _ _) rfl
 |[],_::_,_,_,_,_,_,_,_,hi,_,_,_,_=>by simp at hi
 |_::_,[],_,_,_,_,_,_,_,hi,_,_,_,_=>by simp at hi
 |o::l,i::is,ρ,T,H,a,w,aO,H',hi,aR,h,hf,hQ=>by
  simp only [List.map_cons,List.cons.injEq]at hi;rw [wpOpsIn_cons];refine abA hK hC hR hi.1 (k:=CH P call round ops n l) aR h (fun T1 H1 h1=>qk hC hR l h1) hf rd m fun cL T1 H1 a1 w1 h1 abC hst hd=> ?_
  exact Ri hK hC hR rd m l is hi.2 abC h1 (hst.fr hf) fun ρ' a' w' h2 h3 h4=>hQ ρ' a' w' h2 (hst.trans h3) (h4.trans hd)
end
end
section
variable [Ground]
def R.out:R->Option (Exit×au af×ai×List Nat)
 | .no=>none
 | .normal T H m=>some (.normal,T,H,m)
 | .exit id T H m=>some (.exit id,T,H,m)
 | .goto l T H m=>some (.goto l,T,H,m)
 | .ret T H m=>some (.ret,T,H,m)
def eA (ρ:Env):List Nat->List Deferred->Prop
 |[],ds=>ds=[]
 |i::m,ds=>∃b c ds',ρ i=some (b,c)/\ds={target:= .collected b,args:= #[]}::ds'/\eA ρ m ds'
def eA.mono {ρ ρ':Env} (hl:cA ρ ρ'):∀{m:List Nat} {ds:List Deferred},eA ρ m ds->eA ρ' m ds
 |[],_,h=>h
 |_::_,_,⟨b,c,ds',h1,h2,h3⟩=>⟨b,c,ds',hl _ _ h1,h2,eA.mono hl h3⟩
structure qq (P:Program) (ih:gV):Prop where
 mono:∀c n aN T H m e aO H' m',(ih c n aN T H m).out=some (e,aO,H',m')->H.next<=H'.next
 cw:∀c n aN T H m e aO H' m',(ih c n aN T H m).out=some (e,aO,H',m')->∀B ρ a w rd k (Q:Exit->Act->World->Prop),rd.isSome=aN->ez P B ρ n T H a w->eA ρ m a.defers->Fr ρ H.next H'.next->
  (∀ρ' a' w',ez P B ρ' n aO H' a' w'->bS ρ H w ρ' H' w'->eA ρ' m' a'.defers->Q e a' w')->c.wpIn (dO rd) k P Q a w
structure xG (P:Program) (d:Bool) (draw:Je):Prop where
 mono:∀call round,bD P call->lG P round->∀ops n T H aO H',draw call round ops n T H= .mk aO H'->H.next<=H'.next
 cw:∀call round,bD P call->lG P round->∀id ops n T H aO H',draw call round ops n T H= .mk aO H'->∀B ρ a w rd k (Q:Exit->Act->World->Prop),ez P B ρ n T H a w->Fr ρ H.next H'.next->
  (∀ρ' a' w',ez P B ρ' n aO H' a' w'->bS ρ H w ρ' H' w'->a'.defers=a.defers->Q .normal a' w')->(Code.region id ops d).wpIn (dO rd) k P Q a w
section
variable {P:Program} {B:Nat} {ρ:Env} {n:Nat} {T:au af} {H:ai} {a:Act} {w:World}
def abD (ops:Array Oper):(List.range ops.size).map (ops[·]?)=ops.toList.map some:=by
 apply List.ext_getElem?;intro i;simp only [List.getElem?_map];by_cases h:i<ops.size
 .simp [h]
 .simp [h]
section
variable {b:Frame} {k:List Item} {cs:List Frame} {c:Code}
def zT:step P (lone (b.atR a (.code (.scope c)::k)) cs w)= .next (lone (b.atR a (.code c:: .inScope c::k)) cs w):=
 step_lone_go (by simp [stepG,stepG.exec,Frame.atR])
def abE:step P (lone (b.atR a (.inScope c::k)) cs w)= .next (lone (b.atR a k) cs w):=
 step_lone_go (by simp [stepG,stepG.exec,Frame.atR])
end
def JP {F:Fence} {n:Nat} {Q:Exit->Act->World->Prop} {c:Code} (h:c.wpIn F n P (Exit.noGoto Q) a w):(Code.scope c).wpIn F n P Q a w:=by
 intro b k cs hro hb hr;obtain⟨e,a₁,w₁,hq,zU⟩:=h b (.inScope c::k) cs hro hb hr;have h0:(lone (b.atR a (.code (.scope c)::k)) cs w).fenced P F:=fenced_calm hb hr rfl;cases e with
 |normal=>exact⟨.normal,a₁,w₁,hq, .head h0 zT (StepsIn.trans zU (.one (fenced_calm (fr:=b.atR a₁ (.inScope c::k)) hb hr rfl) abE))⟩
 |exit id=>
  have hx:exitTo id (.inScope c::k)=exitTo id k:=by simp [exitTo]
  exact⟨.exit id,a₁,w₁,hq,fun k' hk=> .head h0 zT (zU.1 k' (by rw [hx];exact hk)),fun hr' hk=>let ⟨k₁,h1,h2⟩:=zU.2 hr' (by rw [hx];exact hk);⟨k₁,h1, .head h0 zT h2⟩⟩
 |goto l=>exact hq.elim
 |ret=>exact⟨_,a₁,w₁,hq, .of_steps (.one h0 zT) zU⟩
 |panic ch=>exact⟨_,a₁,w₁,hq, .of_steps (.one h0 zT) zU⟩
 |outgrown=>exact⟨_,a₁,w₁,hq, .of_steps (.one h0 zT) zU⟩
def JQ:∀(l:List af) (T:au af) (k t:Nat),(dt l T k).get t=if k<=t/\t<k+l.length then l[t-k]? else T.get t
 |[],T,k,t=>by
  have e:dt [] T k=T:=rfl;rw [e,if_neg (by simp only [List.length_nil];omega)]
 |v::l,T,k,t=>by
  have e:dt (v::l) T k=dt l (T.set k (some v)) (Nat.succ k):=rfl;rw [e,JQ l _ (Nat.succ k) t,au.fY];by_cases h1:t=k
  .subst h1;rw [if_neg ω,if_pos rfl,if_pos τ];simp
  .by_cases h2:Nat.succ k<=t/\t<Nat.succ k+l.length
   .rw [if_pos h2,if_pos (by simp;omega)];have:t-k=(t-Nat.succ k)+1:=by omega
    rw [this];simp
   .rw [if_neg h2,if_neg (fun e=>h1 e.symm),if_neg (by simp;omega)]
def Ci {args:List af} {xs:List Value} (hd:aH ρ args xs) {n:Nat} (hn:args.length<=n):jS ρ (dt args .nil 0) n (xs.toArray++Array.replicate (n-xs.toArray.size) undef):=by
 have hl:=hd.length;refine⟨by simp;omega,fun t=> ?_⟩;rw [JQ,au.get_nil,Array.getD_eq_getD_getElem?,Array.getElem?_append];by_cases h:t<xs.length
 .rw [if_pos ⟨Nat.zero_le _,by omega⟩,if_pos (by simpa using h)];have hv:args[t]? =some (args[t]'ω):=BL ω;obtain⟨x,h1,h2⟩:=hd.get hv;simp only [Nat.sub_zero,hv,Option.getD_some,List.getElem?_toArray,h1];exact h2
 .rw [if_neg ω,if_neg (by simpa using h)];simp only [Option.getD_none,Array.getElem?_replicate];split<;>exact .raw _
def E0 (tmps:Array Value):ResultVar->Sem Value
 | .tmp t=>pure (tmps.getD t undef)
 | .cell ad t=>do loadVar t (<-asAddr (tmps.getD ad undef))
def abF (aR:ez P B ρ n T H a w) {r:ResultVar} {v:af} (h:Jc P T H r=some v):∃y,(E0 a.tmps r).run P w= .ok y w/\Den ρ v y:=by
 cases r with
 |tmp t=>cases h;exact⟨_,rfl,aR.T.get t⟩
 |cell ad t=>
  simp only [Jc]at h;split at h
  .rename_i i off ht;have hp:=aR.T.get ad;rw [ht]at hp;obtain⟨b,c,h1,h2⟩:=hp.kH;split at h
   .rename_i el cs ex cB ro hg;obtain⟨xs,fz,g1,_,g3,_⟩:=l9 aR.H hg h1;obtain⟨y,k1,k2⟩:=EP g1 g3 h;exact⟨y,by simp [E0,h2,asAddr,k1],k2⟩
   .cases h
  .cases h
def Rj (aR:ez P B ρ n T H a w):∀{rs:List ResultVar} {vs:List af},B2 P T H rs=some vs->∃ys,(rs.mapM (E0 a.tmps)).run P w= .ok ys w/\aH ρ vs ys
 |[],vs,h=>by cases h;exact⟨[],by simp, .nil⟩
 |r::rs,vs,h=>by
  simp only [B2,dH,am]at h;obtain⟨v,hv,vs',hvs,rfl⟩:=h;obtain⟨y,h1,h2⟩:=abF aR hv;obtain⟨ys,h3,h4⟩:=Rj aR hvs;refine⟨y::ys, ?_, .cons h2 h4⟩;rw [List.mapM_cons];simp only [Sem.run_bind,h1,Result.andThen_ok,h3,Sem.run_pure]
def AC (fn:Func) (tmps:Array Value) (w:World):(results fn tmps).run P w=(((fn.results.toList.mapM (E0 tmps)).run P w).andThen fun(a:List Value) w'=> .ok a.toArray w').andThen fun(a:Array Value) w'=> .ok (if h:a.size=1 then a[0]else .tuple a) w':=by
 unfold results;rw [Array.mapM_eq_mapM_toList];simp only [Sem.run_bind,Sem.run_map,Sem.run_pure];rfl
def jn (aR:ez P B ρ n T H a w) {fn:Func} {v:af} {H':ai} (h:jR P fn T H= .ok v H'):H'=H/\∃y,(results fn a.tmps).run P w= .ok y w/\Den ρ v y:=by
 have key:∀vs,B2 P T H fn.results.toList=some vs->∃ys:List Value,(results fn a.tmps).run P w= .ok (if h:ys.toArray.size=1 then ys.toArray[0]else .tuple ys.toArray) w/\aH ρ vs ys:=by
  intro vs hvs;obtain⟨ys,h1,h2⟩:=Rj aR hvs;refine⟨ys, ?_,h2⟩;rw [AC,h1];rfl
 unfold jR at h;split at h
 .rename_i v' hvs;cases h;obtain⟨ys,h1,h2⟩:=key _ hvs;cases h2 with
  |cons h3 h4=>cases h4 with
   |nil=>exact⟨rfl,_,h1,h3⟩
 .rename_i vs hno hvs;cases h;obtain⟨ys,h1,h2⟩:=key _ hvs;have hl:=h2.length;have hne:¬ys.toArray.size=1:=fun hh=>by
   have:vs.length=1:=by rw [<-hl];simpa using hh
   match vs,this with
   |[v],_=>exact hno v rfl
  rw [dif_neg hne]at h1;exact⟨rfl,_,h1, .tuple h2⟩
 .cases h
def abG (hH:bh P B ρ H w) {i b c:Nat} {k0:bq} (hi:H.get i=some k0) (hr:ρ i=some (b,c)) (hro:k0.eO=false) (w':World) (hos:w'.os=w.os) (ht:w'.tape=w.tape) (hout:w'.output=w.output) (hs:w'.heap.size=w.heap.size)
  (l7:∀j,j≠b->w'.heap[j]? =w.heap[j]?):bh P B ρ (H.drop i) w'/\bS ρ H w ρ (H.drop i) w':=by
 have g:∀j k,(H.drop i).get j=some k->j≠i/\H.get j=some k:=fun j k hj=>by
  rw [ai.o4]at hj;split at hj
  .cases hj
  .rename_i e;exact⟨fun x=>e x.symm,hj⟩
 refine⟨⟨fun j k hj=> ?_,fun x y kx ky bb qs cS hx hy=>hH.inj x y kx ky bb qs cS (g x kx hx).2 (g y ky hy).2,fun j k hj=>hH.lt j k (g j k hj).2,by rw [hs];exact hH.base,fun b' A hb'=>by
  obtain⟨⟨e,fr,h1⟩,h2⟩:=hH.fz b' A hb';have hne:b'≠b:=fun e=>by
   have:=h2 i k0 c hi (e ▸ hr);rw [hro]at this;cases this
  exact⟨⟨e,fr,(l7 b' hne).trans h1⟩,fun j k' c' hj hr'=>h2 j k' c' (g j k' hj).2 hr'⟩⟩,
  ⟨cA.refl _,fun _ _=>rfl,aJ _,Nat.le_of_eq hs.symm,hos,ht,hout,fun b' _ ho=>l7 b' (fun e=>ho (e ▸ ⟨i,k0,c,hi,hro,hr⟩)),fun b' _ ⟨j,k,JR,h1,h2⟩=>⟨j,k,JR,(g j k h1).2,h2⟩,fun b' _ ⟨j,k,JR,h1,h2⟩=>⟨j,k,JR,(g j k h1).2,h2⟩,fun _ _ h=> .inl h⟩⟩
 obtain⟨h1,h2⟩:=g j k hj;obtain⟨b',c',o,e1,e2,e3,bV⟩:=hH.blk j k h2;exact⟨b',c',o,e1,by rw [l7 b' (fun e=>h1 (hH.inj j i k k0 b' c' c h2 hi e1 (e ▸ hr)))];exact e2,e3,bV⟩
def xH {fn:Func} {v:af} {H':ai} {R:Ending->World->Prop} {k:Nat}:∀(m:List Nat) {ρ:Env} {H:ai} {w:World} {ds:List Deferred},ez P B ρ n T H a w->eA ρ m ds->kg P fn T H m= .ok v H'->
  (∀y w',Den ρ v y->bh P B ρ H' w'->bS ρ H w ρ H' w'->R (.returned y) w')->LeavesInM (dO none) k P fn a.tmps R ds .returning w
 |[],ρ,H,w,ds,aR,hm,h,hR=>by
  have hm:ds=[]:=hm;subst hm;obtain⟨rfl,y,h1,h2⟩:=jn aR h;exact⟨y,h1,hR y w h2 aR.H (bS.refl _ _ _)⟩
 |i::m,ρ,H,w,ds,aR,hm,h,hR=>by
  obtain⟨b,c,ds',h1,rfl,h3⟩:=hm;have e:kg P fn T H (i::m)= @Option.rec ai (fun _=>aM) .no (fun H=>jR P fn T H) (xo (i::m) H):=rfl;rw [e]at h;unfold xo at h;split at h
  .rename_i hg;obtain⟨o,g1,g2,_⟩:=aR.H.at hg h1;have g2:o= .deferred (some []):=g2;subst g2;have ht:=run_takeDeferred (P:=P) g1;obtain⟨q1,aQ⟩:=abG aR.H hg h1 rfl (w.putObj b (.deferred none)) rfl rfl rfl τ (fun j hj=>World.putObj_heap_other hj);refine⟨(fun hh=>by cases hh), .inl ⟨b,_,rfl,ht, ?_⟩⟩;refine xH m (aR.next aR.T q1 aQ) h3 h fun y w' r1 r2 r3=>hR y w' r1 r2 (aQ.trans r3)
  .cases h
def Rk:∀(m:List Nat) {H H':ai},xo m H=some H'->H.next=H'.next
 |[],H,H',h=>by cases h;rfl
 |i::m,H,H',h=>by
  unfold xo at h;split at h
  .exact Rk m (H:=H.drop i) h
  .cases h
def zV {fn:Func} {v:af} {H':ai} {m:List Nat} (h:kg P fn T H m= .ok v H'):H.next=H'.next:=by
 unfold kg at h;cases hc:xo m H with
 |none=>rw [hc]at h;cases h
 |some H1=>
  rw [hc]at h;have h:jR P fn T H1= .ok v H':=h;unfold jR at h;rw [Rk m hc];split at h<;>cases h<;>rfl
def uc {ih:gV} {f:FuncId} {args:List af} {v:af} {H':ai} (h:mW P ih f args H= .ok v H'):∃fn c,P.funcs[f]? =some fn/\fn.body=some c/\args.length<=fn.ntmps/\
  ∃e T1 H1 m1,(ih c fn.ntmps false (dt args .nil 0) H []).out=some (e,T1,H1,m1)/\(e= .normal\/e= .ret)/\kg P fn T1 H1 m1= .ok v H':=by
 unfold mW at h;cases hf:P.funcs[f]? with
 |none=>rw [hf]at h;cases h
 |some fn=>
  rw [hf]at h;simp only at h;cases hb:fn.body with
  |none=>rw [hb]at h;cases h
  |some c=>
   rw [hb]at h;simp only at h;unfold Jd at h;cases hn:Nat.ble args.length fn.ntmps with
   |false=>rw [hn]at h;cases h
   |true=>
    rw [hn]at h;simp only at h;refine⟨fn,c,rfl,hb,bU hn, ?_⟩;cases hr:ih c fn.ntmps false (dt args .nil 0) H []with
    |no=>rw [hr]at h;cases h
    |normal T1 H1 m1=>rw [hr]at h;exact⟨_,_,_,_,rfl, .inl rfl,h⟩
    |exit _ _ _ _=>rw [hr]at h;cases h
    |goto _ _ _ _=>rw [hr]at h;cases h
    |ret T1 H1 m1=>rw [hr]at h;exact⟨_,_,_,_,rfl, .inr rfl,h⟩
def Cj {ih:gV} (hI:qq P ih):bD P (mW P ih) where
 mono f args H v H' h:=by
  obtain⟨fn,c,_,_,_,e,T1,H1,m1,ho,_,hl⟩:=uc h;exact c6 (hI.mono _ _ _ _ _ _ _ _ _ _ ho) (Nat.le_of_eq (zV hl))
 cw f args H v H' h B ρ xs w m hH ct hd hf:=by
  obtain⟨fn,c,hfn,hb,hn,e,T1,H1,m1,ho,he,hl⟩:=uc h;have hnx:=zV hl;refine callsIn_of_wp_marks hfn hb trivial ?_;refine hI.cw _ _ _ _ _ _ _ _ _ _ ho B ρ _ w none m _ rfl ⟨Ci hd hn,hH,ct⟩ rfl (by rw [hnx];exact hf) fun ρ' a' w' h1 h2 h3=> ?_
  have:LeavesInM (dO none) m P fn a'.tmps (mm P B ρ H w v H') a'.defers .returning w':=xH m1 h1 h3 hl fun y w2 r1 r2 r3=>⟨y,ρ',rfl,r1,r2,h2.trans r3⟩
  rcases he with rfl |rfl<;>exact this
end
end
section
variable [Ground]
section
variable {P:Program} {B:Nat} {ρ:Env} {n:Nat} {T:au af} {H:ai} {a:Act} {w:World}
def bh.lt_size (hH:bh P B ρ H w) {i b c:Nat} {k:bq} (hi:H.get i=some k) (hr:ρ i=some (b,c)):b<w.heap.size:=by
 obtain⟨o,h1,_⟩:=hH.at hi hr;exact(dz.1 h1).1
def iS (hH:bh P B ρ H w) {i b c:Nat} {k0:bq} (hi:H.get i=some k0) (hr:ρ i=some (b,c)) (hro:k0.eO=false) {r:BM} {R:Loop} (hd:Ji ρ r R):bh P B ρ (H.set i (.loop r)) (w.putObj b (.loop R))/\bS ρ H w ρ (H.set i (.loop r)) (w.putObj b (.loop R)):=
 jj hH hi hr hro _ _ rfl rfl rfl τ (World.putObj_heap_same (hH.lt_size hi hr)) (fun j hj=>World.putObj_heap_other hj) ⟨R,rfl,hd⟩
def rO (hH:bh P B ρ H w) {i b c:Nat} {r:BM} (hi:H.get i=some (.loop r)) (hr:ρ i=some (b,c)):∃R,w.heap[b]? =some (.loop R)/\Ji ρ r R:=by
 obtain⟨o,h1,h2,_⟩:=hH.at hi hr;obtain⟨R,rfl,h3⟩:=h2;exact⟨R,h1,h3⟩
def JS:∀(l:List (Tmp×af)) (l':List (Tmp×Value)) {T:au af} {xs:Array Value},l.map Prod.fst=l'.map Prod.fst->aH ρ (l.map Prod.snd) (l'.map Prod.snd)->(∀p∈l,p.1<n)->jS ρ T n xs->
  jS ρ (xp T l) n (l'.foldl (fun tmps p=>tmps.setIfInBounds p.1 p.2) xs)
 |[],[],T,xs,_,_,_,h=>h
 |[],_::_,_,_,h,_,_,_=>by simp at h
 |_::_,[],_,_,h,_,_,_=>by simp at h
 |(t,v)::l,(t',x)::l',T,xs,h,hd,hb,hT=>by
  simp only [List.map_cons,List.cons.injEq]at h;obtain⟨rfl,h⟩:=h;cases hd with
  |cons h1 h2=>
   refine JS l l' h h2 (fun p hp=>hb p (lV _ hp)) ?_;have hlt:t<xs.size:=by rw [hT.size];exact hb (t,v) lW
   refine⟨by simp [hT.size],fun u=> ?_⟩;rw [au.fY];show Den ρ _ ((xs.setIfInBounds t x).getD u undef);rw [Rf _ _ _ _ _ hlt];by_cases he:t=u
   .subst he;simpa using h1
   .rw [if_neg he,if_neg (fun e=>he e.symm)];exact hT.get u
def E1 {i:Nat} {r:R} {v:af} {H':ai} (h:tB i r= .ok v H'):∃(e:Exit) (T1:au af) (H1:ai) (m1:List Nat) (r1:BM) (j:Option Code),r.out=some (e,T1,H1,m1)/\H1.get i=some (.loop r1)/\v= .raw (.bool j.isNone)/\
  H'=H1.set i (.loop {r1 with state:=if j.isNone then .ready else .done,pending:=j})/\(e= .normal/\j=none\/e= .ret/\j=some .ret\/(∃id,e= .exit id/\j=some (.exit id))\/(∃l,e= .goto l/\j=some (.goto l))):=by
 cases r with
 |no=>cases h
 |normal T1 H1 m1=>
  simp only [tB]at h;split at h
  .rename_i r1 hg;cases h;exact⟨_,T1,H1,m1,r1,none,rfl,hg,rfl,rfl, .inl ⟨rfl,rfl⟩⟩
  .cases h
 |ret T1 H1 m1=>
  simp only [tB]at h;split at h
  .rename_i r1 hg;cases h;exact⟨_,T1,H1,m1,r1,some .ret,rfl,hg,rfl,rfl, .inr (.inl ⟨rfl,rfl⟩)⟩
  .cases h
 |exit id T1 H1 m1=>
  simp only [tB]at h;split at h
  .rename_i r1 hg;cases h;exact⟨_,T1,H1,m1,r1,some (.exit id),rfl,hg,rfl,rfl, .inr (.inr (.inl ⟨id,rfl,rfl⟩))⟩
  .cases h
 |goto l T1 H1 m1=>
  simp only [tB]at h;split at h
  .rename_i r1 hg;cases h;exact⟨_,T1,H1,m1,r1,some (.goto l),rfl,hg,rfl,rfl, .inr (.inr (.inr ⟨l,rfl,rfl⟩))⟩
  .cases h
def Rl {ih:gV} {i:Nat} {args:List af} {v:af} {H':ai} (h:tC ih i args H= .ok v H'):∃r,H.get i=some (.loop r)/\args.length=r.params.size/\(∀t∈r.params.toList,t<r.size)/\
  ∃T1 H1 r',(ih r.assign r.size true (xp r.tmps (r.params.toList.zip args)) H []).out=some (.normal,T1,H1,[])/\H1.get i=some (.loop r')/\r'.state= .ready/\
   tB i (ih r.body r.size true T1 (H1.set i (.loop {r' with state:= .busy})) [])= .ok v H':=by
 unfold tC at h;split at h
 .rename_i r hg;split at h
  .cases hb:(Nat.beq args.length r.params.size&&r.params.toList.all fun t=>Nat.ble (t+1) r.size)with
   |false=>rw [hb]at h;cases h
   |true=>
    rw [hb]at h;rw [ae]at hb;simp only [cond_true]at h;refine⟨r,hg,ac hb.1,fun t ht=>bU (List.all_eq_true.1 hb.2 t ht), ?_⟩;split at h
    .rename_i T1 H1 hr;split at h
     .rename_i r' hg';split at h
      .rename_i hs;exact⟨T1,H1,r',by rw [hr];rfl,hg',hs,h⟩
      .cases h
     .cases h
    .cases h
  .cases h
 .cases h
def wt {ih:gV} (hI:qq P ih):lG P (tC ih) where
 mono i args H v H' h:=by
  obtain⟨r,_,_,_,T1,H1,r',h1,_,_,h2⟩:=Rl h;obtain⟨e,T2,H2,m2,r1,j,k1,_,_,rfl,_⟩:=E1 h2;have a1:=hI.mono _ _ _ _ _ _ _ _ _ _ h1;have a2:=hI.mono _ _ _ _ _ _ _ _ _ _ k1;exact c6 a1 a2
 cw i args H v H' h B ρ xs w b c m hH ct hr hd hf:=by
  obtain⟨r,hg,hlen,hpar,T1,H1,r',h1,qt,hst,h2⟩:=Rl h;obtain⟨e,T2,H2,m2,r1,j,k1,hg2,rfl,rfl,hj⟩:=E1 h2;have a1:=hI.mono _ _ _ _ _ _ _ _ _ _ h1;have a2:=hI.mono _ _ _ _ _ _ _ _ _ _ k1;have JT:H1.next<=H2.next:=a2;obtain⟨R,hb,hR⟩:=rO hH hg hr;have hl:=hd.length;have hy:=run_yield (P:=P) (args:=xs.toArray) hb (by rw [hR.params];simp;omega);refine⟨_,_,_,_,hy,roundIn_of_wpIn trivial ?_⟩
  -- the slots of the round
  have JU:jS ρ (xp r.tmps (r.params.toList.zip args)) r.size ((R.params.zip xs.toArray).foldl (fun tmps (t,a)=>tmps.setIfInBounds t a) R.tmps):=by
   have e1:(R.params.zip xs.toArray).foldl (fun tmps (t,a)=>tmps.setIfInBounds t a) R.tmps=(r.params.toList.zip xs).foldl (fun tmps p=>tmps.setIfInBounds p.1 p.2) R.tmps:=by
    rw [<-Array.foldl_toList,hR.params];congr 1;simp
   rw [e1];have hz:∀{α:Type} (l:List Nat) (ys:List α),ys.length=l.length->(l.zip ys).map Prod.fst=l/\(l.zip ys).map Prod.snd=ys:=fun l ys hh=>⟨by rw [List.map_fst_zip];omega,by rw [List.map_snd_zip];omega⟩
   have dx:=hz r.params.toList args (by simpa using hlen);have z2:=hz r.params.toList xs (by rw [hl];simpa using hlen);exact JS _ _ (by rw [dx.1,z2.1]) (by rw [dx.2,z2.2];exact hd) (fun p hp=>hpar p.1 (List.of_mem_zip hp).1) hR.tmps
  rw [hR.assign,hR.body];refine hI.cw _ _ _ _ _ _ _ _ _ _ h1 B ρ _ w (some b) m _ rfl ⟨JU,hH,ct⟩ rfl (fun x y z=>hf x y (Nat.lt_of_lt_of_le z JT)) fun cL Ck w1 hA hS hD=> ?_
  have hD:Ck.defers=[]:=hD;have kL:cL i=some (b,c):=hS.le _ _ hr;obtain⟨JV,ju,lH⟩:=rO hA.H qt kL;have JW:=run_beginRound (P:=P) ju (by rw [lH.state,hst]);refine⟨_,JW, ?_⟩;obtain⟨q1,aQ⟩:=iS hA.H qt kL rfl (r:={r' with state:= .busy}) (R:={JV with state:= .busy}) ⟨rfl,lH.pending,lH.params,lH.assign,lH.body,lH.tmps⟩;refine hI.cw _ _ _ _ _ _ _ _ _ _ k1 B cL Ck _ (some b) m _ rfl (hA.next hA.T q1 aQ) hD ((hS.trans aQ).fr hf) fun ec abH w2 vw Cl _=> ?_
  have hr2:ec i=some (b,c):=Cl.le _ _ kL;obtain⟨JX,kI,tO⟩:=rO vw.H hg2 hr2;have JY:=run_endRound (P:=P) j kI;obtain⟨b8,eo⟩:=iS vw.H hg2 hr2 rfl (r:={r1 with state:=if j.isNone then .ready else .done,pending:=j}) (R:={JX with state:=if j.isNone then .ready else .done,pending:=j}) ⟨rfl,rfl,tO.params,tO.assign,tO.body,tO.tmps⟩;have fin:∃v' w',(Instr.endRound b j).run P w2= .ok v' w'/\mm P B ρ H w (.raw (.bool j.isNone)) (H2.set i (.loop {r1 with state:=if j.isNone then .ready else .done,pending:=j})) (.returned v') w':=
   ⟨_,_,JY,_,ec,rfl, .raw _,b8,((hS.trans aQ).trans Cl).trans eo⟩
  rcases hj with⟨rfl,rfl⟩|⟨rfl,rfl⟩|⟨id,rfl,rfl⟩|⟨l,rfl,rfl⟩<;>exact fin
end
end
section
variable [Ground]
section
variable {P:Program} {B:Nat} {ρ:Env} {n:Nat} {T:au af} {H:ai} {a:Act} {w:World}
def JZ {fv:af} {v:Value} (hv:Den ρ fv v) {args:List af} {g:FuncId} {as:List af} {H2:ai} (h:lZ P fv args H= .enter g as H2):∃fn first captured,v= .func fn first captured:=by
 unfold lZ at h;split at h
 .rename_i x;have:=hv.cc;subst this;cases hg:xh v with
  |fn f=>
   unfold xh at hg;split at hg
   .exact⟨_,_,_,rfl⟩
   .cases hg
  |no=>
   rw [hg]at h;simp only at h;split at h
   .exact⟨_,_,_,rfl⟩
   .cases h
 .obtain⟨fs,cs,_,_,rfl⟩:=hv.B5;exact⟨_,_,_,rfl⟩
 .cases h
 .cases h
def lL {ih:gV} {D:Nat} {m:List Nat} {ag:aM} {e:Exit} {aO:au af} {H':ai} {m':List Nat} (h:(B3 ih n T D m ag).out=some (e,aO,H',m')):∃v H3 r,ag= .ok v H3/\H3.get (D+1)=some (.loop r)/\r.state≠ .busy/\
  (r.pending=none/\e= .normal/\aO=T/\H'=H3.set (D+1) (.loop {r with state:= .exhausted})/\m'=D::m\/
    ∃c,r.pending=some c/\(ih c n false T (H3.set (D+1) (.loop {r with state:= .exhausted})) (D::m)).out=some (e,aO,H',m')):=by
 unfold B3 at h;split at h
 .rename_i v H3;split at h
  .rename_i r hg;split at h
   .cases h
   .rename_i hs;refine⟨v,H3,r,rfl,hg,fun hh=>hs hh, ?_⟩;split at h
    .rename_i hp;cases h;exact .inl ⟨hp,rfl,rfl,rfl,rfl⟩
    .rename_i c hp;exact .inr ⟨c,hp,h⟩
  .cases h
 .cases h
def Rm {ih:gV} {f:Operand} {params:Array Tmp} {assign body:Code} {m:List Nat} {e:Exit} {aO:au af} {H':ai} {m':List Nat} (h:(rK P ih f params assign body n T H m).out=some (e,aO,H',m')):
  ∃g args H2,lZ P (cm T f) [.yield (H.next+1)] ((H.new .deferred).new (.loop {tmps:=T,size:=n,params,assign,body,state:= .ready,pending:=none}))= .enter g args H2/\
   (B3 ih n T H.next m (mW P ih g args H2)).out=some (e,aO,H',m'):=by
 unfold rK at h;split at h
 .rename_i g args H2 hc;exact⟨g,args,H2,hc,h⟩
 .cases h
def gk {fv:af} {args:List af} {g:FuncId} {as:List af} {H2:ai} (h:lZ P fv args H= .enter g as H2):H2=H:=by
 have go:∀{f:FuncId} {l:List af},kp P f l H= .enter g as H2->H2=H:=fun {f l} h=>by
  unfold kp at h;cases hf:P.funcs[f]? with
  |none=>rw [hf]at h;cases h
  |some fn=>
   rw [hf]at h;simp only at h;cases hb:fn.body with
   |none=>
    rw [hb]at h;simp only at h;cases hx:zy P f fn l H with
    |none=>rw [hx]at h;cases h
    |some q=>rw [hx]at h;cases h
   |some c=>rw [hb]at h;cases h;rfl
 unfold lZ at h;split at h
 .rename_i x;cases hg:xh x with
  |fn f=>rw [hg]at h;exact go h
  |no=>
   rw [hg]at h;simp only at h;split at h
   .exact go h
   .cases h
 .exact go h
 .cases h
 .cases h
def Rn {ih:gV} (hI:qq P ih) {f:Operand} {params:Array Tmp} {assign body:Code} {m:List Nat} {e:Exit} {aO:au af} {H':ai} {m':List Nat} (h:(rK P ih f params assign body n T H m).out=some (e,aO,H',m')):H.next+2<=H'.next:=by
 obtain⟨g,args,H2,h1,h2⟩:=Rm h;have mZ:=gk h1;obtain⟨v,H3,r,h3,h4,h5,h6⟩:=lL h2;have hc:=(Cj hI).mono _ _ _ _ _ h3;have e2:H2.next=H.next+2:=by rw [mZ];rfl
 rcases h6 with⟨_,_,_,rfl,_⟩|⟨c,_,h7⟩
 .show H.next+2<=H3.next;omega
 .have:=hI.mono _ _ _ _ _ _ _ _ _ _ h7;have e3:(H3.set (H.next+1) (bq.loop {r with state:= .exhausted})).next=H3.next:=rfl;omega
def abI (hK:e7 P) {ih:gV} (hI:qq P ih) {f:Operand} {params:Array Tmp} {assign body:Code} {m:List Nat} {e:Exit} {aO:au af} {H':ai} {m':List Nat} (h:(rK P ih f params assign body n T H m).out=some (e,aO,H',m'))
  (k:Nat) {Q:Exit->Act->World->Prop} (aR:ez P B ρ n T H a w) (hD:eA ρ m a.defers) (hf:Fr ρ H.next H'.next)
  (hQ:∀ρ' a' w',ez P B ρ' n aO H' a' w'->bS ρ H w ρ' H' w'->eA ρ' m' a'.defers->Q e a' w'):(Code.rangeFunc f params assign body).wpIn (dO none) k P Q a w:=by
 have hmono:=Rn hI h;obtain⟨g,args,H2,h1,h2⟩:=Rm h;have mZ:=gk h1;obtain⟨v,H3,r,h3,h4,h5,h6⟩:=lL h2;have hcm:=(Cj hI).mono _ _ _ _ _ h3;have e2:H2.next=H.next+2:=by rw [mZ];rfl
 have Cm:H3.next<=H'.next:=by
  rcases h6 with⟨_,_,_,rfl,_⟩|⟨c,_,h7⟩
  .exact aJ _
  .have:=hI.mono _ _ _ _ _ _ _ _ _ _ h7;exact this
 refine wpIn_rangeFunc fun fn _=> ?_
 -- the two blocks
 have hn0:ρ H.next=none:=hf _ (aJ _) ω;obtain⟨p1,p2⟩:=tE aR.H (fun i x y=>hf i x ω) 0 .deferred (.deferred (some [])) rfl;have xI:=p2.fr hf;have nc:(H.new .deferred).next=H.next+1:=rfl;have Cn:=aR.T.mono p2.le;obtain⟨rec,iu⟩:∃rec:Loop,rec={state:= .ready,pending:=none,fn,tmps:=a.tmps,params,assign,body,defers:=w.heap.size}:=⟨_,rfl⟩;obtain⟨p3,dS⟩:=tE p1 (fun i x y=>xI i x (by rw [nc]at y;omega)) 0 (.loop {tmps:=T,size:=n,params,assign,body,state:= .ready,pending:=none}) (.loop rec) ⟨rec,rfl,by rw [iu],by rw [iu],by rw [iu],by rw [iu],by rw [iu],by
  rw [iu];exact Cn.mono (Env.o5 (xI _ (aJ _) (by rw [nc];omega)))⟩
 have hle:=p2.trans dS;rw [<-mZ]at p3 dS hle h1;obtain⟨ec,vA⟩:∃ec,ec=(ρ.put H.next w.heap.size 0).put (H.new .deferred).next (w.alloc (.deferred (some []))).heap.size 0:=⟨_,rfl⟩;rw [<-vA]at p3 dS hle;have hL:ec (H.next+1)=some (w.heap.size+1,0):=by rw [vA,<-nc,Env.dn];simp
 have J0:ec H.next=some (w.heap.size,0):=by
  refine dS.le _ _ ?_;rw [Env.dn]
 -- the function
 have vB:=(nF aR.T aR.G f).mono hle.le;obtain⟨vC,first,captured,fR⟩:=JZ vB h1;have Co:aH ec [af.yield (H.next+1)] [.func (.yield (w.heap.size+1)) #[] #[]]:= .cons (.yield hL) .nil;have hca:=EX (P:=P) (B:=B) (w:=(w.alloc (.deferred (some []))).alloc (.loop rec)) (fv:=cm T f) hK p3 vB Co (r:=(invoke (.fn vC captured) (first++ #[.func (.yield (w.heap.size+1)) #[] #[]])).run P ((w.alloc (.deferred (some []))).alloc (.loop rec)))
  (fun fn' first' captured' hh=>by rw [fR]at hh;cases hh;rfl)
 rw [h1]at hca;obtain⟨_,xs,hinv,hxs⟩:=hca;refine⟨w.heap.size+1,[{target:= .collected w.heap.size,args:= #[]}],(w.alloc (.deferred (some []))).alloc (.loop rec),{target:= .fn vC captured,args:=first++ #[.func (.yield (w.heap.size+1)) #[] #[]]},(w.alloc (.deferred (some []))).alloc (.loop rec),g,xs.toArray,
  (w.alloc (.deferred (some []))).alloc (.loop rec), ?_, ?_,fun _ _=>trivial,hinv,(fun hh=>by cases hh), ?_⟩
 .rw [iu];exact run_enterLoop_outer fn a.tmps params assign body
 .have hcv:∀v,a.eval (.const v)=v:=fun _=>rfl
  simp [resolve,fR,Deferred.ofValue,hcv]
 .refine((Cj hI).cw g args H2 v H3 h3 B ec xs _ (k-1) p3 (aR.G.mono hle.le) hxs ((hle.fr hf).mono' Cm)).mono ?_;rintro e0 w3 ⟨x,qu,rfl,_,q1,aQ⟩;have vD:=aQ.le _ _ hL;obtain⟨R,hb,hR⟩:=rO q1 h4 vD;have hel:=run_endLoop (P:=P) hb (by rw [hR.state];exact h5);obtain⟨b8,eo⟩:=iS q1 h4 vD rfl (r:={r with state:= .exhausted}) (R:={R with state:= .exhausted}) ⟨rfl,hR.pending,hR.params,hR.assign,hR.body,hR.tmps⟩;have gW:=(hle.trans aQ).trans eo;have ng:eA qu (H.next::m) ([{target:= .collected w.heap.size,args:= #[]}]++a.defers):=⟨w.heap.size,0,a.defers,aQ.le _ _ J0,rfl,(hD.mono (hle.trans aQ).le)⟩;have key:∀jump,jump=r.pending->(match jump with
    |none=>Q .normal {a with defers:=[{target:= .collected w.heap.size,args:= #[]}]++a.defers} (w3.putObj (w.heap.size+1) (.loop {R with state:= .exhausted}))
    |some c=>c.wpIn (dO none) k P Q {a with defers:=[{target:= .collected w.heap.size,args:= #[]}]++a.defers} (w3.putObj (w.heap.size+1) (.loop {R with state:= .exhausted}))):=by
   rintro jump rfl;rcases h6 with⟨k1,rfl,rfl,rfl,rfl⟩|⟨c,k1,h7⟩
   .rw [k1];exact hQ qu {a with defers:=[{target:= .collected w.heap.size,args:= #[]}]++a.defers} _ ⟨aR.T.mono gW.le,b8,aR.G.mono gW.le⟩ gW ng
   .rw [k1];refine hI.cw _ _ _ _ _ _ _ _ _ _ h7 B qu {a with defers:=[{target:= .collected w.heap.size,args:= #[]}]++a.defers} _ none k Q rfl ⟨aR.T.mono gW.le,b8,aR.G.mono gW.le⟩ ng (gW.fr hf) fun ρ' a' w' r1 r2 r3=>hQ ρ' a' w' r1 (gW.trans r2) r3
  exact⟨R.pending,_,hel,key _ hR.pending⟩
def E2 {body:au af->ai->List Nat->R}:∀(j:Nat) {T:au af} {H:ai} {m:List Nat} {e:Exit} {aO:au af} {H':ai} {m':List Nat},(iter body j T H m).out=some (e,aO,H',m')->
  ∃j',j=j'+1/\∃e1 T1 H1 m1,(body T H m).out=some (e1,T1,H1,m1)/\((e1= .normal/\(iter body j' T1 H1 m1).out=some (e,aO,H',m'))\/(e1≠ .normal/\e=e1/\aO=T1/\H'=H1/\m'=m1))
 |0,_,_,_,_,_,_,_,h=>by cases h
 |j+1,T,H,m,e,aO,H',m',h=>by
  have e0:iter body (j+1) T H m= @R.rec (fun _=>R) .no (iter body j) .exit .goto .ret (body T H m):=rfl;rw [e0]at h;refine⟨j,rfl, ?_⟩;cases hb:body T H m with
  |no=>rw [hb]at h;cases h
  |normal T1 H1 m1=>rw [hb]at h;exact⟨_,_,_,_,rfl, .inl ⟨rfl,h⟩⟩
  |exit id T1 H1 m1=>rw [hb]at h;cases h;exact⟨_,_,_,_,rfl, .inr ⟨(fun hh=>by cases hh),rfl,rfl,rfl,rfl⟩⟩
  |goto l T1 H1 m1=>rw [hb]at h;cases h;exact⟨_,_,_,_,rfl, .inr ⟨(fun hh=>by cases hh),rfl,rfl,rfl,rfl⟩⟩
  |ret T1 H1 m1=>rw [hb]at h;cases h;exact⟨_,_,_,_,rfl, .inr ⟨(fun hh=>by cases hh),rfl,rfl,rfl,rfl⟩⟩
def qn {ih:gV} (hI:qq P ih) {c:Code} {aN:Bool}:∀(j:Nat) {T:au af} {H:ai} {m:List Nat} {e:Exit} {aO:au af} {H':ai} {m':List Nat},(iter (ih c n aN) j T H m).out=some (e,aO,H',m')->H.next<=H'.next
 |0,_,_,_,_,_,_,_,h=>by cases h
 |j+1,T,H,m,e,aO,H',m',h=>by
  obtain⟨j',hj,e1,T1,H1,m1,h1,h2⟩:=E2 (j+1) h;cases hj;have a1:=hI.mono _ _ _ _ _ _ _ _ _ _ h1;rcases h2 with⟨_,h2⟩|⟨_,_,_,rfl,_⟩
  .exact c6 a1 (qn hI j h2)
  .exact a1
def Ro {Q:Exit->Act->World->Prop} {e:Exit} {a:Act} {w:World} {N:Act->World->Prop} (hn:e≠ .normal) (h:Q e a w):Exit.then N Q e a w:=by
 cases e<;>first |exact absurd rfl hn|exact h
def Rp {ih:gV} (hI:qq P ih) {c:Code} {aN:Bool} {rd:Option Nat} (hrd:rd.isSome=aN) {k:Nat} {Q:Exit->Act->World->Prop}:∀(j:Nat) {ρ:Env} {T:au af} {H:ai} {m:List Nat} {a:Act} {w:World} {e:Exit} {aO:au af} {H':ai} {m':List Nat},
  (iter (ih c n aN) j T H m).out=some (e,aO,H',m')->ez P B ρ n T H a w->eA ρ m a.defers->Fr ρ H.next H'.next->
  (∀ρ' a' w',ez P B ρ' n aO H' a' w'->bS ρ H w ρ' H' w'->eA ρ' m' a'.defers->Q e a' w')->Code.roundsIn (dO rd) k P c Q j a w
 |0,_,_,_,_,_,_,_,_,_,_,h,_,_,_,_=>by cases h
 |j+1,ρ,T,H,m,a,w,e,aO,H',m',h,aR,hD,hf,hQ=>by
  obtain⟨j',hj,e1,T1,H1,m1,h1,h2⟩:=E2 (j+1) h;cases hj;have hle:H1.next<=H'.next:=by
   rcases h2 with⟨_,h2⟩|⟨_,_,_,rfl,_⟩
   .exact qn hI j h2
   .exact aJ _
  refine hI.cw _ _ _ _ _ _ _ _ _ _ h1 B ρ a w rd k _ hrd aR hD (hf.mono' hle) fun cL a1 w1 r1 r2 r3=> ?_
  rcases h2 with⟨rfl,h2⟩|⟨hn,rfl,rfl,rfl,rfl⟩
  .exact Rp hI hrd j h2 r1 r3 (r2.fr hf) fun ρ' a' w' q1 aQ b8=>hQ ρ' a' w' q1 (r2.trans aQ) b8
  .exact Ro hn (hQ cL a1 w1 r1 r2 r3)
def E3 {m:List Nat} {r:eV} {e:Exit} {aO:au af} {H':ai} {m':List Nat} (h:(zE m r).out=some (e,aO,H',m')):r= .mk aO H'/\e= .normal/\m'=m:=by
 cases r with
 |no=>cases h
 |mk T1 H1=>cases h;exact⟨rfl,rfl,rfl⟩
def Rq {draw:oY} {ih:gV} {x:Code} {aN:Bool} {m:List Nat}:zF (.loop x) P draw ih n aN T H m=iter (ih x n aN) rounds T H m:=by
 unfold zF;simp only [Qm]
def abJ (hK:e7 P) {draw:oY} (hdr:∀d,xG P d (draw d)) {ih:gV} (hI:qq P ih):qq P (fun c=>zF c P draw ih) where
 mono c n aN T H m e aO H' m' h:=by
  have hC:=Cj hI;have hR:=wt hI;cases c with
  |skip=>cases h;exact aJ _
  |label l=>cases h;exact aJ _
  |exit id=>cases h;exact aJ _
  |goto l=>cases h;exact aJ _
  |ret=>cases h;exact aJ _
  |refuse why=>cases h
  |region id ops d=>
   obtain⟨h1,_,_⟩:=E3 h;exact(hdr d).mono _ _ hC hR _ _ _ _ _ _ h1
  |seq x y=>
   have h:(@R.rec (fun _=>R) .no (fun T H m=>ih y n aN T H m) .exit .goto .ret (ih x n aN T H m)).out=some (e,aO,H',m'):=h;cases hx:ih x n aN T H m with
   |no=>rw [hx]at h;cases h
   |normal T1 H1 m1=>rw [hx]at h;exact c6 (hI.mono x n aN T H m _ _ _ _ (by rw [hx];rfl)) (hI.mono _ _ _ _ _ _ _ _ _ _ h)
   |exit id T1 H1 m1=>rw [hx]at h;cases h;exact hI.mono x n aN T H m _ _ _ _ (by rw [hx];rfl)
   |goto l T1 H1 m1=>rw [hx]at h;cases h;exact hI.mono x n aN T H m _ _ _ _ (by rw [hx];rfl)
   |ret T1 H1 m1=>rw [hx]at h;cases h;exact hI.mono x n aN T H m _ _ _ _ (by rw [hx];rfl)
  |cond c x y=>
   have h:(@mU.rec (fun _=>R) .no (fun b=> @Bool.rec (fun _=>R) (ih y n aN T H m) (ih x n aN T H m) b) (gI (cm T c))).out=some (e,aO,H',m'):=h;cases hb:gI (cm T c)with
   |no=>rw [hb]at h;cases h
   |mk b=>rw [hb]at h;cases b<;>exact hI.mono _ _ _ _ _ _ _ _ _ _ h
  |block id x=>
   have h:(@R.rec (fun _=>R) .no .normal (fun i T H m=> @Bool.rec (fun _=>R) (.exit i T H m) (.normal T H m) (Nat.beq i id)) .goto .ret (ih x n aN T H m)).out=some (e,aO,H',m'):=h;cases hx:ih x n aN T H m with
   |no=>rw [hx]at h;cases h
   |normal T1 H1 m1=>rw [hx]at h;cases h;exact hI.mono x n aN T H m _ _ _ _ (by rw [hx];rfl)
   |exit i T1 H1 m1=>
    rw [hx]at h;simp only at h;cases hb:Nat.beq i id with
    |true=>rw [hb]at h;cases h;exact hI.mono x n aN T H m _ _ _ _ (by rw [hx];rfl)
    |false=>rw [hb]at h;cases h;exact hI.mono x n aN T H m _ _ _ _ (by rw [hx];rfl)
   |goto l T1 H1 m1=>rw [hx]at h;cases h;exact hI.mono x n aN T H m _ _ _ _ (by rw [hx];rfl)
   |ret T1 H1 m1=>rw [hx]at h;cases h;exact hI.mono x n aN T H m _ _ _ _ (by rw [hx];rfl)
  |loop x=>rw [Rq]at h;exact qn hI rounds h
  |rangeFunc f ps x y=>
   cases aN with
   |true=>cases h
   |false=>have:=Rn hI (P:=P) h;omega
  |scope x=>
   have h:(@R.rec (fun _=>R) .no .normal .exit (fun _ _ _ _=> .no) .ret (ih x n aN T H m)).out=some (e,aO,H',m'):=h;cases hx:ih x n aN T H m with
   |no=>rw [hx]at h;cases h
   |normal T1 H1 m1=>rw [hx]at h;cases h;exact hI.mono x n aN T H m _ _ _ _ (by rw [hx];rfl)
   |exit id T1 H1 m1=>rw [hx]at h;cases h;exact hI.mono x n aN T H m _ _ _ _ (by rw [hx];rfl)
   |goto l T1 H1 m1=>rw [hx]at h;cases h
   |ret T1 H1 m1=>rw [hx]at h;cases h;exact hI.mono x n aN T H m _ _ _ _ (by rw [hx];rfl)
 cw c n aN T H m e aO H' m' h B ρ a w rd k Q hrd aR hD hf hQ:=by
  have hC:=Cj hI;have hR:=wt hI;have here:∀{x:Code} {e1 T1 H1 m1},(ih x n aN T H m).out=some (e1,T1,H1,m1)->H1=H'->∀Q':Exit->Act->World->Prop,(∀ρ' a' w',ez P B ρ' n T1 H1 a' w'->bS ρ H w ρ' H1 w'->eA ρ' m1 a'.defers->Q' e1 a' w')->x.wpIn (dO rd) k P Q' a w:=
   fun h1 hh Q' hq=>hI.cw _ _ _ _ _ _ _ _ _ _ h1 B ρ a w rd k Q' hrd aR hD (by rw [hh];exact hf) hq
  cases c with
  |skip=>cases h;exact wpIn_skip (hQ ρ a w aR (bS.refl _ _ _) hD)
  |label l=>cases h;exact wpIn_label (hQ ρ a w aR (bS.refl _ _ _) hD)
  |exit id=>cases h;exact wpIn_exit (hQ ρ a w aR (bS.refl _ _ _) hD)
  |goto l=>cases h;exact wpIn_goto (hQ ρ a w aR (bS.refl _ _ _) hD)
  |ret=>cases h;exact wpIn_ret (hQ ρ a w aR (bS.refl _ _ _) hD)
  |refuse why=>cases h
  |region id ops d=>
   obtain⟨h1,rfl,rfl⟩:=E3 h;have J1:∀ρ' a' w',ez P B ρ' n aO H' a' w'->bS ρ H w ρ' H' w'->a'.defers=a.defers->Q .normal a' w':=fun ρ' a' w' r1 r2 r3=>hQ ρ' a' w' r1 r2 (by rw [r3];exact hD.mono r2.le)
   exact(hdr d).cw _ _ hC hR id _ _ _ _ _ _ h1 B ρ a w rd k Q aR hf J1
  |seq x y=>
   have h:(@R.rec (fun _=>R) .no (fun T H m=>ih y n aN T H m) .exit .goto .ret (ih x n aN T H m)).out=some (e,aO,H',m'):=h;refine wpIn_seq ?_;cases hx:ih x n aN T H m with
   |no=>rw [hx]at h;cases h
   |normal T1 H1 m1=>
    rw [hx]at h;have hle:=hI.mono _ _ _ _ _ _ _ _ _ _ h;refine hI.cw x n aN T H m _ _ _ _ (by rw [hx];rfl) B ρ a w rd k _ hrd aR hD (hf.mono' hle) fun cL a1 w1 r1 r2 r3=> ?_
    exact hI.cw _ _ _ _ _ _ _ _ _ _ h B cL a1 w1 rd k Q hrd r1 r3 (r2.fr hf) fun ρ' a' w' q1 aQ b8=>hQ ρ' a' w' q1 (r2.trans aQ) b8
   |exit id T1 H1 m1=>rw [hx]at h;cases h;exact here (x:=x) (by rw [hx];rfl) rfl _ hQ
   |goto l T1 H1 m1=>rw [hx]at h;cases h;exact here (x:=x) (by rw [hx];rfl) rfl _ hQ
   |ret T1 H1 m1=>rw [hx]at h;cases h;exact here (x:=x) (by rw [hx];rfl) rfl _ hQ
  |cond c x y=>
   have h:(@mU.rec (fun _=>R) .no (fun b=> @Bool.rec (fun _=>R) (ih y n aN T H m) (ih x n aN T H m) b) (gI (cm T c))).out=some (e,aO,H',m'):=h;cases hb:gI (cm T c)with
   |no=>rw [hb]at h;cases h
   |mk b=>
    rw [hb]at h;have hc:=nF aR.T aR.G c;rw [EG hb]at hc;refine wpIn_cond hc.cc ?_;cases b
    .exact hI.cw _ _ _ _ _ _ _ _ _ _ h B ρ a w rd k Q hrd aR hD hf hQ
    .exact hI.cw _ _ _ _ _ _ _ _ _ _ h B ρ a w rd k Q hrd aR hD hf hQ
  |block id x=>
   have h:(@R.rec (fun _=>R) .no .normal (fun i T H m=> @Bool.rec (fun _=>R) (.exit i T H m) (.normal T H m) (Nat.beq i id)) .goto .ret (ih x n aN T H m)).out=some (e,aO,H',m'):=h;refine wpIn_block ?_;cases hx:ih x n aN T H m with
   |no=>rw [hx]at h;cases h
   |normal T1 H1 m1=>rw [hx]at h;cases h;exact here (x:=x) (by rw [hx];rfl) rfl _ hQ
   |exit i T1 H1 m1=>
    rw [hx]at h;simp only at h;cases hb:Nat.beq i id with
    |true=>
     rw [hb]at h;cases h;have:=ac hb;subst this;exact here (x:=x) (by rw [hx];rfl) rfl _ fun ρ' a' w' r1 r2 r3=>by simp only [Exit.inBlock,if_true];exact hQ ρ' a' w' r1 r2 r3
    |false=>
     rw [hb]at h;cases h;have hne:i≠id:=fun hh=>by subst hh;rw [Nat.beq_refl]at hb;cases hb
     exact here (x:=x) (by rw [hx];rfl) rfl _ fun ρ' a' w' r1 r2 r3=>by simp only [Exit.inBlock,if_neg hne];exact hQ ρ' a' w' r1 r2 r3
   |goto l T1 H1 m1=>rw [hx]at h;cases h;exact here (x:=x) (by rw [hx];rfl) rfl _ hQ
   |ret T1 H1 m1=>rw [hx]at h;cases h;exact here (x:=x) (by rw [hx];rfl) rfl _ hQ
  |loop x=>rw [Rq]at h;exact wpIn_loop_rounds rounds (Rp hI hrd rounds h aR hD hf hQ)
  |rangeFunc f ps x y=>
   cases aN with
   |true=>cases h
   |false=>
    cases rd with
    |some l=>cases hrd
    |none=>exact abI hK hI h k aR hD hf hQ
  |scope x=>
   have h:(@R.rec (fun _=>R) .no .normal .exit (fun _ _ _ _=> .no) .ret (ih x n aN T H m)).out=some (e,aO,H',m'):=h;refine JP ?_;cases hx:ih x n aN T H m with
   |no=>rw [hx]at h;cases h
   |normal T1 H1 m1=>rw [hx]at h;cases h;exact here (x:=x) (by rw [hx];rfl) rfl _ hQ
   |exit id T1 H1 m1=>rw [hx]at h;cases h;exact here (x:=x) (by rw [hx];rfl) rfl _ hQ
   |goto l T1 H1 m1=>rw [hx]at h;cases h
   |ret T1 H1 m1=>rw [hx]at h;cases h;exact here (x:=x) (by rw [hx];rfl) rfl _ hQ
def J2 (hK:e7 P) {draw:oY} (hdr:∀d,xG P d (draw d)):∀fuel,qq P (qh P draw fuel)
 |0=>⟨(fun _ _ _ _ _ _ _ _ _ _ h=>by cases h),(fun _ _ _ _ _ _ _ _ _ _ h=>by cases h)⟩
 |f+1=>abJ hK hdr (J2 hK hdr f)
end
end
end Go.Proofs.YtibikmmdbdlafaaGreatDoor.Sv
