import Derived.Test.YtibikmmdbdlafaaGreatDoorZcGTr4
set_option linter.defProp false
set_option linter.unusedSectionVars false
set_option linter.unusedSimpArgs false
namespace Go.Proofs.YtibikmmdbdlafaaGreatDoor
open Go.RowKit Sv
noncomputable section
def N9:Value->Value->Bool
 | .int k a, .int k' b=>decide (k=k')&&decide (a=b)
 | .bool a, .bool b=>a==b
 | .string a, .string b=>decide (a=b)
 |_,_=>false
def sliceB (fresh:Bool) (H:ai) (i off n:Nat) (z:Bool) (u:av) (ys:List u.den):Bool:=match H.get i with
 |some (.cells _ cs _ _ false)=>(!fresh||u.lR)&&(match u.rM n (cut cs off (n*u.size))with
  |some ds=>av.beq (.list false u) ds ys&&(Nat.ble (off+n*u.size) cs.length&&(!z||Nat.ble 1 n))
  |none=>false)
 |_=>false
def D6 (fresh:Bool) (H:ai):aa->aa->Bool
 | .raw (.slice none 0 0), .bn _ _ ys=>ys.isEmpty
 | .raw a, .raw b=>N9 a b
 | .slice i off n _, .bn z u ys=>sliceB fresh H i off n z u ys
 |_,_=>false
def D7 (fresh:Bool) (H:ai):List aa->List aa->Bool
 |[],[]=>true
 |v::l,v'::l'=>D6 fresh H v v'&&D7 fresh H l l'
 |_,_=>false
def Oa (fresh:Bool) (H:ai):aa->aa->Bool
 | .agg l, .agg l'=>D7 fresh H l l'
 | .tuple l, .tuple l'=>D7 fresh H l l'
 |v,v'=>D6 fresh H v v'
def D8 (fresh:Bool) (H:ai):List aa->List aa->Bool
 |[],[]=>true
 |v::l,v'::l'=>Oa fresh H v v'&&D8 fresh H l l'
 |_,_=>false
def D9 (fresh:Bool) (H:ai):aa->aa->Bool
 | .agg l, .agg l'=>D8 fresh H l l'
 | .tuple l, .tuple l'=>D8 fresh H l l'
 |v,v'=>D6 fresh H v v'
def ang {fresh:Bool} {H:ai} {a b:Value} (h:N9 a b=true):cD fresh H (.raw a) (.raw b):=by
 unfold N9 at h;split at h
 .rename_i k x k' y;rw [ae]at h;have h1:=h.1;have h2:x=y:=ap h.2;unfold cD;show gY (decide (k=k')) (x=y);rw [h1];exact h2
 .rename_i x y;unfold cD;exact eq_of_beq h
 .rename_i x y;have h2:x=y:=ap h;unfold cD;exact h2
 .cases h
def Ob {fresh:Bool} {H:ai} {v v':aa} (h:D6 fresh H v v'=true):cD fresh H v v':=by
 unfold D6 at h;split at h
 .rename_i z t ys;unfold cD;exact List.isEmpty_iff.1 h
 .exact ang h
 .rename_i i off n cap z u ys;unfold cD;unfold sliceB at h;split at h
  .rename_i e cs ex fz hg;rw [ae]at h;rw [hg];simp only;rw [show(!fresh||u.lR)=true from h.1];show(match u.rM n (cut cs off (n*u.size))with |some ds=>ds=ys/\_|none=>False)
   cases hr:u.rM n (cut cs off (n*u.size))with
   |none=>rw [hr]at h;cases h.2
   |some ds=>
    rw [hr]at h;have h2:=h.2;simp only [ae]at h2;refine⟨av.Au (.list false u) h2.1, ?_⟩;rw [ae];exact h2.2
  .cases h
 .cases h
def Oc {fresh:Bool} {H:ai}:∀{l l':List aa},D7 fresh H l l'=true->um fresh H l l'
 |[],[],_=>trivial
 |[],_::_,h=>by cases h
 |_::_,[],h=>by cases h
 |v::l,v'::l',h=>by
  unfold D7 at h;rw [ae]at h;exact⟨Ob h.1,Oc h.2⟩
def anh {fresh:Bool} {H:ai} {v v':aa} (h:Oa fresh H v v'=true):cD fresh H v v':=by
 unfold Oa at h;split at h
 .unfold cD;exact Oc h
 .unfold cD;exact Oc h
 .exact Ob h
def rp {fresh:Bool} {H:ai}:∀{l l':List aa},D8 fresh H l l'=true->um fresh H l l'
 |[],[],_=>trivial
 |[],_::_,h=>by cases h
 |_::_,[],h=>by cases h
 |v::l,v'::l',h=>by
  unfold D8 at h;rw [ae]at h;exact⟨anh h.1,rp h.2⟩
def Od {fresh:Bool} {H:ai} {v v':aa} (h:D9 fresh H v v'=true):cD fresh H v v':=by
 unfold D9 at h;split at h
 .unfold cD;exact rp h
 .unfold cD;exact rp h
 .exact Ob h
def Oe {P:Program} {call:eC} (hc:bC P call) {f:FuncId} {args:List aa} {v:aa} {H':ai} {fresh:Bool} {res:aa} (h:call f args H0= .ok v H') (hr:cD fresh H' v res):Holds P fresh f args res:=by
 intro w F xs hF cv hd;have hH:aZ P w.heap.size F H0 w:=⟨fun i k h=>(by rw [show H0.get i=none from au.get_nil i]at h;cases h),fun i j eL eY b ci ck h=>(by rw [show H0.get i=none from au.get_nil i]at h;cases h),fun i k h=>(by rw [show H0.get i=none from au.get_nil i]at h;cases h),aI _,
  fun b A h=>⟨hF.fz b A h,fun i k c hi=>(by rw [show H0.get i=none from au.get_nil i]at hi;cases hi)⟩⟩
 refine(callsIn_wide.1 (hc.cx f args H0 v H' h w.heap.size F xs w 0 hH ⟨hF.all,cv⟩ hd fun i h1 _=> ?_)).mono ?_
 .have h1:64<=i:=h1;cases C4:F i with
  |none=>rfl
  |some x=>exact absurd (hF.pE i x C4) ω
 .rintro e w2 ⟨x,ρ,rfl,r1,r2,r3⟩;have hb:=r3.below hH;have hfz:∀b A,ρ.fz b=some A->F.fz b=some A\/w.heap.size<=b:=fun b A hb=>by
   rcases r3.nv b A hb with h|h|⟨i,k,c,h,_⟩
   .exact .inl h
   .exact .inr h
   .rw [show H0.get i=none from au.get_nil i]at h;cases h
  refine⟨x,C3 fresh w.heap.size w2 F,rfl,FV r2 hfz hr r1,⟨hF.pE,hF.all,fun b A hb'=> ?_⟩,fun b A hb'=> ?_,hb⟩
  .have hb':(if w.heap.size<=b then ko w2 b else if fresh then none else F.fz b)=some A:=hb';by_cases h0:w.heap.size<=b
   .rw [if_pos h0]at hb';exact oc.1 hb'
   .rw [if_neg h0]at hb';cases hfr:fresh with
    |true=>rw [hfr]at hb';cases hb'
    |false=>
     rw [hfr]at hb';obtain⟨e,fr,h3⟩:=hF.fz b A hb';exact⟨e,fr,(hb.block b ω).trans h3⟩
  .have hb':(if w.heap.size<=b then ko w2 b else if fresh then none else F.fz b)=some A:=hb';by_cases h0:w.heap.size<=b
   .exact .inr h0
   .rw [if_neg h0]at hb';cases hfr:fresh with
    |true=>rw [hfr]at hb';cases hb'
    |false=>rw [hfr]at hb';exact .inl ⟨rfl,hb'⟩
end
end Go.Proofs.YtibikmmdbdlafaaGreatDoor
