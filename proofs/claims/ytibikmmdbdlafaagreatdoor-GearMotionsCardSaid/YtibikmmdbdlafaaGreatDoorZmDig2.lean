import Derived.Test.YtibikmmdbdlafaaGreatDoorZmSvUse
import Derived.Lib.MakeNoZero
import Derived.Lib.ItoaNum
import Derived.Test.YtibikmmdbdlafaaGreatDoorRows
import Derived.LaidMore
import Derived.SevenTiedAt
import Derived.Shelf.Vars
import Derived.Lib.SmallJoins
set_option linter.defProp false
set_option linter.unusedVariables false
set_option linter.unusedSectionVars false
set_option maxRecDepth 100000
set_option linter.unusedSimpArgs false
namespace Go.Proofs.YtibikmmdbdlafaaGreatDoor.Sv
open Go.RowKit
section
variable [Ground]
noncomputable section
inductive cv:Type 1 where
 |b (x c:Bool)
 |e {α:Type} (x y:α)
 |o (P:Program) (m:Option Nat) (b:Option bq) (e:TypeId) (t:av) (xs:List t.den)
 |p (q:Prop)
def cv.ok:cv->Prop
 | .b x c=>x=c
 | .e x y=>x=y
 | .o P m k f t xs=>pw P m k f t xs
 | .p q=>q
def eJ:List cv->Prop
 |[]=>True
 |o::l=>o.ok/\eJ l
abbrev iN:={o:cv//o.ok}
def af {x c:Bool} (h:x=c):iN:=⟨.b x c,h⟩
def az {α:Type} {x y:α} (h:x=y):iN:=⟨.e x y,h⟩
def vN {q:Prop} (h:q):iN:=⟨.p q,h⟩
def o5 (P:Program) (e:TypeId) (t:av) {ys xs:List t.den} (h:ys=xs):iN:=⟨.o P none (some (.own e t ys)) e t xs,by subst h;simp [cv.ok,pw,rM,gZ,oX]⟩
def ah {p:Prop} [Decidable p] (h:p):iN:=af (ax h)
def aA {p:Prop} [Decidable p] (h:¬p):iN:=af (ab h)
def cW {α:Type} [BEq α] [LawfulBEq α] {a b:α} (h:a=b):iN:=af (gT.mpr h)
def yn {α:Type} [BEq α] [LawfulBEq α] {a b:α} (h:¬a=b):iN:=af (fF.mpr h)
def yi {r:Int} (h: -9223372036854775808<=r/\r<=9223372036854775807):iN:=af (br h)
def Rl:Nat->Nat->List Bool
 |0,_=>[]
 |k+1,n=>cond (Nat.ble n 1) [] (Nat.beq (n%2) 1::Rl k (n/2))
def dl (n:Nat):List Bool:=Rl n n
def cv.fix:cv->cv
 | .b _ c=> .b c c
 | .e x _=> .e x x
 | .o P _ _ f t xs=> .o P none (ba f t xs) f t xs
 | .p _=> .p True
def cv.Rm:cv->cv
 | .o P _ _ f t xs=> .o P none (some (.own f t xs)) f t xs
 |q=>q.fix
def E2:List iN->Nat->cv->cv
 |[],_,o=>o.fix
 |f::F,k,o=>cond (Nat.beq k 0) f.1 (E2 F (k-1) o)
def E3 (F:List iN):List cv->Nat->List cv
 |[],_=>[]
 |o::l,n=>cond (Nat.beq (n%64) 0) o.fix (cond (Nat.beq (n%64) 63) o.Rm (E2 F (n%64-1) o))::E3 F l (n/64)
theorem cv.Rn:∀o:cv,o.fix.ok
 | .b _ _=>rfl
 | .e _ _=>rfl
 | .o _ _ _ _ _ _=>aa8 _ _ _ _
 | .p _=>trivial
theorem cv.abx:∀o:cv,o.Rm.ok
 | .b _ _=>rfl
 | .e _ _=>rfl
 | .o P _ _ f t _=>(o5 P f t rfl).2
 | .p _=>trivial
theorem Ro:∀(F:List iN) (k:Nat) (o:cv),(E2 F k o).ok
 |[],_,o=>o.Rn
 |f::F,k,o=>by unfold E2;cases Nat.beq k 0<;>first |exact Ro F _ o|exact f.2
theorem Kb (F:List iN):∀(l:List cv) (n:Nat),eJ (E3 F l n)
 |[],_=>trivial
 |o::l,n=>⟨by cases Nat.beq (n%64) 0<;>cases Nat.beq (n%64) 63<;>first |exact o.Rn|exact o.abx|exact Ro F _ o,Kb F l _⟩
def aC.obs {α:Type} (w:Bool):aC α->List Bool->(α->List cv)->List cv
 | .ret a,_,q=>q a
 | .must b k,D,q=> .b b true::k.obs w D q
 | .ask b k,[],q=>(k b).obs w [] q
 | .ask b k,c::D,q=> .b b c::(k c).obs w D q
 | .opt b k l,D,q=> .b b (!w)::match w with |false=>k.obs w D q|true=>l.obs w D q
class Cl {α:Type} (Q:α->Prop) where
 xY:α->List cv
 ok:∀a,eJ (xY a)->Q a
instance (priority:=low) {α:Type} (Q:α->Prop):Cl Q:=⟨fun a=>[.p (Q a)],fun _ h=>h.1⟩
theorem aC.Cm {α:Type} {Q:α->Prop} {q:α->List cv} (hq:∀a,eJ (q a)->Q a):∀(x:aC α) (D:List Bool),eJ (x.obs false D q)->x.path D Q
 | .ret a,_,h=>hq a h
 | .must _ k,D,h=>⟨h.1,Cm hq k D h.2⟩
 | .ask b k,[],h=>Cm hq (k b) [] h
 | .ask _ k,c::D,h=>⟨h.1,Cm hq (k c) D h.2⟩
 | .opt _ k _,D,h=>⟨h.1,Cm hq k D h.2⟩
theorem aC.Cn {α:Type} {Q:α->Prop} {q:α->List cv} (hq:∀a,eJ (q a)->Q a):∀(x:aC α) (D:List Bool),eJ (x.obs true D q)->x.tI D Q
 | .ret a,_,h=>hq a h
 | .must _ k,D,h=>⟨h.1,Cn hq k D h.2⟩
 | .ask b k,[],h=>Cn hq (k b) [] h
 | .ask _ k,c::D,h=>⟨h.1,Cn hq (k c) D h.2⟩
 | .opt _ _ l,D,h=>⟨h.1,Cn hq l D h.2⟩
theorem wy {α:Type} {r:aC α} {D:List Bool} {Q:α->Prop} [I:Cl Q] (F:List iN) (n:Nat) (h:r.obs false D I.xY=E3 F (r.obs false D I.xY) n:=by kernel_rfl):r.path D Q:=aC.Cm I.ok r D (by rw [h];exact Kb F _ n)
theorem aby {α:Type} {r:aC α} {D:List Bool} {Q:α->Prop} [I:Cl Q] (F:List iN) (n:Nat) (h:r.obs true D I.xY=E3 F (r.obs true D I.xY) n:=by kernel_rfl):r.tI D Q:=aC.Cn I.ok r D (by rw [h];exact Kb F _ n)
def nf (b:Bool) (l:List cv):List cv:=match b with |true=>l|false=>[.p False]
def zZ (t u:av) (xs:List t.den) (ys:List u.den) (K:List cv):List cv:=if h:t=u then .e (h ▸ xs) ys::K else [.p False]
def Kc (z z':Bool) (n:Nat) (l:List cv):List cv:=match z',z with
 |true,false=> .b (Nat.ble 1 n) true::l
 |_,_=>l
def E4:Value->Value->List cv->List cv
 | .int k a, .int k' b,K=>nf (decide (k=k')) (.e a b::K)
 | .bool a, .bool b,K=> .e a b::K
 | .string a, .string b,K=> .e a b::K
 |a,b,K=> .e a b::K
def abz (m:Option Nat) (c c':aZ) (K:List cv):List cv:=match m with
 |none=> .e c c'::K
 |some m=> .e c (.known m):: .e c' (bJ m)::K
def Ke (σ:Ren) (i n:Nat) (c:aZ) (j n':Nat) (c':aZ) (K:List cv):List cv:=match look σ j with
 |some (i',m)=>nf (Nat.beq i i') (.e n n'::abz m c c' K)
 |none=>[.p False]
mutual
def Co (σ:Ren):aa->aa->List cv->List cv
 |_, .bot,K=>K
 | .raw (.slice none 0 0), .bR _ _ _ _ n _,K=> .e n 0::K
 | .raw (.slice none 0 0), .bh _ _ ys,K=> .e ys []::K
 | .raw a, .raw b,K=>E4 a b K
 | .ptr i off, .ptr j off',K=>nf (pv σ j i) (.e off off'::K)
 | .slice i off n c, .slice j off' n' c',K=>nf (pv σ j i) (.e off off':: .e n n':: .e c c'::K)
 | .slice i 0 n c, .bR _ _ j 0 n' c',K=>Ke σ i n c j n' c' K
 | .func f a b, .func f' a' b',K=>nf (decide (f=f')) (vO σ a a' (vO σ b b' K))
 | .map i, .map j,K=>nf (pv σ j i) K
 | .iface t v, .iface t' v',K=>nf (Nat.beq t t') (Co σ v v' K)
 | .agg l, .agg l',K=>vO σ l l' K
 | .tuple l, .tuple l',K=>vO σ l l' K
 | .bh z t xs, .bh z' u ys,K=>zZ t u xs ys (Kc z z' ys.length K)
 | .e9 t xs k off, .e9 u ys k' off',K=>zZ t u xs ys (.e k k':: .e off off'::K)
 | .bR e t i k n c, .bR e' u j k' n' c',K=>nf (Nat.beq e e'&&(decide (t=u)&&pv σ j i)) (.e k k':: .e n n':: .e c c'::K)
 | .dA e t i k off, .dA e' u j k' off',K=>nf (Nat.beq e e'&&(decide (t=u)&&pv σ j i)) (.e k k':: .e off off'::K)
 |_,_,_=>[.p False]
def vO (σ:Ren):List aa->List aa->List cv->List cv
 |[],[],K=>K
 |v::l,v'::l',K=>Co σ v v' (vO σ l l' K)
 |_,_,_=>[.p False]
end
theorem nw {b:Bool} {l:List cv} {p:Prop} {K:List cv} (h:eJ (nf b l)) (g:eJ l->p/\eJ K):gZ b p/\eJ K:=by
 cases b with
 |true=>exact g h
 |false=>exact h.1.elim
theorem z1 {t u:av} {xs:List t.den} {ys:List u.den} {K:List cv} (h:eJ (zZ t u xs ys K)):oX t u xs ys/\eJ K:=by
 unfold zZ at h;unfold oX;split at h
 .rename_i e;rw [dif_pos e];exact h
 .exact h.1.elim
theorem Rp {z z':Bool} {n:Nat} {K:List cv} {p:Prop} (g:p) (h:eJ (Kc z z' n K)):xt z z' n p/\eJ K:=by
 cases z'<;>cases z
 .exact⟨g,h⟩
 .exact⟨g,h⟩
 .exact⟨⟨g,h.1⟩,h.2⟩
 .exact⟨g,h⟩
theorem Kf {a b:Value} {K:List cv} (h:eJ (E4 a b K)):m8 a b/\eJ K:=by
 unfold E4 at h;unfold m8;split at h
 .exact nw h fun h=>h
 .exact h
 .exact h
 .rename_i h1 h2 h3;refine⟨?_,h.2⟩;split
  .exact(h1 _ _ _ _ rfl rfl).elim
  .exact(h2 _ _ rfl rfl).elim
  .exact(h3 _ _ rfl rfl).elim
  .exact h.1
theorem abA {σ:Ren} {i n:Nat} {c:aZ} {j n':Nat} {c':aZ} {K:List cv} (h:eJ (Ke σ i n c j n' c' K)):zU σ i n c j n' c'/\eJ K:=by
 unfold Ke at h;unfold zU;cases hl:look σ j with
 |none=>simp only [hl]at h;exact h.1.elim
 |some q=>
  simp only [hl]at h ⊢;refine nw h fun h=> ?_
  obtain⟨q1,aO⟩:=q;cases aO with
  |none=>exact⟨⟨h.1,h.2.1⟩,h.2.2⟩
  |some m=>exact⟨⟨h.1,h.2.1,h.2.2.1⟩,h.2.2.2⟩
mutual
theorem E5 {σ:Ren}:∀{v v':aa} {K:List cv},eJ (Co σ v v' K)->vI σ v v'/\eJ K:=by
 intro v v' K h;unfold Co at h;unfold vI;split at h
 .exact⟨trivial,h⟩
 .exact h
 .exact h
 .exact Kf h
 .exact nw h fun h=>h
 .exact nw h fun h=>⟨⟨h.1,h.2.1,h.2.2.1⟩,h.2.2.2⟩
 .exact abA h
 .exact nw h fun h=>by
   obtain⟨h1,h2⟩:=il h;obtain⟨h2,h3⟩:=il h2;exact⟨⟨h1,h2⟩,h3⟩
 .exact nw h fun h=>⟨trivial,h⟩
 .exact nw h fun h=>E5 h
 .exact il h
 .exact il h
 .exact Rp (z1 h).1 (z1 h).2
 .obtain⟨h1,h2⟩:=z1 h;exact⟨⟨h1,h2.1,h2.2.1⟩,h2.2.2⟩
 .exact nw h fun h=>⟨⟨h.1,h.2.1,h.2.2.1⟩,h.2.2.2⟩
 .exact nw h fun h=>⟨⟨h.1,h.2.1⟩,h.2.2⟩
 .exact h.1.elim
theorem il {σ:Ren}:∀{v v':List aa} {K:List cv},eJ (vO σ v v' K)->rL σ v v'/\eJ K:=by
 intro v v' K h;unfold vO at h;unfold rL;split at h
 .exact⟨trivial,h⟩
 .obtain⟨h1,h2⟩:=E5 h;obtain⟨h2,h3⟩:=il h2;exact⟨⟨h1,h2⟩,h3⟩
 .exact h.1.elim
end
def Kg (P:Program) (m:Option Nat) (b:Option bq) (e:TypeId) (t:av) (xs:List t.den) (K:List cv):List cv:=match b,m with
 |some (.own e' u ys),none=>nf (Nat.beq e e') (zZ u t ys xs K)
 |b,m=> .p (rM P m b e t xs)::K
def Kh (P:Program) (σ:Ren) (H:ai) (p:Nat×fG) (K:List cv):List cv:=match look σ p.1 with
 |none=>(match p.2 with | .opt _ _ xs=> .e xs []::K| .blk _=>[.p False])
 |some (i,m)=>match p.2 with
  | .opt e t xs=> .o P m (H.get i) e t xs::K
  | .blk (.own e t xs)=>Kg P m (H.get i) e t xs K
  | .blk (.cells e cs x f r)=>(match H.get i,m with
    |some (.cells e' cs' x' f' r'),none=>nf (Nat.beq e e'&&(x==x'&&(f==f'&&r==r'))) (vO σ cs' cs K)
    |_,_=>[.p False])
  | .blk _=>[.p False]
def Ki (σ:Ren) (T:aq aa) (K:List cv):List (Nat×aa)->List cv
 |[]=>K
 |p::l=>Co σ ((T.get p.1).getD (.raw undef)) p.2 (Ki σ T K l)
def E6 (P:Program) (σ:Ren) (H:ai):List (Nat×fG)->List cv
 |[]=>[]
 |p::l=>Kh P σ H p (E6 P σ H l)
def Kj (P:Program) (σ:Ren) (n:Nat) (T:aq aa) (H:ai) (s:bC):List cv:=
 nf (Nat.beq s.n n&&(vJ σ s.next&&(Q0 s.next s.bF&&(Q1 n s.sl&&Nat.ble 64 s.next)))) (Ki σ T (E6 P σ H s.bF) s.sl)
theorem abB {P:Program} {m:Option Nat} {b:Option bq} {e:TypeId} {t:av} {xs:List t.den} {K:List cv} (h:eJ (Kg P m b e t xs K)):rM P m b e t xs/\eJ K:=by
 unfold Kg at h;split at h
 .unfold rM;exact nw h fun h=>z1 h
 .exact h
theorem Rq {P:Program} {σ:Ren} {H:ai} {p:Nat×fG} {K:List cv} (h:eJ (Kh P σ H p K)):zV P σ H p/\eJ K:=by
 obtain⟨j,bF⟩:=p;unfold Kh at h;unfold zV;cases hl:look σ j with
 |none=>
  simp only [hl]at h ⊢;cases bF with
  |opt e t xs=>exact h
  |blk k=>exact h.1.elim
 |some q=>
  simp only [hl]at h ⊢;cases bF with
  |opt e t xs=>exact h
  |blk k=>cases k with
   |own e t xs=>exact abB h
   |cells e cs x f r=>
    simp only at h ⊢;split at h
    .rename_i g1 g2;rw [g1,g2];exact nw h fun h=>il h
    .exact h.1.elim
   |_=>exact h.1.elim
theorem Rr {P:Program} {σ:Ren} {n:Nat} {T:aq aa} {H:ai} {s:bC} (h:eJ (Kj P σ n T H s)):fit P σ n T H s:=by
 have h1:∀(l:List (Nat×fG)),eJ (E6 P σ H l)->Cb P σ H True l:=fun l=>by
  induction l with
  |nil=>exact fun h=>h
  |cons p l ih=>exact fun h=>⟨(Rq h).1,ih (Rq h).2⟩
 have h2:∀(l:List (Nat×aa)),eJ (Ki σ T (E6 P σ H s.bF) l)->EY σ T (Cb P σ H True s.bF) l:=fun l=>by
  induction l with
  |nil=>exact h1 _
  |cons p l ih=>exact fun h=>⟨(E5 h).1,ih (E5 h).2⟩
 unfold fit;exact(nw (K:=[]) h fun h=>⟨h2 _ h,trivial⟩).1
instance (P:Program) (n:Nat) (e:Exit) (σ:Ren) (s':bC):Cl (dP P n e σ s') where
 xY:=fun r=>match r with
  | .normal T H []=>(match e with | .normal=>Kj P σ n T H s'|_=>[.p False])
  | .exit id T H []=>(match e with | .exit i=>nf (Nat.beq i id) (Kj P σ n T H s')|_=>[.p False])
  |_=>[.p False]
 ok:=fun r h=>by
  unfold dP;split at h
  .split at h
   .exact Rr h
   .exact h.1.elim
  .split at h
   .exact(nw (K:=[]) h fun h=>⟨Rr h,trivial⟩).1
   .exact h.1.elim
  .exact h.1.elim
mutual
def E7 (fr:Bool) (H:ai):aa->aa->List cv->List cv
 | .raw (.slice none 0 0), .bh _ _ ys,K=> .e ys []::K
 | .raw a, .raw b,K=>E4 a b K
 | .bh z t xs, .bh z' u ys,K=>nf (!fr) (zZ t u xs ys (Kc z z' ys.length K))
 | .bR e t i k len c, .bh z u ys,K=> .p (cE fr H (.bR e t i k len c) (.bh z u ys))::K
 | .slice i off n c, .bh z u ys,K=> .p (cE fr H (.slice i off n c) (.bh z u ys))::K
 | .agg l, .agg l',K=>Cp fr H l l' K
 | .tuple l, .tuple l',K=>Cp fr H l l' K
 |_,_,_=>[.p False]
def Cp (fr:Bool) (H:ai):List aa->List aa->List cv->List cv
 |[],[],K=>K
 |v::l,v'::l',K=>E7 fr H v v' (Cp fr H l l' K)
 |_,_,_=>[.p False]
end
theorem abC {fr:Bool} {H:ai} {a b:Value} (h:m8 a b):cE fr H (.raw a) (.raw b):=by
 unfold cE;split
 .rename_i e;cases e
 .rename_i e1 e2;cases e1;cases e2;exact h
 all_goals first
  |(rename_i e _;cases e;done)
  |(rename_i g _ _ _ _ _;exact(g _ _ rfl rfl).elim)
mutual
theorem Rs {fr:Bool} {H:ai}:∀{v v':aa} {K:List cv},eJ (E7 fr H v v' K)->cE fr H v v'/\eJ K:=by
 intro v v' K h;unfold E7 at h;split at h
 .unfold cE;exact h
 .exact⟨abC (Kf h).1,(Kf h).2⟩
 .unfold cE;exact nw h fun h=>Rp (z1 h).1 (z1 h).2
 .exact h
 .exact h
 .unfold cE;exact te h
 .unfold cE;exact te h
 .exact h.1.elim
theorem te {fr:Bool} {H:ai}:∀{v v':List aa} {K:List cv},eJ (Cp fr H v v' K)->tL fr H v v'/\eJ K:=by
 intro v v' K h;unfold Cp at h;unfold tL;split at h
 .exact⟨trivial,h⟩
 .obtain⟨h1,h2⟩:=Rs h;obtain⟨h2,h3⟩:=te h2;exact⟨⟨h1,h2⟩,h3⟩
 .exact h.1.elim
end
instance (P:Program) (fn:Func) (fresh:Bool) (res:aa):Cl (tQ P fn fresh res) where
 xY:=fun r=>match r with
  | .ret T H []=>(match jS P fn T H with | .ok v _=>E7 fresh H v res []|_=>[.p False])
  |_=>[.p False]
 ok:=fun r h=>by
  split at h
  .show(match jS P fn _ _ with | .ok v _=>cE fresh _ v res|_=>False)
   split at h
   .exact(Rs h).1
   .exact h.1.elim
  .exact h.1.elim
end
end
section
variable [Ground]
noncomputable section
structure gK where
 f:FuncId
 e:TypeId
 t:av
 ps:List av
 rs:List av
 pre:List t.den->Nat->Nat->iu ps->Bool
 out:List t.den->Nat->Nat->iu ps->List t.den
 fn:List t.den->Nat->Nat->iu ps->iu rs
def qu (A:Nat->Option (Nat×Nat)) (Y:Nat->Option Obj):Ext:={rd:=none,K:=fun _=>none,R:=fun _ _=>False,pin:=[64],A:=A,Y:=Y}
def qv (e:TypeId) (t:av) (xs:List t.den):ai:=⟨zT .nil [(64, .blk (.own e t xs))],65⟩
def Cq (P:Program) (fn:Func) (e:TypeId) (t:av) (xs:List t.den) (res:aa):Exit->aq aa->ai->Prop:=fun ex T H=>match ex with
 | .normal| .ret=>(match jS P fn T H with | .ok v _=>cE true H v res/\H.get 64=some (.own e t xs)|_=>False)
 |_=>False
def Cr:List av->Bool
 |[]=>true
 |t::l=>t.lK&&Cr l
def gK.Ok (P:Program) (c:gK):Prop:=c.t.lK=true/\Cr c.rs=true/\∃fn code,P.funcs[c.f]? =some fn/\fn.body=some code/\c.ps.length+1<=fn.ntmps/\
 ∀(xs:List c.t.den) (k len:Nat) (cap:aZ) (d:iu c.ps),c.pre xs k len d=true->1<=len->k+len<=xs.length->∀A Y w F,
  bd (qu A Y) P w F fn.ntmps (fl code []) (de (.bR c.e c.t 64 k len cap::jY c.ps d) .nil 0) (qv c.e c.t xs) (Cq P fn c.e c.t (c.out xs k len d) (oc c.rs (c.fn xs k len d)))
def tf (c:gK) (args:List aa) (H:ai):aC aK:=match args with
 | .bR e t i k len _::vs=>(match Nat.beq e c.e&&decide (t=c.t)with
   |true=>tN H false (.ret .no) c.ps vs fun d=> .must (bz c.e c.t (H.get i) (k+len-1)&&Nat.ble 1 len) (.must (c.pre (bM c.t (H.get i)) k len d)
     (.ret (.ok (oc c.rs (c.fn (bM c.t (H.get i)) k len d)) (H.set i (.own c.e c.t (c.out (bM c.t (H.get i)) k len d))))))
   |false=> .ret .no)
 |_=> .ret .no
def v6 (l:List gK) (bw:bI):bI:=fun f args H=>match l with
 |[]=>bw f args H
 |c::l=>match Nat.beq f c.f with |true=>tf c args H|false=>v6 l bw f args H
section
variable {P:Program} {B:Nat} {ρ:Env} {H:ai} {w:World}
theorem Kk:∀(ts:List av) (d:iu ts),(jY ts d).length=ts.length
 |[],_=>rfl
 |_::l,d=>by simp [jY,Kk l d.2]
theorem abD {F F':Env} {t:av} (ht:t.lK=true) {d:t.den} {x:Value} (h:Den F (rN t d) x):Den F' (rN t d) x:=by
 cases ha:t.isAgg with
 |true=>
  unfold rN at h ⊢;rw [ha]at h ⊢;obtain⟨xs,g1,rfl⟩:=h.tj;exact .agg (xW t d xs ht g1)
 |false=>
  have h1:aF F (t.cells d) [x]:=by rw [Ck ha];exact .cons h .nil
  have h2:=xW (ρ':=F') t d _ ht h1;rw [Ck ha]at h2;cases h2 with |cons g _=>exact g
theorem Rt {F F':Env}:∀(ts:List av),Cr ts=true->∀{d:iu ts} {xs:List Value},aF F (jY ts d) xs->aF F' (jY ts d) xs
 |[],_,_,_,h=>by cases h;exact .nil
 |t::l,hn,d,_,h=>by
  have hn:(t.lK&&Cr l)=true:=hn;rw [ae]at hn;cases h with
  |cons h1 h2=>exact .cons (abD hn.1 h1) (Rt l hn.2 h2)
theorem abE {F F':Env} {rs:List av} (hn:Cr rs=true) {d:iu rs} {x:Value} (h:Den F (oc rs d) x):Den F' (oc rs d) x:=by
 have key:∀l,jY rs d=l->Den F (match l with |[v]=>v|vs=> .tuple vs) x->Den F' (match l with |[v]=>v|vs=> .tuple vs) x:=by
  intro l hl hd;have hds:∀xs,aF F l xs->aF F' l xs:=fun xs hx=>by rw [<-hl]at hx ⊢;exact Rt rs hn hx
  split at hd
  .rename_i v;have:=hds [x] (.cons hd .nil);cases this with |cons g _=>exact g
  .obtain⟨xs,g1,rfl⟩:=hd.BD;exact .tuple (hds _ g1)
 exact key _ rfl h
theorem lj {ρ ρ':Env} {t:av} (ht:t.lK=true) {xs:List t.den} {ys:List Value} (h:aF ρ (t.flat xs) ys):aF ρ' (t.flat xs) ys:=n9 (fun d ys=>xW t d ys ht) xs ys h
theorem z6 {e:TypeId} {t:av} {xs:List t.den} {i:Nat} {k:bq} (h:(qv e t xs).get i=some k):i=64/\k= .own e t xs:=by
 have h:(zT .nil [(64, .blk (.own e t xs))]).get i=some k:=h;rw [pC]at h;by_cases hi:i=64
 .subst hi;cases h;exact⟨rfl,rfl⟩
 .have hb:Nat.beq 64 i=false:=by
   cases hb:Nat.beq 64 i with
   |false=>rfl
   |true=>exact absurd (ac hb).symm hi
  simp only [List.find?,hb]at h;rw [aq.get_nil]at h;cases h
theorem abF {c:gK} {args:List aa} {v:aa} {H':ai} (h:(tf c args H).gr=some (.ok v H')):∃i k len cap vs xs d,args= .bR c.e c.t i k len cap::vs/\H.get i=some (.own c.e c.t xs)/\1<=len/\k+len<=xs.length/\c.pre xs k len d=true/\
  v=oc c.rs (c.fn xs k len d)/\H'=H.set i (.own c.e c.t (c.out xs k len d))/\(∀F xv,bf P B ρ H w->F=jA false w ρ->aF ρ vs xv->aF F (jY c.ps d) xv):=by
 unfold tf at h;split at h
 .rename_i e t i k len cap vs;split at h
  .rename_i he;rw [ae]at he;have e1:=ac he.1;have e2:=ap he.2;subst e1;subst e2;have main:∃d:iu c.ps,(aC.must (bz c.e c.t (H.get i) (k+len-1)&&Nat.ble 1 len) (.must (c.pre (bM c.t (H.get i)) k len d)
    (.ret (aK.ok (oc c.rs (c.fn (bM c.t (H.get i)) k len d)) (H.set i (.own c.e c.t (c.out (bM c.t (H.get i)) k len d))))))).gr=some (.ok v H')/\(∀F xv,bf P B ρ H w->F=jA false w ρ->aF ρ vs xv->aF F (jY c.ps d) xv):=by
    by_cases hH:bf P B ρ H w
    .obtain⟨d,h1,h2⟩:=mf (w:=w) hH (cF:=false) (no:=aC.ret aK.no) (b:=aK.ok v H') (by simp [aC.gr]) c.ps h;exact⟨d,h1,fun F xv _ hF hx=>by subst hF;exact h2 xv hx⟩
    .obtain⟨d,h1⟩:=Cj (cF:=false) (no:=aC.ret aK.no) (b:=aK.ok v H') (by simp [aC.gr]) c.ps h;exact⟨d,h1,fun F xv hh=>absurd hh hH⟩
   obtain⟨d,h1,h2⟩:=main;cases hm:(bz c.e c.t (H.get i) (k+len-1)&&Nat.ble 1 len)with
   |false=>rw [hm]at h1;cases h1
   |true=>
    rw [hm]at h1;rw [ae]at hm;obtain⟨b1,b2⟩:=vp hm.1;have b3:=bS hm.2;cases hp:c.pre (bM c.t (H.get i)) k len d with
    |false=>rw [hp]at h1;cases h1
    |true=>
     rw [hp]at h1;simp only [aC.gr,cond_true,sV,aK.ok.injEq]at h1;obtain⟨rfl,rfl⟩:=h1;exact⟨i,k,len,cap,vs,bM c.t (H.get i),d,rfl,b1,b3,by omega,hp,rfl,rfl,h2⟩
  .cases h
 .cases h
theorem abG {c:gK} (hc:c.Ok P) {args:List aa} {v:aa} {H':ai} (h:(tf c args H).gr=some (.ok v H')) {xs:List Value} (m:Nat) (hH:bf P B ρ H w) (cu:n7 ρ) (hd:aF ρ args xs):CallsIn (dO none) m P c.f xs.toArray w (mC P B ρ H w v H'):=by
 obtain⟨i,k,len,cap,vs,us,d,rfl,hi,hlen,hk,hp,rfl,rfl,hvs⟩:=abF (P:=P) (B:=B) (ρ:=ρ) (w:=w) h;obtain⟨vP,hrl,fn,code,hf,hb,hn,hbody⟩:=hc;cases hd with
 |cons Cs hds=>
  rename_i x0 xr;rcases Cs.jv with⟨h0,_⟩|⟨b,c0,kc,hr,hcap,hlk,rfl⟩
  .omega
  obtain⟨b',c',o,e1,e2,e3,bU⟩:=hH.blk i _ hi;rw [hr]at e1;cases e1;have lF:b<w.heap.size:=(cV.1 e2).1
  let xZ:Env:=⟨fun j=>if j<64 then ρ j else if j=64 then some (b,c0)else none,ρ.fz⟩
  let A:Nat->Option (Nat×Nat):=fun j=>if j=64 then some (b,c0)else none
  let Y:Nat->Option Obj:=fun q=>if q=b then none else w.heap[q]?
  let w0:World:={w with heap:=w.heap.extract 0 b}
  have hw0:w0.heap.size=b:=by show(w.heap.extract 0 b).size=b;simp;omega
  have jz:xZ 64=some (b,c0):=rfl;have hown:∀dX:Env,dX 64=some (b,c0)->∀o,gF P ρ i (.own c.e c.t us) o->gF P dX 64 (.own c.e c.t us) o:=by
   rintro dX h2 o ⟨⟨zs,fz,g1,g2,g3,g4,g5⟩,g6⟩;refine⟨⟨zs,fz,g1,g2,lj vP g3,g4,fun hx=> ?_⟩,g6⟩;obtain⟨b1,c1,q1,aO⟩:=g5 hx;rw [hr]at q1;cases q1;exact⟨b,c0,h2,aO⟩
  have Kl:bf P b xZ (qv c.e c.t us) w:=by
   refine⟨fun j q hj=> ?_,fun j j' q q' bb cj E8 hj hj' _ _=> ?_,fun j q hj=> ?_,Nat.le_of_lt lF,fun bb jZ hz=> ?_⟩
   .obtain⟨rfl,rfl⟩:=z6 hj;exact⟨b,c0,o,rfl,e2,hown _ rfl _ e3,fun _=>aG _⟩
   .rw [(z6 hj).1,(z6 hj').1]
   .rw [(z6 hj).1];exact e8 _
   .refine⟨(hH.fz bb jZ hz).1,fun j q cj hj hr'=> ?_⟩;obtain⟨rfl,rfl⟩:=z6 hj;rw [jz]at hr';cases hr';exact(hH.fz _ jZ hz).2 i _ c0 hi hr
  have abH:aF xZ (.bR c.e c.t 64 k len cap::jY c.ps d) (.slice (some ⟨b,k*c.t.size,none⟩) len kc::xr):=by
   refine .cons (.bR jz hcap hlk) (aF.mono (ρ:=jA false w ρ) (ρ':=xZ) ⟨fun j x hj=> ?_,fun _ _ h=>h⟩ (hvs _ xr hH rfl hds));have hj:(if j<64 then ρ j else none)=some x:=hj;by_cases h6:j<64
   .rw [if_pos h6]at hj;show(if j<64 then ρ j else _)=some x;rw [if_pos h6];exact hj
   .rw [if_neg h6]at hj;cases hj
  have hs:mG (qu A Y) P w0 xZ fn.ntmps (de (.bR c.e c.t 64 k len cap::jY c.ps d) .nil 0) (qv c.e c.t us) {tmps:=(Value.slice (some ⟨b,k*c.t.size,none⟩) len kc::xr).toArray++Array.replicate (fn.ntmps-(Value.slice (some ⟨b,k*c.t.size,none⟩) len kc::xr).toArray.size) undef,defers:=[]} w:=by
   refine⟨⟨xZ,⟨BO abH (by simp [Kk];omega),by rw [hw0];exact Kl,fun g hg=> ?_,cu.zC⟩,fun j hj=> ?_,fun bb jZ hz=> .inl hz,⟨fun bb kn h=>(by cases h),fun j hj=> ?_,fun bb jZ h=>(by cases h),Nat.zero_le _,fun bb kn h=>(by cases h),rfl,fun bb kn hy=> ?_⟩⟩,⟨rfl,rfl,rfl,by rw [hw0];exact Nat.le_of_lt lF,fun q hq=> ?_⟩,rfl⟩
   .obtain⟨Km,Kn⟩:=cu.at' g hg;exact⟨Km,by show(if g<64 then ρ g else _)=_;rw [if_pos hg];exact Kn⟩
   .have hj:65<=j:=hj;show(if j<64 then ρ j else if j=64 then some (b,c0)else none)=none;rw [if_neg (by omega),if_neg (by omega)]
   .have hj:j∈[64]:=hj;rw [List.mem_singleton]at hj;subst hj;exact⟨e8 _,fun x hx=>hx⟩
   .have hy:(if bb=b then none else w.heap[bb]?)=some kn:=hy;by_cases hbb:bb=b
    .rw [if_pos hbb]at hy;cases hy
    .rw [if_neg hbb]at hy;refine⟨hy,fun⟨j,q,cj,hj,_,hr'⟩=> ?_⟩;obtain⟨rfl,rfl⟩:=z6 hj;rw [jz]at hr';cases hr';exact hbb rfl
   .have hq:q<b:=by rw [<-hw0];exact hq
    show w.heap[q]? =(w.heap.extract 0 b)[q]?;rw [Array.getElem?_extract];rw [if_pos (by omega)];simp
  refine callsIn_of_wp_marks hf hb trivial (wpIn_mono (vM (by have:=hbody us k len cap d hp hlen hk A Y w0 xZ;rwa [fl,Ka]at this) _ _ hs m) fun e a' w' hh=> ?_);obtain⟨aM,H1,h1,h2⟩:=hh.resolve_right fun q=>q.2
  obtain⟨dX,aQ,hnone,hfz,hkp⟩:=h2.ex;have hd':=h2.defers;have key:(match jS P fn aM H1 with | .ok v _=>cE true H1 v (oc c.rs (c.fn us k len d))/\H1.get 64=some (.own c.e c.t (c.out us k len d))|_=>False)->LeavesInM (dO none) m P fn a'.tmps (mC P B ρ H w (oc c.rs (c.fn us k len d)) (H.set i (.own c.e c.t (c.out us k len d)))) a'.defers .returning w':=by
   intro tS;split at tS
   .rename_i v1 H2 hres;obtain⟨kQ,hr2⟩:=tS;have nt:ez dX [] a'.defers:=hd';refine xI (T:=aM) (H:=H1) [] aQ nt (show j9 P fn aM H1 []= .ok v1 H2 from hres) fun y w2 r1 r2 r3=> ?_
    obtain⟨rfl,_⟩:=Ew aQ hres;have hk2:=J0 hkp r3;have Ru:dX 64=some (b,c0):=(hk2.pin 64 (List.mem_singleton.2 rfl)).2 (b,c0) rfl;have ij:=h2.below.trans (r3.below aQ.H);have hsz:w.heap.size<=w2.heap.size:=by
     by_cases hz:w.heap.size=b+1
     .obtain⟨b1,c1,o1,q1,aO,_⟩:=r2.blk 64 _ hr2;rw [Ru]at q1;cases q1;have:=(cV.1 aO).1;omega
     .have hy:=hk2.y (w.heap.size-1) _ (show(if w.heap.size-1=b then none else w.heap[w.heap.size-1]?)=some (w.heap[w.heap.size-1]'(by omega)) by rw [if_neg (by omega)];simp);have:=(cV.1 hy.1).1;omega
    have hkeep:∀q,q<w.heap.size->q≠b->w2.heap[q]? =w.heap[q]? :=fun q hq fN=>by
     have hy:=hk2.y q _ (show(if q=b then none else w.heap[q]?)=some (w.heap[q]'hq) by rw [if_neg fN];simp [hq]);rw [hy.1];simp [hq]
    have hnf:∀bb jZ,ρ.fz bb=some jZ->bb≠b/\bb<w.heap.size:=fun bb jZ hz=>by
     obtain⟨⟨ee,fr,q1⟩,aO⟩:=hH.fz bb jZ hz;refine⟨fun hbb=> ?_,(cV.1 q1).1⟩;subst hbb;have:=aO i _ c0 hi hr;cases this
    have vQ:∀j q,(H.set i (.own c.e c.t (c.out us k len d))).get j=some q->∃q',H.get j=some q'/\q'.eL=q.eL:=fun j q hj=>by
     rw [ai.fU]at hj;by_cases hij:i=j
     .subst hij;rw [if_pos rfl]at hj;cases hj;exact⟨_,hi,rfl⟩
     .rw [if_neg hij]at hj;exact⟨q,hj,rfl⟩
    refine⟨y,ρ,rfl,abE hrl (E1 r2 hfz kQ r1),⟨fun j q hj=> ?_,fun j j' q q' bb cj E8 hj hj' gI abI=> ?_,fun j q hj=> ?_,cX hH.base hsz,fun bb jZ hz=> ?_⟩,
     ⟨cB.refl _,fun _ _=>rfl,aG _,hsz,ij.os,ij.tape,ij.output,fun q hq hno=> ?_,fun q hq ⟨j,aO,cj,hj,hro,gI⟩=> ?_,fun q hq ⟨j,aO,cj,hj,gI⟩=> ?_,fun _ _ h=> .inl h⟩⟩
    .rw [ai.fU]at hj;by_cases hij:i=j
     .subst hij;rw [if_pos rfl]at hj;cases hj;obtain⟨b1,c1,o1,q1,aO,⟨⟨zs,fz,g1,g2,g3,g4,g5⟩,g6⟩,_⟩:=r2.blk 64 _ hr2;have g5:=g5 rfl;rw [Ru]at q1 g5;cases q1;refine⟨b,c0,o1,hr,aO,⟨⟨zs,fz,g1,g2,lj vP g3,g4,fun _=> ?_⟩,g6⟩,fun _=>bU rfl⟩;obtain⟨b3,c3,k1,k2⟩:=g5;cases k1;exact⟨b,c0,hr,k2⟩
     .rw [if_neg hij]at hj;obtain⟨bj,cj,oj,p1,p2,p3,dY⟩:=hH.blk j q hj;have hne:bj≠b:=fun hbb=>hij (hH.inj i j _ _ b c0 cj hi hj hr (by rw [<-hbb];exact p1))
      exact⟨bj,cj,oj,p1,(hkeep bj (cV.1 p2).1 hne).trans p2,p3,dY⟩
    .obtain⟨q1,g1,_⟩:=vQ j q hj;obtain⟨aO,g2,_⟩:=vQ j' q' hj';exact hH.inj j j' _ _ bb cj E8 g1 g2 gI abI
    .obtain⟨q1,g1,_⟩:=vQ j q hj;exact hH.lt j _ g1
    .obtain⟨hnb,hlt⟩:=hnf bb jZ hz;obtain⟨⟨ee,fr,q1⟩,aO⟩:=hH.fz bb jZ hz;refine⟨⟨ee,fr,(hkeep bb hlt hnb).trans q1⟩,fun j q cj hj gI=> ?_⟩;obtain⟨q',g1,g2⟩:=vQ j q hj;rw [<-g2];exact aO j q' cj g1 gI
    .exact hkeep q hq fun fN=>hno ⟨i,_,c0,hi,rfl,by rw [fN];exact hr⟩
    .obtain⟨q',g1,g2⟩:=vQ j aO hj;exact⟨j,q',cj,g1,g2.trans hro,gI⟩
    .obtain⟨q',g1,_⟩:=vQ j aO hj;exact⟨j,q',cj,g1,gI⟩
   .exact tS.elim
  cases e with
  |normal=>exact key h1
  |ret=>exact key h1
  |_=>exact h1.elim
theorem Ko {bw:bI} {f:FuncId} {args:List aa} {v:aa} {H':ai}:∀{l:List gK},(v6 l bw f args H).gr=some (.ok v H')->(∃c∈l,c.f=f/\(tf c args H).gr=some (.ok v H'))\/(bw f args H).gr=some (.ok v H')
 |[],h=> .inr h
 |c::l,h=>by
  unfold v6 at h;cases hb:Nat.beq f c.f with
  |true=>simp only [hb]at h;exact .inl ⟨c,kK,(ac hb).symm,h⟩
  |false=>
   simp only [hb]at h;rcases Ko h with⟨c',h1,h2⟩|h1
   .exact .inl ⟨c',j8 _ h1,h2⟩
   .exact .inr h1
theorem CM {c:gK} {args:List aa} {v:aa} {H':ai} (h:(tf c args H).gr=some (.ok v H')):H'.next=H.next:=by
 unfold tf at h;split at h
 .rename_i e t i k len cap vs;split at h
  .obtain⟨d,h1⟩:=Cj (cF:=false) (no:=aC.ret aK.no) (b:=aK.ok v H') (by simp [aC.gr]) c.ps h;cases hm:(bz c.e c.t (H.get i) (k+len-1)&&Nat.ble 1 len)with
   |false=>rw [hm]at h1;cases h1
   |true=>
    rw [hm]at h1;cases hp:c.pre (bM c.t (H.get i)) k len d with
    |false=>rw [hp]at h1;cases h1
    |true=>
     rw [hp]at h1;simp only [aC.gr,cond_true,sV,aK.ok.injEq]at h1;obtain⟨_,rfl⟩:=h1;rfl
  .cases h
 .cases h
theorem Rv {l:List gK} {bw:bI} (hl:∀c∈l,c.Ok P) (hS:bD P (bG bw)):bD P (bG (v6 l bw)) where
 mono f args H v H' h:=by
  rcases Ko (rO h)with⟨c,_,_,h3⟩|h3
  .rw [CM h3];exact aG _
  .exact hS.mono f args H v H' (by unfold bG;rw [h3];rfl)
 cy f args H v H' h B ρ xs w m hH cu hd hf:=by
  rcases Ko (rO h)with⟨c,h1,rfl,h3⟩|h3
  .exact abG (hl c h1) h3 m hH cu hd
  .exact hS.cy f args H v H' (by unfold bG;rw [h3];rfl) B ρ xs w m hH cu hd hf
structure tT where
 f:FuncId
 res:List aa->aC (Option aa)
def tT.Ok (P:Program) (c:tT):Prop:=∀args v,(c.res args).gr=some (some v)->∀(w:World) (F:Env) (xs:List Value),(∀b A,F.fz b=some A->∃e fr,w.heap[b]? =some (.cells A e fr))->vK F->aF F args xs->
 Calls P c.f xs.toArray w fun e w'=>∃x,e= .returned x/\Den F v x/\Below w.heap.size w w'
def Ct (c:tT) (args:List aa) (H:ai):aC aK:=(c.res args).bind fun r=>match r with |some v=> .ret (.ok v H)|none=> .ret .no
def Cu (l:List tT) (bw:bI):bI:=fun f args H=>match l with
 |[]=>bw f args H
 |c::l=>match Nat.beq f c.f with |true=>Ct c args H|false=>Cu l bw f args H
theorem Rw {c:tT} {args:List aa} {v:aa} {H':ai} (h:(Ct c args H).gr=some (.ok v H')):H'=H/\(c.res args).gr=some (some v):=by
 unfold Ct at h;rw [aC.qo]at h;cases hr:(c.res args).gr with
 |none=>rw [hr]at h;cases h
 |some r=>
  rw [hr]at h;cases r with
  |none=>cases h
  |some v'=>cases h;exact⟨rfl,rfl⟩
theorem abJ {c:tT} (hc:c.Ok P) {args:List aa} {v:aa} {H':ai} (h:(Ct c args H).gr=some (.ok v H')) {xs:List Value} (m:Nat) (hH:bf P B ρ H w) (cu:n7 ρ) (hd:aF ρ args xs):CallsIn (dO none) m P c.f xs.toArray w (mC P B ρ H w v H'):=by
 obtain⟨rfl,h1⟩:=Rw h;have J5:=hc args v h1 w ρ xs (fun b A hb=>(hH.fz b A hb).1) cu.zC hd;have hin:CallsIn (dO none) m P c.f xs.toArray w _:=callsIn_wide.2 J5;refine hin.mono ?_;rintro e w' ⟨x,rfl,hx,hb⟩;have hkeep:∀b o,w.heap[b]? =some o->w'.heap[b]? =some o:=fun b o ho=>(hb.block b (cV.1 ho).1).trans ho
 refine⟨x,ρ,rfl,hx,⟨fun i k hi=> ?_,hH.inj,hH.lt,cX hH.base hb.size,fun b A kj=> ?_⟩,⟨cB.refl _,fun _ _=>rfl,aG _,hb.size,hb.os,hb.tape,hb.output,fun b hlt _=>hb.block b hlt,fun _ _ h=>h,fun _ _ h=>h,fun b A kj=> .inl kj⟩⟩
 .obtain⟨b,c',o,e1,e2,e3,bU⟩:=hH.blk i k hi;exact⟨b,c',o,e1,hkeep b o e2,e3,bU⟩
 .obtain⟨⟨e,fr,h3⟩,h4⟩:=hH.fz b A kj;exact⟨⟨e,fr,hkeep b _ h3⟩,h4⟩
theorem Kq {bw:bI} {f:FuncId} {args:List aa} {v:aa} {H':ai}:∀{l:List tT},(Cu l bw f args H).gr=some (.ok v H')->(∃c∈l,c.f=f/\(Ct c args H).gr=some (.ok v H'))\/(bw f args H).gr=some (.ok v H')
 |[],h=> .inr h
 |c::l,h=>by
  unfold Cu at h;cases hb:Nat.beq f c.f with
  |true=>simp only [hb]at h;exact .inl ⟨c,kK,(ac hb).symm,h⟩
  |false=>
   simp only [hb]at h;rcases Kq h with⟨c',h1,h2⟩|h1
   .exact .inl ⟨c',j8 _ h1,h2⟩
   .exact .inr h1
theorem abK {l:List tT} {bw:bI} (hl:∀c∈l,c.Ok P) (hS:bD P (bG bw)):bD P (bG (Cu l bw)) where
 mono f args H v H' h:=by
  rcases Kq (rO h)with⟨c,_,_,h3⟩|h3
  .rw [(Rw h3).1];exact aG _
  .exact hS.mono f args H v H' (by unfold bG;rw [h3];rfl)
 cy f args H v H' h B ρ xs w m hH cu hd hf:=by
  rcases Kq (rO h)with⟨c,h1,rfl,h3⟩|h3
  .exact abJ (hl c h1) h3 m hH cu hd
  .exact hS.cy f args H v H' (by unfold bG;rw [h3];rfl) B ρ xs w m hH cu hd hf
end
end
end
section
variable [Ground]
noncomputable section
structure qw where
 f:FuncId
 e:TypeId
 t:av
 ps:List av
 pre:iu ps->Bool
 out:iu ps->List t.den
def Kr (P:Program) (fn:Func) (e:TypeId) (t:av) (xs:List t.den):Exit->aq aa->ai->Prop:=fun ex T H=>match ex with
 | .normal| .ret=>(match jS P fn T H with
   | .ok (.bR e' t' i k n cap) _=>e'=e/\k=0/\n=xs.length/\cap= .full/\t'=t/\H.get i=some (.own e t xs)
   |_=>False)
 |_=>False
def qw.Ok (P:Program) (c:qw):Prop:=c.t.lK=true/\∃fn code,P.funcs[c.f]? =some fn/\fn.body=some code/\c.ps.length<=fn.ntmps/\
 ∀d:iu c.ps,c.pre d=true->1<=(c.out d).length/\∀w F,aP P w F fn.ntmps (fl code []) (de (jY c.ps d) .nil 0) H0 (Kr P fn c.e c.t (c.out d))
def E9 (c:qw) (args:List aa) (H:ai):aC aK:=tN H false (.ret .no) c.ps args fun d=> .must (c.pre d) (.ret (.ok (.bR c.e c.t H.next 0 (c.out d).length .full) (H.new (.own c.e c.t (c.out d)))))
def Cv (l:List qw) (bw:bI):bI:=fun f args H=>match l with
 |[]=>bw f args H
 |c::l=>match Nat.beq f c.f with |true=>E9 c args H|false=>Cv l bw f args H
section
variable {P:Program} {B:Nat} {ρ:Env} {H:ai} {w:World}
theorem abL {c:qw} {args:List aa} {v:aa} {H':ai} (h:(E9 c args H).gr=some (.ok v H')):H'.next=H.next+1:=by
 obtain⟨d,h1⟩:=Cj (cF:=false) (no:=aC.ret aK.no) (b:=aK.ok v H') (by simp [aC.gr]) c.ps h;cases hp:c.pre d with
 |false=>rw [hp]at h1;cases h1
 |true=>rw [hp]at h1;cases h1;rfl
theorem abM {c:qw} (hc:c.Ok P) {args:List aa} {v:aa} {H':ai} (h:(E9 c args H).gr=some (.ok v H')) {xs:List Value} (m:Nat) (hH:bf P B ρ H w) (cu:n7 ρ) (hd:aF ρ args xs) (hfr:Fr ρ H.next H'.next):CallsIn (dO none) m P c.f xs.toArray w (mC P B ρ H w v H'):=by
 obtain⟨vP,fn,code,hf,hb,hn,hbody⟩:=hc;obtain⟨d,h1,h2⟩:=mf (w:=w) hH (cF:=false) (no:=aC.ret aK.no) (b:=aK.ok v H') (by simp [aC.gr]) c.ps h;have hp:c.pre d=true/\v= .bR c.e c.t H.next 0 (c.out d).length .full/\H'=H.new (.own c.e c.t (c.out d)):=by
  cases hp:c.pre d with
  |false=>rw [hp]at h1;cases h1
  |true=>rw [hp]at h1;cases h1;exact⟨rfl,rfl,rfl⟩
 obtain⟨hp,rfl,rfl⟩:=hp;obtain⟨hlen,hgo⟩:=hbody d hp;have hds:=h2 xs hd;have Fa:∀i x,(jA false w ρ) i=some x->i<64:=fun i x hx=>by
  have hx:(if i<64 then ρ i else none)=some x:=hx;by_cases h:i<64
  .exact h
  .rw [if_neg h]at hx;cases hx
 have Kl:bf P w.heap.size (jA false w ρ) H0 w:=⟨fun i k h=>(by rw [show H0.get i=none from aq.get_nil i]at h;cases h),fun i j eC eR b ci cj h=>(by rw [show H0.get i=none from aq.get_nil i]at h;cases h),fun i k h=>(by rw [show H0.get i=none from aq.get_nil i]at h;cases h),aG _,
  fun b A h=>⟨(hH.fz b A h).1,fun i k c hi=>(by rw [show H0.get i=none from aq.get_nil i]at hi;cases hi)⟩⟩
 have hs:Sat P w (jA false w ρ) fn.ntmps (de (jY c.ps d) .nil 0) H0 {tmps:=xs.toArray++Array.replicate (fn.ntmps-xs.toArray.size) undef,defers:=[]} w:=by
  refine⟨⟨jA false w ρ,⟨BO hds (by rw [Kk];exact hn),Kl,fun g hg=> ?_,cu.zC⟩,fun i hi=> ?_,fun b A h=> .inl h,⟨fun b o h=>(by cases h),fun i hi=>(by cases hi),fun b A h=>(by cases h),Nat.zero_le _,fun b o h=>(by cases h),rfl,fun b o h=>(by cases h)⟩⟩,Below.refl _ _,rfl⟩
  .obtain⟨Km,Kn⟩:=cu.at' g hg;exact⟨Km,by show(if g<64 then ρ g else none)=_;rw [if_pos hg];exact Kn⟩
  .have hi:64<=i:=hi;cases Cg:(jA false w ρ) i with
   |none=>rfl
   |some x=>exact absurd (Fa i x Cg) (by omega)
 refine callsIn_of_wp_marks hf hb trivial (wpIn_mono (vM (by have:=hgo w (jA false w ρ);rwa [fl,Ka]at this) _ _ hs m) fun e a' w' hh=> ?_);obtain⟨aM,H1,g1,g2⟩:=hh.resolve_right fun q=>q.2
 obtain⟨dX,aQ,hnone,hfz,_⟩:=g2.ex;have hd':=g2.defers;have key:(match jS P fn aM H1 with | .ok (.bR e' t' i k n cap) _=>e'=c.e/\k=0/\n=(c.out d).length/\cap= .full/\t'=c.t/\H1.get i=some (.own c.e c.t (c.out d))|_=>False)->LeavesInM (dO none) m P fn a'.tmps (mC P B ρ H w (.bR c.e c.t H.next 0 (c.out d).length .full) (H.new (.own c.e c.t (c.out d)))) a'.defers .returning w':=by
  intro hr;split at hr
  .rename_i e' t' i k n cap H2 hres;obtain⟨rfl,rfl,rfl,rfl,rfl,vQ⟩:=hr;have nt:ez dX [] a'.defers:=hd';refine xI (T:=aM) (H:=H1) [] aQ nt (show j9 P fn aM H1 []= .ok _ H2 from hres) fun y w2 r1 r2 r3=> ?_
   obtain⟨rfl,_⟩:=Ew aQ hres;have ij:=g2.below.trans (r3.below aQ.H);rcases r1.jv with⟨h0,_⟩|⟨b,c0,kc,q1,aO,bV,rfl⟩
   .omega
   obtain⟨b',c',o,e1,e2,e3,bU⟩:=r2.blk i _ vQ;rw [q1]at e1;cases e1;have hB:w.heap.size<=b:=bU rfl;have hkeep:∀q,q<w.heap.size->w2.heap[q]? =w.heap[q]? :=fun q hq=>ij.block q hq
   have hnx:ρ H.next=none:=hfr H.next (aG _) (e8 _)
   let ρ':Env:=⟨fun j=>if j=H.next then some (b,c0)else ρ j,ρ.fz⟩
   have hnew:ρ' H.next=some (b,c0):=if_pos rfl;have hold:∀j,j≠H.next->ρ' j=ρ j:=fun j hj=>if_neg hj
   have hle:cB ρ ρ':=⟨fun j x hj=>by
    by_cases hjn:j=H.next
    .rw [hjn,hnx]at hj;cases hj
    .rw [hold j hjn];exact hj,fun _ _ h=>h⟩
   have ash:∀j,H.get j≠none->j≠H.next:=fun j hj hjn=>by
    cases hg:H.get j with
    |none=>exact hj hg
    |some k=>have:=hH.lt j k hg;omega
   have hnf:∀bb jZ,ρ.fz bb=some jZ->bb<w.heap.size:=fun bb jZ hz=>by
    obtain⟨⟨ee,fr,h3⟩,_⟩:=hH.fz bb jZ hz;exact(cV.1 h3).1
   have x4:∀j k,(H.new (.own c.e c.t (c.out d))).get j=some k->(j=H.next/\k= .own c.e c.t (c.out d))\/(j≠H.next/\H.get j=some k):=fun j k hj=>by
    rw [ai.gv]at hj;by_cases hjn:H.next=j
    .rw [if_pos hjn]at hj;cases hj;exact .inl ⟨hjn.symm,rfl⟩
    .rw [if_neg hjn]at hj;exact .inr ⟨fun h=>hjn h.symm,hj⟩
   refine⟨_,ρ',rfl, .bR hnew aO bV,⟨fun j k hj=> ?_,fun j j' k k' bb cj E8 hj hj' r1 r2=> ?_,fun j k hj=> ?_,cX hH.base ij.size,fun bb jZ hz=> ?_⟩,⟨hle,fun j hj=> ?_,Nat.le_succ _,ij.size,ij.os,ij.tape,ij.output,fun q hq _=>hkeep q hq,fun q hq ⟨j,k,cj,hj,hro,gI⟩=> ?_,fun q hq ⟨j,k,cj,hj,gI⟩=> ?_,fun _ _ h=> .inl h⟩⟩
   .rcases x4 j k hj with⟨rfl,rfl⟩|⟨hjn,hj⟩
    .obtain⟨⟨zs,fz,g1,g2,g3,g4,g5⟩,g6⟩:=e3;refine⟨b,c0,o,hnew,e2,⟨⟨zs,fz,g1,g2,lj vP g3,g4,fun hx=> ?_⟩,g6⟩,fun _=>cX hH.base hB⟩;obtain⟨b1,c1,k1,k2⟩:=g5 hx;rw [q1]at k1;cases k1;exact⟨b,c0,hnew,k2⟩
    .obtain⟨bj,cj,oj,p1,p2,p3,dY⟩:=hH.blk j k hj;exact⟨bj,cj,oj,hle _ _ p1,(hkeep bj (cV.1 p2).1).trans p2,p3.mono hle,dY⟩
   .rcases x4 j k hj with⟨rfl,rfl⟩|⟨hjn,hj⟩<;>rcases x4 j' k' hj' with⟨rfl,rfl⟩|⟨Rx,hj'⟩
    .rfl
    .rw [hnew]at r1;cases r1;rw [hold j' Rx]at r2;obtain⟨bj,cj,oj,p1,p2,_⟩:=hH.blk j' k' hj';rw [r2]at p1;cases p1;have:=(cV.1 p2).1;omega
    .rw [hnew]at r2;cases r2;rw [hold j hjn]at r1;obtain⟨bj,cj,oj,p1,p2,_⟩:=hH.blk j k hj;rw [r1]at p1;cases p1;have:=(cV.1 p2).1;omega
    .rw [hold j hjn]at r1;rw [hold j' Rx]at r2;exact hH.inj j j' k k' bb cj E8 hj hj' r1 r2
   .rcases x4 j k hj with⟨rfl,rfl⟩|⟨hjn,hj⟩
    .exact e8 _
    .exact Nat.lt_succ_of_lt (hH.lt j k hj)
   .obtain⟨⟨ee,fr,h3⟩,h4⟩:=hH.fz bb jZ hz;refine⟨⟨ee,fr,(hkeep bb (hnf bb jZ hz)).trans h3⟩,fun j k cj hj gI=> ?_⟩;rcases x4 j k hj with⟨rfl,rfl⟩|⟨hjn,hj⟩
    .rw [hnew]at gI;cases gI;have:=hnf _ jZ hz;omega
    .rw [hold j hjn]at gI;exact h4 j k cj hj gI
   .refine hold j fun hjn=> ?_
    subst hjn;rcases hj with h|h
    .exact absurd h (Nat.lt_irrefl _)
    .exact absurd h (Nat.not_succ_le_self _)
   .rcases x4 j k hj with⟨rfl,rfl⟩|⟨hjn,hj⟩
    .rw [hnew]at gI;cases gI;omega
    .rw [hold j hjn]at gI;exact⟨j,k,cj,hj,hro,gI⟩
   .rcases x4 j k hj with⟨rfl,rfl⟩|⟨hjn,hj⟩
    .rw [hnew]at gI;cases gI;omega
    .rw [hold j hjn]at gI;exact⟨j,k,cj,hj,gI⟩
  .exact hr.elim
 cases e with
 |normal=>exact key g1
 |ret=>exact key g1
 |_=>exact g1.elim
theorem Ks {bw:bI} {f:FuncId} {args:List aa} {v:aa} {H':ai}:∀{l:List qw},(Cv l bw f args H).gr=some (.ok v H')->(∃c∈l,c.f=f/\(E9 c args H).gr=some (.ok v H'))\/(bw f args H).gr=some (.ok v H')
 |[],h=> .inr h
 |c::l,h=>by
  unfold Cv at h;cases hb:Nat.beq f c.f with
  |true=>simp only [hb]at h;exact .inl ⟨c,kK,(ac hb).symm,h⟩
  |false=>
   simp only [hb]at h;rcases Ks h with⟨c',h1,h2⟩|h1
   .exact .inl ⟨c',j8 _ h1,h2⟩
   .exact .inr h1
theorem abN {l:List qw} {bw:bI} (hl:∀c∈l,c.Ok P) (hS:bD P (bG bw)):bD P (bG (Cv l bw)) where
 mono f args H v H' h:=by
  rcases Ks (rO h)with⟨c,_,_,h3⟩|h3
  .rw [abL h3];exact Nat.le_succ _
  .exact hS.mono f args H v H' (by unfold bG;rw [h3];rfl)
 cy f args H v H' h B ρ xs w m hH cu hd hf:=by
  rcases Ks (rO h)with⟨c,h1,rfl,h3⟩|h3
  .exact abM (hl c h1) h3 m hH cu hd hf
  .exact hS.cy f args H v H' (by unfold bG;rw [h3];rfl) B ρ xs w m hH cu hd hf
end
def Fb (P:Program) (fn:Func) (e:TypeId) (t:av) (xs:List t.den):R->Prop
 | .ret T H []=>(match jS P fn T H with
   | .ok (.bR e' t' i k n cap) _=>(match H.get i with
     |some (.own e2 t2 ys)=>gZ (Nat.beq e' e&&(Nat.beq e2 e&&(Nat.beq k 0&&decide (t'=t)))) (n=xs.length/\cap= .full/\oX t2 t ys xs)
     |_=>False)
   |_=>False)
 |_=>False
theorem aP.abO {P:Program} {w0:World} {F:Env} {n:Nat} {T:aq aa} {H:ai} {Q:Exit->aq aa->ai->Prop} (hK:eW P) (hm:P.follows .mixedOrders=true) {bw:bI} (hS:bD P (bG bw)) {l:List Code} {fn:Func} {e:TypeId} {t:av} {xs:List t.den} (k:Nat) (D:List Bool) (h:(Sv.iw P bw n (l.take k) T H).path D (Fb P fn e t xs))
  (hq:∀T H,Kr P fn e t xs .ret T H->Q .ret T H):bd oZ P w0 F n l T H Q:=by
 obtain⟨r,h1,h2⟩:=aC.tJ _ _ h;have key:bd oZ P w0 F n (l.take k) T H (hG (fun T H=>bd oZ P w0 F n (l.drop k) T H Q) Q):=by
  refine aP.iw hK hm hS (oe:=Fb P fn e t xs) (fun r hr=> ?_) h1 h2;unfold Fb at hr;split at hr
  .refine hq _ _ ?_;rename_i aM H';show(match jS P fn aM H' with | .ok (.bR e' t' i k n cap) _=>e'=e/\k=0/\n=xs.length/\cap= .full/\t'=t/\H'.get i=some (.own e t xs)|_=>False)
   split at hr
   .split at hr
    .rename_i hg;obtain⟨k1,k2,dF,mA⟩:=jc hr;simp only [ae,bB]at k1;obtain⟨e1,rfl⟩:=px mA;subst e1;exact⟨ac k1.1,ac k1.2.2.1,k2,dF,k1.2.2.2,by rw [hg,ac k1.2.1]⟩
    .exact hr.elim
   .exact hr.elim
  .exact hr.elim
 have:=aP.split key;rwa [List.take_append_drop]at this
end
end
end Go.Proofs.YtibikmmdbdlafaaGreatDoor.Sv
namespace Go.Proofs.YtibikmmdbdlafaaGreatDoor
open Go.RowKit Sv Go.Proofs.Tryz
theorem abP {P:Program} {p:Func->Bool} (h:P.funcs.toList.all p=true) {f:FuncId} {fn:Func} (hf:P.funcs[f]? =some fn):p fn=true:=
 List.all_eq_true.1 h fn (List.mem_of_getElem? (by simpa using hf))
theorem Ry {P:Program} {p:Func->Bool} {k:Nat} (h:(P.funcs.toList.zipIdx.all fun q=> !p q.1||Nat.beq q.2 k)=true) {f:FuncId} {fn:Func} (hf:P.funcs[f]? =some fn) (hp:p fn=true):f=k:=by
 have:=List.all_eq_true.1 h (fn,f) (List.mk_mem_zipIdx_iff_getElem?.2 (by simpa using hf));simp only [hp,Bool.not_true,Bool.false_or]at this;exact ac this
theorem Er:(prog.funcs.toList.all fun fn=> !(fn.body.isSome&&fn.name== "runtime.NumGoroutine"))=true:=by kernel_rfl
theorem abQ:(prog.funcs.toList.zipIdx.all fun q=> !(q.1.body.isNone&&q.1.name== "internal/abi.NoEscape")||Nat.beq q.2 256)=true:=by kernel_rfl
theorem abR:(prog.funcs.toList.zipIdx.all fun q=> !(q.1.body.isNone&&q.1.name== "internal/bytealg.MakeNoZero")||Nat.beq q.2 268)=true:=by kernel_rfl
theorem abS:(prog.funcs[256]?).bind (fun fn=>Extern.find fn)=some Extern.AbiNoEscape.same:=by kernel_rfl
theorem abT:(prog.funcs[256]?).map (fun fn=>(Extern.findNext fn).isNone)=some true:=by kernel_rfl
theorem tg:(prog.funcs[268]?).bind (fun fn=>Extern.find fn)=(prog.funcs[268]?).map (fun fn=>Extern.BytealgMakeNoZero.makeNoZero fn.params fn.resultTypes):=by kernel_rfl
theorem ti:(prog.funcs[268]?).map (fun fn=>(Extern.findNext fn).isNone)=some true:=by kernel_rfl
theorem abU:(prog.funcs[268]?).map (fun fn=>fn.resultTypes.size)=some 1:=by kernel_rfl
theorem mixed:prog.follows .mixedOrders=true:=by kernel_rfl
theorem known:eW prog where
 Er f fn hf hb:=by
  have:=abP Er hf;simpa [hb]using this
 PE f fn hf hb hn x w:=by
  have e:=Ry (p:=fun fn=>fn.body.isNone&&fn.name== "internal/abi.NoEscape") abQ hf (by simp only [hb,hn];rfl);subst e;have h1:=abS;have h2:=abT;rw [hf]at h1 h2;simp only [Option.bind_some,Option.map_some,sV,Option.isNone_iff_eq_none]at h1 h2;have hname:(fn.name== "runtime.NumGoroutine")=false:=by
   rw [eq_of_beq hn];rfl
  rw [run_callFunc_extern hf hname (by rw [hb];rfl) h2 h1];rfl
 makeNoZero f fn t el hf hb hn ht hu n w hle:=by
  have e:=Ry (p:=fun fn=>fn.body.isNone&&fn.name== "internal/bytealg.MakeNoZero") abR hf (by simp only [hb,hn];rfl);subst e;have h1:=tg;have h2:=ti;have h3:=abU;rw [hf]at h1 h2 h3;simp only [Option.bind_some,Option.map_some,sV,Option.isNone_iff_eq_none]at h1 h2 h3;have hname:(fn.name== "runtime.NumGoroutine")=false:=by
   rw [eq_of_beq hn];rfl
  have hr:fn.resultTypes= #[t]:=by
   apply Array.ext
   .exact h3
   .intro i hi1 hi2;have:i=0:=by simp at hi2;exact hi2
    subst this;simpa [Array.getElem?_eq_getElem hi1]using ht
  rw [hr]at h1;obtain⟨cs,k1,k2,_⟩:=Lib.run_makeNoZero (P:=prog) w fn.params t el hu n (by omega);refine⟨cs,k2, ?_⟩;rw [run_callFunc_extern hf hname (by rw [hb];rfl) h2 h1,k1];rfl
noncomputable section
instance asi:Sv.Ground:=⟨fun b=>if b=0 then some (fun A=>∃m,A= #[.int .i64 m])else if b=5 then some (fun A=>A=(Lib.pow10Tab.map fun z=>Value.int .u64 z).toArray)else none⟩
theorem mp {a b:Prop} (p:b) (h:a=b:=by kernel_rfl):a:=h.mpr p
theorem asj (v:aa) (h:J9 v=true:=by kernel_rfl):aa.same v v=true:=aV h
theorem an {a b:Prop} (x:a) (y:b):a/\b:=⟨x,y⟩
theorem abV{gb p1 p2:Prop}(x0:gb)(x1:p1)(y:p2):gb/\p1/\p2:=⟨x0,⟨x1,y⟩⟩
theorem Fc{gb p1 p2 p3:Prop}(x0:gb)(x1:p1)(x2:p2)(y:p3):gb/\p1/\p2/\p3:=⟨x0,⟨x1,⟨x2,y⟩⟩⟩
theorem abW{gb p1 p2 p3 dY:Prop}(x0:gb)(x1:p1)(x2:p2)(x3:p3)(y:dY):gb/\p1/\p2/\p3/\dY:=⟨x0,⟨x1,⟨x2,⟨x3,y⟩⟩⟩⟩
theorem Kt{gb p1 p2 p3 dY kg:Prop}(x0:gb)(x1:p1)(x2:p2)(x3:p3)(qx:dY)(y:kg):gb/\p1/\p2/\p3/\dY/\kg:=⟨x0,⟨x1,⟨x2,⟨x3,⟨qx,y⟩⟩⟩⟩⟩
theorem asl{gb p1 p2 p3 dY kg oY:Prop}(x0:gb)(x1:p1)(x2:p2)(x3:p3)(qx:dY)(vR:kg)(y:oY):gb/\p1/\p2/\p3/\dY/\kg/\oY:=⟨x0,⟨x1,⟨x2,⟨x3,⟨qx,⟨vR,y⟩⟩⟩⟩⟩⟩
theorem abX{gb p1 p2 p3 dY kg oY xU:Prop}(x0:gb)(x1:p1)(x2:p2)(x3:p3)(qx:dY)(vR:kg)(x5:oY)(y:xU):gb/\p1/\p2/\p3/\dY/\kg/\oY/\xU:=⟨x0,⟨x1,⟨x2,⟨x3,⟨qx,⟨vR,⟨x5,y⟩⟩⟩⟩⟩⟩⟩
theorem og{gb p1 p2 p3 dY kg oY xU tU:Prop}(x0:gb)(x1:p1)(x2:p2)(x3:p3)(qx:dY)(vR:kg)(x5:oY)(Cw:xU)(y:tU):gb/\p1/\p2/\p3/\dY/\kg/\oY/\xU/\tU:=⟨x0,⟨x1,⟨x2,⟨x3,⟨qx,⟨vR,⟨x5,⟨Cw,y⟩⟩⟩⟩⟩⟩⟩⟩
theorem rr {α:Type} (x:α):x=x:=rfl
theorem rt:true=true:=rfl
theorem aN {a b:Bool} (h:a=b):(a==true)=(b==true):=by rw [h]
theorem aS {a b:Bool} (h:a=b):(a==false)=(b==false):=by rw [h]
theorem cn {a b:Bool} (h:a=b):(!a)=(!b):=by rw [h]
abbrev iv (x:Int):aa:= .raw (.int .i64 x)
abbrev bv (x:Bool):aa:= .raw (.bool x)
abbrev vS:List Int:=[]
abbrev lv (l:List Int):aa:= .bh false (.int .i64) l
theorem getD_lt {l:List Int} {k:Nat} (h:k<l.length):l.getD k 0=l[k]:=by simp [ao,h]
theorem o6 {n b:Nat} (h:n<=1000000) (hb:b<=1000000):bounded n b=true:=by
 unfold bounded;have:=Nat.mul_le_mul h hb;rw [fo (by omega),fo (by omega)];rfl
abbrev i6 (x:Int):Prop:= -9223372036854775808<=x/\x<=9223372036854775807
def yk (e:TypeId) (t:av) (xs:List t.den):iN:=af (X3 e t xs)
def yv (e:TypeId) (t:av) {xs:List t.den} {i:Nat} (h:i<xs.length):iN:=af (x:=bz e t (ba e t xs) i) (c:=true) (by rw [Ea];exact ax h)
def jd (e:TypeId) (t:av) {xs:List t.den} {i:Nat} (h:i<xs.length):iN:=af (x:=bz e t (ba e t xs) (0+i)) (c:=true) (by rw [aw,Ea];exact ax h)
def lM (b:Nat) {n:Nat} (h:n<=1000000) (hb:b<=1000000:=by decide):iN:=af (o6 h hb)
noncomputable def oh (e:TypeId) (t:av) {xs ys zs:List t.den} (h:xs++ys=zs):iN:=o5 prog e t (ys:=bM t (ba e t xs)++ys) (xs:=zs) (by rw [ew];exact h)
noncomputable def mJ (e:TypeId) (t:av) {xs zs:List t.den} {i:Nat} {v:t.den} (h:xs.set i v=zs):iN:=o5 prog e t (ys:=(bM t (ba e t xs)).set (0+i) v) (xs:=zs) (by rw [ew,aw];exact h)
def ys (v:aa) (h:aa.same v v=true):iN:=af h
abbrev bg (c:bI) (l:List Code) (s:bC) (d:Nat) (e:Exit) (r:Sv.Ren) (s':bC):Prop:=aC.path (od prog c l s) (dl d) (dP prog s.n e r s')
abbrev dD (c:bI) (l:List Code) (k:Nat) (s:bC) (d:Nat) (e:Exit) (r:Sv.Ren) (s':bC):Prop:=aC.path (tP prog c l k s) (dl d) (dP prog s.n e r s')
abbrev bH (c:bI) (l:List Code) (s:bC) (d:Nat) (f:Func) (b:Bool) (v:aa):Prop:=aC.path (od prog c l s) (dl d) (tQ prog f b v)
abbrev cO (c:bI) (l:List Code) (k n:Nat) (a:List aa) (d:Nat) (e:Exit) (r:Sv.Ren) (s':bC):Prop:=aC.path (o4 prog c l k n a) (dl d) (dP prog n e r s')
abbrev bA (n d:Int):Int:= ↑(Int.gcd (if 0-n>n then 0-n else n) d)
theorem eA {P:Program}:∀c∈([]:List bp),c.Ok P:=fun c h=>absurd h j7
theorem aX {P:Program} {c:bp} {l:List bp} (h:c.Ok P) (t:∀x∈l,x.Ok P):∀x∈c::l,x.Ok P:=fun x hx=>(ep.1 hx).elim (fun e=>e ▸ h) (t x)
section
variable {X:Ext} {w0:World} {F:Sv.Env} {n:Nat} {T:aq aa} {H:ai} {Q:Exit->aq aa->ai->Prop} {bw:bI} {l:List Code} {s s':bC} {e:Exit} {σ:Sv.Ren} {D:List Bool} {fn:Func} {fresh:Bool} {res:aa}
theorem cC (hS:bD prog (bG bw)) (k:Nat) (h:(Sv.iw prog bw n (l.take k) T H).path D (dP prog n e σ s')) (hq:hG (fun T H=>bd X prog w0 F n (l.drop k) T H Q) Q e s'.T s'.H) (hne:(l.take k).isEmpty=false:=by kernel_rfl) (hp:pinned σ s'.H.next X.pins=true:=by rfl):bd X prog w0 F n l T H Q:=aP.to known mixed hS k D h hne hq hp
theorem dZ (hS:bD prog (bG bw)) (k:Nat) (h:(tP prog bw l k s).path D (dP prog s.n e σ s')) (hq:hG (fun T H=>bd X prog w0 F s.n (l.drop k) T H Q) Q e s'.T s'.H) (hne:(l.take k).isEmpty=false:=by kernel_rfl) (hp:pinned σ s'.H.next X.pins=true:=by rfl):bd X prog w0 F s.n l s.T s.H Q:=aP.st known mixed hS k D h hne hq hp
theorem bl (hS:bD prog (bG bw)) (h:(od prog bw l s).path D (dP prog s.n e σ s')) (hq:Q e s'.T s'.H) (hne:l.isEmpty=false:=by kernel_rfl) (hp:pinned σ s'.H.next X.pins=true:=by rfl):bd X prog w0 F s.n l s.T s.H Q:=aP.all known mixed hS D h hne hq hp
theorem bx (hS:bD prog (bG bw)) (k:Nat) (h:(Sv.iw prog bw n (l.take k) T H).path D (tQ prog fn fresh res)) (hq:∀T H,fy prog fresh fn res .ret T H->Q .ret T H:=by exact fun T H h=>h):bd X prog w0 F n l T H Q:=aP.ret known mixed hS k D h hq
theorem bP (hS:bD prog (bG bw)) (h:(od prog bw l s).path D (tQ prog fn fresh res)) (hq:∀T H,fy prog fresh fn res .ret T H->Q .ret T H:=by exact fun T H h=>h):bd X prog w0 F s.n l s.T s.H Q:=aP.jB known mixed hS D h hq
end
abbrev bu (c:bI) (l:List Code) (k n:Nat) (a:List aa) (d:Nat) (f:Func) (b:Bool) (v:aa):Prop:=aC.path (o4 prog c l k n a) (dl d) (tQ prog f b v)
theorem bc:bD prog (bG (aR [])):=cY (l:=[]) fun c h=>by cases h
theorem tV {c:bp} (h:c.Ok prog):bD prog (bG (aR [c])):=cY fun c' hc=>by rw [List.mem_singleton.1 hc];exact h
theorem Ku {X:Ext} {P:Program} {w0:World} {F:Env} {n:Nat} {T:aq aa} {H:ai} {Q:Exit->aq aa->ai->Prop} {l rest:List Code} {id:Nat} {c:Code} (hl:l= .block id c::rest)
  (h:bd X P w0 F n (tO c) T H (Ce id (hG (fun T H=>bd X P w0 F n rest T H Q) Q))):bd X P w0 F n l T H Q:=by
 subst hl;exact Goal.block (x:=c) rfl (vM h)
abbrev sv (s:ByteArray):aa:= .raw (.string s)
end
end Go.Proofs.YtibikmmdbdlafaaGreatDoor
namespace Go.Proofs.YtibikmmdbdlafaaGreatDoor
open Go.ChangeShapes Go.WideShapes Go.ChangeAt Go.RowKit Sv
def Rz:Tryz.prog.globalNamed "internal/strconv.uint64pow10" =some 5:=by kernel_rfl
def abY:ownKnob Tryz.prog.godebug=none:=by kernel_rfl
def Kv:laidOutB Tryz.prog=true:=by kernel_rfl
abbrev wa:List (String×DataW Unit):=[("math/bits.deBruijn32tab",Rows.laid_math_bits_deBruijn32tab),("math/bits.deBruijn64tab",Rows.laid_math_bits_deBruijn64tab),("internal/strconv.uint64pow10",Rows.laid_internal_strconv_uint64pow10),("strconv.ErrRange",Rows.laid_strconv_ErrRange),("strconv.ErrSyntax",Rows.laid_strconv_ErrSyntax)]
def abZ (os:Os) (args:Array Value):laidMetH Tryz.prog wa ((World.doorLaid Tryz.prog 400 os).forCall (fun _ _=>0) ⟨#[],args,[]⟩).memory:=
 laidMetH_of_parts3 (fuel:=8) (laidMet_of_run' 8 (by kernel_rfl) (by kernel_rfl)) (by kernel_rfl) (by kernel_rfl)
def ab0:(Rows.laid_internal_strconv_uint64pow10:DataW Unit)=Lib.tabData .u64 Lib.pow10Tab:=by rfl
def ab1:(Tryz.prog.globals[5]?).map (·.type)=some 280:=by kernel_rfl
def ab2 {W:World} (h:laidMetH Tryz.prog wa W):Lib.TabIs Tryz.prog W "internal/strconv.uint64pow10" .u64 Lib.pow10Tab:=by
 rw [MakeChecks.laidMetH_plain _ _ _ (by kernel_rfl)]at h;obtain⟨ps,⟨g0,t0,cs0,f0,gb,q0,_,_,_,_,⟨g1,t1,asm,f1,p1,q1,_,_,_,_,⟨g2,t2,zz,f2,p2,aO,hg2,ht2,iO,gJ,_,_⟩,_⟩,_⟩,_⟩:=h;obtain rfl:=jQ (Rz.symm.trans hg2);obtain rfl:=jQ (ab1.symm.trans ht2);rw [ab0]at gJ;unfold Lib.TabIs;rw [iO,<-Lib.cells_of_tab Tryz.underlying280 Tryz.underlying167 (by kernel_rfl) (by kernel_rfl) gJ]
def ab3 {H:Type} {enc:TypeId×Value->H} {a:Assume} {C:Checked} {os:Os} {f:FuncId} {fn:Func} {s:ChangeSpec} {conds:List PathCond} {apart fresh handsOn again:Bool} {X:World->Array Value->Prop}
  (hX:∀(w w':World) (args:Array Value),w.heap=w'.heap->X w args->X w' args)
  (own:ownKnob C.prog.godebug=none) (started:os.Started) (noInit:C.prog.inits.idxOf? f=none) (hfn:C.prog.funcs[f]? =some fn)
  (witness:∃(w:World) (tape:Tape) (i:Input),w.os=os/\(w.forCall tape i).Shaped C.prog/\i.vars=[]/\Input.okWide C.prog (w.forCall tape i) .any w.heap.size f i/\
    ((s.pre enc C.prog fn conds apart (w.forCall tape i).memory i.args/\X (w.forCall tape i).memory i.args)/\sizedMet enc C.prog fn (OpenSpec.ofChange s) apart (w.forCall tape i).memory i.args)/\a.holds C.prog (lone (Frame.enter C.prog f i.args .normal) [] (w.forCall tape i)))
  (contract:∀(W:World) (base:Nat) (args:Array Value) (ds gs:List (DataW H)) (before:List MemPlace),
    (∀(j:Nat) t v,fn.params[j]? =some t->args[j]? =some v->Value.okWide C.prog W .any base t v)->
    DataW.Whole enc C.prog fn.params.toList s.vars apart W args.toList ds gs before->
    conds.all (PathCond.test C.prog ⟨fn.params.toList,ds,s.plain.varTypes C.prog,gs⟩)=true->
    (DataW.weightsEach C.prog (fn.params.toList++s.plain.varTypes C.prog) (ds++gs)).all (· <=reachBytes)=true->X W args->W.ShapedOpen C.prog->
    a.holds C.prog (lone (Frame.enter C.prog f args .normal) [] W)->
    Calls C.prog f args W fun e W'=>∃v,e= .returned v/\s.post enc C.prog fn apart fresh handsOn again W args v W'):
  ReturnsInHanded a C os f .any (fun w args=>(s.pre enc C.prog fn conds apart w args/\X w args)/\sizedMet enc C.prog fn (OpenSpec.ofChange s) apart w args) (s.post enc C.prog fn apart fresh handsOn again):=by
 refine returnsInHanded_of_calls own started noInit witness ?_;intro w tape i _ hsh _ hok hpre hholds;obtain⟨_,_,_,fn',ab4,_,_,_,_,hval⟩:=hok;have e:fn'=fn:=jQ (ab4.symm.trans hfn);subst e;obtain⟨⟨⟨ds,gs,before,hw,hc⟩,hx⟩,hz⟩:=hpre;have hw':=DataW.Whole.of_heap (w':=w.forCall tape i) (by rfl) hw;refine(contract (w.forCall tape i) w.heap.size i.args ds gs before hval hw' hc (hz.weights hw) (hX _ _ _ (by rfl) hx) hsh hholds).mono fun e W' ⟨v,he,hp⟩=> ?_
 subst he;exact ChangeSpec.post_blind hp
def nx (w:World):Env:=⟨fun i=>if i<64 then some (i,0)else none,fun b=>if 0<=b then ki w b else none⟩
def ab5 (w:World):tM w (nx w):=by
 refine⟨fun i x h=> ?_,fun g hg=>⟨0,if_pos hg⟩,fun b A h=> ?_⟩
 .have h:(if i<64 then some (i,0)else none)=some x:=h;split at h
  .assumption
  .cases h
 .have h:(if 0<=b then ki w b else none)=some A:=h;rw [if_pos (Nat.zero_le _)]at h;exact mH.1 h
def Kw {α:Type} {p:Nat->α->Prop}:∀{n:Nat},(∀i,i<n->∃x,p i x)->∃l:List α,l.length=n/\∀i x,l[i]? =some x->p i x
 |0,_=>⟨[],rfl,fun i x h=>by simp at h⟩
 |n+1,h=>by
  obtain⟨x,hx⟩:=h 0 (Nat.succ_pos n);obtain⟨l,h1,h2⟩:=Kw (p:=fun i=>p (i+1)) (n:=n) fun i hi=>h (i+1) (Nat.succ_lt_succ hi)
  refine⟨x::l,by simp [h1],fun i y hy=> ?_⟩;cases i with
  |zero=>simp at hy;subst hy;exact hx
  |succ i=>exact h2 i y (by simpa using hy)
def gW (b off i:Nat):(⟨b,off,none⟩:Addr).add i=⟨b,off+i,none⟩:=by
 rcases Nat.eq_zero_or_pos i with rfl |hp
 .rfl
 .simp [Addr.add];omega
def Fe {w:World} {b:Nat} {A:Array Value} (h:ki w b=some A):(nx w).fz b=some A:=by
 show(if 0<=b then ki w b else none)=some A;rw [if_pos (Nat.zero_le _)];exact h
def ab6 {W:World} (h:laidMetH Tryz.prog wa W) (hs:W.ShapedOpen Tryz.prog):Sv.vK (nx W):=by
 intro b p hp;have hp:(if b=0 then some (fun A=>∃m,A= #[.int .i64 m])else if b=5 then some (fun A=>A=(Lib.pow10Tab.map fun z=>Value.int .u64 z).toArray)else none)=some p:=hp;split at hp
 .rename_i e;subst e;cases hp;obtain⟨cs,hh,hz,_⟩:=hs.1 0 #[.int .i64 0] 3 (ap (by kernel_rfl)) (by kernel_rfl);obtain⟨m,hm⟩:=Go.Proofs.cell_of_shapedOpen_int (zero:= #[.int .i64 0]) (t:=3) hs (ap (by kernel_rfl)) (by kernel_rfl) rfl (by kernel_rfl) (by kernel_rfl) Tryz.underlying3;refine⟨cs,Fe (mH.2 ⟨_,_,hh⟩),m, ?_⟩;have h1:cs.size=1:=hz;have h2:cs[0]? =some (.int .i64 m):=by
   unfold World.cell? at hm;rw [hh]at hm;simpa using hm
  apply Array.ext_getElem?;intro i;cases i with
  |zero=>rw [h2];rfl
  |succ i=>rw [Array.getElem?_eq_none (by omega),Array.getElem?_eq_none (by simp)]
 .split at hp
  .rename_i e;subst e;cases hp;have ht:=ab2 h;unfold Lib.TabIs World.var? at ht;rw [Rz]at ht;simp only [Option.bind_some]at ht;split at ht
   .rename_i cs e fr hh;refine⟨cs,Fe (mH.2 ⟨_,_,hh⟩), ?_⟩;exact jQ ht
   .cases ht
  .cases hp
def ab7 {f:FuncId} {args:List aa} (h:Holds Tryz.prog true f args (bv true)) {w:World} (cu:Sv.vK (nx w)) {vs:List Value} (hd:aF (nx w) args vs):Calls Tryz.prog f vs.toArray w fun e w'=>e= .returned (.bool true)/\Below w.heap.size w w':=
 (h w (nx w) vs (ab5 w) cu hd).mono fun e w' ⟨x,F',h1,h2,_,_,h5⟩=>by
   rw [h2.b8]at h1;exact⟨h1,h5⟩
abbrev z7:av:= .pair (.int .i64) (.int .i64)
def wb {w:World} {b off c:Nat}:∀(l:List (Int×Int)),0<l.length->(∀i p,l[i]? =some p->w.cell? ⟨b,off+i*2,none⟩=some (.int .i64 p.1)/\w.cell? ⟨b,off+i*2+1,none⟩=some (.int .i64 p.2))->l.length<=c->Den (nx w) (.bh false z7 l) (.slice (some ⟨b,off,none⟩) l.length c):=by
 intro l hpos h hc;have Ky:∃gm e fr,w.heap[b]? =some (.cells gm e fr):=by
  have h0:=(h 0 l[0] (mV hpos)).1;cases ho:w.heap[b]? with
  |none=>simp [World.cell?,ho]at h0
  |some o=>
   cases o with
   |cells gm e fr=>exact⟨_,_,_,rfl⟩
   |_=>simp [World.cell?,ho]at h0
 obtain⟨gm,e,fr,ho⟩:=Ky;have rd:∀o v,w.cell? ⟨b,o,none⟩=some v->gm[o]? =some v:=fun o v hv=>by
  unfold World.cell? at hv;rw [ho]at hv;simpa using hv
 have flat:∀(l:List (Int×Int)) (o:Nat),(∀i p,l[i]? =some p->gm[o+i*2]? =some (.int .i64 p.1)/\gm[o+i*2+1]? =some (.int .i64 p.2))->aF (nx w) (z7.flat l) ((gm.toList.drop o).take (2*l.length))/\(l≠[]->o+2*l.length<=gm.size):=by
  intro l;induction l with
  |nil=>intro o _;exact⟨by rw [show(gm.toList.drop o).take (2*([]:List (Int×Int)).length)=[] by simp];exact .nil,fun h=>absurd rfl h⟩
  |cons p r ih=>
   intro o hl;obtain⟨g1,g2⟩:=hl 0 p rfl;simp only [Nat.zero_mul,Nat.add_zero]at g1 g2;have hr:=ih (o+2) fun i q hq=>by
    have:=hl (i+1) q (by simpa using hq);rw [show o+(i+1)*2=o+2+i*2 by omega]at this;exact this
   have s1:=(cV.1 g1).1;have s2:=(cV.1 g2).1;have d1:gm.toList.drop o= .int .i64 p.1:: .int .i64 p.2::gm.toList.drop (o+2):=by
    rw [List.drop_eq_getElem_cons (by simpa using s1),List.drop_eq_getElem_cons (by simpa using s2)];have e1:gm.toList[o]'(by simpa using s1)= .int .i64 p.1:=by
     have:=(cV.1 g1).2;simpa using this
    have e2:gm.toList[o+1]'(by simpa using s2)= .int .i64 p.2:=by
     have:=(cV.1 g2).2;simpa using this
    rw [e1,e2]
   refine⟨?_,fun _=> ?_⟩
   .rw [d1,show 2*(p::r).length=2*r.length+1+1 by simp;omega,List.take_succ_cons,List.take_succ_cons];exact .cons (.raw _) (.cons (.raw _) hr.1)
   .by_cases h0:r=[]
    .subst h0;simp;omega
    .have:=hr.2 h0;simp;omega
 have hf:=flat l off fun i p hp=>⟨rd _ _ (h i p hp).1,rd _ _ (h i p hp).2⟩
 have hlen:(z7.flat l).length=2*l.length:=by rw [z7.ig];show l.length*2=_;omega
 refine .bh (A:=gm) (b:=b) (off:=off) (Fe (mH.2 ⟨e,fr,ho⟩)) ?_ rfl ?_ hc fun e=>by cases e
 .rw [hlen];exact hf.2 fun e=>by rw [e]at hpos;cases hpos
 .rw [hlen];exact hf.1
set_option maxRecDepth 100000 in
theorem asn {H:Type} {enc:TypeId×Value->H} {W:World} {base:Nat} {v:Value} {d:DataW H} {p:List MemPlace} (hv:Value.okWide Tryz.prog W .any base 73 v)
  (h:DataW.Trod enc Tryz.prog W 0 (fun _=>true) true 73 v d p):∃l:List (Int×Int),Den (nx W) (.bh false z7 l) v:=by
 obtain⟨a,len,cap,rfl⟩:=okWide_slice Tryz.underlying73 hv;obtain⟨fuel,hf⟩:=h;have c2:Tryz.prog.cellsOf 142=2:=by kernel_rfl
 have c1:Tryz.prog.cellsOf 3=1:=by kernel_rfl
 rcases DataW.trod_slice Tryz.underlying73 hf with⟨hcs,hx⟩|⟨a',len',cap',elems,rest,n,_,hcs,hx,hcap,hl,_,hlen,hel,_,_⟩
 .simp [Value.cells]at hcs;obtain⟨rfl,rfl,rfl⟩:=hcs;exact⟨[], .dW fun e=>by cases e⟩
 .simp [Value.cells]at hcs;obtain⟨rfl,rfl,rfl⟩:=hcs;rw [c2]at hel;have each:∀i,i<len->∃q:Int×Int,W.cell? (a'.add (i*2))=some (.int .i64 q.1)/\W.cell? ((a'.add (i*2)).add 1)=some (.int .i64 q.2):=by
   intro i hi;have hy:elems[i]? =some (elems[i]'(by omega)):=mV (by omega);have hb:=hel i hi;rw [hy,dz]at hb;obtain⟨cs,g1,g2⟩:=hb;obtain⟨_,gl,gc⟩:=World.cells?_some g1;obtain⟨y0,y1,m,he,gp,t0,t1⟩:=trod_struct2 Tryz.underlying142 g2
   match cs,gl with
   |[aE,u1],_=>
    obtain⟨z,e0,_,w0⟩:=DataW.trod_int Tryz.underlying3 (show DataW.trod enc Tryz.prog W 0 _ true m 3 [aE]=some y0 by simpa [c1]using t0);obtain⟨cQ,e1,_,w1⟩:=DataW.trod_int Tryz.underlying3 (show DataW.trod enc Tryz.prog W 0 _ true m 3 [u1]=some y1 by simpa [c1]using t1);simp at e0 e1;subst e0;subst e1;exact⟨⟨z,cQ⟩,by simpa [Addr.add]using gc 0 (by omega),by simpa using gc 1 (by omega)⟩
  obtain⟨l,nh,tW⟩:=Kw each;by_cases h0:len=0
  .subst h0;obtain rfl:=List.length_eq_zero_iff.1 nh;exact⟨[], .dW fun e=>by cases e⟩
  .obtain⟨b,off,spot⟩:=a';obtain⟨q,hq⟩:∃q,l[0]? =some q:=⟨_,mV (by omega)⟩;have Cx:spot=none:=by simpa [Addr.add]using World.cell?_spot (tW 0 q hq).1
   subst Cx;refine⟨l, ?_⟩;rw [<-nh];refine wb l (by omega) (fun i p hp=> ?_) (by omega);have:=tW i p hp;rw [gW,gW]at this;exact this
set_option maxRecDepth 100000 in
theorem ab8 {H:Type} {enc:TypeId×Value->H} {W:World} {base:Nat} {v:Value} {d:DataW H} {p:List MemPlace} (hv:Value.okWide Tryz.prog W .any base 25 v)
  (h:DataW.Trod enc Tryz.prog W 0 (fun _=>true) true 25 v d p):∃l:List (Int×Int),Den (nx W) (.bh false z7 l) v:=by
 obtain⟨a,len,cap,rfl⟩:=okWide_slice Tryz.underlying25 hv;obtain⟨fuel,hf⟩:=h;have c2:Tryz.prog.cellsOf 69=2:=by kernel_rfl
 have c1:Tryz.prog.cellsOf 3=1:=by kernel_rfl
 rcases DataW.trod_slice Tryz.underlying25 hf with⟨hcs,hx⟩|⟨a',len',cap',elems,rest,n,_,hcs,hx,hcap,hl,_,hlen,hel,_,_⟩
 .simp [Value.cells]at hcs;obtain⟨rfl,rfl,rfl⟩:=hcs;exact⟨[], .dW fun e=>by cases e⟩
 .simp [Value.cells]at hcs;obtain⟨rfl,rfl,rfl⟩:=hcs;rw [c2]at hel;have each:∀i,i<len->∃q:Int×Int,W.cell? (a'.add (i*2))=some (.int .i64 q.1)/\W.cell? ((a'.add (i*2)).add 1)=some (.int .i64 q.2):=by
   intro i hi;have hy:elems[i]? =some (elems[i]'(by omega)):=mV (by omega);have hb:=hel i hi;rw [hy,dz]at hb;obtain⟨cs,g1,g2⟩:=hb;obtain⟨_,gl,gc⟩:=World.cells?_some g1;obtain⟨y0,y1,m,he,gp,t0,t1⟩:=trod_struct2 Tryz.underlying69 g2
   match cs,gl with
   |[aE,u1],_=>
    obtain⟨z,e0,_,w0⟩:=DataW.trod_int Tryz.underlying3 (show DataW.trod enc Tryz.prog W 0 _ true m 3 [aE]=some y0 by simpa [c1]using t0);obtain⟨cQ,e1,_,w1⟩:=DataW.trod_int Tryz.underlying3 (show DataW.trod enc Tryz.prog W 0 _ true m 3 [u1]=some y1 by simpa [c1]using t1);simp at e0 e1;subst e0;subst e1;exact⟨⟨z,cQ⟩,by simpa [Addr.add]using gc 0 (by omega),by simpa using gc 1 (by omega)⟩
  obtain⟨l,nh,tW⟩:=Kw each;by_cases h0:len=0
  .subst h0;obtain rfl:=List.length_eq_zero_iff.1 nh;exact⟨[], .dW fun e=>by cases e⟩
  .obtain⟨b,off,spot⟩:=a';obtain⟨q,hq⟩:∃q,l[0]? =some q:=⟨_,mV (by omega)⟩;have Cx:spot=none:=by simpa [Addr.add]using World.cell?_spot (tW 0 q hq).1
   subst Cx;refine⟨l, ?_⟩;rw [<-nh];refine wb l (by omega) (fun i p hp=> ?_) (by omega);have:=tW i p hp;rw [gW,gW]at this;exact this
set_option maxRecDepth 100000 in
theorem ab9 {H:Type} {enc:TypeId×Value->H} {W:World} {base:Nat} {v:Value} {d:DataW H} {p:List MemPlace} (hv:Value.okWide Tryz.prog W .any base 24 v)
  (h:DataW.Trod enc Tryz.prog W 0 (fun _=>true) true 24 v d p):
  ∃(n m:Int) (x y:ByteArray),v= .agg #[.int .i64 n, .int .i64 m, .string x, .string y]:=by
 simp only [Value.okWide,Tryz.underlying24]at hv;obtain⟨cs,rfl,hsz,_⟩:=hv;have c4:Tryz.prog.cellsOf 24=4:=by kernel_rfl
 have ci:Tryz.prog.cellsOf 3=1:=by kernel_rfl
 have ni:Tryz.prog.cellsOf 22=1:=by kernel_rfl
 rw [c4]at hsz;obtain⟨fuel,hf⟩:=h;obtain⟨y0,y1,y2,y3,m,he,gp,t0,t1,t2,t3⟩:=Go.Joins.trod_struct4 Tryz.underlying24 hf;obtain⟨l⟩:=cs
 match l,hsz with
 |[aE,u1,u2,u3],_=>
  obtain⟨n,e0,_,w0⟩:=DataW.trod_int Tryz.underlying3 (show DataW.trod enc Tryz.prog W 0 (fun _=>true) true m 3 [aE]=some y0 by simpa [Value.cells,ci]using t0);obtain⟨k,e1,_,w1⟩:=DataW.trod_int Tryz.underlying3 (show DataW.trod enc Tryz.prog W 0 (fun _=>true) true m 3 [u1]=some y1 by simpa [Value.cells,ci]using t1);obtain⟨x,e2,_,w2⟩:=DataW.trod_string Tryz.underlying22 (show DataW.trod enc Tryz.prog W 0 (fun _=>true) true m 22 [u2]=some y2 by simpa [Value.cells,ni]using t2);obtain⟨y,e3,_,w3⟩:=DataW.trod_string Tryz.underlying22 (show DataW.trod enc Tryz.prog W 0 (fun _=>true) true m 22 [u3]=some y3 by simpa [Value.cells,ni]using t3);simp at e0 e1 e2 e3;subst e0;subst e1;subst e2;subst e3;exact⟨n,k,x,y,rfl⟩
def acd (W:World) (n m:Int) (x y:ByteArray):Den (nx W) (.agg [iv n,iv m,sv x,sv y]) (.agg #[.int .i64 n, .int .i64 m, .string x, .string y]):=
 .agg (.cons (.raw _) (.cons (.raw _) (.cons (.raw _) (.cons (.raw _) .nil))))
def ace {w:World} {b off c:Nat}:∀(l:List ByteArray),0<l.length->(∀i s,l[i]? =some s->w.cell? ⟨b,off+i,none⟩=some (.string s))->l.length<=c->Den (nx w) (.bh false .str l) (.slice (some ⟨b,off,none⟩) l.length c):=by
 intro l hpos h hc;have Ky:∃gm e fr,w.heap[b]? =some (.cells gm e fr):=by
  have h0:=h 0 l[0] (mV hpos);cases ho:w.heap[b]? with
  |none=>simp [World.cell?,ho]at h0
  |some o=>
   cases o with
   |cells gm e fr=>exact⟨_,_,_,rfl⟩
   |_=>simp [World.cell?,ho]at h0
 obtain⟨gm,e,fr,ho⟩:=Ky;have rd:∀o v,w.cell? ⟨b,o,none⟩=some v->gm[o]? =some v:=fun o v hv=>by
  unfold World.cell? at hv;rw [ho]at hv;simpa using hv
 have flat:∀(l:List ByteArray) (o:Nat),(∀i s,l[i]? =some s->gm[o+i]? =some (.string s))->aF (nx w) (av.str.flat l) ((gm.toList.drop o).take l.length)/\(l≠[]->o+l.length<=gm.size):=by
  intro l;induction l with
  |nil=>intro o _;exact⟨by rw [show(gm.toList.drop o).take ([]:List ByteArray).length=[] by simp];exact .nil,fun h=>absurd rfl h⟩
  |cons p r ih=>
   intro o hl;have g1:=hl 0 p rfl;rw [Nat.add_zero]at g1;have hr:=ih (o+1) fun i q hq=>by
    have:=hl (i+1) q (by simpa using hq);rw [show o+(i+1)=o+1+i by omega]at this;exact this
   have s1:=(cV.1 g1).1;have d1:gm.toList.drop o= .string p::gm.toList.drop (o+1):=by
    rw [List.drop_eq_getElem_cons (by simpa using s1)];have e1:gm.toList[o]'(by simpa using s1)= .string p:=by
     have:=(cV.1 g1).2;simpa using this
    rw [e1]
   refine⟨?_,fun _=> ?_⟩
   .rw [d1,List.length_cons,List.take_succ_cons];exact .cons (.raw _) hr.1
   .by_cases h0:r=[]
    .subst h0;simp;omega
    .have:=hr.2 h0;simp;omega
 have hf:=flat l off fun i p hp=>rd _ _ (h i p hp)
 have hlen:(av.str.flat l).length=l.length:=by rw [av.str.ig];show l.length*1=_;omega
 refine .bh (A:=gm) (b:=b) (off:=off) (Fe (mH.2 ⟨e,fr,ho⟩)) ?_ rfl ?_ hc fun e=>by cases e
 .rw [hlen];exact hf.2 fun e=>by rw [e]at hpos;cases hpos
 .rw [hlen];exact hf.1
set_option maxRecDepth 100000 in
theorem acf {H:Type} {enc:TypeId×Value->H} {W:World} {base:Nat} {v:Value} {d:DataW H} {p:List MemPlace} (hv:Value.okWide Tryz.prog W .any base 26 v)
  (h:DataW.Trod enc Tryz.prog W 0 (fun _=>true) true 26 v d p):∃l:List ByteArray,Den (nx W) (.bh false .str l) v:=by
 obtain⟨a,len,cap,rfl⟩:=okWide_slice Tryz.underlying26 hv;obtain⟨fuel,hf⟩:=h;have c1:Tryz.prog.cellsOf 22=1:=by kernel_rfl
 rcases open_strings Tryz.underlying26 Tryz.underlying22 c1 hf with⟨hcs,hx⟩|⟨a',len',cap',ss,hcs,_,hl,hm,hz,hx,hcell,hsz⟩
 .simp [Value.cells]at hcs;obtain⟨rfl,rfl,rfl⟩:=hcs;exact⟨[], .dW fun e=>by cases e⟩
 .simp [Value.cells]at hcs;obtain⟨rfl,rfl,rfl⟩:=hcs;have hz:ss.length=cap:=hz;by_cases h0:len=0
  .subst h0;exact⟨[], .dW fun e=>by cases e⟩
  .obtain⟨b,off,spot⟩:=a';have Cx:spot=none:=by simpa [Addr.add]using World.cell?_spot (hcell 0 (by omega))
   subst Cx;have e:(ss.take len).length=len:=by rw [ei];omega
   refine⟨ss.take len, ?_⟩;have key:=ace (w:=W) (b:=b) (off:=off) (c:=cap) (ss.take len) (by omega) (fun i s hs=>by
    have hi:i<len:=by
     have:=(List.getElem?_eq_some_iff.1 hs).1;omega
    have:=hcell i (by omega);rw [gW]at this;rw [List.getElem?_take_of_lt hi]at hs;rw [this,ao,hs];rfl) (by omega)
   rw [e]at key;exact key
end Go.Proofs.YtibikmmdbdlafaaGreatDoor
namespace Go.Proofs.YtibikmmdbdlafaaGreatDoor
open Go.RowKit Sv Go.Proofs.Tryz
section
variable [Sv.Ground] {X:Ext} {P:Program} {w0:World} {F:Env} {n:Nat} {T:aq aa} {H:ai} {a:Act} {w:World} {B:Nat} {ρ ρ':Env}
theorem As {i:Nat} {ρ':Env} (ha:∀i,ρ' i=ρ i) {b:Nat} (h:Sv.Own ρ' (H.drop i) b):Sv.Own ρ H b:=by
 obtain⟨k,kk,c,h1,h2,h3⟩:=h;rw [ha]at h3;rw [ai.oP]at h1;split at h1
 .cases h1
 .exact⟨k,kk,c,h1,h2,h3⟩
theorem Sat.freeze {i j m:Nat} {e e2:TypeId} {cs:List aa} {x f r:Bool} {t:av} {xs:List t.den} {cap:aZ} (hj:H.get j=some (.cells e cs x f r)) (hm:cs[m]? =some (.bR e2 t i 0 xs.length cap)) (hi:H.get i=ba e2 t xs) (hij:i≠j)
  (hs:mG X P w0 F n T H a w):mG X P w0 F n T ((H.drop i).set j (.cells e (cs.set m (.bh false t xs)) x f r)) a w:=by
 obtain⟨⟨ρ,aQ,hnone,hfz,hkp⟩,hb,hd⟩:=hs;by_cases hx:xs=[]
 .subst hx;have hi:H.get i=none:=hi;refine⟨⟨ρ,⟨aQ.T,pj aQ.H (cB.refl _) (fun _=>rfl) hj hij hm (fun y hy=> ?_) (fun b A h=>⟨(aQ.H.fz b A h).1,fun k kk c _ g1 g2=>(aQ.H.fz b A h).2 k kk c g1 g2⟩),aQ.G⟩,hnone,hfz,hkp.re (cB.refl _) (aG _) (fun _ hh=>IP (fun _=>rfl) hj hh) fun _ _ h=> .inl h⟩,hb,hd⟩;rcases hy.jv with⟨_,a,rfl⟩|⟨b,c,kc,_,_,_,rfl⟩
  .exact .dW fun e=>by cases e
  .exact .dW fun e=>by cases e
 .obtain⟨x0,l0,rfl⟩:=List.exists_cons_of_ne_nil hx;have hi:H.get i=some (.own e2 t (x0::l0)):=hi;generalize hxs:x0::l0=xs at*;obtain⟨b,c,o,hib,_,_,hB⟩:=aQ.H.blk i _ hi;obtain⟨zs,cQ,z2,z3,z4,z5,PF⟩:=rA aQ.H hi hib;have hnf:ρ.fz b=none:=by
   cases hz:ρ.fz b with
   |none=>rfl
   |some A=>
    have:=(aQ.H.fz b A hz).2 i _ c hi hib;cases this
  have hle:cB ρ ⟨ρ.at',fun q=>if q=b then some zs else ρ.fz q⟩:=⟨fun _ _ h=>h,fun q A h=>by
   show(if q=b then some zs else ρ.fz q)=some A;by_cases hq:q=b
   .subst hq;rw [hnf]at h;cases h
   .rw [if_neg hq];exact h⟩
  refine⟨⟨⟨ρ.at',fun q=>if q=b then some zs else ρ.fz q⟩,⟨aQ.T.mono hle,pj aQ.H hle (fun _=>rfl) hj hij hm (fun y hy=> ?_) (fun q A h=> ?_),aQ.G.mono hle⟩,hnone,fun q A h=> ?_,hkp.re hle (aG _) (fun _ hh=>IP (fun _=>rfl) hj hh) fun q A h=>by
   have h:(if q=b then some zs else ρ.fz q)=some A:=h;by_cases hq:q=b
   .exact .inr ⟨i,_,c,hi,rfl,hq ▸ hib⟩
   .rw [if_neg hq]at h;exact .inl h⟩,hb,hd⟩
  .rcases hy.jv with⟨h0,_⟩|⟨b',c',kc,g1,_,g3,rfl⟩
   .exact absurd (List.length_eq_zero_iff.1 h0) hx
   .rw [hib]at g1;cases g1;refine .bh (A:=zs) (b:=b) (off:=0*t.size) (by show(if b=b then some zs else _)=_;rw [if_pos rfl]) (by rw [Nat.zero_mul,aw];exact z4) rfl ?_ g3 (fun e=>by cases e);rw [Nat.zero_mul,List.drop_zero];exact z2.mono hle
  .have h:(if q=b then some zs else ρ.fz q)=some A:=h;by_cases hq:q=b
   .subst hq;rw [if_pos rfl]at h;cases h;exact⟨⟨_,_,cQ⟩,fun k kk c' hne g1 g2=>absurd (aQ.H.inj k i kk _ q c' c g1 hi g2 hib) hne⟩
   .rw [if_neg hq]at h;exact⟨(aQ.H.fz q A h).1,fun k kk c _ g1 g2=>(aQ.H.fz q A h).2 k kk c g1 g2⟩
  .have h:(if q=b then some zs else ρ.fz q)=some A:=h;by_cases hq:q=b
   .subst hq;exact .inr (hB rfl)
   .rw [if_neg hq]at h;exact hfz q A h
theorem Sat.vT {i s:Nat} {e2:TypeId} {t:av} {xs:List t.den} {cap:aZ} (hs':T.get s=some (.bR e2 t i 0 xs.length cap)) (hi:H.get i=ba e2 t xs) (hs:mG X P w0 F n T H a w):mG X P w0 F n (T.set s (some (.bh false t xs))) (H.drop i) a w:=by
 obtain⟨⟨ρ,aQ,hnone,hfz,hkp⟩,hb,hd⟩:=hs;have RA:∀{ρ':Env},cB ρ ρ'->(∀i,ρ' i=ρ i)->(∀b A,ρ'.fz b=some A->(∃e fr,w.heap[b]? =some (.cells A e fr))/\∀k kk c,k≠i->H.get k=some kk->ρ k=some (b,c)->kk.eL=true)->bf P w0.heap.size ρ' (H.drop i) w:=fun {ρ'} hl ha hf=>by
  have key:∀k kk,(H.drop i).get k=some kk->k≠i/\H.get k=some kk:=fun k kk h=>by
   rw [ai.oP]at h;split at h
   .cases h
   .rename_i h2;exact⟨fun h=>h2 h.symm,h⟩
  refine⟨fun k kk h=> ?_,fun i1 i2 k1 k2 b c1 c2 g1 g2 g3 g4=> ?_,fun k kk h=>aQ.H.lt k kk (key k kk h).2,aQ.H.base,fun b A h=>⟨(hf b A h).1,fun k kk c g1 g2=> ?_⟩⟩
  .obtain⟨b,c,o,e1,e2,e3,bU⟩:=aQ.H.blk k kk (key k kk h).2;exact⟨b,c,o,by rw [ha];exact e1,e2,e3.mono hl,bU⟩
  .rw [ha]at g3 g4;exact aQ.H.inj _ _ _ _ _ _ _ (key _ _ g1).2 (key _ _ g2).2 g3 g4
  .rw [ha]at g2;exact(hf b A h).2 k kk c (key k kk g1).1 (key k kk g1).2 g2
 have qy:∀{ρ':Env},cB ρ ρ'->(∀y,Den ρ (.bR e2 t i 0 xs.length cap) y->Den ρ' (.bh false t xs) y)->jT ρ' (T.set s (some (.bh false t xs))) n a.tmps:=fun {ρ'} hl hv=>⟨aQ.T.size,fun k=>by
  rw [aq.fU];have hk:=aQ.T.get k;by_cases hks:s=k
  .subst hks;rw [if_pos rfl];rw [hs']at hk;exact hv _ hk
  .rw [if_neg hks];exact hk.mono hl⟩
 by_cases hx:xs=[]
 .subst hx;refine⟨⟨ρ,⟨qy (cB.refl _) fun y hy=> ?_,RA (cB.refl _) (fun _=>rfl) (fun b A h=>⟨(aQ.H.fz b A h).1,fun k kk c _ g1 g2=>(aQ.H.fz b A h).2 k kk c g1 g2⟩),aQ.G⟩,hnone,hfz,hkp.re (cB.refl _) (aG _) (fun _ hh=>As (fun _=>rfl) hh) fun _ _ h=> .inl h⟩,hb,hd⟩;rcases hy.jv with⟨_,a,rfl⟩|⟨b,c,kc,_,_,_,rfl⟩
  .exact .dW fun e=>by cases e
  .exact .dW fun e=>by cases e
 .obtain⟨x0,l0,rfl⟩:=List.exists_cons_of_ne_nil hx;have hi:H.get i=some (.own e2 t (x0::l0)):=hi;generalize hxs:x0::l0=xs at*;obtain⟨b,c,o,hib,_,_,hB⟩:=aQ.H.blk i _ hi;obtain⟨zs,cQ,z2,z3,z4,z5,PF⟩:=rA aQ.H hi hib;have hnf:ρ.fz b=none:=by
   cases hz:ρ.fz b with
   |none=>rfl
   |some A=>
    have:=(aQ.H.fz b A hz).2 i _ c hi hib;cases this
  have hle:cB ρ ⟨ρ.at',fun q=>if q=b then some zs else ρ.fz q⟩:=⟨fun _ _ h=>h,fun q A h=>by
   show(if q=b then some zs else ρ.fz q)=some A;by_cases hq:q=b
   .subst hq;rw [hnf]at h;cases h
   .rw [if_neg hq];exact h⟩
  refine⟨⟨⟨ρ.at',fun q=>if q=b then some zs else ρ.fz q⟩,⟨qy hle fun y hy=> ?_,RA hle (fun _=>rfl) (fun q A h=> ?_),aQ.G.mono hle⟩,hnone,fun q A h=> ?_,hkp.re hle (aG _) (fun _ hh=>As (fun _=>rfl) hh) fun q A h=>by
   have h:(if q=b then some zs else ρ.fz q)=some A:=h;by_cases hq:q=b
   .exact .inr ⟨i,_,c,hi,rfl,hq ▸ hib⟩
   .rw [if_neg hq]at h;exact .inl h⟩,hb,hd⟩
  .rcases hy.jv with⟨h0,_⟩|⟨b',c',kc,g1,_,g3,rfl⟩
   .exact absurd (List.length_eq_zero_iff.1 h0) hx
   .rw [hib]at g1;cases g1;refine .bh (A:=zs) (b:=b) (off:=0*t.size) (by show(if b=b then some zs else _)=_;rw [if_pos rfl]) (by rw [Nat.zero_mul,aw];exact z4) rfl ?_ g3 (fun e=>by cases e);rw [Nat.zero_mul,List.drop_zero];exact z2.mono hle
  .have h:(if q=b then some zs else ρ.fz q)=some A:=h;by_cases hq:q=b
   .subst hq;rw [if_pos rfl]at h;cases h;exact⟨⟨_,_,cQ⟩,fun k kk c' hne g1 g2=>absurd (aQ.H.inj k i kk _ q c' c g1 hi g2 hib) hne⟩
   .rw [if_neg hq]at h;exact⟨(aQ.H.fz q A h).1,fun k kk c _ g1 g2=>(aQ.H.fz q A h).2 k kk c g1 g2⟩
  .have h:(if q=b then some zs else ρ.fz q)=some A:=h;by_cases hq:q=b
   .subst hq;exact .inr (hB rfl)
   .rw [if_neg hq]at h;exact hfz q A h
theorem aP.vT {Q:Exit->aq aa->ai->Prop} {l:List Code} (hl:l≠[]) {i s:Nat} {e2:TypeId} {t:av} {xs:List t.den} {cap:aZ} (hs':T.get s=some (.bR e2 t i 0 xs.length cap)) (hi:H.get i=ba e2 t xs)
  (hg:bd X P w0 F n l (T.set s (some (.bh false t xs))) (H.drop i) Q):bd X P w0 F n l T H Q:=by
 cases l with
 |nil=>exact absurd rfl hl
 |cons c l=>exact fun a w hs k=>hg a w (Sat.vT hs' hi hs) k
theorem Goal.freeze {Q:Exit->aq aa->ai->Prop} {c:Code} {i j m:Nat} {e e2:TypeId} {cs:List aa} {x f r:Bool} {t:av} {xs:List t.den} {cap:aZ} (hj:H.get j=some (.cells e cs x f r)) (hm:cs[m]? =some (.bR e2 t i 0 xs.length cap)) (hi:H.get i=ba e2 t xs) (hij:i≠j)
  (hg:iM X P w0 F n c T ((H.drop i).set j (.cells e (cs.set m (.bh false t xs)) x f r)) Q):iM X P w0 F n c T H Q:=fun a w hs k=>hg a w (Sat.freeze hj hm hi hij hs) k
theorem aP.freeze {Q:Exit->aq aa->ai->Prop} {l:List Code} (hl:l≠[]) {i j m:Nat} {e e2:TypeId} {cs:List aa} {x f r:Bool} {t:av} {xs:List t.den} {cap:aZ} (hj:H.get j=some (.cells e cs x f r)) (hm:cs[m]? =some (.bR e2 t i 0 xs.length cap)) (hi:H.get i=ba e2 t xs) (hij:i≠j)
  (hg:bd X P w0 F n l T ((H.drop i).set j (.cells e (cs.set m (.bh false t xs)) x f r)) Q):bd X P w0 F n l T H Q:=by
 cases l with
 |nil=>exact absurd rfl hl
 |cons c l=>exact Goal.freeze hj hm hi hij hg
theorem aP.oa {Q:Exit->aq aa->ai->Prop} {l:List Code} (hl:l≠[]) {σ:Ren} {s:bC} (h:fit P σ n T H s) (hg:bd X P w0 F n l s.T s.H Q) (hp:pinned σ s.H.next X.pins=true:=by rfl):bd X P w0 F n l T H Q:=by
 cases l with
 |nil=>exact absurd rfl hl
 |cons c l=>exact Goal.oa h hg hp
end
end Go.Proofs.YtibikmmdbdlafaaGreatDoor
namespace Go.Proofs.YtibikmmdbdlafaaGreatDoor
def vl (b:Int):List Int->Int
 |[]=>0
 |x::r=>x+b*vl b r
def aT (b:Int) (l:List Int):Prop:=∀x∈l,0<=x/\x<b
theorem aT.nil {b:Int}:aT b []:=fun x h=>by cases h
theorem aT.cons {b x:Int} {l:List Int} (h:0<=x/\x<b) (hl:aT b l):aT b (x::l):=fun y hy=>by
 rcases ep.1 hy with rfl |hy
 .exact h
 .exact hl y hy
theorem aT.tail {b x:Int} {l:List Int} (h:aT b (x::l)):aT b l:=fun y hy=>h y (j8 _ hy)
theorem aT.head {b x:Int} {l:List Int} (h:aT b (x::l)):0<=x/\x<b:=h x kK
theorem aT.app {b:Int} {l m:List Int} (h:aT b l) (g:aT b m):aT b (l++m):=fun y hy=>(List.mem_append.1 hy).elim (h y) (g y)
theorem aT.left {b:Int} {l m:List Int} (h:aT b (l++m)):aT b l:=fun y hy=>h y (List.mem_append_left _ hy)
theorem aT.right {b:Int} {l m:List Int} (h:aT b (l++m)):aT b m:=fun y hy=>h y (List.mem_append_right _ hy)
theorem aT.take {b:Int} {l:List Int} (h:aT b l) (k:Nat):aT b (l.take k):=fun y hy=>h y (List.mem_of_mem_take hy)
theorem aT.drop {b:Int} {l:List Int} (h:aT b l) (k:Nat):aT b (l.drop k):=fun y hy=>h y (List.mem_of_mem_drop hy)
theorem aT.set {b:Int} {l:List Int} (h:aT b l) {k:Nat} {x:Int} (hx:0<=x/\x<b):aT b (l.set k x):=fun y hy=>by
 rcases List.mem_or_eq_of_mem_set hy with hy|rfl
 .exact h y hy
 .exact hx
theorem aT.at' {b:Int} {l:List Int} (h:aT b l) {k:Nat} (hk:k<l.length):0<=l.getD k 0/\l.getD k 0<b:=by
 have:l.getD k 0=l[k]:=by simp [ao,hk]
 rw [this];exact h _ (List.getElem_mem _)
theorem aT.get {b:Int} (hb:0<b) {l:List Int} (h:aT b l) (k:Nat):0<=l.getD k 0/\l.getD k 0<b:=by
 by_cases hk:k<l.length
 .exact h.at' hk
 .rw [ao,List.getElem?_eq_none (by omega)];exact⟨Int.le_refl _,hb⟩
theorem aT.rep {b:Int} (hb:0<b) (n:Nat):aT b (List.replicate n 0):=fun y hy=>by
 rw [(List.mem_replicate.1 hy).2];exact⟨Int.le_refl _,hb⟩
theorem acg {a b:Int} (ha:0<=a) (hb:0<=b):0<=a*b:=Int.mul_nonneg ha hb
theorem dK {b:Int} (hb:0<b):∀n:Nat,0<b^n
 |0=>by simp
 |n+1=>by rw [Int.pow_succ];exact Int.mul_pos (dK hb n) hb
theorem fO {b:Int} (hb:0<b):∀{l:List Int},aT b l->0<=vl b l
 |[],_=>Int.le_refl _
 |x::r,h=>by
  have h1:=h.head;have h2:=Int.mul_nonneg (cm hb) (fO hb h.tail);show 0<=x+b*vl b r;omega
theorem fP {b:Int} (hb:0<b):∀{l:List Int},aT b l->vl b l<b^l.length
 |[],_=>by simp [vl]
 |x::r,h=>by
  have h1:=h.head;have h2:=fP hb h.tail;have h3:b*vl b r<=b*(b^r.length-1):=eU (by omega) (cm hb);have h4:b*(b^r.length-1)=b*b^r.length-b:=by rw [Int.mul_sub,Int.mul_one]
  have h5:b^(x::r).length=b*b^r.length:=by rw [List.length_cons,Int.pow_succ,Int.mul_comm]
  rw [h5];show x+b*vl b r<_;omega
theorem Ff (b:Int):∀(l m:List Int),vl b (l++m)=vl b l+b^l.length*vl b m
 |[],m=>by simp [vl]
 |x::r,m=>by
  show x+b*vl b (r++m)=x+b*vl b r+b^(r.length+1)*vl b m;rw [Ff b r m,Int.mul_add,Int.pow_succ,Int.mul_comm (b^r.length) b,Int.mul_assoc,Int.add_assoc]
theorem tX (b x:Int):vl b [x]=x:=by simp [vl]
theorem x6 (b:Int) (l:List Int) (x:Int):vl b (l++[x])=vl b l+b^l.length*x:=by rw [Ff,tX]
theorem tk (b:Int):∀n:Nat,vl b (List.replicate n 0)=0
 |0=>rfl
 |n+1=>by rw [List.replicate_succ];show 0+b*vl b (List.replicate n 0)=0;rw [tk b n];simp
theorem hJ {l:List Int} {k:Nat} (h:k<l.length):l.getD k 0=l[k]:=by simp [ao,h]
theorem RB {l:List Int} {k:Nat} (h:k<l.length):l.take (k+1)=l.take k++[l.getD k 0]:=by rw [hJ h];simp
theorem dq {b:Int} {l:List Int} {k:Nat} (h:k<l.length):vl b (l.take (k+1))=vl b (l.take k)+b^k*l.getD k 0:=by
 rw [RB h,x6,ei,Nat.min_eq_left (by omega)]
theorem kU {b:Int} (l:List Int) (k:Nat):vl b (l.take (k+1))=vl b (l.take k)+b^k*l.getD k 0:=by
 by_cases h:k<l.length
 .exact dq h
 .have e:l.getD k 0=0:=by rw [ao,List.getElem?_eq_none (by omega)];rfl
  rw [e,eF (by omega),eF (by omega)];simp
theorem rP (b:Int) (l:List Int) (k:Nat) (h:k<=l.length):vl b l=vl b (l.take k)+b^k*vl b (l.drop k):=by
 have:=Ff b (l.take k) (l.drop k);rw [List.take_append_drop,ei,Nat.min_eq_left h]at this;exact this
theorem qz (b:Int):∀(l:List Int) (k:Nat) (x:Int),k<l.length->vl b (l.set k x)=vl b l+b^k*(x-l.getD k 0)
 |[],k,_,h=>absurd h (Nat.not_lt_zero _)
 |y::r,0,x,_=>by
  show x+b*vl b r=y+b*vl b r+b^0*(x-(y::r).getD 0 0);simp;omega
 |y::r,k+1,x,h=>by
  show y+b*vl b (r.set k x)=y+b*vl b r+b^(k+1)*(x-(y::r).getD (k+1) 0);have e:(y::r).getD (k+1) 0=r.getD k 0:=by simp
  rw [qz b r k x (by simpa using h),e,Int.mul_add,Int.pow_succ,Int.mul_comm (b^k) b,Int.mul_assoc,Int.add_assoc]
def eX (l:List Int):Prop:=∀k,l.length=k+1->l.getD k 0≠0
def iP (l:List Int):Nat->List Int
 |0=>[]
 |k+1=>if l.getD k 0=0 then iP l k else l.take (k+1)
theorem ll (l:List Int):∀k,k<=l.length->∃m,m<=k/\iP l k=l.take m/\(∀j,m<=j->j<k->l.getD j 0=0)/\(∀j,m=j+1->l.getD j 0≠0)
 |0,_=>⟨0,aG _,by simp [iP],fun j _ h=>by omega,fun j h=>by omega⟩
 |k+1,hk=>by
  unfold iP;by_cases h:l.getD k 0=0
  .rw [if_pos h];obtain⟨m,h1,h2,h3,h4⟩:=ll l k (by omega);refine⟨m,by omega,h2,fun j g1 g2=> ?_,h4⟩;by_cases e:j=k
   .rw [e];exact h
   .exact h3 j g1 (by omega)
  .rw [if_neg h];exact⟨k+1,aG _,rfl,fun j g1 g2=>by omega,fun j e=>by
    obtain rfl:j=k:=by omega
    exact h⟩
theorem Kz {b:Int} (l:List Int):∀k,k<=l.length->vl b (iP l k)=vl b (l.take k)
 |0,_=>by simp [iP]
 |k+1,hk=>by
  unfold iP;by_cases h:l.getD k 0=0
  .rw [if_pos h,Kz l k (by omega),dq (by omega),h];simp
  .rw [if_neg h]
theorem Fg (l:List Int) (k:Nat) (hk:k<=l.length):eX (iP l k):=by
 obtain⟨m,h1,h2,_,h4⟩:=ll l k hk;rw [h2];intro j hj;rw [ei,Nat.min_eq_left (by omega)]at hj;have:=h4 j hj;rwa [ao,List.getElem?_take,if_pos (by omega),<-ao]
theorem RC {b:Int} {l:List Int} (h:aT b l) (k:Nat) (hk:k<=l.length):aT b (iP l k):=by
 obtain⟨m,_,h2,_⟩:=ll l k hk;rw [h2];exact h.take _
theorem RD {l:List Int} (h:eX l):iP l l.length=l:=by
 cases hl:l.length with
 |zero=>rw [List.eq_nil_of_length_eq_zero hl];rfl
 |succ k=>
  unfold iP;rw [if_neg (h k hl)];exact eF (by omega)
theorem tl {b:Int} (hb:0<b) {l:List Int} (h:aT b l) (ht:eX l) {k:Nat} (hl:l.length=k+1):b^k<=vl b l:=by
 have h1:=dq (b:=b) (l:=l) (k:=k) (by omega);rw [eF (by omega)]at h1;have h2:=fO hb (h.take k);have h3:=h.at' (k:=k) (by omega);have h4:=ht k hl;have h5:b^k*1<=b^k*l.getD k 0:=eU (by omega) (cm (dK hb k));omega
theorem iQ {b:Int} (hb:1<=b) {m n:Nat} (h:m<=n):b^m<=b^n:=by
 obtain⟨d,rfl⟩:=Nat.exists_eq_add_of_le h;rw [Int.pow_add];have h1:=dK (show 0<b by omega) m;have h2:=dK (show 0<b by omega) d;have:=eU (show 1<=b^d by omega) (cm h1);omega
theorem vU {b:Int} (hb:1<b) {l m:List Int} (h:aT b l) (g:aT b m) (ht:eX m) (hl:l.length<m.length):vl b l<vl b m:=by
 obtain⟨k,hk⟩:∃k,m.length=k+1:=⟨m.length-1,by omega⟩;have h1:=fP (show 0<b by omega) h;have h2:=tl (show 0<b by omega) g ht hk;have h3:=iQ (show 1<=b by omega) (show l.length<=k by omega);omega
theorem Fh {b:Int} (hb:1<b) {l m:List Int} (h:aT b l) (g:aT b m) (hl:l.length=m.length) {k:Nat} (hk:k<l.length) (hlt:l.getD k 0<m.getD k 0) (heq:∀j,k<j->j<l.length->l.getD j 0=m.getD j 0):vl b l<vl b m:=by
 have hb0:0<b:=by omega
 have hd:l.drop (k+1)=m.drop (k+1):=by
  refine List.ext_getElem (by simp [hl]) fun i h1 h2=> ?_
  rw [List.getElem_drop,List.getElem_drop,<-hJ,<-hJ];exact heq _ (by omega) (by simp at h1;omega)
 rw [rP b l (k+1) (by omega),rP b m (k+1) (by omega),hd,dq hk,dq (by omega)];have h1:=fP hb0 (h.take k);rw [ei,Nat.min_eq_left (by omega)]at h1;have h2:=fO hb0 (g.take k);have h3:b^k*(l.getD k 0+1)<=b^k*m.getD k 0:=eU (by omega) (cm (dK hb0 k));rw [Int.mul_add,Int.mul_one]at h3;omega
theorem KA {b:Int} (hb:1<b):∀{l m:List Int},aT b l->aT b m->l.length=m.length->vl b l=vl b m->l=m
 |[],[],_,_,_,_=>rfl
 |[],_::_,_,_,h,_=>by cases h
 |_::_,[],_,_,h,_=>by cases h
 |x::l,y::m,h,g,hl,e=>by
  have e:x+b*vl b l=y+b*vl b m:=e;have h1:=h.head;have g1:=g.head;have hx:x=y:=by
   have a1:(x+b*vl b l)%b=x:=by rw [Int.add_mul_emod_self_left];exact Int.emod_eq_of_lt h1.1 h1.2
   have a2:(y+b*vl b m)%b=y:=by rw [Int.add_mul_emod_self_left];exact Int.emod_eq_of_lt g1.1 g1.2
   rw [<-a1,<-a2,e]
  subst hx;have e2:b*vl b l=b*vl b m:=by omega
  have e3:=Int.eq_of_mul_eq_mul_left (by omega) e2;rw [KA hb h.tail g.tail (by simpa using hl) e3]
theorem RE {b:Int} (hb:1<b) {l m:List Int} (h:aT b l) (g:aT b m) (hl:eX l) (hm:eX m) (e:vl b l=vl b m):l=m:=by
 rcases Nat.lt_trichotomy l.length m.length with h1|h1|h1
 .have:=vU hb h g hm h1;omega
 .exact KA hb h g h1 e
 .have:=vU hb g h hl h1;omega
theorem Fi {b:Int} (hb:1<b) {l:List Int} (h:aT b l) (ht:eX l):vl b l=0↔l=[]:=by
 constructor
 .intro e;exact RE hb h .nil ht (fun k hk=>by cases hk) (by rw [e];rfl)
 .rintro rfl;rfl
theorem eX.nil:eX []:=fun k h=>by cases h
section
variable {b:Int}
structure z8 (b v1 v2 v' aE u1 u2 u' s:Int):Prop where
 b2:2<=b
 s1:1<=s
 v1:1<=v1/\v1<b
 v2:0<=v2/\v2<b
 v':0<=v'/\v'<s
 aE:0<=aE/\aE<b
 u1:0<=u1/\u1<b
 u2:0<=u2/\u2<b
 u':0<=u'/\u'<s
variable {v1 v2 v' aE u1 u2 u' s:Int}
def gy (b v1 v2 v' s:Int):Int:=(v1*b+v2)*s+v'
def ny (b aE u1 u2 u' s:Int):Int:=((aE*b+u1)*b+u2)*s+u'
theorem wc {a c x:Int} (h:a*x<c*x) (hx:0<x):a<c:=Int.lt_of_mul_lt_mul_right h (cm hx)
theorem At (p:z8 b v1 v2 v' aE u1 u2 u' s) {t q:Int} (ht:0<=t) (hq:q*gy b v1 v2 v' s<=ny b aE u1 u2 u' s) (h:(aE*b+u1-t*v1)*b+u2<t*v2):q<t:=by
 have h1:(aE*b+u1)*b+u2+1<=t*(v1*b+v2):=by
  have e1:(aE*b+u1-t*v1)*b=(aE*b+u1)*b-t*v1*b:=Int.sub_mul _ _ _;have e2:t*(v1*b+v2)=t*v1*b+t*v2:=by rw [Int.mul_add,Int.mul_assoc]
  rw [e1]at h;rw [e2];omega
 have h2:=ar h1 (show 0<=s by have:=p.s1;omega);have e3:((aE*b+u1)*b+u2+1)*s=((aE*b+u1)*b+u2)*s+s:=by rw [Int.add_mul _ 1,Int.one_mul]
 rw [e3]at h2;have h3:t*(v1*b+v2)*s<=t*gy b v1 v2 v' s:=by
  rw [Int.mul_assoc];exact eU (by unfold gy;have:=p.v';omega) ht
 have h4:ny b aE u1 u2 u' s<t*gy b v1 v2 v' s:=by unfold ny;have:=p.u';omega
 have h5:q*gy b v1 v2 v' s<t*gy b v1 v2 v' s:=by omega
 refine wc h5 ?_;have:=p.v1;have h6:0<v1*b+v2:=by
  have:=Int.mul_pos (show 0<v1 by omega) (show 0<b by have:=p.b2;omega);have:=p.v2;omega
 have h7:=Int.mul_pos h6 (show 0<s by have:=p.s1;omega);unfold gy;have:=p.v';omega
theorem tm (p:z8 b v1 v2 v' aE u1 u2 u' s) {t:Int} (ht:0<=t/\t<b) (h:t*v2<=(aE*b+u1-t*v1)*b+u2):(t-1)*gy b v1 v2 v' s<=ny b aE u1 u2 u' s:=by
 have e1:(aE*b+u1-t*v1)*b=(aE*b+u1)*b-t*v1*b:=Int.sub_mul _ _ _;have e2:t*(v1*b+v2)=t*v1*b+t*v2:=by rw [Int.mul_add,Int.mul_assoc]
 have h1:t*(v1*b+v2)<=(aE*b+u1)*b+u2:=by rw [e2];rw [e1]at h;omega
 have h2:=ar h1 (show 0<=s by have:=p.s1;omega);have h3:t*v'<=(b-1)*s:=by
  have a:=ar (show t<=b-1 by omega) p.v'.1;have c:=eU (show v'<=s by have:=p.v';omega) (show 0<=b-1 by have:=p.b2;omega);omega
 have h4:b*s<=gy b v1 v2 v' s:=by
  have a:=ar p.v1.1 (show 0<=b by have:=p.b2;omega);rw [Int.one_mul]at a;have c:=ar (show b<=v1*b+v2 by have:=p.v2;omega) (show 0<=s by have:=p.s1;omega);unfold gy;have:=p.v';omega
 have e3:(t-1)*gy b v1 v2 v' s=t*gy b v1 v2 v' s-gy b v1 v2 v' s:=by rw [Int.sub_mul,Int.one_mul]
 have bU:t*gy b v1 v2 v' s=t*(v1*b+v2)*s+t*v':=by unfold gy;rw [Int.mul_add,Int.mul_assoc]
 have o7:(b-1)*s=b*s-s:=by rw [Int.sub_mul,Int.one_mul]
 rw [e3,bU];unfold ny;have:=p.u';have:=p.s1;omega
theorem wd (p:z8 b v1 v2 v' aE u1 u2 u' s) {t:Int} (ht:0<=t/\t<b) (h:b<=aE*b+u1-t*v1):t*v2<=(aE*b+u1-t*v1)*b+u2:=by
 have h1:t*v2<=b*b:=by
  have a:=ar (show t<=b by omega) p.v2.1;have c:=eU (show v2<=b by have:=p.v2;omega) (show 0<=b by have:=p.b2;omega);omega
 have h2:=ar h (show 0<=b by have:=p.b2;omega);have:=p.u2;omega
theorem RF (p:z8 b v1 v2 v' aE u1 u2 u' s) {q:Int} (mK:0<=q) (hq:q*gy b v1 v2 v' s<=ny b aE u1 u2 u' s):q*v1<=aE*b+u1:=by
 refine Int.not_lt.1 fun hlt=> ?_
 have hb:=p.b2;have h1:aE*b+u1+1<=q*v1:=hlt;have h2:=ar h1 (show 0<=b by omega);have e1:(aE*b+u1+1)*b=(aE*b+u1)*b+b:=by rw [Int.add_mul _ 1,Int.one_mul]
 rw [e1]at h2;have h3:=ar (show(aE*b+u1)*b+u2+1<=q*v1*b by have:=p.u2;omega) (show 0<=s by have:=p.s1;omega);have e2:((aE*b+u1)*b+u2+1)*s=((aE*b+u1)*b+u2)*s+s:=by rw [Int.add_mul _ 1,Int.one_mul]
 rw [e2]at h3;have h4:q*v1*b*s<=q*gy b v1 v2 v' s:=by
  rw [Int.mul_assoc,Int.mul_assoc];refine eU ?_ mK;rw [<-Int.mul_assoc];unfold gy;have a:v1*b*s<=(v1*b+v2)*s:=ar (by have:=p.v2;omega) (by have:=p.s1;omega);have:=p.v';omega
 unfold ny at hq;have:=p.u';omega
end
section
open Go.RowKit Sv Go.Proofs.Tryz
noncomputable section
abbrev aD:av:= .int .u64
abbrev cr (x:Int):aa:= .raw (.int .u64 x)
abbrev bE (l:List Int):aa:= .bh false aD l
abbrev qA (j:Nat) (l:List Int):aa:= .bR 167 aD j 0 l.length (bJ l.length)
abbrev qC (l:List Int):fG:= .opt 167 aD l
def gL (l:List Int):Bool:=l.all fun x=>decide (0<=x)&&decide (x<18446744073709551616)
def jC (l:List Int):Bool:=Nat.beq (iP l l.length).length l.length
def aj (l:List Int):Int:=vl 18446744073709551616 l
noncomputable def qS:Code:=(f188.body).getD .skip
def dL (l:List Int):List Int:=iP l l.length
def mL (w:List Int) (n:Nat):bC:={n:=21,sl:=[(0,bE w),(3,iv n)],bF:=[],next:=64}
def Fj (w:List Int) (n:Nat):bC:={n:=21,sl:=[(0,bE w),(3,iv ((n:Int)-1))],bF:=[],next:=64}
def ach (w:List Int):
  cO (aR []) (fl qS []) 2 21 [bE w] 1 .normal [] (mL w w.length):=
 wy [] 0
def aci (w:List Int) (n:Nat) (h1:(n:Int)>0) (h2:i6 ((n:Int)-1)) (h3:0<=(n:Int)-1) (h4:((n:Int)-1).toNat<w.length) (h5:w.getD ((n:Int)-1).toNat 0=0):
  bg (aR []) (fl qS [1,1,0,0,0]) (mL w n) 511 .normal [] (Fj w n):=
 wy [af (aN (ax h1)),yi h2,ah h3,ah h4,ah h1,cW h5] 154581839761004564545
def acj (w:List Int) (n:Nat) (h1:(n:Int)>0) (h2:i6 ((n:Int)-1)) (h3:0<=(n:Int)-1) (h4:((n:Int)-1).toNat<w.length) (h5:¬w.getD ((n:Int)-1).toNat 0=0):
  bg (aR []) (fl qS [1,1,0,0,0]) (mL w n) 383 (.exit 0) [] (mL w n):=
 wy [af (aN (ax h1)),yi h2,ah h3,ah h4,ah h1,yn h5] 7007887171328151617
def ack (w:List Int) (n:Nat) (h1:¬(n:Int)>0):
  bg (aR []) (fl qS [1,1,0,0,0]) (mL w n) 256 (.exit 0) [] (mL w n):=
 wy [af (aN (ab h1)),aA h1] 138529738817
def RG (w:List Int) (n:Nat) (h1:n<=w.length) (h2:((w.take n).drop 0)=(w.take n)):
  bH (aR []) ((fl qS []).drop 3) (mL w n) 1 f188 false (bE (w.take n)):=
 wy [ah h1,az h2] 528384
noncomputable def Fk:bp:={f:=188,ps:=[.list false aD],rs:=[.list false aD],fresh:=false,pre:=fun d=>decide (List.length (α:=Int) d.1<=1000000),fn:=fun d=>(dL d.1,())}
def acm (w:List Int) (hl:w.length<=1000000):Holds prog false 188 [bE w] (bE (dL w)):=by
 refine bL (c:=qS) func188 rfl rfl fun w0 F=> ?_
 refine cC bc 2 (ach w) ?_;refine aP.loop (ι:={n:Nat//n<=w.length/\iP w n=dL w}) (id:=0) (b:=cat qS [1,1,0,0,0]) (rest:=(fl qS []).drop 3) (by kernel_rfl) (fun n=>mL w n.1) (fun n=>n.1) ⟨w.length,aG _,rfl⟩ (fun _=>rfl) ?_;rintro⟨n,hn,hv⟩;cases n with
 |zero=>
  refine bl (s:=mL w 0) bc (ack w 0 (by omega)) ?_;refine cw (cz ?_);have e:dL w=w.take 0:=by rw [<-hv];rfl
  rw [e];exact bP (s:=mL w 0) bc (RG w 0 (by omega) rfl)
 |succ k=>
  have e0:(((k+1:Nat):Int)-1).toNat=k:=by omega
  have e1:Fj w (k+1)=mL w k:=by
   unfold Fj mL;rw [show(((k+1:Nat):Int)-1)=(k:Int) by omega]
  by_cases hz:w.getD k 0=0
  .refine bl (s:=mL w (k+1)) (s':=Fj w (k+1)) bc (aci w (k+1) (by omega) (by omega) (by omega) (by omega) (by rw [e0];exact hz)) ?_;have iO:iP w k=dL w:=by rw [<-hv,iP,if_pos hz]
   rw [e1];exact⟨⟨k,by omega,iO⟩,by simp,rfl,rfl⟩
  .refine bl (s:=mL w (k+1)) bc (acj w (k+1) (by omega) (by omega) (by omega) (by omega) (by rw [e0];exact hz)) ?_;refine cw (cz ?_);have e:dL w=w.take (k+1):=by rw [<-hv,iP,if_neg hz]
   rw [e];exact bP (s:=mL w (k+1)) bc (RG w (k+1) (by omega) rfl)
def tn:Fk.Ok prog:=fun⟨w,_⟩ h=>acm w (ap h)
end
end
def eX.cons {x:Int} {l:List Int} (h:eX l) (hx:l=[]->x≠0):eX (x::l):=fun k hk=>by
 cases l with
 |nil=>
  simp at hk;subst hk;exact hx rfl
 |cons y r=>
  cases k with
  |zero=>simp at hk
  |succ k=>
   have:=h k (by simpa using hk);simpa using this
def RH {b:Int} (hb:1<b):∀n:Nat,∃l,aT b l/\eX l/\vl b l=(n:Int):=fun n=>by
 induction n using Nat.strongRecOn with
 |_ n ih=>
  by_cases h0:n=0
  .subst h0;exact⟨[],aT.nil,eX.nil,rfl⟩
  .have hlt:((n:Int)/b).toNat<n:=by
    have h1:(n:Int)/b<n:=Int.ediv_lt_of_lt_mul (by omega) (by
     have:(n:Int)*1<n*b:=Int.mul_lt_mul_of_pos_left hb (by omega);omega)
    have h2:0<=(n:Int)/b:=Int.ediv_nonneg (by omega) (by omega);omega
   obtain⟨l,h1,h2,h3⟩:=ih _ hlt;have h4:0<=(n:Int)/b:=Int.ediv_nonneg (by omega) (by omega);rw [Int.toNat_of_nonneg h4]at h3;have h5:=eG (n:Int) (show b≠0 by omega);have h6:=e6 (n:Int) (show 0<b by omega);have h7:=Int.emod_add_mul_ediv (n:Int) b;refine⟨(n:Int)%b::l,aT.cons ⟨h5,h6⟩ h1,eX.cons h2 fun e hz=> ?_, ?_⟩
   .subst e;have h3:(0:Int)=(n:Int)/b:=h3;rw [hz,<-h3]at h7;simp at h7;omega
   .show(n:Int)%b+b*vl b l=n;rw [h3];exact h7
noncomputable def cM (b z:Int):List Int:=if h:1<b/\0<=z then Classical.choose (RH h.1 z.toNat)else []
def qD {b z:Int} (hb:1<b) (hz:0<=z):aT b (cM b z)/\eX (cM b z)/\vl b (cM b z)=z:=by
 unfold cM;rw [dif_pos ⟨hb,hz⟩];obtain⟨h1,h2,h3⟩:=Classical.choose_spec (RH hb z.toNat);exact⟨h1,h2,by rw [h3];omega⟩
def qE {b z:Int} {l:List Int} (hb:1<b) (h1:aT b l) (h2:eX l) (h3:vl b l=z):l=cM b z:=by
 have hz:0<=z:=by rw [<-h3];exact fO (by omega) h1
 obtain⟨g1,g2,g3⟩:=qD hb hz;exact RE hb h1 g1 h2 g2 (by rw [h3,g3])
def Aa {l:List Int} {i:Nat} {d:Int}:(l.set i d).take i=l.take i:=by
 refine List.ext_getElem? fun j=> ?_
 rw [List.getElem?_take,List.getElem?_take];split
 .rw [List.getElem?_set_ne (by omega)]
 .rfl
def vV {l:List Int} {i:Nat} {d:Int} (h:i<l.length):(l.set i d).getD i 0=d:=by
 rw [ao,List.getElem?_set_self h];rfl
def x7 {b:Int} {l:List Int} {i:Nat} {d:Int} (h:i<l.length):vl b ((l.set i d).take (i+1))=vl b (l.take i)+b^i*d:=by
 rw [kU,Aa,vV h]
def acn {b:Int} (hb:0<b) {l:List Int} (h:aT b l) (k:Nat):vl b (l.take k)<=vl b l:=by
 by_cases hk:k<=l.length
 .rw [rP b l k hk];have:=acg (cm (dK hb k)) (fO hb (h.drop k));omega
 .rw [eF (by omega)];exact Int.le_refl _
def tp {b:Int} (hb:0<b) {l:List Int} (h:aT b l) {k:Nat} (hlt:vl b l<b^k):vl b (l.take k)=vl b l:=by
 by_cases hk:k<=l.length
 .have hs:=rP b l k hk;have h1:=fO hb (h.drop k);have h2:=fO hb (h.take k);have hz:vl b (l.drop k)=0:=by
   by_cases hz:vl b (l.drop k)=0
   .exact hz
   .have h3:b^k*1<=b^k*vl b (l.drop k):=eU (by omega) (cm (dK hb k));omega
  rw [hz]at hs;omega
 .rw [eF (by omega)]
def KB {P b s c' a e c X Y O:Int} (h:s+b*c'=a+e+c) (hi:O+P*c=X+Y):O+P*s+P*b*c'=X+P*a+(Y+P*e):=by
 have h1:P*(s+b*c')=P*(a+e+c):=by rw [h]
 rw [Int.mul_add,Int.mul_add,Int.mul_add,<-Int.mul_assoc]at h1;omega
def RI {P b s c' a e c X Y O:Int} (h:s-b*c'=a-e-c) (hi:O-P*c=X-Y):O+P*s-P*b*c'=X+P*a-(Y+P*e):=by
 have h1:P*(s-b*c')=P*(a-e-c):=by rw [h]
 rw [Int.mul_sub,Int.mul_sub,Int.mul_sub,<-Int.mul_assoc]at h1;omega
end Go.Proofs.YtibikmmdbdlafaaGreatDoor
