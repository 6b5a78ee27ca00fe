import Derived.Test.YtibikmmdbdlafaaGreatDoorZcSvUse
import Derived.Lib.MakeNoZero
import Derived.Lib.LaidTab
import Derived.Lib.ItoaNum
import Derived.Test.YtibikmmdbdlafaaGreatDoorRows
import Derived.WalkKit
import Derived.ProofKit
import Derived.LaidMore
import Derived.OpenShut
import Derived.SevenTiedAt
import Derived.SizedLaws
import Derived.Shelf.Vars
set_option linter.defProp false
set_option linter.unusedSectionVars false
set_option linter.unusedSimpArgs false
set_option linter.unusedVariables false
set_option maxRecDepth 100000
namespace Go.Proofs.YtibikmmdbdlafaaGreatDoor.Sv
open Go.RowKit
section
variable [Ground]
noncomputable section
inductive cw:Type 1 where
 |b (x c:Bool)
 |e {α:Type} (x y:α)
 |o (P:Program) (m:Option Nat) (b:Option bl) (e:TypeId) (t:av) (xs:List t.den)
 |p (q:Prop)
def cw.ok:cw->Prop
 | .b x c=>x=c
 | .e x y=>x=y
 | .o P m k f t xs=>AG P m k f t xs
 | .p q=>q
def e4:List cw->Prop
 |[]=>True
 |o::l=>o.ok/\e4 l
abbrev iN:={o:cw//o.ok}
def af {x c:Bool} (h:x=c):iN:=⟨.b x c,h⟩
def ax {α:Type} {x y:α} (h:x=y):iN:=⟨.e x y,h⟩
def r9 {q:Prop} (h:q):iN:=⟨.p q,h⟩
def pG (P:Program) (e:TypeId) (t:av) {ys xs:List t.den} (h:ys=xs):iN:=⟨.o P none (some (.own e t ys)) e t xs,by subst h;simp [cw.ok,AG,r6,gY,pn]⟩
def ah {p:Prop} [Decidable p] (h:p):iN:=af (az h)
def aJ {p:Prop} [Decidable p] (h:¬p):iN:=af (ab h)
def cX {α:Type} [BEq α] [LawfulBEq α] {a b:α} (h:a=b):iN:=af (fU.mpr h)
def yn {α:Type} [BEq α] [LawfulBEq α] {a b:α} (h:¬a=b):iN:=af (e8.mpr h)
def yi {r:Int} (h: -9223372036854775808<=r/\r<=9223372036854775807):iN:=af (eN h)
def SV:Nat->Nat->List Bool
 |0,_=>[]
 |k+1,n=>cond (Nat.ble n 1) [] (Nat.beq (n%2) 1::SV k (n/2))
def dl (n:Nat):List Bool:=SV n n
def cw.fix:cw->cw
 | .b _ c=> .b c c
 | .e x _=> .e x x
 | .o P _ _ f t xs=> .o P none (bU f t xs) f t xs
 | .p _=> .p True
def cw.SW:cw->cw
 | .o P _ _ f t xs=> .o P none (some (.own f t xs)) f t xs
 |q=>q.fix
def FZ:List iN->Nat->cw->cw
 |[],_,o=>o.fix
 |f::F,k,o=>cond (Nat.beq k 0) f.1 (FZ F (k-1) o)
def F0 (F:List iN):List cw->Nat->List cw
 |[],_=>[]
 |o::l,n=>cond (Nat.beq (n%64) 0) o.fix (cond (Nat.beq (n%64) 63) o.SW (FZ F (n%64-1) o))::F0 F l (n/64)
def cw.SX:∀o:cw,o.fix.ok
 | .b _ _=>rfl
 | .e _ _=>rfl
 | .o _ _ _ _ _ _=>ac4 _ _ _ _
 | .p _=>trivial
def cw.adt:∀o:cw,o.SW.ok
 | .b _ _=>rfl
 | .e _ _=>rfl
 | .o P _ _ f t _=>(pG P f t rfl).2
 | .p _=>trivial
def SY:∀(F:List iN) (k:Nat) (o:cw),(FZ F k o).ok
 |[],_,o=>o.SX
 |f::F,k,o=>by unfold FZ;cases Nat.beq k 0<;>first |exact SY F _ o|exact f.2
def Lc (F:List iN):∀(l:List cw) (n:Nat),e4 (F0 F l n)
 |[],_=>trivial
 |o::l,n=>⟨by cases Nat.beq (n%64) 0<;>cases Nat.beq (n%64) 63<;>first |exact o.SX|exact o.adt|exact SY F _ o,Lc F l _⟩
def aD.obs {α:Type} (w:Bool):aD α->List Bool->(α->List cw)->List cw
 | .ret a,_,q=>q a
 | .must b k,D,q=> .b b true::k.obs w D q
 | .ask b k,[],q=>(k b).obs w [] q
 | .ask b k,c::D,q=> .b b c::(k c).obs w D q
 | .opt b k l,D,q=> .b b (!w)::match w with |false=>k.obs w D q|true=>l.obs w D q
class C9 {α:Type} (Q:α->Prop) where
 yC:α->List cw
 ok:∀a,e4 (yC a)->Q a
instance (priority:=low) {α:Type} (Q:α->Prop):C9 Q:=⟨fun a=>[.p (Q a)],fun _ h=>h.1⟩
def aD.Da {α:Type} {Q:α->Prop} {q:α->List cw} (hq:∀a,e4 (q a)->Q a):∀(x:aD α) (D:List Bool),e4 (x.obs false D q)->x.path D Q
 | .ret a,_,h=>hq a h
 | .must _ k,D,h=>⟨h.1,Da hq k D h.2⟩
 | .ask b k,[],h=>Da hq (k b) [] h
 | .ask _ k,c::D,h=>⟨h.1,Da hq (k c) D h.2⟩
 | .opt _ k _,D,h=>⟨h.1,Da hq k D h.2⟩
def aD.Db {α:Type} {Q:α->Prop} {q:α->List cw} (hq:∀a,e4 (q a)->Q a):∀(x:aD α) (D:List Bool),e4 (x.obs true D q)->x.uh D Q
 | .ret a,_,h=>hq a h
 | .must _ k,D,h=>⟨h.1,Db hq k D h.2⟩
 | .ask b k,[],h=>Db hq (k b) [] h
 | .ask _ k,c::D,h=>⟨h.1,Db hq (k c) D h.2⟩
 | .opt _ _ l,D,h=>⟨h.1,Db hq l D h.2⟩
def wy {α:Type} {r:aD α} {D:List Bool} {Q:α->Prop} [I:C9 Q] (F:List iN) (n:Nat) (h:r.obs false D I.yC=F0 F (r.obs false D I.yC) n:=by kernel_rfl):r.path D Q:=aD.Da I.ok r D (by rw [h];exact Lc F _ n)
def adu {α:Type} {r:aD α} {D:List Bool} {Q:α->Prop} [I:C9 Q] (F:List iN) (n:Nat) (h:r.obs true D I.yC=F0 F (r.obs true D I.yC) n:=by kernel_rfl):r.uh D Q:=aD.Db I.ok r D (by rw [h];exact Lc F _ n)
def mL (b:Bool) (l:List cw):List cw:=match b with |true=>l|false=>[.p False]
def AN (t u:av) (xs:List t.den) (ys:List u.den) (K:List cw):List cw:=if h:t=u then .e (h ▸ xs) ys::K else [.p False]
def Ld (z z':Bool) (n:Nat) (l:List cw):List cw:=match z',z with
 |true,false=> .b (Nat.ble 1 n) true::l
 |_,_=>l
def F1:Value->Value->List cw->List cw
 | .int k a, .int k' b,K=>mL (decide (k=k')) (.e a b::K)
 | .bool a, .bool b,K=> .e a b::K
 | .string a, .string b,K=> .e a b::K
 |a,b,K=> .e a b::K
def adv (m:Option Nat) (c c':aX) (K:List cw):List cw:=match m with
 |none=> .e c c'::K
 |some m=> .e c (.known m):: .e c' (bH m)::K
def Le (σ:Ren) (i n:Nat) (c:aX) (j n':Nat) (c':aX) (K:List cw):List cw:=match look σ j with
 |some (i',m)=>mL (Nat.beq i i') (.e n n'::adv m c c' K)
 |none=>[.p False]
mutual
def Dc (σ:Ren):aa->aa->List cw->List cw
 |_, .bot,K=>K
 | .raw (.slice none 0 0), .bR _ _ _ _ n _,K=> .e n 0::K
 | .raw (.slice none 0 0), .bn _ _ ys,K=> .e ys []::K
 | .raw a, .raw b,K=>F1 a b K
 | .ptr i off, .ptr j off',K=>mL (oa σ j i) (.e off off'::K)
 | .slice i off n c, .slice j off' n' c',K=>mL (oa σ j i) (.e off off':: .e n n':: .e c c'::K)
 | .slice i 0 n c, .bR _ _ j 0 n' c',K=>Le σ i n c j n' c' K
 | .func f a b, .func f' a' b',K=>mL (decide (f=f')) (wu σ a a' (wu σ b b' K))
 | .map i, .map j,K=>mL (oa σ j i) K
 | .iface t v, .iface t' v',K=>mL (Nat.beq t t') (Dc σ v v' K)
 | .agg l, .agg l',K=>wu σ l l' K
 | .tuple l, .tuple l',K=>wu σ l l' K
 | .bn z t xs, .bn z' u ys,K=>AN t u xs ys (Ld z z' ys.length K)
 | .fy t xs k off, .fy u ys k' off',K=>AN t u xs ys (.e k k':: .e off off'::K)
 | .bR e t i k n c, .bR e' u j k' n' c',K=>mL (Nat.beq e e'&&(decide (t=u)&&oa σ j i)) (.e k k':: .e n n':: .e c c'::K)
 | .dL e t i k off, .dL e' u j k' off',K=>mL (Nat.beq e e'&&(decide (t=u)&&oa σ j i)) (.e k k':: .e off off'::K)
 |_,_,_=>[.p False]
def wu (σ:Ren):List aa->List aa->List cw->List cw
 |[],[],K=>K
 |v::l,v'::l',K=>Dc σ v v' (wu σ l l' K)
 |_,_,_=>[.p False]
end
def eJ {b:Bool} {l:List cw} {p:Prop} {K:List cw} (h:e4 (mL b l)) (g:e4 l->p/\e4 K):gY b p/\e4 K:=by
 cases b with
 |true=>exact g h
 |false=>exact h.1.elim
def AO {t u:av} {xs:List t.den} {ys:List u.den} {K:List cw} (h:e4 (AN t u xs ys K)):pn t u xs ys/\e4 K:=by
 unfold AN at h;unfold pn;split at h
 .rename_i e;rw [dif_pos e];exact h
 .exact h.1.elim
def SZ {z z':Bool} {n:Nat} {K:List cw} {p:Prop} (g:p) (h:e4 (Ld z z' n K)):FQ z z' n p/\e4 K:=by
 cases z'<;>cases z
 .exact⟨g,h⟩
 .exact⟨g,h⟩
 .exact⟨⟨g,h.1⟩,h.2⟩
 .exact⟨g,h⟩
def Lf {a b:Value} {K:List cw} (h:e4 (F1 a b K)):yt a b/\e4 K:=by
 unfold F1 at h;unfold yt;split at h
 .exact eJ h fun h=>h
 .exact h
 .exact h
 .rename_i h1 h2 h3;refine⟨?_,h.2⟩;split
  .exact(h1 _ _ _ _ rfl rfl).elim
  .exact(h2 _ _ rfl rfl).elim
  .exact(h3 _ _ rfl rfl).elim
  .exact h.1
def adw {σ:Ren} {i n:Nat} {c:aX} {j n':Nat} {c':aX} {K:List cw} (h:e4 (Le σ i n c j n' c' K)):AF σ i n c j n' c'/\e4 K:=by
 unfold Le at h;unfold AF;cases hl:look σ j with
 |none=>simp only [hl]at h;exact h.1.elim
 |some q=>
  simp only [hl]at h ⊢;refine eJ h fun h=> ?_
  obtain⟨q1,aQ⟩:=q;cases aQ with
  |none=>exact⟨⟨h.1,h.2.1⟩,h.2.2⟩
  |some m=>exact⟨⟨h.1,h.2.1,h.2.2.1⟩,h.2.2.2⟩
mutual
def F2 {σ:Ren}:∀{v v':aa} {K:List cw},e4 (Dc σ v v' K)->wk σ v v'/\e4 K:=by
 intro v v' K h;unfold Dc at h;unfold wk;split at h
 .exact⟨trivial,h⟩
 .exact h
 .exact h
 .exact Lf h
 .exact eJ h fun h=>h
 .exact eJ h fun h=>⟨⟨h.1,h.2.1,h.2.2.1⟩,h.2.2.2⟩
 .exact adw h
 .exact eJ h fun h=>by
   obtain⟨h1,h2⟩:=AP h;obtain⟨h2,h3⟩:=AP h2;exact⟨⟨h1,h2⟩,h3⟩
 .exact eJ h fun h=>⟨trivial,h⟩
 .exact eJ h fun h=>F2 h
 .exact AP h
 .exact AP h
 .exact SZ (AO h).1 (AO h).2
 .obtain⟨h1,h2⟩:=AO h;exact⟨⟨h1,h2.1,h2.2.1⟩,h2.2.2⟩
 .exact eJ h fun h=>⟨⟨h.1,h.2.1,h.2.2.1⟩,h.2.2.2⟩
 .exact eJ h fun h=>⟨⟨h.1,h.2.1⟩,h.2.2⟩
 .exact h.1.elim
def AP {σ:Ren}:∀{v v':List aa} {K:List cw},e4 (wu σ v v' K)->r5 σ v v'/\e4 K:=by
 intro v v' K h;unfold wu at h;unfold r5;split at h
 .exact⟨trivial,h⟩
 .obtain⟨h1,h2⟩:=F2 h;obtain⟨h2,h3⟩:=AP h2;exact⟨⟨h1,h2⟩,h3⟩
 .exact h.1.elim
end
def Lg (P:Program) (m:Option Nat) (b:Option bl) (e:TypeId) (t:av) (xs:List t.den) (K:List cw):List cw:=match b,m with
 |some (.own e' u ys),none=>mL (Nat.beq e e') (AN u t ys xs K)
 |b,m=> .p (r6 P m b e t xs)::K
def Lh (P:Program) (σ:Ren) (H:ai) (p:Nat×fJ) (K:List cw):List cw:=match look σ p.1 with
 |none=>(match p.2 with | .opt _ _ xs=> .e xs []::K| .blk _=>[.p False])
 |some (i,m)=>match p.2 with
  | .opt e t xs=> .o P m (H.get i) e t xs::K
  | .blk (.own e t xs)=>Lg P m (H.get i) e t xs K
  | .blk (.cells e cs x f r)=>(match H.get i,m with
    |some (.cells e' cs' x' f' r'),none=>mL (Nat.beq e e'&&(x==x'&&(f==f'&&r==r'))) (wu σ cs' cs K)
    |_,_=>[.p False])
  | .blk _=>[.p False]
def Li (σ:Ren) (T:au aa) (K:List cw):List (Nat×aa)->List cw
 |[]=>K
 |p::l=>Dc σ ((T.get p.1).getD (.raw undef)) p.2 (Li σ T K l)
def F3 (P:Program) (σ:Ren) (H:ai):List (Nat×fJ)->List cw
 |[]=>[]
 |p::l=>Lh P σ H p (F3 P σ H l)
def Lj (P:Program) (σ:Ren) (n:Nat) (T:au aa) (H:ai) (s:bD):List cw:=
 mL (Nat.beq s.n n&&(wm σ s.next&&(Sz s.next s.bJ&&(SA n s.sl&&Nat.ble 64 s.next)))) (Li σ T (F3 P σ H s.bJ) s.sl)
def adx {P:Program} {m:Option Nat} {b:Option bl} {e:TypeId} {t:av} {xs:List t.den} {K:List cw} (h:e4 (Lg P m b e t xs K)):r6 P m b e t xs/\e4 K:=by
 unfold Lg at h;split at h
 .unfold r6;exact eJ h fun h=>AO h
 .exact h
def S0 {P:Program} {σ:Ren} {H:ai} {p:Nat×fJ} {K:List cw} (h:e4 (Lh P σ H p K)):AH P σ H p/\e4 K:=by
 obtain⟨j,bJ⟩:=p;unfold Lh at h;unfold AH;cases hl:look σ j with
 |none=>
  simp only [hl]at h ⊢;cases bJ with
  |opt e t xs=>exact h
  |blk k=>exact h.1.elim
 |some q=>
  simp only [hl]at h ⊢;cases bJ with
  |opt e t xs=>exact h
  |blk k=>cases k with
   |own e t xs=>exact adx h
   |cells e cs x f r=>
    simp only at h ⊢;split at h
    .rename_i g1 g2;rw [g1,g2];exact eJ h fun h=>AP h
    .exact h.1.elim
   |_=>exact h.1.elim
def S1 {P:Program} {σ:Ren} {n:Nat} {T:au aa} {H:ai} {s:bD} (h:e4 (Lj P σ n T H s)):fit P σ n T H s:=by
 have h1:∀(l:List (Nat×fJ)),e4 (F3 P σ H l)->CZ P σ H True l:=fun l=>by
  induction l with
  |nil=>exact fun h=>h
  |cons p l ih=>exact fun h=>⟨(S0 h).1,ih (S0 h).2⟩
 have h2:∀(l:List (Nat×aa)),e4 (Li σ T (F3 P σ H s.bJ) l)->FR σ T (CZ P σ H True s.bJ) l:=fun l=>by
  induction l with
  |nil=>exact h1 _
  |cons p l ih=>exact fun h=>⟨(F2 h).1,ih (F2 h).2⟩
 unfold fit;exact(eJ (K:=[]) h fun h=>⟨h2 _ h,trivial⟩).1
instance (P:Program) (n:Nat) (e:Exit) (σ:Ren) (s':bD):C9 (ef P n e σ s') where
 yC:=fun r=>match r with
  | .normal T H []=>(match e with | .normal=>Lj P σ n T H s'|_=>[.p False])
  | .exit id T H []=>(match e with | .exit i=>mL (Nat.beq i id) (Lj P σ n T H s')|_=>[.p False])
  |_=>[.p False]
 ok:=fun r h=>by
  unfold ef;split at h
  .split at h
   .exact S1 h
   .exact h.1.elim
  .split at h
   .exact(eJ (K:=[]) h fun h=>⟨S1 h,trivial⟩).1
   .exact h.1.elim
  .exact h.1.elim
mutual
def F4 (fr:Bool) (H:ai):aa->aa->List cw->List cw
 | .raw (.slice none 0 0), .bn _ _ ys,K=> .e ys []::K
 | .raw a, .raw b,K=>F1 a b K
 | .bn z t xs, .bn z' u ys,K=>mL (!fr) (AN t u xs ys (Ld z z' ys.length K))
 | .bR e t i k len c, .bn z u ys,K=> .p (cD fr H (.bR e t i k len c) (.bn z u ys))::K
 | .slice i off n c, .bn z u ys,K=> .p (cD fr H (.slice i off n c) (.bn z u ys))::K
 | .agg l, .agg l',K=>Dd fr H l l' K
 | .tuple l, .tuple l',K=>Dd fr H l l' K
 |_,_,_=>[.p False]
def Dd (fr:Bool) (H:ai):List aa->List aa->List cw->List cw
 |[],[],K=>K
 |v::l,v'::l',K=>F4 fr H v v' (Dd fr H l l' K)
 |_,_,_=>[.p False]
end
def ady {fr:Bool} {H:ai} {a b:Value} (h:yt a b):cD fr H (.raw a) (.raw b):=by
 unfold cD;split
 .rename_i e;cases e
 .rename_i e1 e2;cases e1;cases e2;exact h
 all_goals first
  |(rename_i e _;cases e;done)
  |(rename_i g _ _ _ _ _;exact(g _ _ rfl rfl).elim)
mutual
def S2 {fr:Bool} {H:ai}:∀{v v':aa} {K:List cw},e4 (F4 fr H v v' K)->cD fr H v v'/\e4 K:=by
 intro v v' K h;unfold F4 at h;split at h
 .unfold cD;exact h
 .exact⟨ady (Lf h).1,(Lf h).2⟩
 .unfold cD;exact eJ h fun h=>SZ (AO h).1 (AO h).2
 .exact h
 .exact h
 .unfold cD;exact Ll h
 .unfold cD;exact Ll h
 .exact h.1.elim
def Ll {fr:Bool} {H:ai}:∀{v v':List aa} {K:List cw},e4 (Dd fr H v v' K)->um fr H v v'/\e4 K:=by
 intro v v' K h;unfold Dd at h;unfold um;split at h
 .exact⟨trivial,h⟩
 .obtain⟨h1,h2⟩:=S2 h;obtain⟨h2,h3⟩:=Ll h2;exact⟨⟨h1,h2⟩,h3⟩
 .exact h.1.elim
end
instance (P:Program) (fn:Func) (fresh:Bool) (res:aa):C9 (ur P fn fresh res) where
 yC:=fun r=>match r with
  | .ret T H []=>(match jX P fn T H with | .ok v _=>F4 fresh H v res []|_=>[.p False])
  |_=>[.p False]
 ok:=fun r h=>by
  split at h
  .show(match jX P fn _ _ with | .ok v _=>cD fresh _ v res|_=>False)
   split at h
   .exact(S2 h).1
   .exact h.1.elim
  .exact h.1.elim
end
end
section
variable [Ground]
noncomputable section
structure gQ where
 f:FuncId
 e:TypeId
 t:av
 ps:List av
 rs:List av
 pre:List t.den->Nat->Nat->iu ps->Bool
 out:List t.den->Nat->Nat->iu ps->List t.den
 fn:List t.den->Nat->Nat->iu ps->iu rs
def qO (A:Nat->Option (Nat×Nat)) (Y:Nat->Option Obj):Ext:={rd:=none,K:=fun _=>none,R:=fun _ _=>False,pin:=[64],A:=A,Y:=Y}
def qP (e:TypeId) (t:av) (xs:List t.den):ai:=⟨AE .nil [(64, .blk (.own e t xs))],65⟩
def Kp (P:Program) (fn:Func) (e:TypeId) (t:av) (xs:List t.den) (res:aa):Exit->au aa->ai->Prop:=fun ex T H=>match ex with
 | .normal| .ret=>(match jX P fn T H with | .ok v _=>cD true H v res/\H.get 64=some (.own e t xs)|_=>False)
 |_=>False
def De:List av->Bool
 |[]=>true
 |t::l=>t.lR&&De l
def gQ.Ok (P:Program) (c:gQ):Prop:=c.t.lR=true/\De c.rs=true/\∃fn code,P.funcs[c.f]? =some fn/\fn.body=some code/\c.ps.length+1<=fn.ntmps/\
 ∀(xs:List c.t.den) (k len:Nat) (cap:aX) (d:iu c.ps),c.pre xs k len d=true->1<=len->k+len<=xs.length->∀A Y w F,
  ba (qO A Y) P w F fn.ntmps (fl code []) (dq (.bR c.e c.t 64 k len cap::j6 c.ps d) .nil 0) (qP c.e c.t xs) (Kp P fn c.e c.t (c.out xs k len d) (od c.rs (c.fn xs k len d)))
def yD (c:gQ) (args:List aa) (H:ai):aD aL:=match args with
 | .bR e t i k len _::vs=>(match Nat.beq e c.e&&decide (t=c.t)with
   |true=>uq H false (.ret .no) c.ps vs fun d=> .must (bz c.e c.t (H.get i) (k+len-1)&&Nat.ble 1 len) (.must (c.pre (bN c.t (H.get i)) k len d)
     (.ret (.ok (od c.rs (c.fn (bN c.t (H.get i)) k len d)) (H.set i (.own c.e c.t (c.out (bN c.t (H.get i)) k len d))))))
   |false=> .ret .no)
 |_=> .ret .no
def AQ (l:List gQ) (bu:bG):bG:=fun f args H=>match l with
 |[]=>bu f args H
 |c::l=>match Nat.beq f c.f with |true=>yD c args H|false=>AQ l bu f args H
section
variable {P:Program} {B:Nat} {ρ:Env} {H:ai} {w:World}
def Lm:∀(ts:List av) (d:iu ts),(j6 ts d).length=ts.length
 |[],_=>rfl
 |_::l,d=>by simp [j6,Lm l d.2]
def adz {F F':Env} {t:av} (ht:t.lR=true) {d:t.den} {x:Value} (h:Den F (wc t d) x):Den F' (wc t d) x:=by
 cases ha:t.isAgg with
 |true=>
  unfold wc at h ⊢;rw [ha]at h ⊢;obtain⟨xs,g1,rfl⟩:=h.tP;exact .agg (yy t d xs ht g1)
 |false=>
  have h1:aG F (t.cells d) [x]:=by rw [C8 ha];exact .cons h .nil
  have h2:=yy (ρ':=F') t d _ ht h1;rw [C8 ha]at h2;cases h2 with |cons g _=>exact g
def S3 {F F':Env}:∀(ts:List av),De ts=true->∀{d:iu ts} {xs:List Value},aG F (j6 ts d) xs->aG F' (j6 ts d) xs
 |[],_,_,_,h=>by cases h;exact .nil
 |t::l,hn,d,_,h=>by
  have hn:(t.lR&&De l)=true:=hn;rw [ae]at hn;cases h with
  |cons h1 h2=>exact .cons (adz hn.1 h1) (S3 l hn.2 h2)
def adA {F F':Env} {rs:List av} (hn:De rs=true) {d:iu rs} {x:Value} (h:Den F (od rs d) x):Den F' (od rs d) x:=by
 have key:∀l,j6 rs d=l->Den F (match l with |[v]=>v|vs=> .tuple vs) x->Den F' (match l with |[v]=>v|vs=> .tuple vs) x:=by
  intro l hl hd;have hds:∀xs,aG F l xs->aG F' l xs:=fun xs hx=>by rw [<-hl]at hx ⊢;exact S3 rs hn hx
  split at hd
  .rename_i v;have:=hds [x] (.cons hd .nil);cases this with |cons g _=>exact g
  .obtain⟨xs,g1,rfl⟩:=hd.Cu;exact .tuple (hds _ g1)
 exact key _ rfl h
def Ln {ρ ρ':Env} {t:av} (ht:t.lR=true) {xs:List t.den} {ys:List Value} (h:aG ρ (t.flat xs) ys):aG ρ' (t.flat xs) ys:=ob (fun d ys=>yy t d ys ht) xs ys h
def AR {e:TypeId} {t:av} {xs:List t.den} {i:Nat} {k:bl} (h:(qP e t xs).get i=some k):i=64/\k= .own e t xs:=by
 have h:(AE .nil [(64, .blk (.own e t xs))]).get i=some k:=h;rw [KQ]at h;by_cases hi:i=64
 .subst hi;cases h;exact⟨rfl,rfl⟩
 .have hb:Nat.beq 64 i=false:=by
   cases hb:Nat.beq 64 i with
   |false=>rfl
   |true=>exact absurd (ac hb).symm hi
  simp only [List.find?,hb]at h;rw [au.get_nil]at h;cases h
def adB {c:gQ} {args:List aa} {v:aa} {H':ai} (h:(yD c args H).gr=some (.ok v H')):∃i k len cap vs xs d,args= .bR c.e c.t i k len cap::vs/\H.get i=some (.own c.e c.t xs)/\1<=len/\k+len<=xs.length/\c.pre xs k len d=true/\
  v=od c.rs (c.fn xs k len d)/\H'=H.set i (.own c.e c.t (c.out xs k len d))/\(∀F xv,aZ P B ρ H w->F=jE false w ρ->aG ρ vs xv->aG F (j6 c.ps d) xv):=by
 unfold yD at h;split at h
 .rename_i e t i k len cap vs;split at h
  .rename_i he;rw [ae]at he;have e1:=ac he.1;have e2:=ap he.2;subst e1;subst e2;have main:∃d:iu c.ps,(aD.must (bz c.e c.t (H.get i) (k+len-1)&&Nat.ble 1 len) (.must (c.pre (bN c.t (H.get i)) k len d)
    (.ret (aL.ok (od c.rs (c.fn (bN c.t (H.get i)) k len d)) (H.set i (.own c.e c.t (c.out (bN c.t (H.get i)) k len d))))))).gr=some (.ok v H')/\(∀F xv,aZ P B ρ H w->F=jE false w ρ->aG ρ vs xv->aG F (j6 c.ps d) xv):=by
    by_cases hH:aZ P B ρ H w
    .obtain⟨d,h1,h2⟩:=FY (w:=w) hH (cE:=false) (no:=aD.ret aL.no) (b:=aL.ok v H') (by simp [aD.gr]) c.ps h;exact⟨d,h1,fun F xv _ hF hx=>by subst hF;exact h2 xv hx⟩
    .obtain⟨d,h1⟩:=C7 (cE:=false) (no:=aD.ret aL.no) (b:=aL.ok v H') (by simp [aD.gr]) c.ps h;exact⟨d,h1,fun F xv hh=>absurd hh hH⟩
   obtain⟨d,h1,h2⟩:=main;cases hm:(bz c.e c.t (H.get i) (k+len-1)&&Nat.ble 1 len)with
   |false=>rw [hm]at h1;cases h1
   |true=>
    rw [hm]at h1;rw [ae]at hm;obtain⟨b1,b2⟩:=vN hm.1;have b3:=bT hm.2;cases hp:c.pre (bN c.t (H.get i)) k len d with
    |false=>rw [hp]at h1;cases h1
    |true=>
     rw [hp]at h1;simp only [aD.gr,cond_true,tC,aL.ok.injEq]at h1;obtain⟨rfl,rfl⟩:=h1;exact⟨i,k,len,cap,vs,bN c.t (H.get i),d,rfl,b1,b3,by omega,hp,rfl,rfl,h2⟩
  .cases h
 .cases h
def adC {c:gQ} (hc:c.Ok P) {args:List aa} {v:aa} {H':ai} (h:(yD c args H).gr=some (.ok v H')) {xs:List Value} (m:Nat) (hH:aZ P B ρ H w) (cv:n8 ρ) (hd:aG ρ args xs):CallsIn (dW none) m P c.f xs.toArray w (mF P B ρ H w v H'):=by
 obtain⟨i,k,len,cap,vs,us,d,rfl,hi,hlen,hk,hp,rfl,rfl,hvs⟩:=adB (P:=P) (B:=B) (ρ:=ρ) (w:=w) h;obtain⟨wz,hrl,fn,code,hf,hb,hn,hbody⟩:=hc;cases hd with
 |cons Df hds=>
  rename_i x0 xr;rcases Df.jx with⟨h0,_⟩|⟨b,c0,kc,hr,hcap,hlk,rfl⟩
  .omega
  obtain⟨b',c',o,e1,e2,e3,bV⟩:=hH.blk i _ hi;rw [hr]at e1;cases e1;have lK:b<w.heap.size:=(dJ.1 e2).1
  let yE:Env:=⟨fun j=>if j<64 then ρ j else if j=64 then some (b,c0)else none,ρ.fz⟩
  let A:Nat->Option (Nat×Nat):=fun j=>if j=64 then some (b,c0)else none
  let Y:Nat->Option Obj:=fun q=>if q=b then none else w.heap[q]?
  let w0:World:={w with heap:=w.heap.extract 0 b}
  have hw0:w0.heap.size=b:=by show(w.heap.extract 0 b).size=b;simp;omega
  have jD:yE 64=some (b,c0):=rfl;have hown:∀eo:Env,eo 64=some (b,c0)->∀o,gM P ρ i (.own c.e c.t us) o->gM P eo 64 (.own c.e c.t us) o:=by
   rintro eo h2 o ⟨⟨zs,fz,g1,g2,g3,g4,g5⟩,g6⟩;refine⟨⟨zs,fz,g1,g2,Ln wz g3,g4,fun hx=> ?_⟩,g6⟩;obtain⟨b1,c1,q1,aQ⟩:=g5 hx;rw [hr]at q1;cases q1;exact⟨b,c0,h2,aQ⟩
  have Lo:aZ P b yE (qP c.e c.t us) w:=by
   refine⟨fun j q hj=> ?_,fun j j' q q' bb ck F5 hj hj' _ _=> ?_,fun j q hj=> ?_,Nat.le_of_lt lK,fun bb j7 hz=> ?_⟩
   .obtain⟨rfl,rfl⟩:=AR hj;exact⟨b,c0,o,rfl,e2,hown _ rfl _ e3,fun _=>aI _⟩
   .rw [(AR hj).1,(AR hj').1]
   .rw [(AR hj).1];exact fG _
   .refine⟨(hH.fz bb j7 hz).1,fun j q ck hj hr'=> ?_⟩;obtain⟨rfl,rfl⟩:=AR hj;rw [jD]at hr';cases hr';exact(hH.fz _ j7 hz).2 i _ c0 hi hr
  have adD:aG yE (.bR c.e c.t 64 k len cap::j6 c.ps d) (.slice (some ⟨b,k*c.t.size,none⟩) len kc::xr):=by
   refine .cons (.bR jD hcap hlk) (aG.mono (ρ:=jE false w ρ) (ρ':=yE) ⟨fun j x hj=> ?_,fun _ _ h=>h⟩ (hvs _ xr hH rfl hds));have hj:(if j<64 then ρ j else none)=some x:=hj;by_cases h6:j<64
   .rw [if_pos h6]at hj;show(if j<64 then ρ j else _)=some x;rw [if_pos h6];exact hj
   .rw [if_neg h6]at hj;cases hj
  have hs:mJ (qO A Y) P w0 yE fn.ntmps (dq (.bR c.e c.t 64 k len cap::j6 c.ps d) .nil 0) (qP c.e c.t us) {tmps:=(Value.slice (some ⟨b,k*c.t.size,none⟩) len kc::xr).toArray++Array.replicate (fn.ntmps-(Value.slice (some ⟨b,k*c.t.size,none⟩) len kc::xr).toArray.size) undef,defers:=[]} w:=by
   refine⟨⟨yE,⟨CE adD (by simp [Lm];omega),by rw [hw0];exact Lo,fun g hg=> ?_,cv.Al⟩,fun j hj=> ?_,fun bb j7 hz=> .inl hz,⟨fun bb kr h=>(by cases h),fun j hj=> ?_,fun bb j7 h=>(by cases h),Nat.zero_le _,fun bb kr h=>(by cases h),rfl,fun bb kr hy=> ?_⟩⟩,⟨rfl,rfl,rfl,by rw [hw0];exact Nat.le_of_lt lK,fun q hq=> ?_⟩,rfl⟩
   .obtain⟨Lp,Lq⟩:=cv.at' g hg;exact⟨Lp,by show(if g<64 then ρ g else _)=_;rw [if_pos hg];exact Lq⟩
   .have hj:65<=j:=hj;show(if j<64 then ρ j else if j=64 then some (b,c0)else none)=none;rw [if_neg ω,if_neg ω]
   .have hj:j∈[64]:=hj;rw [List.mem_singleton]at hj;subst hj;exact⟨fG _,fun x hx=>hx⟩
   .have hy:(if bb=b then none else w.heap[bb]?)=some kr:=hy;by_cases hbb:bb=b
    .rw [if_pos hbb]at hy;cases hy
    .rw [if_neg hbb]at hy;refine⟨hy,fun⟨j,q,ck,hj,_,hr'⟩=> ?_⟩;obtain⟨rfl,rfl⟩:=AR hj;rw [jD]at hr';cases hr';exact hbb rfl
   .have hq:q<b:=by rw [<-hw0];exact hq
    show w.heap[q]? =(w.heap.extract 0 b)[q]?;rw [Array.getElem?_extract];rw [if_pos ω];simp
  refine callsIn_of_wp_marks hf hb trivial (wpIn_mono (uu (by have:=hbody us k len cap d hp hlen hk A Y w0 yE;rwa [fl,Lb]at this) _ _ hs m) fun e a' w' hh=> ?_);obtain⟨aO,H1,h1,h2⟩:=hh.resolve_right fun q=>q.2
  obtain⟨eo,aR,hnone,hfz,hkp⟩:=h2.ex;have hd':=h2.defers;have key:(match jX P fn aO H1 with | .ok v _=>cD true H1 v (od c.rs (c.fn us k len d))/\H1.get 64=some (.own c.e c.t (c.out us k len d))|_=>False)->LeavesInM (dW none) m P fn a'.tmps (mF P B ρ H w (od c.rs (c.fn us k len d)) (H.set i (.own c.e c.t (c.out us k len d)))) a'.defers .returning w':=by
   intro ux;split at ux
   .rename_i v1 H2 hres;obtain⟨kS,hr2⟩:=ux;have nA:eF eo [] a'.defers:=hd';refine yc (T:=aO) (H:=H1) [] aR nA (show kj P fn aO H1 []= .ok v1 H2 from hres) fun y w2 r1 r2 r3=> ?_
    obtain⟨rfl,_⟩:=Fk aR hres;have hk2:=KX hkp r3;have S4:eo 64=some (b,c0):=(hk2.pin 64 (List.mem_singleton.2 rfl)).2 (b,c0) rfl;have ij:=h2.below.trans (r3.below aR.H);have hsz:w.heap.size<=w2.heap.size:=by
     by_cases hz:w.heap.size=b+1
     .obtain⟨b1,c1,o1,q1,aQ,_⟩:=r2.blk 64 _ hr2;rw [S4]at q1;cases q1;have:=(dJ.1 aQ).1;omega
     .have hy:=hk2.y (w.heap.size-1) _ (show(if w.heap.size-1=b then none else w.heap[w.heap.size-1]?)=some (w.heap[w.heap.size-1]'ω) by rw [if_neg ω];simp);have:=(dJ.1 hy.1).1;omega
    have hkeep:∀q,q<w.heap.size->q≠b->w2.heap[q]? =w.heap[q]? :=fun q hq fX=>by
     have hy:=hk2.y q _ (show(if q=b then none else w.heap[q]?)=some (w.heap[q]'hq) by rw [if_neg fX];simp [hq]);rw [hy.1];simp [hq]
    have hnf:∀bb j7,ρ.fz bb=some j7->bb≠b/\bb<w.heap.size:=fun bb j7 hz=>by
     obtain⟨⟨ee,fr,q1⟩,aQ⟩:=hH.fz bb j7 hz;refine⟨fun hbb=> ?_,(dJ.1 q1).1⟩;subst hbb;have:=aQ i _ c0 hi hr;cases this
    have wA:∀j q,(H.set i (.own c.e c.t (c.out us k len d))).get j=some q->∃q',H.get j=some q'/\q'.eT=q.eT:=fun j q hj=>by
     rw [ai.gj]at hj;by_cases hij:i=j
     .subst hij;rw [if_pos rfl]at hj;cases hj;exact⟨_,hi,rfl⟩
     .rw [if_neg hij]at hj;exact⟨q,hj,rfl⟩
    refine⟨y,ρ,rfl,adA hrl (FV r2 hfz kS r1),⟨fun j q hj=> ?_,fun j j' q q' bb ck F5 hj hj' gO adE=> ?_,fun j q hj=> ?_,dh hH.base hsz,fun bb j7 hz=> ?_⟩,
     ⟨cB.refl _,fun _ _=>rfl,aI _,hsz,ij.os,ij.tape,ij.output,fun q hq hno=> ?_,fun q hq ⟨j,aQ,ck,hj,hro,gO⟩=> ?_,fun q hq ⟨j,aQ,ck,hj,gO⟩=> ?_,fun _ _ h=> .inl h⟩⟩
    .rw [ai.gj]at hj;by_cases hij:i=j
     .subst hij;rw [if_pos rfl]at hj;cases hj;obtain⟨b1,c1,o1,q1,aQ,⟨⟨zs,fz,g1,g2,g3,g4,g5⟩,g6⟩,_⟩:=r2.blk 64 _ hr2;have g5:=g5 rfl;rw [S4]at q1 g5;cases q1;refine⟨b,c0,o1,hr,aQ,⟨⟨zs,fz,g1,g2,Ln wz g3,g4,fun _=> ?_⟩,g6⟩,fun _=>bV rfl⟩;obtain⟨b3,c3,k1,k2⟩:=g5;cases k1;exact⟨b,c0,hr,k2⟩
     .rw [if_neg hij]at hj;obtain⟨bj,ck,oj,p1,p2,p3,ec⟩:=hH.blk j q hj;have hne:bj≠b:=fun hbb=>hij (hH.inj i j _ _ b c0 ck hi hj hr (by rw [<-hbb];exact p1))
      exact⟨bj,ck,oj,p1,(hkeep bj (dJ.1 p2).1 hne).trans p2,p3,ec⟩
    .obtain⟨q1,g1,_⟩:=wA j q hj;obtain⟨aQ,g2,_⟩:=wA j' q' hj';exact hH.inj j j' _ _ bb ck F5 g1 g2 gO adE
    .obtain⟨q1,g1,_⟩:=wA j q hj;exact hH.lt j _ g1
    .obtain⟨hnb,hlt⟩:=hnf bb j7 hz;obtain⟨⟨ee,fr,q1⟩,aQ⟩:=hH.fz bb j7 hz;refine⟨⟨ee,fr,(hkeep bb hlt hnb).trans q1⟩,fun j q ck hj gO=> ?_⟩;obtain⟨q',g1,g2⟩:=wA j q hj;rw [<-g2];exact aQ j q' ck g1 gO
    .exact hkeep q hq fun fX=>hno ⟨i,_,c0,hi,rfl,by rw [fX];exact hr⟩
    .obtain⟨q',g1,g2⟩:=wA j aQ hj;exact⟨j,q',ck,g1,g2.trans hro,gO⟩
    .obtain⟨q',g1,_⟩:=wA j aQ hj;exact⟨j,q',ck,g1,gO⟩
   .exact ux.elim
  cases e with
  |normal=>exact key h1
  |ret=>exact key h1
  |_=>exact h1.elim
def Lr {bu:bG} {f:FuncId} {args:List aa} {v:aa} {H':ai}:∀{l:List gQ},(AQ l bu f args H).gr=some (.ok v H')->(∃c∈l,c.f=f/\(yD c args H).gr=some (.ok v H'))\/(bu f args H).gr=some (.ok v H')
 |[],h=> .inr h
 |c::l,h=>by
  unfold AQ at h;cases hb:Nat.beq f c.f with
  |true=>simp only [hb]at h;exact .inl ⟨c,kK,(ac hb).symm,h⟩
  |false=>
   simp only [hb]at h;rcases Lr h with⟨c',h1,h2⟩|h1
   .exact .inl ⟨c',kJ _ h1,h2⟩
   .exact .inr h1
def adF {c:gQ} {args:List aa} {v:aa} {H':ai} (h:(yD c args H).gr=some (.ok v H')):H'.next=H.next:=by
 unfold yD at h;split at h
 .rename_i e t i k len cap vs;split at h
  .obtain⟨d,h1⟩:=C7 (cE:=false) (no:=aD.ret aL.no) (b:=aL.ok v H') (by simp [aD.gr]) c.ps h;cases hm:(bz c.e c.t (H.get i) (k+len-1)&&Nat.ble 1 len)with
   |false=>rw [hm]at h1;cases h1
   |true=>
    rw [hm]at h1;cases hp:c.pre (bN c.t (H.get i)) k len d with
    |false=>rw [hp]at h1;cases h1
    |true=>
     rw [hp]at h1;simp only [aD.gr,cond_true,tC,aL.ok.injEq]at h1;obtain⟨_,rfl⟩:=h1;rfl
  .cases h
 .cases h
def S5 {l:List gQ} {bu:bG} (hl:∀c∈l,c.Ok P) (hS:bC P (bF bu)):bC P (bF (AQ l bu)) where
 mono f args H v H' h:=by
  rcases Lr (r7 h)with⟨c,_,_,h3⟩|h3
  .rw [adF h3];exact aI _
  .exact hS.mono f args H v H' (by unfold bF;rw [h3];rfl)
 cx f args H v H' h B ρ xs w m hH cv hd hf:=by
  rcases Lr (r7 h)with⟨c,h1,rfl,h3⟩|h3
  .exact adC (hl c h1) h3 m hH cv hd
  .exact hS.cx f args H v H' (by unfold bF;rw [h3];rfl) B ρ xs w m hH cv hd hf
structure uy where
 f:FuncId
 res:List aa->aD (Option aa)
def uy.Ok (P:Program) (c:uy):Prop:=∀args v,(c.res args).gr=some (some v)->∀(w:World) (F:Env) (xs:List Value),(∀b A,F.fz b=some A->∃e fr,w.heap[b]? =some (.cells A e fr))->wo F->aG F args xs->
 Calls P c.f xs.toArray w fun e w'=>∃x,e= .returned x/\Den F v x/\Below w.heap.size w w'
def Dg (c:uy) (args:List aa) (H:ai):aD aL:=(c.res args).bind fun r=>match r with |some v=> .ret (.ok v H)|none=> .ret .no
def Dh (l:List uy) (bu:bG):bG:=fun f args H=>match l with
 |[]=>bu f args H
 |c::l=>match Nat.beq f c.f with |true=>Dg c args H|false=>Dh l bu f args H
def S6 {c:uy} {args:List aa} {v:aa} {H':ai} (h:(Dg c args H).gr=some (.ok v H')):H'=H/\(c.res args).gr=some (some v):=by
 unfold Dg at h;rw [aD.qJ]at h;cases hr:(c.res args).gr with
 |none=>rw [hr]at h;cases h
 |some r=>
  rw [hr]at h;cases r with
  |none=>cases h
  |some v'=>cases h;exact⟨rfl,rfl⟩
def adG {c:uy} (hc:c.Ok P) {args:List aa} {v:aa} {H':ai} (h:(Dg c args H).gr=some (.ok v H')) {xs:List Value} (m:Nat) (hH:aZ P B ρ H w) (cv:n8 ρ) (hd:aG ρ args xs):CallsIn (dW none) m P c.f xs.toArray w (mF P B ρ H w v H'):=by
 obtain⟨rfl,h1⟩:=S6 h;have K3:=hc args v h1 w ρ xs (fun b A hb=>(hH.fz b A hb).1) cv.Al hd;have hin:CallsIn (dW none) m P c.f xs.toArray w _:=callsIn_wide.2 K3;refine hin.mono ?_;rintro e w' ⟨x,rfl,hx,hb⟩;have hkeep:∀b o,w.heap[b]? =some o->w'.heap[b]? =some o:=fun b o ho=>(hb.block b (dJ.1 ho).1).trans ho
 refine⟨x,ρ,rfl,hx,⟨fun i k hi=> ?_,hH.inj,hH.lt,dh hH.base hb.size,fun b A kq=> ?_⟩,⟨cB.refl _,fun _ _=>rfl,aI _,hb.size,hb.os,hb.tape,hb.output,fun b hlt _=>hb.block b hlt,fun _ _ h=>h,fun _ _ h=>h,fun b A kq=> .inl kq⟩⟩
 .obtain⟨b,c',o,e1,e2,e3,bV⟩:=hH.blk i k hi;exact⟨b,c',o,e1,hkeep b o e2,e3,bV⟩
 .obtain⟨⟨e,fr,h3⟩,h4⟩:=hH.fz b A kq;exact⟨⟨e,fr,hkeep b _ h3⟩,h4⟩
def Ls {bu:bG} {f:FuncId} {args:List aa} {v:aa} {H':ai}:∀{l:List uy},(Dh l bu f args H).gr=some (.ok v H')->(∃c∈l,c.f=f/\(Dg c args H).gr=some (.ok v H'))\/(bu f args H).gr=some (.ok v H')
 |[],h=> .inr h
 |c::l,h=>by
  unfold Dh at h;cases hb:Nat.beq f c.f with
  |true=>simp only [hb]at h;exact .inl ⟨c,kK,(ac hb).symm,h⟩
  |false=>
   simp only [hb]at h;rcases Ls h with⟨c',h1,h2⟩|h1
   .exact .inl ⟨c',kJ _ h1,h2⟩
   .exact .inr h1
def adH {l:List uy} {bu:bG} (hl:∀c∈l,c.Ok P) (hS:bC P (bF bu)):bC P (bF (Dh l bu)) where
 mono f args H v H' h:=by
  rcases Ls (r7 h)with⟨c,_,_,h3⟩|h3
  .rw [(S6 h3).1];exact aI _
  .exact hS.mono f args H v H' (by unfold bF;rw [h3];rfl)
 cx f args H v H' h B ρ xs w m hH cv hd hf:=by
  rcases Ls (r7 h)with⟨c,h1,rfl,h3⟩|h3
  .exact adG (hl c h1) h3 m hH cv hd
  .exact hS.cx f args H v H' (by unfold bF;rw [h3];rfl) B ρ xs w m hH cv hd hf
end
end
end
section
variable [Ground]
noncomputable section
structure qQ where
 f:FuncId
 e:TypeId
 t:av
 ps:List av
 pre:iu ps->Bool
 out:iu ps->List t.den
def Lt (P:Program) (fn:Func) (e:TypeId) (t:av) (xs:List t.den):Exit->au aa->ai->Prop:=fun ex T H=>match ex with
 | .normal| .ret=>(match jX P fn T H with
   | .ok (.bR e' t' i k n cap) _=>e'=e/\k=0/\n=xs.length/\cap= .full/\t'=t/\H.get i=some (.own e t xs)
   |_=>False)
 |_=>False
def qQ.Ok (P:Program) (c:qQ):Prop:=c.t.lR=true/\∃fn code,P.funcs[c.f]? =some fn/\fn.body=some code/\c.ps.length<=fn.ntmps/\
 ∀d:iu c.ps,c.pre d=true->1<=(c.out d).length/\∀w F,aU P w F fn.ntmps (fl code []) (dq (j6 c.ps d) .nil 0) H0 (Lt P fn c.e c.t (c.out d))
def F6 (c:qQ) (args:List aa) (H:ai):aD aL:=uq H false (.ret .no) c.ps args fun d=> .must (c.pre d) (.ret (.ok (.bR c.e c.t H.next 0 (c.out d).length .full) (H.new (.own c.e c.t (c.out d)))))
def Di (l:List qQ) (bu:bG):bG:=fun f args H=>match l with
 |[]=>bu f args H
 |c::l=>match Nat.beq f c.f with |true=>F6 c args H|false=>Di l bu f args H
section
variable {P:Program} {B:Nat} {ρ:Env} {H:ai} {w:World}
def adI {c:qQ} {args:List aa} {v:aa} {H':ai} (h:(F6 c args H).gr=some (.ok v H')):H'.next=H.next+1:=by
 obtain⟨d,h1⟩:=C7 (cE:=false) (no:=aD.ret aL.no) (b:=aL.ok v H') (by simp [aD.gr]) c.ps h;cases hp:c.pre d with
 |false=>rw [hp]at h1;cases h1
 |true=>rw [hp]at h1;cases h1;rfl
def adJ {c:qQ} (hc:c.Ok P) {args:List aa} {v:aa} {H':ai} (h:(F6 c args H).gr=some (.ok v H')) {xs:List Value} (m:Nat) (hH:aZ P B ρ H w) (cv:n8 ρ) (hd:aG ρ args xs) (hfr:Fr ρ H.next H'.next):CallsIn (dW none) m P c.f xs.toArray w (mF P B ρ H w v H'):=by
 obtain⟨wz,fn,code,hf,hb,hn,hbody⟩:=hc;obtain⟨d,h1,h2⟩:=FY (w:=w) hH (cE:=false) (no:=aD.ret aL.no) (b:=aL.ok v H') (by simp [aD.gr]) c.ps h;have hp:c.pre d=true/\v= .bR c.e c.t H.next 0 (c.out d).length .full/\H'=H.new (.own c.e c.t (c.out d)):=by
  cases hp:c.pre d with
  |false=>rw [hp]at h1;cases h1
  |true=>rw [hp]at h1;cases h1;exact⟨rfl,rfl,rfl⟩
 obtain⟨hp,rfl,rfl⟩:=hp;obtain⟨hlen,hgo⟩:=hbody d hp;have hds:=h2 xs hd;have F7:∀i x,(jE false w ρ) i=some x->i<64:=fun i x hx=>by
  have hx:(if i<64 then ρ i else none)=some x:=hx;by_cases h:i<64
  .exact h
  .rw [if_neg h]at hx;cases hx
 have Lo:aZ P w.heap.size (jE false w ρ) H0 w:=⟨fun i k h=>(by rw [show H0.get i=none from au.get_nil i]at h;cases h),fun i j eL eY b ci ck h=>(by rw [show H0.get i=none from au.get_nil i]at h;cases h),fun i k h=>(by rw [show H0.get i=none from au.get_nil i]at h;cases h),aI _,
  fun b A h=>⟨(hH.fz b A h).1,fun i k c hi=>(by rw [show H0.get i=none from au.get_nil i]at hi;cases hi)⟩⟩
 have hs:Sat P w (jE false w ρ) fn.ntmps (dq (j6 c.ps d) .nil 0) H0 {tmps:=xs.toArray++Array.replicate (fn.ntmps-xs.toArray.size) undef,defers:=[]} w:=by
  refine⟨⟨jE false w ρ,⟨CE hds (by rw [Lm];exact hn),Lo,fun g hg=> ?_,cv.Al⟩,fun i hi=> ?_,fun b A h=> .inl h,⟨fun b o h=>(by cases h),fun i hi=>(by cases hi),fun b A h=>(by cases h),Nat.zero_le _,fun b o h=>(by cases h),rfl,fun b o h=>(by cases h)⟩⟩,Below.refl _ _,rfl⟩
  .obtain⟨Lp,Lq⟩:=cv.at' g hg;exact⟨Lp,by show(if g<64 then ρ g else none)=_;rw [if_pos hg];exact Lq⟩
  .have hi:64<=i:=hi;cases C4:(jE false w ρ) i with
   |none=>rfl
   |some x=>exact absurd (F7 i x C4) ω
 refine callsIn_of_wp_marks hf hb trivial (wpIn_mono (uu (by have:=hgo w (jE false w ρ);rwa [fl,Lb]at this) _ _ hs m) fun e a' w' hh=> ?_);obtain⟨aO,H1,g1,g2⟩:=hh.resolve_right fun q=>q.2
 obtain⟨eo,aR,hnone,hfz,_⟩:=g2.ex;have hd':=g2.defers;have key:(match jX P fn aO H1 with | .ok (.bR e' t' i k n cap) _=>e'=c.e/\k=0/\n=(c.out d).length/\cap= .full/\t'=c.t/\H1.get i=some (.own c.e c.t (c.out d))|_=>False)->LeavesInM (dW none) m P fn a'.tmps (mF P B ρ H w (.bR c.e c.t H.next 0 (c.out d).length .full) (H.new (.own c.e c.t (c.out d)))) a'.defers .returning w':=by
  intro hr;split at hr
  .rename_i e' t' i k n cap H2 hres;obtain⟨rfl,rfl,rfl,rfl,rfl,wA⟩:=hr;have nA:eF eo [] a'.defers:=hd';refine yc (T:=aO) (H:=H1) [] aR nA (show kj P fn aO H1 []= .ok _ H2 from hres) fun y w2 r1 r2 r3=> ?_
   obtain⟨rfl,_⟩:=Fk aR hres;have ij:=g2.below.trans (r3.below aR.H);rcases r1.jx with⟨h0,_⟩|⟨b,c0,kc,q1,aQ,b7,rfl⟩
   .omega
   obtain⟨b',c',o,e1,e2,e3,bV⟩:=r2.blk i _ wA;rw [q1]at e1;cases e1;have hB:w.heap.size<=b:=bV rfl;have hkeep:∀q,q<w.heap.size->w2.heap[q]? =w.heap[q]? :=fun q hq=>ij.block q hq
   have hnx:ρ H.next=none:=hfr H.next (aI _) (fG _)
   let ρ':Env:=⟨fun j=>if j=H.next then some (b,c0)else ρ j,ρ.fz⟩
   have hnew:ρ' H.next=some (b,c0):=if_pos rfl;have hold:∀j,j≠H.next->ρ' j=ρ j:=fun j hj=>if_neg hj
   have hle:cB ρ ρ':=⟨fun j x hj=>by
    by_cases hjn:j=H.next
    .rw [hjn,hnx]at hj;cases hj
    .rw [hold j hjn];exact hj,fun _ _ h=>h⟩
   have at4:∀j,H.get j≠none->j≠H.next:=fun j hj hjn=>by
    cases hg:H.get j with
    |none=>exact hj hg
    |some k=>have:=hH.lt j k hg;omega
   have hnf:∀bb j7,ρ.fz bb=some j7->bb<w.heap.size:=fun bb j7 hz=>by
    obtain⟨⟨ee,fr,h3⟩,_⟩:=hH.fz bb j7 hz;exact(dJ.1 h3).1
   have yF:∀j k,(H.new (.own c.e c.t (c.out d))).get j=some k->(j=H.next/\k= .own c.e c.t (c.out d))\/(j≠H.next/\H.get j=some k):=fun j k hj=>by
    rw [ai.gD]at hj;by_cases hjn:H.next=j
    .rw [if_pos hjn]at hj;cases hj;exact .inl ⟨hjn.symm,rfl⟩
    .rw [if_neg hjn]at hj;exact .inr ⟨fun h=>hjn h.symm,hj⟩
   refine⟨_,ρ',rfl, .bR hnew aQ b7,⟨fun j k hj=> ?_,fun j j' k k' bb ck F5 hj hj' r1 r2=> ?_,fun j k hj=> ?_,dh hH.base ij.size,fun bb j7 hz=> ?_⟩,⟨hle,fun j hj=> ?_,Nat.le_succ _,ij.size,ij.os,ij.tape,ij.output,fun q hq _=>hkeep q hq,fun q hq ⟨j,k,ck,hj,hro,gO⟩=> ?_,fun q hq ⟨j,k,ck,hj,gO⟩=> ?_,fun _ _ h=> .inl h⟩⟩
   .rcases yF j k hj with⟨rfl,rfl⟩|⟨hjn,hj⟩
    .obtain⟨⟨zs,fz,g1,g2,g3,g4,g5⟩,g6⟩:=e3;refine⟨b,c0,o,hnew,e2,⟨⟨zs,fz,g1,g2,Ln wz g3,g4,fun hx=> ?_⟩,g6⟩,fun _=>dh hH.base hB⟩;obtain⟨b1,c1,k1,k2⟩:=g5 hx;rw [q1]at k1;cases k1;exact⟨b,c0,hnew,k2⟩
    .obtain⟨bj,ck,oj,p1,p2,p3,ec⟩:=hH.blk j k hj;exact⟨bj,ck,oj,hle _ _ p1,(hkeep bj (dJ.1 p2).1).trans p2,p3.mono hle,ec⟩
   .rcases yF j k hj with⟨rfl,rfl⟩|⟨hjn,hj⟩<;>rcases yF j' k' hj' with⟨rfl,rfl⟩|⟨S7,hj'⟩
    .rfl
    .rw [hnew]at r1;cases r1;rw [hold j' S7]at r2;obtain⟨bj,ck,oj,p1,p2,_⟩:=hH.blk j' k' hj';rw [r2]at p1;cases p1;have:=(dJ.1 p2).1;omega
    .rw [hnew]at r2;cases r2;rw [hold j hjn]at r1;obtain⟨bj,ck,oj,p1,p2,_⟩:=hH.blk j k hj;rw [r1]at p1;cases p1;have:=(dJ.1 p2).1;omega
    .rw [hold j hjn]at r1;rw [hold j' S7]at r2;exact hH.inj j j' k k' bb ck F5 hj hj' r1 r2
   .rcases yF j k hj with⟨rfl,rfl⟩|⟨hjn,hj⟩
    .exact fG _
    .exact Nat.lt_succ_of_lt (hH.lt j k hj)
   .obtain⟨⟨ee,fr,h3⟩,h4⟩:=hH.fz bb j7 hz;refine⟨⟨ee,fr,(hkeep bb (hnf bb j7 hz)).trans h3⟩,fun j k ck hj gO=> ?_⟩;rcases yF j k hj with⟨rfl,rfl⟩|⟨hjn,hj⟩
    .rw [hnew]at gO;cases gO;have:=hnf _ j7 hz;omega
    .rw [hold j hjn]at gO;exact h4 j k ck hj gO
   .refine hold j fun hjn=> ?_
    subst hjn;rcases hj with h|h
    .exact absurd h (Nat.lt_irrefl _)
    .exact absurd h (Nat.not_succ_le_self _)
   .rcases yF j k hj with⟨rfl,rfl⟩|⟨hjn,hj⟩
    .rw [hnew]at gO;cases gO;omega
    .rw [hold j hjn]at gO;exact⟨j,k,ck,hj,hro,gO⟩
   .rcases yF j k hj with⟨rfl,rfl⟩|⟨hjn,hj⟩
    .rw [hnew]at gO;cases gO;omega
    .rw [hold j hjn]at gO;exact⟨j,k,ck,hj,gO⟩
  .exact hr.elim
 cases e with
 |normal=>exact key g1
 |ret=>exact key g1
 |_=>exact g1.elim
def Lu {bu:bG} {f:FuncId} {args:List aa} {v:aa} {H':ai}:∀{l:List qQ},(Di l bu f args H).gr=some (.ok v H')->(∃c∈l,c.f=f/\(F6 c args H).gr=some (.ok v H'))\/(bu f args H).gr=some (.ok v H')
 |[],h=> .inr h
 |c::l,h=>by
  unfold Di at h;cases hb:Nat.beq f c.f with
  |true=>simp only [hb]at h;exact .inl ⟨c,kK,(ac hb).symm,h⟩
  |false=>
   simp only [hb]at h;rcases Lu h with⟨c',h1,h2⟩|h1
   .exact .inl ⟨c',kJ _ h1,h2⟩
   .exact .inr h1
def adK {l:List qQ} {bu:bG} (hl:∀c∈l,c.Ok P) (hS:bC P (bF bu)):bC P (bF (Di l bu)) where
 mono f args H v H' h:=by
  rcases Lu (r7 h)with⟨c,_,_,h3⟩|h3
  .rw [adI h3];exact Nat.le_succ _
  .exact hS.mono f args H v H' (by unfold bF;rw [h3];rfl)
 cx f args H v H' h B ρ xs w m hH cv hd hf:=by
  rcases Lu (r7 h)with⟨c,h1,rfl,h3⟩|h3
  .exact adJ (hl c h1) h3 m hH cv hd hf
  .exact hS.cx f args H v H' (by unfold bF;rw [h3];rfl) B ρ xs w m hH cv hd hf
end
def F8 (P:Program) (fn:Func) (e:TypeId) (t:av) (xs:List t.den):R->Prop
 | .ret T H []=>(match jX P fn T H with
   | .ok (.bR e' t' i k n cap) _=>(match H.get i with
     |some (.own e2 t2 ys)=>gY (Nat.beq e' e&&(Nat.beq e2 e&&(Nat.beq k 0&&decide (t'=t)))) (n=xs.length/\cap= .full/\pn t2 t ys xs)
     |_=>False)
   |_=>False)
 |_=>False
def aU.adL {P:Program} {w0:World} {F:Env} {n:Nat} {T:au aa} {H:ai} {Q:Exit->au aa->ai->Prop} (hK:fe P) (hm:P.follows .mixedOrders=true) {bu:bG} (hS:bC P (bF bu)) {l:List Code} {fn:Func} {e:TypeId} {t:av} {xs:List t.den} (k:Nat) (D:List Bool) (h:(Sv.iw P bu n (l.take k) T H).path D (F8 P fn e t xs))
  (hq:∀T H,Lt P fn e t xs .ret T H->Q .ret T H):ba pz P w0 F n l T H Q:=by
 obtain⟨r,h1,h2⟩:=aD.uj _ _ h;have key:ba pz P w0 F n (l.take k) T H (gZ (fun T H=>ba pz P w0 F n (l.drop k) T H Q) Q):=by
  refine aU.iw hK hm hS (fQ:=F8 P fn e t xs) (fun r hr=> ?_) h1 h2;unfold F8 at hr;split at hr
  .refine hq _ _ ?_;rename_i aO H';show(match jX P fn aO H' with | .ok (.bR e' t' i k n cap) _=>e'=e/\k=0/\n=xs.length/\cap= .full/\t'=t/\H'.get i=some (.own e t xs)|_=>False)
   split at hr
   .split at hr
    .rename_i hg;obtain⟨k1,k2,dN,mC⟩:=je hr;simp only [ae,bE]at k1;obtain⟨e1,rfl⟩:=AI mC;subst e1;exact⟨ac k1.1,ac k1.2.2.1,k2,dN,k1.2.2.2,by rw [hg,ac k1.2.1]⟩
    .exact hr.elim
   .exact hr.elim
  .exact hr.elim
 have:=aU.split key;rwa [List.take_append_drop]at this
end
end
end Go.Proofs.YtibikmmdbdlafaaGreatDoor.Sv
namespace Go.Proofs.YtibikmmdbdlafaaGreatDoor
open Go.RowKit Sv Go.Proofs.Tryz
def adM {P:Program} {p:Func->Bool} (h:P.funcs.toList.all p=true) {f:FuncId} {fn:Func} (hf:P.funcs[f]? =some fn):p fn=true:=
 List.all_eq_true.1 h fn (List.mem_of_getElem? (by simpa using hf))
def S8 {P:Program} {p:Func->Bool} {k:Nat} (h:(P.funcs.toList.zipIdx.all fun q=> !p q.1||Nat.beq q.2 k)=true) {f:FuncId} {fn:Func} (hf:P.funcs[f]? =some fn) (hp:p fn=true):f=k:=by
 have:=List.all_eq_true.1 h (fn,f) (List.mk_mem_zipIdx_iff_getElem?.2 (by simpa using hf));simp only [hp,Bool.not_true,Bool.false_or]at this;exact ac this
def Fg:(prog.funcs.toList.all fun fn=> !(fn.body.isSome&&fn.name== "runtime.NumGoroutine"))=true:=by kernel_rfl
def adN:(prog.funcs.toList.zipIdx.all fun q=> !(q.1.body.isNone&&q.1.name== "internal/abi.NoEscape")||Nat.beq q.2 256)=true:=by kernel_rfl
def adO:(prog.funcs.toList.zipIdx.all fun q=> !(q.1.body.isNone&&q.1.name== "internal/bytealg.MakeNoZero")||Nat.beq q.2 268)=true:=by kernel_rfl
def adP:(prog.funcs[256]?).bind (fun fn=>Extern.find fn)=some Extern.AbiNoEscape.same:=by kernel_rfl
def adQ:(prog.funcs[256]?).map (fun fn=>(Extern.findNext fn).isNone)=some true:=by kernel_rfl
def adR:(prog.funcs[268]?).bind (fun fn=>Extern.find fn)=(prog.funcs[268]?).map (fun fn=>Extern.BytealgMakeNoZero.makeNoZero fn.params fn.resultTypes):=by kernel_rfl
def adS:(prog.funcs[268]?).map (fun fn=>(Extern.findNext fn).isNone)=some true:=by kernel_rfl
def wd:(prog.funcs[268]?).map (fun fn=>fn.resultTypes.size)=some 1:=by kernel_rfl
def mixed:prog.follows .mixedOrders=true:=by kernel_rfl
def known:fe prog where
 Fg f fn hf hb:=by
  have:=adM Fg hf;simpa [hb]using this
 Rh f fn hf hb hn x w:=by
  have e:=S8 (p:=fun fn=>fn.body.isNone&&fn.name== "internal/abi.NoEscape") adN hf (by simp only [hb,hn];rfl);subst e;have h1:=adP;have h2:=adQ;rw [hf]at h1 h2;simp only [Option.bind_some,Option.map_some,tC,Option.isNone_iff_eq_none]at h1 h2;have hname:(fn.name== "runtime.NumGoroutine")=false:=by
   rw [eq_of_beq hn];rfl
  rw [run_callFunc_extern hf hname (by rw [hb];rfl) h2 h1];rfl
 makeNoZero f fn t el hf hb hn ht hu n w hle:=by
  have e:=S8 (p:=fun fn=>fn.body.isNone&&fn.name== "internal/bytealg.MakeNoZero") adO hf (by simp only [hb,hn];rfl);subst e;have h1:=adR;have h2:=adS;have h3:=wd;rw [hf]at h1 h2 h3;simp only [Option.bind_some,Option.map_some,tC,Option.isNone_iff_eq_none]at h1 h2 h3;have hname:(fn.name== "runtime.NumGoroutine")=false:=by
   rw [eq_of_beq hn];rfl
  have hr:fn.resultTypes= #[t]:=by
   apply Array.ext
   .exact h3
   .intro i hi1 hi2;have:i=0:=by simp at hi2;exact hi2
    subst this;simpa [Array.getElem?_eq_getElem hi1]using ht
  rw [hr]at h1;obtain⟨cs,k1,k2,_⟩:=Lib.run_makeNoZero (P:=prog) w fn.params t el hu n ω;refine⟨cs,k2, ?_⟩;rw [run_callFunc_extern hf hname (by rw [hb];rfl) h2 h1,k1];rfl
noncomputable section
instance at5:Sv.Ground:=⟨fun b=>if b=0 then some (fun A=>∃m,A= #[.int .i64 m])else if b=5 then some (fun A=>A=(Lib.pow10Tab.map fun z=>Value.int .u64 z).toArray)else none⟩
def mp {a b:Prop} (p:b) (h:a=b:=by kernel_rfl):a:=h.mpr p
def at6 (v:aa) (h:K8 v=true:=by kernel_rfl):aa.same v v=true:=aF h
def an {a b:Prop} (x:a) (y:b):a/\b:=⟨x,y⟩
def adT{gm p1 p2:Prop}(x0:gm)(x1:p1)(y:p2):gm/\p1/\p2:=⟨x0,⟨x1,y⟩⟩
def F9{gm p1 p2 p3:Prop}(x0:gm)(x1:p1)(x2:p2)(y:p3):gm/\p1/\p2/\p3:=⟨x0,⟨x1,⟨x2,y⟩⟩⟩
def adU{gm p1 p2 p3 ec:Prop}(x0:gm)(x1:p1)(x2:p2)(x3:p3)(y:ec):gm/\p1/\p2/\p3/\ec:=⟨x0,⟨x1,⟨x2,⟨x3,y⟩⟩⟩⟩
def Lv{gm p1 p2 p3 ec kU:Prop}(x0:gm)(x1:p1)(x2:p2)(x3:p3)(qR:ec)(y:kU):gm/\p1/\p2/\p3/\ec/\kU:=⟨x0,⟨x1,⟨x2,⟨x3,⟨qR,y⟩⟩⟩⟩⟩
def at7{gm p1 p2 p3 ec kU pq:Prop}(x0:gm)(x1:p1)(x2:p2)(x3:p3)(qR:ec)(wB:kU)(y:pq):gm/\p1/\p2/\p3/\ec/\kU/\pq:=⟨x0,⟨x1,⟨x2,⟨x3,⟨qR,⟨wB,y⟩⟩⟩⟩⟩⟩
def adV{gm p1 p2 p3 ec kU pq yw:Prop}(x0:gm)(x1:p1)(x2:p2)(x3:p3)(qR:ec)(wB:kU)(xR:pq)(y:yw):gm/\p1/\p2/\p3/\ec/\kU/\pq/\yw:=⟨x0,⟨x1,⟨x2,⟨x3,⟨qR,⟨wB,⟨xR,y⟩⟩⟩⟩⟩⟩⟩
def og{gm p1 p2 p3 ec kU pq yw tL:Prop}(x0:gm)(x1:p1)(x2:p2)(x3:p3)(qR:ec)(wB:kU)(xR:pq)(Cr:yw)(y:tL):gm/\p1/\p2/\p3/\ec/\kU/\pq/\yw/\tL:=⟨x0,⟨x1,⟨x2,⟨x3,⟨qR,⟨wB,⟨xR,⟨Cr,y⟩⟩⟩⟩⟩⟩⟩⟩
def rr {α:Type} (x:α):x=x:=rfl
def rt:true=true:=rfl
section
variable {a b:Bool} (h:a=b)
def aM:(a==true)=(b==true):=by rw [h]
def bq:(a==false)=(b==false):=by rw [h]
def cj:(!a)=(!b):=by rw [h]
end
abbrev iv (x:Int):aa:= .raw (.int .i64 x)
abbrev bv (x:Bool):aa:= .raw (.bool x)
abbrev wC:List Int:=[]
abbrev lv (l:List Int):aa:= .bn false (.int .i64) l
def pH {n b:Nat} (h:n<=1000000) (hb:b<=1000000):bounded n b=true:=by
 unfold bounded;have:=Nat.mul_le_mul h hb;rw [fF ω,fF ω];rfl
abbrev i6 (x:Int):Prop:= -9223372036854775808<=x/\x<=9223372036854775807
def yk (e:TypeId) (t:av) (xs:List t.den):iN:=af (ZT e t xs)
section
variable (e:TypeId) (t:av) {xs:List t.den} {i:Nat} (h:i<xs.length)
def yv:iN:=af (x:=bz e t (bU e t xs) i) (c:=true) (by rw [fm];exact az h)
def jf:iN:=af (x:=bz e t (bU e t xs) (0+i)) (c:=true) (by rw [aw,fm];exact az h)
end
def jF (b:Nat) {n:Nat} (h:n<=1000000) (hb:b<=1000000:=by decide):iN:=af (pH h hb)
noncomputable def kW (e:TypeId) (t:av) {xs ys zs:List t.den} (h:xs++ys=zs):iN:=pG prog e t (ys:=bN t (bU e t xs)++ys) (xs:=zs) (by rw [ep];exact h)
noncomputable def mM (e:TypeId) (t:av) {xs zs:List t.den} {i:Nat} {v:t.den} (h:xs.set i v=zs):iN:=pG prog e t (ys:=(bN t (bU e t xs)).set (0+i) v) (xs:=zs) (by rw [ep,aw];exact h)
def ys (v:aa) (h:aa.same v v=true):iN:=af h
section
variable (c:bG) (l:List Code)
abbrev bt (s:bD) (d:Nat) (e:Exit) (r:Sv.Ren) (s':bD):Prop:=aD.path (oe prog c l s) (dl d) (ef prog s.n e r s')
abbrev cY (k:Nat) (s:bD) (d:Nat) (e:Exit) (r:Sv.Ren) (s':bD):Prop:=aD.path (yB prog c l k s) (dl d) (ef prog s.n e r s')
abbrev bS (s:bD) (d:Nat) (f:Func) (b:Bool) (v:aa):Prop:=aD.path (oe prog c l s) (dl d) (ur prog f b v)
abbrev cZ (k n:Nat) (a:List aa) (d:Nat) (e:Exit) (r:Sv.Ren) (s':bD):Prop:=aD.path (pF prog c l k n a) (dl d) (ef prog n e r s')
end
abbrev bA (n d:Int):Int:= ↑(Int.gcd (if 0-n>n then 0-n else n) d)
def dQ {P:Program}:∀c∈([]:List bp),c.Ok P:=fun c h=>absurd h ki
def aP {P:Program} {c:bp} {l:List bp} (h:c.Ok P) (t:∀x∈l,x.Ok P):∀x∈c::l,x.Ok P:=fun x hx=>(en.1 hx).elim (fun e=>e ▸ h) (t x)
section
variable {X:Ext} {w0:World} {F:Sv.Env} {n:Nat} {T:au aa} {H:ai} {Q:Exit->au aa->ai->Prop} {bu:bG} {l:List Code} {s s':bD} {e:Exit} {σ:Sv.Ren} {D:List Bool} {fn:Func} {fresh:Bool} {res:aa}
section
variable (hS:bC prog (bF bu))
def cJ (k:Nat) (h:(Sv.iw prog bu n (l.take k) T H).path D (ef prog n e σ s')) (hq:gZ (fun T H=>ba X prog w0 F n (l.drop k) T H Q) Q e s'.T s'.H) (hne:(l.take k).isEmpty=false:=by kernel_rfl) (hp:pinned σ s'.H.next X.pins=true:=by rfl):ba X prog w0 F n l T H Q:=aU.to known mixed hS k D h hne hq hp
def c6 (k:Nat) (h:(yB prog bu l k s).path D (ef prog s.n e σ s')) (hq:gZ (fun T H=>ba X prog w0 F s.n (l.drop k) T H Q) Q e s'.T s'.H) (hne:(l.take k).isEmpty=false:=by kernel_rfl) (hp:pinned σ s'.H.next X.pins=true:=by rfl):ba X prog w0 F s.n l s.T s.H Q:=aU.st known mixed hS k D h hne hq hp
def bx (h:(oe prog bu l s).path D (ef prog s.n e σ s')) (hq:Q e s'.T s'.H) (hne:l.isEmpty=false:=by kernel_rfl) (hp:pinned σ s'.H.next X.pins=true:=by rfl):ba X prog w0 F s.n l s.T s.H Q:=aU.all known mixed hS D h hne hq hp
def bw (k:Nat) (h:(Sv.iw prog bu n (l.take k) T H).path D (ur prog fn fresh res)) (hq:∀T H,hG prog fresh fn res .ret T H->Q .ret T H:=by exact fun T H h=>h):ba X prog w0 F n l T H Q:=aU.ret known mixed hS k D h hq
def bX (h:(oe prog bu l s).path D (ur prog fn fresh res)) (hq:∀T H,hG prog fresh fn res .ret T H->Q .ret T H:=by exact fun T H h=>h):ba X prog w0 F s.n l s.T s.H Q:=aU.uw known mixed hS D h hq
end
end
abbrev bh (c:bG) (l:List Code) (k n:Nat) (a:List aa) (d:Nat) (f:Func) (b:Bool) (v:aa):Prop:=aD.path (pF prog c l k n a) (dl d) (ur prog f b v)
def cC:bC prog (bF (bc [])):=cK (l:=[]) fun c h=>by cases h
def uz {c:bp} (h:c.Ok prog):bC prog (bF (bc [c])):=cK fun c' hc=>by rw [List.mem_singleton.1 hc];exact h
def Dj {X:Ext} {P:Program} {w0:World} {F:Env} {n:Nat} {T:au aa} {H:ai} {Q:Exit->au aa->ai->Prop} {l rest:List Code} {id:Nat} {c:Code} (hl:l= .block id c::rest)
  (h:ba X P w0 F n (r8 c) T H (C2 id (gZ (fun T H=>ba X P w0 F n rest T H Q) Q))):ba X P w0 F n l T H Q:=by
 subst hl;exact Goal.block (x:=c) rfl (uu h)
abbrev sv (s:AT):aa:= .raw (.string s)
end
end Go.Proofs.YtibikmmdbdlafaaGreatDoor
namespace Go.Proofs.YtibikmmdbdlafaaGreatDoor
open Go.ChangeShapes Go.WideShapes Go.ChangeAt Go.RowKit Sv
def S9:Tryz.prog.globalNamed "internal/strconv.uint64pow10" =some 5:=by kernel_rfl
def adW:ownKnob Tryz.prog.godebug=none:=by kernel_rfl
abbrev AU:List (String×DataW Unit):=[("math/bits.deBruijn32tab",Rows.laid_math_bits_deBruijn32tab),("math/bits.deBruijn64tab",Rows.laid_math_bits_deBruijn64tab),("internal/strconv.uint64pow10",Rows.laid_internal_strconv_uint64pow10),("strconv.ErrRange",Rows.laid_strconv_ErrRange),("strconv.ErrSyntax",Rows.laid_strconv_ErrSyntax)]
def Kx (os:Os) (args:Array Value):laidMetH Tryz.prog AU ((World.doorLaid Tryz.prog 400 os).forCall (fun _ _=>0) ⟨#[],args,[]⟩).memory:=
 laidMetH_of_parts3 (fuel:=8) (laidMet_of_run' 8 (by kernel_rfl) (by kernel_rfl)) (by kernel_rfl) (by kernel_rfl)
def adX:(Rows.laid_internal_strconv_uint64pow10:DataW Unit)=Lib.tabData .u64 Lib.pow10Tab:=by rfl
def adY:(Tryz.prog.globals[5]?).map (·.type)=some 280:=by kernel_rfl
def adZ {W:World} (h:laidMetH Tryz.prog AU W):Lib.TabIs Tryz.prog W "internal/strconv.uint64pow10" .u64 Lib.pow10Tab:=by
 rw [MakeChecks.laidMetH_plain _ _ _ (by kernel_rfl)]at h;obtain⟨ps,⟨g0,t0,cs0,f0,gm,q0,_,_,_,_,⟨g1,t1,aua,f1,p1,q1,_,_,_,_,⟨g2,t2,Ai,f2,p2,aQ,hg2,ht2,iO,gP,_,_⟩,_⟩,_⟩,_⟩:=h;obtain rfl:=jV (S9.symm.trans hg2);obtain rfl:=jV (adY.symm.trans ht2);rw [adX]at gP;unfold Lib.TabIs;rw [iO,<-Lib.cells_of_tab Tryz.underlying280 Tryz.underlying167 (by kernel_rfl) (by kernel_rfl) gP]
def sE {H:Type} {enc:TypeId×Value->H} {a:Assume} {C:Checked} {os:Os} {f:FuncId} {fn:Func} {s:ChangeSpec} {conds:List PathCond} {apart fresh handsOn again:Bool} {X:World->Array Value->Prop}
  (hX:∀(w w':World) (args:Array Value),w.heap=w'.heap->X w args->X w' args)
  (own:ownKnob C.prog.godebug=none) (started:os.Started) (noInit:C.prog.inits.idxOf? f=none) (hfn:C.prog.funcs[f]? =some fn)
  (witness:∃(w:World) (tape:Tape) (i:Input),w.os=os/\(w.forCall tape i).Shaped C.prog/\i.vars=[]/\Input.okWide C.prog (w.forCall tape i) .any w.heap.size f i/\
    ((s.pre enc C.prog fn conds apart (w.forCall tape i).memory i.args/\X (w.forCall tape i).memory i.args)/\sizedMet enc C.prog fn (OpenSpec.ofChange s) apart (w.forCall tape i).memory i.args)/\a.holds C.prog (lone (Frame.enter C.prog f i.args .normal) [] (w.forCall tape i)))
  (contract:∀(W:World) (base:Nat) (args:Array Value) (ds gs:List (DataW H)) (before:List MemPlace),
    (∀(j:Nat) t v,fn.params[j]? =some t->args[j]? =some v->Value.okWide C.prog W .any base t v)->
    DataW.Whole enc C.prog fn.params.toList s.vars apart W args.toList ds gs before->
    conds.all (PathCond.test C.prog ⟨fn.params.toList,ds,s.plain.varTypes C.prog,gs⟩)=true->
    (DataW.weightsEach C.prog (fn.params.toList++s.plain.varTypes C.prog) (ds++gs)).all (· <=reachBytes)=true->X W args->W.ShapedOpen C.prog->
    a.holds C.prog (lone (Frame.enter C.prog f args .normal) [] W)->
    Calls C.prog f args W fun e W'=>∃v,e= .returned v/\s.post enc C.prog fn apart fresh handsOn again W args v W'):
  ReturnsInHanded a C os f .any (fun w args=>(s.pre enc C.prog fn conds apart w args/\X w args)/\sizedMet enc C.prog fn (OpenSpec.ofChange s) apart w args) (s.post enc C.prog fn apart fresh handsOn again):=by
 refine returnsInHanded_of_calls own started noInit witness ?_;intro w tape i _ hsh _ hok hpre hholds;obtain⟨_,_,_,fn',ad0,_,_,_,_,hval⟩:=hok;have e:fn'=fn:=jV (ad0.symm.trans hfn);subst e;obtain⟨⟨⟨ds,gs,before,hw,hc⟩,hx⟩,hz⟩:=hpre;have hw':=DataW.Whole.of_heap (w':=w.forCall tape i) (by rfl) hw;refine(contract (w.forCall tape i) w.heap.size i.args ds gs before hval hw' hc (hz.weights hw) (hX _ _ _ (by rfl) hx) hsh hholds).mono fun e W' ⟨v,he,hp⟩=> ?_
 subst he;exact ChangeSpec.post_blind hp
def AV (w:World):Env:=⟨fun i=>if i<64 then some (i,0)else none,fun b=>if 0<=b then ko w b else none⟩
def ad1 (w:World):uo w (AV w):=by
 refine⟨fun i x h=> ?_,fun g hg=>⟨0,if_pos hg⟩,fun b A h=> ?_⟩
 .have h:(if i<64 then some (i,0)else none)=some x:=h;split at h
  .assumption
  .cases h
 .have h:(if 0<=b then ko w b else none)=some A:=h;rw [if_pos (Nat.zero_le _)]at h;exact oc.1 h
def j0 (b off i:Nat):(⟨b,off,none⟩:Addr).add i=⟨b,off+i,none⟩:=by
 rcases Nat.eq_zero_or_pos i with rfl |hp
 .rfl
 .simp [Addr.add];omega
def Ta {w:World} {b:Nat} {A:Array Value} (h:ko w b=some A):(AV w).fz b=some A:=by
 show(if 0<=b then ko w b else none)=some A;rw [if_pos (Nat.zero_le _)];exact h
def ad2 {W:World} (h:laidMetH Tryz.prog AU W) (hs:W.ShapedOpen Tryz.prog):Sv.wo (AV W):=by
 intro b p hp;have hp:(if b=0 then some (fun A=>∃m,A= #[.int .i64 m])else if b=5 then some (fun A=>A=(Lib.pow10Tab.map fun z=>Value.int .u64 z).toArray)else none)=some p:=hp;split at hp
 .rename_i e;subst e;cases hp;obtain⟨cs,hh,hz,_⟩:=hs.1 0 #[.int .i64 0] 3 (ap (by kernel_rfl)) (by kernel_rfl);obtain⟨m,hm⟩:=Go.Proofs.cell_of_shapedOpen_int (zero:= #[.int .i64 0]) (t:=3) hs (ap (by kernel_rfl)) (by kernel_rfl) rfl (by kernel_rfl) (by kernel_rfl) Tryz.underlying3;refine⟨cs,Ta (oc.2 ⟨_,_,hh⟩),m, ?_⟩;have h1:cs.size=1:=hz;have h2:cs[0]? =some (.int .i64 m):=by
   unfold World.cell? at hm;rw [hh]at hm;simpa using hm
  apply Array.ext_getElem?;intro i;cases i with
  |zero=>rw [h2];rfl
  |succ i=>rw [Array.getElem?_eq_none ω,Array.getElem?_eq_none τ]
 .split at hp
  .rename_i e;subst e;cases hp;have ht:=adZ h;unfold Lib.TabIs World.var? at ht;rw [S9]at ht;simp only [Option.bind_some]at ht;split at ht
   .rename_i cs e fr hh;refine⟨cs,Ta (oc.2 ⟨_,_,hh⟩), ?_⟩;exact jV ht
   .cases ht
  .cases hp
def ad3 {f:FuncId} {args:List aa} (h:Holds Tryz.prog true f args (bv true)) {w:World} (cv:Sv.wo (AV w)) {vs:List Value} (hd:aG (AV w) args vs):Calls Tryz.prog f vs.toArray w fun e w'=>e= .returned (.bool true)/\Below w.heap.size w w':=
 (h w (AV w) vs (ad1 w) cv hd).mono fun e w' ⟨x,F',h1,h2,_,_,h5⟩=>by
   rw [h2.cg]at h1;exact⟨h1,h5⟩
end Go.Proofs.YtibikmmdbdlafaaGreatDoor
namespace Go.Proofs.YtibikmmdbdlafaaGreatDoor
open Go.RowKit Sv Go.Proofs.Tryz
section
variable [Sv.Ground] {X:Ext} {P:Program} {w0:World} {F:Env} {n:Nat} {T:au aa} {H:ai} {a:Act} {w:World} {B:Nat} {ρ ρ':Env}
def Tb {i:Nat} {ρ':Env} (ha:∀i,ρ' i=ρ i) {b:Nat} (h:Sv.Own ρ' (H.drop i) b):Sv.Own ρ H b:=by
 obtain⟨k,kk,c,h1,h2,h3⟩:=h;rw [ha]at h3;rw [ai.o4]at h1;split at h1
 .cases h1
 .exact⟨k,kk,c,h1,h2,h3⟩
def Sat.freeze {i j m:Nat} {e e2:TypeId} {cs:List aa} {x f r:Bool} {t:av} {xs:List t.den} {cap:aX} (hj:H.get j=some (.cells e cs x f r)) (hm:cs[m]? =some (.bR e2 t i 0 xs.length cap)) (hi:H.get i=bU e2 t xs) (hij:i≠j)
  (hs:mJ X P w0 F n T H a w):mJ X P w0 F n T ((H.drop i).set j (.cells e (cs.set m (.bn false t xs)) x f r)) a w:=by
 obtain⟨⟨ρ,aR,hnone,hfz,hkp⟩,hb,hd⟩:=hs;by_cases hx:xs=[]
 .subst hx;have hi:H.get i=none:=hi;refine⟨⟨ρ,⟨aR.T,JH aR.H (cB.refl _) (fun _=>rfl) hj hij hm (fun y hy=> ?_) (fun b A h=>⟨(aR.H.fz b A h).1,fun k kk c _ g1 g2=>(aR.H.fz b A h).2 k kk c g1 g2⟩),aR.G⟩,hnone,hfz,hkp.re (cB.refl _) (aI _) (fun _ hh=>JI (fun _=>rfl) hj hh) fun _ _ h=> .inl h⟩,hb,hd⟩;rcases hy.jx with⟨_,a,rfl⟩|⟨b,c,kc,_,_,_,rfl⟩
  .exact .fc fun e=>by cases e
  .exact .fc fun e=>by cases e
 .obtain⟨x0,l0,rfl⟩:=List.exists_cons_of_ne_nil hx;have hi:H.get i=some (.own e2 t (x0::l0)):=hi;generalize hxs:x0::l0=xs at*;obtain⟨b,c,o,hib,_,_,hB⟩:=aR.H.blk i _ hi;obtain⟨zs,dD,z2,z3,z4,z5,Ri⟩:=rU aR.H hi hib;have hnf:ρ.fz b=none:=by
   cases hz:ρ.fz b with
   |none=>rfl
   |some A=>
    have:=(aR.H.fz b A hz).2 i _ c hi hib;cases this
  have hle:cB ρ ⟨ρ.at',fun q=>if q=b then some zs else ρ.fz q⟩:=⟨fun _ _ h=>h,fun q A h=>by
   show(if q=b then some zs else ρ.fz q)=some A;by_cases hq:q=b
   .subst hq;rw [hnf]at h;cases h
   .rw [if_neg hq];exact h⟩
  refine⟨⟨⟨ρ.at',fun q=>if q=b then some zs else ρ.fz q⟩,⟨aR.T.mono hle,JH aR.H hle (fun _=>rfl) hj hij hm (fun y hy=> ?_) (fun q A h=> ?_),aR.G.mono hle⟩,hnone,fun q A h=> ?_,hkp.re hle (aI _) (fun _ hh=>JI (fun _=>rfl) hj hh) fun q A h=>by
   have h:(if q=b then some zs else ρ.fz q)=some A:=h;by_cases hq:q=b
   .exact .inr ⟨i,_,c,hi,rfl,hq ▸ hib⟩
   .rw [if_neg hq]at h;exact .inl h⟩,hb,hd⟩
  .rcases hy.jx with⟨h0,_⟩|⟨b',c',kc,g1,_,g3,rfl⟩
   .exact absurd (List.length_eq_zero_iff.1 h0) hx
   .rw [hib]at g1;cases g1;refine .bn (A:=zs) (b:=b) (off:=0*t.size) (by show(if b=b then some zs else _)=_;rw [if_pos rfl]) (by rw [Nat.zero_mul,aw];exact z4) rfl ?_ g3 (fun e=>by cases e);rw [Nat.zero_mul,List.drop_zero];exact z2.mono hle
  .have h:(if q=b then some zs else ρ.fz q)=some A:=h;by_cases hq:q=b
   .subst hq;rw [if_pos rfl]at h;cases h;exact⟨⟨_,_,dD⟩,fun k kk c' hne g1 g2=>absurd (aR.H.inj k i kk _ q c' c g1 hi g2 hib) hne⟩
   .rw [if_neg hq]at h;exact⟨(aR.H.fz q A h).1,fun k kk c _ g1 g2=>(aR.H.fz q A h).2 k kk c g1 g2⟩
  .have h:(if q=b then some zs else ρ.fz q)=some A:=h;by_cases hq:q=b
   .subst hq;exact .inr (hB rfl)
   .rw [if_neg hq]at h;exact hfz q A h
def Sat.uA {i s:Nat} {e2:TypeId} {t:av} {xs:List t.den} {cap:aX} (hs':T.get s=some (.bR e2 t i 0 xs.length cap)) (hi:H.get i=bU e2 t xs) (hs:mJ X P w0 F n T H a w):mJ X P w0 F n (T.set s (some (.bn false t xs))) (H.drop i) a w:=by
 obtain⟨⟨ρ,aR,hnone,hfz,hkp⟩,hb,hd⟩:=hs;have Tc:∀{ρ':Env},cB ρ ρ'->(∀i,ρ' i=ρ i)->(∀b A,ρ'.fz b=some A->(∃e fr,w.heap[b]? =some (.cells A e fr))/\∀k kk c,k≠i->H.get k=some kk->ρ k=some (b,c)->kk.eT=true)->aZ P w0.heap.size ρ' (H.drop i) w:=fun {ρ'} hl ha hf=>by
  have key:∀k kk,(H.drop i).get k=some kk->k≠i/\H.get k=some kk:=fun k kk h=>by
   rw [ai.o4]at h;split at h
   .cases h
   .rename_i h2;exact⟨fun h=>h2 h.symm,h⟩
  refine⟨fun k kk h=> ?_,fun i1 i2 k1 k2 b c1 c2 g1 g2 g3 g4=> ?_,fun k kk h=>aR.H.lt k kk (key k kk h).2,aR.H.base,fun b A h=>⟨(hf b A h).1,fun k kk c g1 g2=> ?_⟩⟩
  .obtain⟨b,c,o,e1,e2,e3,bV⟩:=aR.H.blk k kk (key k kk h).2;exact⟨b,c,o,by rw [ha];exact e1,e2,e3.mono hl,bV⟩
  .rw [ha]at g3 g4;exact aR.H.inj _ _ _ _ _ _ _ (key _ _ g1).2 (key _ _ g2).2 g3 g4
  .rw [ha]at g2;exact(hf b A h).2 k kk c (key k kk g1).1 (key k kk g1).2 g2
 have qT:∀{ρ':Env},cB ρ ρ'->(∀y,Den ρ (.bR e2 t i 0 xs.length cap) y->Den ρ' (.bn false t xs) y)->jY ρ' (T.set s (some (.bn false t xs))) n a.tmps:=fun {ρ'} hl hv=>⟨aR.T.size,fun k=>by
  rw [au.gj];have hk:=aR.T.get k;by_cases hks:s=k
  .subst hks;rw [if_pos rfl];rw [hs']at hk;exact hv _ hk
  .rw [if_neg hks];exact hk.mono hl⟩
 by_cases hx:xs=[]
 .subst hx;refine⟨⟨ρ,⟨qT (cB.refl _) fun y hy=> ?_,Tc (cB.refl _) (fun _=>rfl) (fun b A h=>⟨(aR.H.fz b A h).1,fun k kk c _ g1 g2=>(aR.H.fz b A h).2 k kk c g1 g2⟩),aR.G⟩,hnone,hfz,hkp.re (cB.refl _) (aI _) (fun _ hh=>Tb (fun _=>rfl) hh) fun _ _ h=> .inl h⟩,hb,hd⟩;rcases hy.jx with⟨_,a,rfl⟩|⟨b,c,kc,_,_,_,rfl⟩
  .exact .fc fun e=>by cases e
  .exact .fc fun e=>by cases e
 .obtain⟨x0,l0,rfl⟩:=List.exists_cons_of_ne_nil hx;have hi:H.get i=some (.own e2 t (x0::l0)):=hi;generalize hxs:x0::l0=xs at*;obtain⟨b,c,o,hib,_,_,hB⟩:=aR.H.blk i _ hi;obtain⟨zs,dD,z2,z3,z4,z5,Ri⟩:=rU aR.H hi hib;have hnf:ρ.fz b=none:=by
   cases hz:ρ.fz b with
   |none=>rfl
   |some A=>
    have:=(aR.H.fz b A hz).2 i _ c hi hib;cases this
  have hle:cB ρ ⟨ρ.at',fun q=>if q=b then some zs else ρ.fz q⟩:=⟨fun _ _ h=>h,fun q A h=>by
   show(if q=b then some zs else ρ.fz q)=some A;by_cases hq:q=b
   .subst hq;rw [hnf]at h;cases h
   .rw [if_neg hq];exact h⟩
  refine⟨⟨⟨ρ.at',fun q=>if q=b then some zs else ρ.fz q⟩,⟨qT hle fun y hy=> ?_,Tc hle (fun _=>rfl) (fun q A h=> ?_),aR.G.mono hle⟩,hnone,fun q A h=> ?_,hkp.re hle (aI _) (fun _ hh=>Tb (fun _=>rfl) hh) fun q A h=>by
   have h:(if q=b then some zs else ρ.fz q)=some A:=h;by_cases hq:q=b
   .exact .inr ⟨i,_,c,hi,rfl,hq ▸ hib⟩
   .rw [if_neg hq]at h;exact .inl h⟩,hb,hd⟩
  .rcases hy.jx with⟨h0,_⟩|⟨b',c',kc,g1,_,g3,rfl⟩
   .exact absurd (List.length_eq_zero_iff.1 h0) hx
   .rw [hib]at g1;cases g1;refine .bn (A:=zs) (b:=b) (off:=0*t.size) (by show(if b=b then some zs else _)=_;rw [if_pos rfl]) (by rw [Nat.zero_mul,aw];exact z4) rfl ?_ g3 (fun e=>by cases e);rw [Nat.zero_mul,List.drop_zero];exact z2.mono hle
  .have h:(if q=b then some zs else ρ.fz q)=some A:=h;by_cases hq:q=b
   .subst hq;rw [if_pos rfl]at h;cases h;exact⟨⟨_,_,dD⟩,fun k kk c' hne g1 g2=>absurd (aR.H.inj k i kk _ q c' c g1 hi g2 hib) hne⟩
   .rw [if_neg hq]at h;exact⟨(aR.H.fz q A h).1,fun k kk c _ g1 g2=>(aR.H.fz q A h).2 k kk c g1 g2⟩
  .have h:(if q=b then some zs else ρ.fz q)=some A:=h;by_cases hq:q=b
   .subst hq;exact .inr (hB rfl)
   .rw [if_neg hq]at h;exact hfz q A h
def aU.uA {Q:Exit->au aa->ai->Prop} {l:List Code} (hl:l≠[]) {i s:Nat} {e2:TypeId} {t:av} {xs:List t.den} {cap:aX} (hs':T.get s=some (.bR e2 t i 0 xs.length cap)) (hi:H.get i=bU e2 t xs)
  (hg:ba X P w0 F n l (T.set s (some (.bn false t xs))) (H.drop i) Q):ba X P w0 F n l T H Q:=by
 cases l with
 |nil=>exact absurd rfl hl
 |cons c l=>exact fun a w hs k=>hg a w (Sat.uA hs' hi hs) k
def Goal.freeze {Q:Exit->au aa->ai->Prop} {c:Code} {i j m:Nat} {e e2:TypeId} {cs:List aa} {x f r:Bool} {t:av} {xs:List t.den} {cap:aX} (hj:H.get j=some (.cells e cs x f r)) (hm:cs[m]? =some (.bR e2 t i 0 xs.length cap)) (hi:H.get i=bU e2 t xs) (hij:i≠j)
  (hg:iM X P w0 F n c T ((H.drop i).set j (.cells e (cs.set m (.bn false t xs)) x f r)) Q):iM X P w0 F n c T H Q:=fun a w hs k=>hg a w (Sat.freeze hj hm hi hij hs) k
def aU.freeze {Q:Exit->au aa->ai->Prop} {l:List Code} (hl:l≠[]) {i j m:Nat} {e e2:TypeId} {cs:List aa} {x f r:Bool} {t:av} {xs:List t.den} {cap:aX} (hj:H.get j=some (.cells e cs x f r)) (hm:cs[m]? =some (.bR e2 t i 0 xs.length cap)) (hi:H.get i=bU e2 t xs) (hij:i≠j)
  (hg:ba X P w0 F n l T ((H.drop i).set j (.cells e (cs.set m (.bn false t xs)) x f r)) Q):ba X P w0 F n l T H Q:=by
 cases l with
 |nil=>exact absurd rfl hl
 |cons c l=>exact Goal.freeze hj hm hi hij hg
def aU.nD {Q:Exit->au aa->ai->Prop} {l:List Code} (hl:l≠[]) {σ:Ren} {s:bD} (h:fit P σ n T H s) (hg:ba X P w0 F n l s.T s.H Q) (hp:pinned σ s.H.next X.pins=true:=by rfl):ba X P w0 F n l T H Q:=by
 cases l with
 |nil=>exact absurd rfl hl
 |cons c l=>exact Goal.nD h hg hp
end
end Go.Proofs.YtibikmmdbdlafaaGreatDoor
namespace Go.Proofs.YtibikmmdbdlafaaGreatDoor
def vl (b:Int):List Int->Int
 |[]=>0
 |x::r=>x+b*vl b r
def aS (b:Int) (l:List Int):Prop:=∀x∈l,0<=x/\x<b
def aS.nil {b:Int}:aS b []:=fun x h=>by cases h
def aS.cons {b x:Int} {l:List Int} (h:0<=x/\x<b) (hl:aS b l):aS b (x::l):=fun y hy=>by
 rcases en.1 hy with rfl |hy
 .exact h
 .exact hl y hy
def aS.tail {b x:Int} {l:List Int} (h:aS b (x::l)):aS b l:=fun y hy=>h y (kJ _ hy)
def aS.head {b x:Int} {l:List Int} (h:aS b (x::l)):0<=x/\x<b:=h x kK
def aS.app {b:Int} {l m:List Int} (h:aS b l) (g:aS b m):aS b (l++m):=fun y hy=>(List.mem_append.1 hy).elim (h y) (g y)
def aS.left {b:Int} {l m:List Int} (h:aS b (l++m)):aS b l:=fun y hy=>h y (List.mem_append_left _ hy)
def aS.right {b:Int} {l m:List Int} (h:aS b (l++m)):aS b m:=fun y hy=>h y (List.mem_append_right _ hy)
def aS.take {b:Int} {l:List Int} (h:aS b l) (k:Nat):aS b (l.take k):=fun y hy=>h y (List.mem_of_mem_take hy)
def aS.drop {b:Int} {l:List Int} (h:aS b l) (k:Nat):aS b (l.drop k):=fun y hy=>h y (List.mem_of_mem_drop hy)
def aS.set {b:Int} {l:List Int} (h:aS b l) {k:Nat} {x:Int} (hx:0<=x/\x<b):aS b (l.set k x):=fun y hy=>by
 rcases List.mem_or_eq_of_mem_set hy with hy|rfl
 .exact h y hy
 .exact hx
def aS.at' {b:Int} {l:List Int} (h:aS b l) {k:Nat} (hk:k<l.length):0<=l.getD k 0/\l.getD k 0<b:=by
 have:l.getD k 0=l[k]:=by simp [ao,hk]
 rw [this];exact h _ (List.getElem_mem _)
def aS.get {b:Int} (hb:0<b) {l:List Int} (h:aS b l) (k:Nat):0<=l.getD k 0/\l.getD k 0<b:=by
 by_cases hk:k<l.length
 .exact h.at' hk
 .rw [ao,List.getElem?_eq_none ω];exact⟨Int.le_refl _,hb⟩
def aS.rep {b:Int} (hb:0<b) (n:Nat):aS b (List.replicate n 0):=fun y hy=>by
 rw [(List.mem_replicate.1 hy).2];exact⟨Int.le_refl _,hb⟩
def ad4 {a b:Int} (ha:0<=a) (hb:0<=b):0<=a*b:=Int.mul_nonneg ha hb
def dR {b:Int} (hb:0<b):∀n:Nat,0<b^n
 |0=>by simp
 |n+1=>by rw [Int.pow_succ];exact Int.mul_pos (dR hb n) hb
def fY {b:Int} (hb:0<b):∀{l:List Int},aS b l->0<=vl b l
 |[],_=>Int.le_refl _
 |x::r,h=>by
  have h1:=h.head;have h2:=Int.mul_nonneg (cr hb) (fY hb h.tail);show 0<=x+b*vl b r;omega
def dt {b:Int} (hb:0<b):∀{l:List Int},aS b l->vl b l<b^l.length
 |[],_=>by simp [vl]
 |x::r,h=>by
  have h1:=h.head;have h2:=dt hb h.tail;have h3:b*vl b r<=b*(b^r.length-1):=dn ω (cr hb);have h4:b*(b^r.length-1)=b*b^r.length-b:=by rw [Int.mul_sub,Int.mul_one]
  have h5:b^(x::r).length=b*b^r.length:=by rw [List.length_cons,Int.pow_succ,Int.mul_comm]
  rw [h5];show x+b*vl b r<_;omega
def Ga (b:Int):∀(l m:List Int),vl b (l++m)=vl b l+b^l.length*vl b m
 |[],m=>by simp [vl]
 |x::r,m=>by
  show x+b*vl b (r++m)=x+b*vl b r+b^(r.length+1)*vl b m;rw [Ga b r m,Int.mul_add,Int.pow_succ,Int.mul_comm (b^r.length) b,Int.mul_assoc,Int.add_assoc]
def sg (b x:Int):vl b [x]=x:=by simp [vl]
def yG (b:Int) (l:List Int) (x:Int):vl b (l++[x])=vl b l+b^l.length*x:=by rw [Ga,sg]
def Dk (b:Int):∀n:Nat,vl b (List.replicate n 0)=0
 |0=>rfl
 |n+1=>by rw [List.replicate_succ];show 0+b*vl b (List.replicate n 0)=0;rw [Dk b n];simp
def uB {l:List Int} {k:Nat} (h:k<l.length):l.getD k 0=l[k]:=by simp [ao,h]
def Td {l:List Int} {k:Nat} (h:k<l.length):l.take (k+1)=l.take k++[l.getD k 0]:=by rw [uB h];simp
def lS {b:Int} {l:List Int} {k:Nat} (h:k<l.length):vl b (l.take (k+1))=vl b (l.take k)+b^k*l.getD k 0:=by
 rw [Td h,yG,ek,Nat.min_eq_left ω]
def kX {b:Int} (l:List Int) (k:Nat):vl b (l.take (k+1))=vl b (l.take k)+b^k*l.getD k 0:=by
 by_cases h:k<l.length
 .exact lS h
 .have e:l.getD k 0=0:=by rw [ao,List.getElem?_eq_none ω];rfl
  rw [e,eH ω,eH ω];simp
def si (b:Int) (l:List Int) (k:Nat) (h:k<=l.length):vl b l=vl b (l.take k)+b^k*vl b (l.drop k):=by
 have:=Ga b (l.take k) (l.drop k);rw [List.take_append_drop,ek,Nat.min_eq_left h]at this;exact this
def qU (b:Int):∀(l:List Int) (k:Nat) (x:Int),k<l.length->vl b (l.set k x)=vl b l+b^k*(x-l.getD k 0)
 |[],k,_,h=>absurd h (Nat.not_lt_zero _)
 |y::r,0,x,_=>by
  show x+b*vl b r=y+b*vl b r+b^0*(x-(y::r).getD 0 0);simp;omega
 |y::r,k+1,x,h=>by
  show y+b*vl b (r.set k x)=y+b*vl b r+b^(k+1)*(x-(y::r).getD (k+1) 0);have e:(y::r).getD (k+1) 0=r.getD k 0:=by simp
  rw [qU b r k x (by simpa using h),e,Int.mul_add,Int.pow_succ,Int.mul_comm (b^k) b,Int.mul_assoc,Int.add_assoc]
def e5 (l:List Int):Prop:=∀k,l.length=k+1->l.getD k 0≠0
def iP (l:List Int):Nat->List Int
 |0=>[]
 |k+1=>if l.getD k 0=0 then iP l k else l.take (k+1)
def Dl (l:List Int):∀k,k<=l.length->∃m,m<=k/\iP l k=l.take m/\(∀j,m<=j->j<k->l.getD j 0=0)/\(∀j,m=j+1->l.getD j 0≠0)
 |0,_=>⟨0,aI _,by simp [iP],fun j _ h=>by omega,fun j h=>by omega⟩
 |k+1,hk=>by
  unfold iP;by_cases h:l.getD k 0=0
  .rw [if_pos h];obtain⟨m,h1,h2,h3,h4⟩:=Dl l k ω;refine⟨m,by omega,h2,fun j g1 g2=> ?_,h4⟩;by_cases e:j=k
   .rw [e];exact h
   .exact h3 j g1 ω
  .rw [if_neg h];exact⟨k+1,aI _,rfl,fun j g1 g2=>by omega,fun j e=>by
    obtain rfl:j=k:=by omega
    exact h⟩
def Lw {b:Int} (l:List Int):∀k,k<=l.length->vl b (iP l k)=vl b (l.take k)
 |0,_=>by simp [iP]
 |k+1,hk=>by
  unfold iP;by_cases h:l.getD k 0=0
  .rw [if_pos h,Lw l k ω,lS ω,h];simp
  .rw [if_neg h]
def Gb (l:List Int) (k:Nat) (hk:k<=l.length):e5 (iP l k):=by
 obtain⟨m,h1,h2,_,h4⟩:=Dl l k hk;rw [h2];intro j hj;rw [ek,Nat.min_eq_left ω]at hj;have:=h4 j hj;rwa [ao,List.getElem?_take,if_pos ω,<-ao]
def Te {b:Int} {l:List Int} (h:aS b l) (k:Nat) (hk:k<=l.length):aS b (iP l k):=by
 obtain⟨m,_,h2,_⟩:=Dl l k hk;rw [h2];exact h.take _
def Tf {l:List Int} (h:e5 l):iP l l.length=l:=by
 cases hl:l.length with
 |zero=>rw [List.eq_nil_of_length_eq_zero hl];rfl
 |succ k=>
  unfold iP;rw [if_neg (h k hl)];exact eH ω
def yH {b:Int} (hb:0<b) {l:List Int} (h:aS b l) (ht:e5 l) {k:Nat} (hl:l.length=k+1):b^k<=vl b l:=by
 have h1:=lS (b:=b) (l:=l) (k:=k) ω;rw [eH ω]at h1;have h2:=fY hb (h.take k);have h3:=h.at' (k:=k) ω;have h4:=ht k hl;have h5:b^k*1<=b^k*l.getD k 0:=dn ω (cr (dR hb k));omega
def iQ {b:Int} (hb:1<=b) {m n:Nat} (h:m<=n):b^m<=b^n:=by
 obtain⟨d,rfl⟩:=Nat.exists_eq_add_of_le h;rw [Int.pow_add];have h1:=dR (show 0<b by omega) m;have h2:=dR (show 0<b by omega) d;have:=dn (show 1<=b^d by omega) (cr h1);omega
def wD {b:Int} (hb:1<b) {l m:List Int} (h:aS b l) (g:aS b m) (ht:e5 m) (hl:l.length<m.length):vl b l<vl b m:=by
 obtain⟨k,hk⟩:∃k,m.length=k+1:=⟨m.length-1,by omega⟩;have h1:=dt (show 0<b by omega) h;have h2:=yH (show 0<b by omega) g ht hk;have h3:=iQ (show 1<=b by omega) (show l.length<=k by omega);omega
def Gc {b:Int} (hb:1<b) {l m:List Int} (h:aS b l) (g:aS b m) (hl:l.length=m.length) {k:Nat} (hk:k<l.length) (hlt:l.getD k 0<m.getD k 0) (heq:∀j,k<j->j<l.length->l.getD j 0=m.getD j 0):vl b l<vl b m:=by
 have hb0:0<b:=by omega
 have hd:l.drop (k+1)=m.drop (k+1):=by
  refine List.ext_getElem (by simp [hl]) fun i h1 h2=> ?_
  rw [List.getElem_drop,List.getElem_drop,<-uB,<-uB];exact heq _ ω (by simp at h1;omega)
 rw [si b l (k+1) ω,si b m (k+1) ω,hd,lS hk,lS ω];have h1:=dt hb0 (h.take k);rw [ek,Nat.min_eq_left ω]at h1;have h2:=fY hb0 (g.take k);have h3:b^k*(l.getD k 0+1)<=b^k*m.getD k 0:=dn ω (cr (dR hb0 k));rw [Int.mul_add,Int.mul_one]at h3;omega
def Lx {b:Int} (hb:1<b):∀{l m:List Int},aS b l->aS b m->l.length=m.length->vl b l=vl b m->l=m
 |[],[],_,_,_,_=>rfl
 |[],_::_,_,_,h,_=>by cases h
 |_::_,[],_,_,h,_=>by cases h
 |x::l,y::m,h,g,hl,e=>by
  have e:x+b*vl b l=y+b*vl b m:=e;have h1:=h.head;have g1:=g.head;have hx:x=y:=by
   have a1:(x+b*vl b l)%b=x:=by rw [Int.add_mul_emod_self_left];exact Int.emod_eq_of_lt h1.1 h1.2
   have a2:(y+b*vl b m)%b=y:=by rw [Int.add_mul_emod_self_left];exact Int.emod_eq_of_lt g1.1 g1.2
   rw [<-a1,<-a2,e]
  subst hx;have e2:b*vl b l=b*vl b m:=by omega
  have e3:=Int.eq_of_mul_eq_mul_left ω e2;rw [Lx hb h.tail g.tail (by simpa using hl) e3]
def Tg {b:Int} (hb:1<b) {l m:List Int} (h:aS b l) (g:aS b m) (hl:e5 l) (hm:e5 m) (e:vl b l=vl b m):l=m:=by
 rcases Nat.lt_trichotomy l.length m.length with h1|h1|h1
 .have:=wD hb h g hm h1;omega
 .exact Lx hb h g h1 e
 .have:=wD hb g h hl h1;omega
def Gd {b:Int} (hb:1<b) {l:List Int} (h:aS b l) (ht:e5 l):vl b l=0↔l=[]:=by
 constructor
 .intro e;exact Tg hb h .nil ht (fun k hk=>by cases hk) (by rw [e];rfl)
 .rintro rfl;rfl
def e5.nil:e5 []:=fun k h=>by cases h
section
variable {b:Int}
structure AW (b v1 v2 v' aH u1 u2 u' s:Int):Prop where
 b2:2<=b
 s1:1<=s
 v1:1<=v1/\v1<b
 v2:0<=v2/\v2<b
 v':0<=v'/\v'<s
 aH:0<=aH/\aH<b
 u1:0<=u1/\u1<b
 u2:0<=u2/\u2<b
 u':0<=u'/\u'<s
variable {v1 v2 v' aH u1 u2 u' s:Int}
def gG (b v1 v2 v' s:Int):Int:=(v1*b+v2)*s+v'
def nE (b aH u1 u2 u' s:Int):Int:=((aH*b+u1)*b+u2)*s+u'
def w7 {a c x:Int} (h:a*x<c*x) (hx:0<x):a<c:=Int.lt_of_mul_lt_mul_right h (cr hx)
section
variable (p:AW b v1 v2 v' aH u1 u2 u' s)
def Th {t q:Int} (ht:0<=t) (hq:q*gG b v1 v2 v' s<=nE b aH u1 u2 u' s) (h:(aH*b+u1-t*v1)*b+u2<t*v2):q<t:=by
 have h1:(aH*b+u1)*b+u2+1<=t*(v1*b+v2):=by
  have e1:(aH*b+u1-t*v1)*b=(aH*b+u1)*b-t*v1*b:=Int.sub_mul _ _ _;have e2:t*(v1*b+v2)=t*v1*b+t*v2:=by rw [Int.mul_add,Int.mul_assoc]
  rw [e1]at h;rw [e2];omega
 have h2:=ar h1 (show 0<=s by have:=p.s1;omega);have e3:((aH*b+u1)*b+u2+1)*s=((aH*b+u1)*b+u2)*s+s:=by rw [Int.add_mul _ 1,Int.one_mul]
 rw [e3]at h2;have h3:t*(v1*b+v2)*s<=t*gG b v1 v2 v' s:=by
  rw [Int.mul_assoc];exact dn (by unfold gG;have:=p.v';omega) ht
 have h4:nE b aH u1 u2 u' s<t*gG b v1 v2 v' s:=by unfold nE;have:=p.u';omega
 have h5:q*gG b v1 v2 v' s<t*gG b v1 v2 v' s:=by omega
 refine w7 h5 ?_;have:=p.v1;have h6:0<v1*b+v2:=by
  have:=Int.mul_pos (show 0<v1 by omega) (show 0<b by have:=p.b2;omega);have:=p.v2;omega
 have h7:=Int.mul_pos h6 (show 0<s by have:=p.s1;omega);unfold gG;have:=p.v';omega
def Lz {t:Int} (ht:0<=t/\t<b) (h:t*v2<=(aH*b+u1-t*v1)*b+u2):(t-1)*gG b v1 v2 v' s<=nE b aH u1 u2 u' s:=by
 have e1:(aH*b+u1-t*v1)*b=(aH*b+u1)*b-t*v1*b:=Int.sub_mul _ _ _;have e2:t*(v1*b+v2)=t*v1*b+t*v2:=by rw [Int.mul_add,Int.mul_assoc]
 have h1:t*(v1*b+v2)<=(aH*b+u1)*b+u2:=by rw [e2];rw [e1]at h;omega
 have h2:=ar h1 (show 0<=s by have:=p.s1;omega);have h3:t*v'<=(b-1)*s:=by
  have a:=ar (show t<=b-1 by omega) p.v'.1;have c:=dn (show v'<=s by have:=p.v';omega) (show 0<=b-1 by have:=p.b2;omega);omega
 have h4:b*s<=gG b v1 v2 v' s:=by
  have a:=ar p.v1.1 (show 0<=b by have:=p.b2;omega);rw [Int.one_mul]at a;have c:=ar (show b<=v1*b+v2 by have:=p.v2;omega) (show 0<=s by have:=p.s1;omega);unfold gG;have:=p.v';omega
 have e3:(t-1)*gG b v1 v2 v' s=t*gG b v1 v2 v' s-gG b v1 v2 v' s:=by rw [Int.sub_mul,Int.one_mul]
 have bV:t*gG b v1 v2 v' s=t*(v1*b+v2)*s+t*v':=by unfold gG;rw [Int.mul_add,Int.mul_assoc]
 have iR:(b-1)*s=b*s-s:=by rw [Int.sub_mul,Int.one_mul]
 rw [e3,bV];unfold nE;have:=p.u';have:=p.s1;omega
def Ti {t:Int} (ht:0<=t/\t<b) (h:b<=aH*b+u1-t*v1):t*v2<=(aH*b+u1-t*v1)*b+u2:=by
 have h1:t*v2<=b*b:=by
  have a:=ar (show t<=b by omega) p.v2.1;have c:=dn (show v2<=b by have:=p.v2;omega) (show 0<=b by have:=p.b2;omega);omega
 have h2:=ar h (show 0<=b by have:=p.b2;omega);have:=p.u2;omega
def Tj {q:Int} (mN:0<=q) (hq:q*gG b v1 v2 v' s<=nE b aH u1 u2 u' s):q*v1<=aH*b+u1:=by
 refine Int.not_lt.1 fun hlt=> ?_
 have hb:=p.b2;have h1:aH*b+u1+1<=q*v1:=hlt;have h2:=ar h1 (show 0<=b by omega);have e1:(aH*b+u1+1)*b=(aH*b+u1)*b+b:=by rw [Int.add_mul _ 1,Int.one_mul]
 rw [e1]at h2;have h3:=ar (show(aH*b+u1)*b+u2+1<=q*v1*b by have:=p.u2;omega) (show 0<=s by have:=p.s1;omega);have e2:((aH*b+u1)*b+u2+1)*s=((aH*b+u1)*b+u2)*s+s:=by rw [Int.add_mul _ 1,Int.one_mul]
 rw [e2]at h3;have h4:q*v1*b*s<=q*gG b v1 v2 v' s:=by
  rw [Int.mul_assoc,Int.mul_assoc];refine dn ?_ mN;rw [<-Int.mul_assoc];unfold gG;have a:v1*b*s<=(v1*b+v2)*s:=ar (by have:=p.v2;omega) (by have:=p.s1;omega);have:=p.v';omega
 unfold nE at hq;have:=p.u';omega
end
end
section
open Go.RowKit Sv Go.Proofs.Tryz
noncomputable section
abbrev aE:av:= .int .u64
abbrev cu (x:Int):aa:= .raw (.int .u64 x)
abbrev bI (l:List Int):aa:= .bn false aE l
abbrev qV (j:Nat) (l:List Int):aa:= .bR 167 aE j 0 l.length (bH l.length)
section
variable (l:List Int)
abbrev qW:fJ:= .opt 167 aE l
def gR:Bool:=l.all fun x=>decide (0<=x)&&decide (x<18446744073709551616)
def jG:Bool:=Nat.beq (iP l l.length).length l.length
def ak:Int:=vl 18446744073709551616 l
end
def wE:=k_a f188
def dS (l:List Int):List Int:=iP l l.length
section
variable (w:List Int)
def mO (n:Nat):bD:={n:=21,sl:=[(0,bI w),(3,iv n)],bJ:=[],next:=64}
def Ge (n:Nat):bD:={n:=21,sl:=[(0,bI w),(3,iv ((n:Int)-1))],bJ:=[],next:=64}
def ad5:
  cZ (bc []) (fl wE []) 2 21 [bI w] 1 .normal [] (mO w w.length):=
 wy [] 0
def ad6 (n:Nat) (h1:(n:Int)>0) (h2:i6 ((n:Int)-1)) (h3:0<=(n:Int)-1) (h4:((n:Int)-1).toNat<w.length) (h5:w.getD ((n:Int)-1).toNat 0=0):
  bt (bc []) (fl wE [1,1,0,0,0]) (mO w n) 511 .normal [] (Ge w n):=
 wy [af (aM (az h1)),yi h2,ah h3,ah h4,ah h1,cX h5] 154581839761004564545
def ad7 (n:Nat) (h1:(n:Int)>0) (h2:i6 ((n:Int)-1)) (h3:0<=(n:Int)-1) (h4:((n:Int)-1).toNat<w.length) (h5:¬w.getD ((n:Int)-1).toNat 0=0):
  bt (bc []) (fl wE [1,1,0,0,0]) (mO w n) 383 (.exit 0) [] (mO w n):=
 wy [af (aM (az h1)),yi h2,ah h3,ah h4,ah h1,yn h5] 7007887171328151617
def ad8 (n:Nat) (h1:¬(n:Int)>0):
  bt (bc []) (fl wE [1,1,0,0,0]) (mO w n) 256 (.exit 0) [] (mO w n):=
 wy [af (aM (ab h1)),aJ h1] 138529738817
def Tk (n:Nat) (h1:n<=w.length) (h2:((w.take n).drop 0)=(w.take n)):
  bS (bc []) ((fl wE []).drop 3) (mO w n) 1 f188 false (bI (w.take n)):=
 wy [ah h1,ax h2] 528384
end
def Gf:=IN 188 [.list false aE] [.list false aE] false (fun d=>decide (List.length (α:=Int) d.1<=1000000)) fun d=>(dS d.1,())
def ad9 (w:List Int) (hl:w.length<=1000000):Holds prog false 188 [bI w] (bI (dS w)):=by
 refine bL (c:=wE) func188 rfl rfl fun w0 F=> ?_
 refine cJ cC 2 (ad5 w) ?_;refine aU.loop (ι:={n:Nat//n<=w.length/\iP w n=dS w}) (id:=0) (b:=cat wE [1,1,0,0,0]) (rest:=(fl wE []).drop 3) (by kernel_rfl) (fun n=>mO w n.1) (fun n=>n.1) ⟨w.length,aI _,rfl⟩ (fun _=>rfl) ?_;rintro⟨n,hn,hv⟩;cases n with
 |zero=>
  refine bx (s:=mO w 0) cC (ad8 w 0 ω) ?_;refine cy (cF ?_);have e:dS w=w.take 0:=by rw [<-hv];rfl
  rw [e];exact bX (s:=mO w 0) cC (Tk w 0 ω rfl)
 |succ k=>
  have e0:(((k+1:Nat):Int)-1).toNat=k:=by omega
  have e1:Ge w (k+1)=mO w k:=by
   unfold Ge mO;rw [show(((k+1:Nat):Int)-1)=(k:Int) by omega]
  by_cases hz:w.getD k 0=0
  .refine bx (s:=mO w (k+1)) (s':=Ge w (k+1)) cC (ad6 w (k+1) ω ω ω ω (by rw [e0];exact hz)) ?_;have iO:iP w k=dS w:=by rw [<-hv,iP,if_pos hz]
   rw [e1];exact⟨⟨k,by omega,iO⟩,by simp,rfl,rfl⟩
  .refine bx (s:=mO w (k+1)) cC (ad7 w (k+1) ω ω ω ω (by rw [e0];exact hz)) ?_;refine cy (cF ?_);have e:dS w=w.take (k+1):=by rw [<-hv,iP,if_neg hz]
   rw [e];exact bX (s:=mO w (k+1)) cC (Tk w (k+1) ω rfl)
def LA:Gf.Ok prog:=fun⟨w,_⟩ h=>ad9 w (ap h)
end
end
def e5.cons {x:Int} {l:List Int} (h:e5 l) (hx:l=[]->x≠0):e5 (x::l):=fun k hk=>by
 cases l with
 |nil=>
  simp at hk;subst hk;exact hx rfl
 |cons y r=>
  cases k with
  |zero=>simp at hk
  |succ k=>
   have:=h k (by simpa using hk);simpa using this
def Tl {b:Int} (hb:1<b):∀n:Nat,∃l,aS b l/\e5 l/\vl b l=(n:Int):=fun n=>by
 induction n using Nat.strongRecOn with
 |_ n ih=>
  by_cases h0:n=0
  .subst h0;exact⟨[],aS.nil,e5.nil,rfl⟩
  .have hlt:((n:Int)/b).toNat<n:=by
    have h1:(n:Int)/b<n:=Int.ediv_lt_of_lt_mul ω (by
     have:(n:Int)*1<n*b:=Int.mul_lt_mul_of_pos_left hb ω;omega)
    have h2:0<=(n:Int)/b:=Int.ediv_nonneg ω ω;omega
   obtain⟨l,h1,h2,h3⟩:=ih _ hlt;have h4:0<=(n:Int)/b:=Int.ediv_nonneg ω ω;rw [Int.toNat_of_nonneg h4]at h3;have h5:=dr (n:Int) (show b≠0 by omega);have h6:=c7 (n:Int) (show 0<b by omega);have h7:=Int.emod_add_mul_ediv (n:Int) b;refine⟨(n:Int)%b::l,aS.cons ⟨h5,h6⟩ h1,e5.cons h2 fun e hz=> ?_, ?_⟩
   .subst e;have h3:(0:Int)=(n:Int)/b:=h3;rw [hz,<-h3]at h7;simp at h7;omega
   .show(n:Int)%b+b*vl b l=n;rw [h3];exact h7
noncomputable def cO (b z:Int):List Int:=if h:1<b/\0<=z then Classical.choose (Tl h.1 z.toNat)else []
def qX {b z:Int} (hb:1<b) (hz:0<=z):aS b (cO b z)/\e5 (cO b z)/\vl b (cO b z)=z:=by
 unfold cO;rw [dif_pos ⟨hb,hz⟩];obtain⟨h1,h2,h3⟩:=Classical.choose_spec (Tl hb z.toNat);exact⟨h1,h2,by rw [h3];omega⟩
def qY {b z:Int} {l:List Int} (hb:1<b) (h1:aS b l) (h2:e5 l) (h3:vl b l=z):l=cO b z:=by
 have hz:0<=z:=by rw [<-h3];exact fY ω h1
 obtain⟨g1,g2,g3⟩:=qX hb hz;exact Tg hb h1 g1 h2 g2 (by rw [h3,g3])
def AX {l:List Int} {i:Nat} {d:Int}:(l.set i d).take i=l.take i:=by
 refine List.ext_getElem? fun j=> ?_
 rw [List.getElem?_take,List.getElem?_take];split
 .rw [List.getElem?_set_ne ω]
 .rfl
def wF {l:List Int} {i:Nat} {d:Int} (h:i<l.length):(l.set i d).getD i 0=d:=by
 rw [ao,List.getElem?_set_self h];rfl
def yI {b:Int} {l:List Int} {i:Nat} {d:Int} (h:i<l.length):vl b ((l.set i d).take (i+1))=vl b (l.take i)+b^i*d:=by
 rw [kX,AX,wF h]
section
variable {b:Int} (hb:0<b) {l:List Int} (h:aS b l)
def aea (k:Nat):vl b (l.take k)<=vl b l:=by
 by_cases hk:k<=l.length
 .rw [si b l k hk];have:=ad4 (cr (dR hb k)) (fY hb (h.drop k));omega
 .rw [eH ω];exact Int.le_refl _
def Dm {k:Nat} (hlt:vl b l<b^k):vl b (l.take k)=vl b l:=by
 by_cases hk:k<=l.length
 .have hs:=si b l k hk;have h1:=fY hb (h.drop k);have h2:=fY hb (h.take k);have hz:vl b (l.drop k)=0:=by
   by_cases hz:vl b (l.drop k)=0
   .exact hz
   .have h3:b^k*1<=b^k*vl b (l.drop k):=dn ω (cr (dR hb k));omega
  rw [hz]at hs;omega
 .rw [eH ω]
end
def LB {P b s c' a e c X Y O:Int} (h:s+b*c'=a+e+c) (hi:O+P*c=X+Y):O+P*s+P*b*c'=X+P*a+(Y+P*e):=by
 have h1:P*(s+b*c')=P*(a+e+c):=by rw [h]
 rw [Int.mul_add,Int.mul_add,Int.mul_add,<-Int.mul_assoc]at h1;omega
def Tm {P b s c' a e c X Y O:Int} (h:s-b*c'=a-e-c) (hi:O-P*c=X-Y):O+P*s-P*b*c'=X+P*a-(Y+P*e):=by
 have h1:P*(s-b*c')=P*(a-e-c):=by rw [h]
 rw [Int.mul_sub,Int.mul_sub,Int.mul_sub,<-Int.mul_assoc]at h1;omega
end Go.Proofs.YtibikmmdbdlafaaGreatDoor
