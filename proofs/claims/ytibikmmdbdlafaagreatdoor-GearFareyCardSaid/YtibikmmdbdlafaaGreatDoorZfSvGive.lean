import Derived.Test.YtibikmmdbdlafaaGreatDoorZfSvUse
import Derived.Lib.MakeNoZero
import Derived.Lib.LaidTab
import Derived.Lib.ItoaNum
import Derived.Test.YtibikmmdbdlafaaGreatDoorRows
import Derived.WalkKit
import Derived.ProofKit
import Derived.LaidMore
import Derived.OpenShut
import Derived.SevenTiedAt
import Derived.SizedLaws
import Derived.Shelf.Vars
set_option linter.defProp false
set_option linter.unusedSectionVars false
set_option linter.unusedSimpArgs false
set_option linter.unusedVariables false
set_option maxRecDepth 100000
namespace Go.Proofs.YtibikmmdbdlafaaGreatDoor.Sv
open Go.RowKit
section
variable [Ground]
noncomputable section
inductive cv:Type 1 where
 |b (x c:Bool)
 |e {α:Type} (x y:α)
 |o (P:Program) (m:Option Nat) (b:Option bq) (e:TypeId) (t:av) (xs:List t.den)
 |p (q:Prop)
def cv.ok:cv->Prop
 | .b x c=>x=c
 | .e x y=>x=y
 | .o P m k f t xs=>Ag P m k f t xs
 | .p q=>q
def eY:List cv->Prop
 |[]=>True
 |o::l=>o.ok/\eY l
abbrev iL:={o:cv//o.ok}
def aa {x c:Bool} (h:x=c):iL:=⟨.b x c,h⟩
def ax {α:Type} {x y:α} (h:x=y):iL:=⟨.e x y,h⟩
def vP {q:Prop} (h:q):iL:=⟨.p q,h⟩
def pH (P:Program) (e:TypeId) (t:av) {ys xs:List t.den} (h:ys=xs):iL:=⟨.o P none (some (.own e t ys)) e t xs,by subst h;simp [cv.ok,Ag,rX,gX,pn]⟩
def ah {p:Prop} [Decidable p] (h:p):iL:=aa (ay h)
def aK {p:Prop} [Decidable p] (h:¬p):iL:=aa (ab h)
def cT {α:Type} [BEq α] [LawfulBEq α] {a b:α} (h:a=b):iL:=aa (fP.mpr h)
def yn {α:Type} [BEq α] [LawfulBEq α] {a b:α} (h:¬a=b):iL:=aa (eN.mpr h)
def yi {r:Int} (h: -9223372036854775808<=r/\r<=9223372036854775807):iL:=aa (eL h)
def SH:Nat->Nat->List Bool
 |0,_=>[]
 |k+1,n=>cond (Nat.ble n 1) [] (Nat.beq (n%2) 1::SH k (n/2))
def dl (n:Nat):List Bool:=SH n n
def cv.fix:cv->cv
 | .b _ c=> .b c c
 | .e x _=> .e x x
 | .o P _ _ f t xs=> .o P none (a7 f t xs) f t xs
 | .p _=> .p True
def cv.SI:cv->cv
 | .o P _ _ f t xs=> .o P none (some (.own f t xs)) f t xs
 |q=>q.fix
def FD:List iL->Nat->cv->cv
 |[],_,o=>o.fix
 |f::F,k,o=>cond (Nat.beq k 0) f.1 (FD F (k-1) o)
def FE (F:List iL):List cv->Nat->List cv
 |[],_=>[]
 |o::l,n=>cond (Nat.beq (n%64) 0) o.fix (cond (Nat.beq (n%64) 63) o.SI (FD F (n%64-1) o))::FE F l (n/64)
def cv.SJ:∀o:cv,o.fix.ok
 | .b _ _=>rfl
 | .e _ _=>rfl
 | .o _ _ _ _ _ _=>acP _ _ _ _
 | .p _=>trivial
def cv.adf:∀o:cv,o.SI.ok
 | .b _ _=>rfl
 | .e _ _=>rfl
 | .o P _ _ f t _=>(pH P f t rfl).2
 | .p _=>trivial
def SK:∀(F:List iL) (k:Nat) (o:cv),(FD F k o).ok
 |[],_,o=>o.SJ
 |f::F,k,o=>by unfold FD;cases Nat.beq k 0<;>first |exact SK F _ o|exact f.2
def K9 (F:List iL):∀(l:List cv) (n:Nat),eY (FE F l n)
 |[],_=>trivial
 |o::l,n=>⟨by cases Nat.beq (n%64) 0<;>cases Nat.beq (n%64) 63<;>first |exact o.SJ|exact o.adf|exact SK F _ o,K9 F l _⟩
def aD.obs {α:Type} (w:Bool):aD α->List Bool->(α->List cv)->List cv
 | .ret a,_,q=>q a
 | .must b k,D,q=> .b b true::k.obs w D q
 | .ask b k,[],q=>(k b).obs w [] q
 | .ask b k,c::D,q=> .b b c::(k c).obs w D q
 | .opt b k l,D,q=> .b b (!w)::match w with |false=>k.obs w D q|true=>l.obs w D q
class CO {α:Type} (Q:α->Prop) where
 x6:α->List cv
 ok:∀a,eY (x6 a)->Q a
instance (priority:=low) {α:Type} (Q:α->Prop):CO Q:=⟨fun a=>[.p (Q a)],fun _ h=>h.1⟩
def aD.CP {α:Type} {Q:α->Prop} {q:α->List cv} (hq:∀a,eY (q a)->Q a):∀(x:aD α) (D:List Bool),eY (x.obs false D q)->x.path D Q
 | .ret a,_,h=>hq a h
 | .must _ k,D,h=>⟨h.1,CP hq k D h.2⟩
 | .ask b k,[],h=>CP hq (k b) [] h
 | .ask _ k,c::D,h=>⟨h.1,CP hq (k c) D h.2⟩
 | .opt _ k _,D,h=>⟨h.1,CP hq k D h.2⟩
def aD.CQ {α:Type} {Q:α->Prop} {q:α->List cv} (hq:∀a,eY (q a)->Q a):∀(x:aD α) (D:List Bool),eY (x.obs true D q)->x.tU D Q
 | .ret a,_,h=>hq a h
 | .must _ k,D,h=>⟨h.1,CQ hq k D h.2⟩
 | .ask b k,[],h=>CQ hq (k b) [] h
 | .ask _ k,c::D,h=>⟨h.1,CQ hq (k c) D h.2⟩
 | .opt _ _ l,D,h=>⟨h.1,CQ hq l D h.2⟩
def wy {α:Type} {r:aD α} {D:List Bool} {Q:α->Prop} [I:CO Q] (F:List iL) (n:Nat) (h:r.obs false D I.x6=FE F (r.obs false D I.x6) n:=by kernel_rfl):r.path D Q:=aD.CP I.ok r D (by rw [h];exact K9 F _ n)
def adg {α:Type} {r:aD α} {D:List Bool} {Q:α->Prop} [I:CO Q] (F:List iL) (n:Nat) (h:r.obs true D I.x6=FE F (r.obs true D I.x6) n:=by kernel_rfl):r.tU D Q:=aD.CQ I.ok r D (by rw [h];exact K9 F _ n)
def mD (b:Bool) (l:List cv):List cv:=match b with |true=>l|false=>[.p False]
def Am (t u:av) (xs:List t.den) (ys:List u.den) (K:List cv):List cv:=if h:t=u then .e (h ▸ xs) ys::K else [.p False]
def La (z z':Bool) (n:Nat) (l:List cv):List cv:=match z',z with
 |true,false=> .b (Nat.ble 1 n) true::l
 |_,_=>l
def FF:Value->Value->List cv->List cv
 | .int k a, .int k' b,K=>mD (decide (k=k')) (.e a b::K)
 | .bool a, .bool b,K=> .e a b::K
 | .string a, .string b,K=> .e a b::K
 |a,b,K=> .e a b::K
def adh (m:Option Nat) (c c':aZ) (K:List cv):List cv:=match m with
 |none=> .e c c'::K
 |some m=> .e c (.known m):: .e c' (bK m)::K
def Lb (σ:Ren) (i n:Nat) (c:aZ) (j n':Nat) (c':aZ) (K:List cv):List cv:=match look σ j with
 |some (i',m)=>mD (Nat.beq i i') (.e n n'::adh m c c' K)
 |none=>[.p False]
mutual
def CR (σ:Ren):af->af->List cv->List cv
 |_, .bot,K=>K
 | .raw (.slice none 0 0), .bT _ _ _ _ n _,K=> .e n 0::K
 | .raw (.slice none 0 0), .bt _ _ ys,K=> .e ys []::K
 | .raw a, .raw b,K=>FF a b K
 | .ptr i off, .ptr j off',K=>mD (n5 σ j i) (.e off off'::K)
 | .slice i off n c, .slice j off' n' c',K=>mD (n5 σ j i) (.e off off':: .e n n':: .e c c'::K)
 | .slice i 0 n c, .bT _ _ j 0 n' c',K=>Lb σ i n c j n' c' K
 | .func f a b, .func f' a' b',K=>mD (decide (f=f')) (vQ σ a a' (vQ σ b b' K))
 | .map i, .map j,K=>mD (n5 σ j i) K
 | .iface t v, .iface t' v',K=>mD (Nat.beq t t') (CR σ v v' K)
 | .agg l, .agg l',K=>vQ σ l l' K
 | .tuple l, .tuple l',K=>vQ σ l l' K
 | .bt z t xs, .bt z' u ys,K=>Am t u xs ys (La z z' ys.length K)
 | .ff t xs k off, .ff u ys k' off',K=>Am t u xs ys (.e k k':: .e off off'::K)
 | .bT e t i k n c, .bT e' u j k' n' c',K=>mD (Nat.beq e e'&&(decide (t=u)&&n5 σ j i)) (.e k k':: .e n n':: .e c c'::K)
 | .dA e t i k off, .dA e' u j k' off',K=>mD (Nat.beq e e'&&(decide (t=u)&&n5 σ j i)) (.e k k':: .e off off'::K)
 |_,_,_=>[.p False]
def vQ (σ:Ren):List af->List af->List cv->List cv
 |[],[],K=>K
 |v::l,v'::l',K=>CR σ v v' (vQ σ l l' K)
 |_,_,_=>[.p False]
end
def nj {b:Bool} {l:List cv} {p:Prop} {K:List cv} (h:eY (mD b l)) (g:eY l->p/\eY K):gX b p/\eY K:=by
 cases b with
 |true=>exact g h
 |false=>exact h.1.elim
def An {t u:av} {xs:List t.den} {ys:List u.den} {K:List cv} (h:eY (Am t u xs ys K)):pn t u xs ys/\eY K:=by
 unfold Am at h;unfold pn;split at h
 .rename_i e;rw [dif_pos e];exact h
 .exact h.1.elim
def SL {z z':Bool} {n:Nat} {K:List cv} {p:Prop} (g:p) (h:eY (La z z' n K)):Fv z z' n p/\eY K:=by
 cases z'<;>cases z
 .exact⟨g,h⟩
 .exact⟨g,h⟩
 .exact⟨⟨g,h.1⟩,h.2⟩
 .exact⟨g,h⟩
def Lc {a b:Value} {K:List cv} (h:eY (FF a b K)):xV a b/\eY K:=by
 unfold FF at h;unfold xV;split at h
 .exact nj h fun h=>h
 .exact h
 .exact h
 .rename_i h1 h2 h3;refine⟨?_,h.2⟩;split
  .exact(h1 _ _ _ _ rfl rfl).elim
  .exact(h2 _ _ rfl rfl).elim
  .exact(h3 _ _ rfl rfl).elim
  .exact h.1
def adi {σ:Ren} {i n:Nat} {c:aZ} {j n':Nat} {c':aZ} {K:List cv} (h:eY (Lb σ i n c j n' c' K)):Af σ i n c j n' c'/\eY K:=by
 unfold Lb at h;unfold Af;cases hl:look σ j with
 |none=>simp only [hl]at h;exact h.1.elim
 |some q=>
  simp only [hl]at h ⊢;refine nj h fun h=> ?_
  obtain⟨q1,aQ⟩:=q;cases aQ with
  |none=>exact⟨⟨h.1,h.2.1⟩,h.2.2⟩
  |some m=>exact⟨⟨h.1,h.2.1,h.2.2.1⟩,h.2.2.2⟩
mutual
def FG {σ:Ren}:∀{v v':af} {K:List cv},eY (CR σ v v' K)->vI σ v v'/\eY K:=by
 intro v v' K h;unfold CR at h;unfold vI;split at h
 .exact⟨trivial,h⟩
 .exact h
 .exact h
 .exact Lc h
 .exact nj h fun h=>h
 .exact nj h fun h=>⟨⟨h.1,h.2.1,h.2.2.1⟩,h.2.2.2⟩
 .exact adi h
 .exact nj h fun h=>by
   obtain⟨h1,h2⟩:=Ao h;obtain⟨h2,h3⟩:=Ao h2;exact⟨⟨h1,h2⟩,h3⟩
 .exact nj h fun h=>⟨trivial,h⟩
 .exact nj h fun h=>FG h
 .exact Ao h
 .exact Ao h
 .exact SL (An h).1 (An h).2
 .obtain⟨h1,h2⟩:=An h;exact⟨⟨h1,h2.1,h2.2.1⟩,h2.2.2⟩
 .exact nj h fun h=>⟨⟨h.1,h.2.1,h.2.2.1⟩,h.2.2.2⟩
 .exact nj h fun h=>⟨⟨h.1,h.2.1⟩,h.2.2⟩
 .exact h.1.elim
def Ao {σ:Ren}:∀{v v':List af} {K:List cv},eY (vQ σ v v' K)->rW σ v v'/\eY K:=by
 intro v v' K h;unfold vQ at h;unfold rW;split at h
 .exact⟨trivial,h⟩
 .obtain⟨h1,h2⟩:=FG h;obtain⟨h2,h3⟩:=Ao h2;exact⟨⟨h1,h2⟩,h3⟩
 .exact h.1.elim
end
def Ld (P:Program) (m:Option Nat) (b:Option bq) (e:TypeId) (t:av) (xs:List t.den) (K:List cv):List cv:=match b,m with
 |some (.own e' u ys),none=>mD (Nat.beq e e') (Am u t ys xs K)
 |b,m=> .p (rX P m b e t xs)::K
def Le (P:Program) (σ:Ren) (H:ai) (p:Nat×fE) (K:List cv):List cv:=match look σ p.1 with
 |none=>(match p.2 with | .opt _ _ xs=> .e xs []::K| .blk _=>[.p False])
 |some (i,m)=>match p.2 with
  | .opt e t xs=> .o P m (H.get i) e t xs::K
  | .blk (.own e t xs)=>Ld P m (H.get i) e t xs K
  | .blk (.cells e cs x f r)=>(match H.get i,m with
    |some (.cells e' cs' x' f' r'),none=>mD (Nat.beq e e'&&(x==x'&&(f==f'&&r==r'))) (vQ σ cs' cs K)
    |_,_=>[.p False])
  | .blk _=>[.p False]
def Lf (σ:Ren) (T:au af) (K:List cv):List (Nat×af)->List cv
 |[]=>K
 |p::l=>CR σ ((T.get p.1).getD (.raw undef)) p.2 (Lf σ T K l)
def FH (P:Program) (σ:Ren) (H:ai):List (Nat×fE)->List cv
 |[]=>[]
 |p::l=>Le P σ H p (FH P σ H l)
def Lg (P:Program) (σ:Ren) (n:Nat) (T:au af) (H:ai) (s:bH):List cv:=
 mD (Nat.beq s.n n&&(vJ σ s.next&&(Sk s.next s.bJ&&(Sl n s.sl&&Nat.ble 64 s.next)))) (Lf σ T (FH P σ H s.bJ) s.sl)
def adj {P:Program} {m:Option Nat} {b:Option bq} {e:TypeId} {t:av} {xs:List t.den} {K:List cv} (h:eY (Ld P m b e t xs K)):rX P m b e t xs/\eY K:=by
 unfold Ld at h;split at h
 .unfold rX;exact nj h fun h=>An h
 .exact h
def SM {P:Program} {σ:Ren} {H:ai} {p:Nat×fE} {K:List cv} (h:eY (Le P σ H p K)):Ah P σ H p/\eY K:=by
 obtain⟨j,bJ⟩:=p;unfold Le at h;unfold Ah;cases hl:look σ j with
 |none=>
  simp only [hl]at h ⊢;cases bJ with
  |opt e t xs=>exact h
  |blk k=>exact h.1.elim
 |some q=>
  simp only [hl]at h ⊢;cases bJ with
  |opt e t xs=>exact h
  |blk k=>cases k with
   |own e t xs=>exact adj h
   |cells e cs x f r=>
    simp only at h ⊢;split at h
    .rename_i g1 g2;rw [g1,g2];exact nj h fun h=>Ao h
    .exact h.1.elim
   |_=>exact h.1.elim
def SN {P:Program} {σ:Ren} {n:Nat} {T:au af} {H:ai} {s:bH} (h:eY (Lg P σ n T H s)):fit P σ n T H s:=by
 have h1:∀(l:List (Nat×fE)),eY (FH P σ H l)->CC P σ H True l:=fun l=>by
  induction l with
  |nil=>exact fun h=>h
  |cons p l ih=>exact fun h=>⟨(SM h).1,ih (SM h).2⟩
 have h2:∀(l:List (Nat×af)),eY (Lf σ T (FH P σ H s.bJ) l)->Fw σ T (CC P σ H True s.bJ) l:=fun l=>by
  induction l with
  |nil=>exact h1 _
  |cons p l ih=>exact fun h=>⟨(FG h).1,ih (FG h).2⟩
 unfold fit;exact(nj (K:=[]) h fun h=>⟨h2 _ h,trivial⟩).1
instance (P:Program) (n:Nat) (e:Exit) (σ:Ren) (s':bH):CO (dU P n e σ s') where
 x6:=fun r=>match r with
  | .normal T H []=>(match e with | .normal=>Lg P σ n T H s'|_=>[.p False])
  | .exit id T H []=>(match e with | .exit i=>mD (Nat.beq i id) (Lg P σ n T H s')|_=>[.p False])
  |_=>[.p False]
 ok:=fun r h=>by
  unfold dU;split at h
  .split at h
   .exact SN h
   .exact h.1.elim
  .split at h
   .exact(nj (K:=[]) h fun h=>⟨SN h,trivial⟩).1
   .exact h.1.elim
  .exact h.1.elim
mutual
def FI (fr:Bool) (H:ai):af->af->List cv->List cv
 | .raw (.slice none 0 0), .bt _ _ ys,K=> .e ys []::K
 | .raw a, .raw b,K=>FF a b K
 | .bt z t xs, .bt z' u ys,K=>mD (!fr) (Am t u xs ys (La z z' ys.length K))
 | .bT e t i k len c, .bt z u ys,K=> .p (cB fr H (.bT e t i k len c) (.bt z u ys))::K
 | .slice i off n c, .bt z u ys,K=> .p (cB fr H (.slice i off n c) (.bt z u ys))::K
 | .agg l, .agg l',K=>CS fr H l l' K
 | .tuple l, .tuple l',K=>CS fr H l l' K
 |_,_,_=>[.p False]
def CS (fr:Bool) (H:ai):List af->List af->List cv->List cv
 |[],[],K=>K
 |v::l,v'::l',K=>FI fr H v v' (CS fr H l l' K)
 |_,_,_=>[.p False]
end
def adk {fr:Bool} {H:ai} {a b:Value} (h:xV a b):cB fr H (.raw a) (.raw b):=by
 unfold cB;split
 .rename_i e;cases e
 .rename_i e1 e2;cases e1;cases e2;exact h
 all_goals first
  |(rename_i e _;cases e;done)
  |(rename_i g _ _ _ _ _;exact(g _ _ rfl rfl).elim)
mutual
def SP {fr:Bool} {H:ai}:∀{v v':af} {K:List cv},eY (FI fr H v v' K)->cB fr H v v'/\eY K:=by
 intro v v' K h;unfold FI at h;split at h
 .unfold cB;exact h
 .exact⟨adk (Lc h).1,(Lc h).2⟩
 .unfold cB;exact nj h fun h=>SL (An h).1 (An h).2
 .exact h
 .exact h
 .unfold cB;exact Lh h
 .unfold cB;exact Lh h
 .exact h.1.elim
def Lh {fr:Bool} {H:ai}:∀{v v':List af} {K:List cv},eY (CS fr H v v' K)->tW fr H v v'/\eY K:=by
 intro v v' K h;unfold CS at h;unfold tW;split at h
 .exact⟨trivial,h⟩
 .obtain⟨h1,h2⟩:=SP h;obtain⟨h2,h3⟩:=Lh h2;exact⟨⟨h1,h2⟩,h3⟩
 .exact h.1.elim
end
instance (P:Program) (fn:Func) (fresh:Bool) (res:af):CO (ua P fn fresh res) where
 x6:=fun r=>match r with
  | .ret T H []=>(match jR P fn T H with | .ok v _=>FI fresh H v res []|_=>[.p False])
  |_=>[.p False]
 ok:=fun r h=>by
  split at h
  .show(match jR P fn _ _ with | .ok v _=>cB fresh _ v res|_=>False)
   split at h
   .exact(SP h).1
   .exact h.1.elim
  .exact h.1.elim
end
end
section
variable [Ground]
noncomputable section
structure gN where
 f:FuncId
 e:TypeId
 t:av
 ps:List av
 rs:List av
 pre:List t.den->Nat->Nat->iw ps->Bool
 out:List t.den->Nat->Nat->iw ps->List t.den
 fn:List t.den->Nat->Nat->iw ps->iw rs
def qF (A:Nat->Option (Nat×Nat)) (Y:Nat->Option Obj):Ext:={rd:=none,K:=fun _=>none,R:=fun _ _=>False,pin:=[64],A:=A,Y:=Y}
def qG (e:TypeId) (t:av) (xs:List t.den):ai:=⟨Ae .nil [(64, .blk (.own e t xs))],65⟩
def CT (P:Program) (fn:Func) (e:TypeId) (t:av) (xs:List t.den) (res:af):Exit->au af->ai->Prop:=fun ex T H=>match ex with
 | .normal| .ret=>(match jR P fn T H with | .ok v _=>cB true H v res/\H.get 64=some (.own e t xs)|_=>False)
 |_=>False
def CU:List av->Bool
 |[]=>true
 |t::l=>t.lI&&CU l
def gN.Ok (P:Program) (c:gN):Prop:=c.t.lI=true/\CU c.rs=true/\∃fn code,P.funcs[c.f]? =some fn/\fn.body=some code/\c.ps.length+1<=fn.ntmps/\
 ∀(xs:List c.t.den) (k len:Nat) (cap:aZ) (d:iw c.ps),c.pre xs k len d=true->1<=len->k+len<=xs.length->∀A Y w F,
  cg (qF A Y) P w F fn.ntmps (fl code []) (dt (.bT c.e c.t 64 k len cap::jZ c.ps d) .nil 0) (qG c.e c.t xs) (CT P fn c.e c.t (c.out xs k len d) (n9 c.rs (c.fn xs k len d)))
def x7 (c:gN) (args:List af) (H:ai):aD aM:=match args with
 | .bT e t i k len _::vs=>(match Nat.beq e c.e&&decide (t=c.t)with
   |true=>tY H false (.ret .no) c.ps vs fun d=> .must (bz c.e c.t (H.get i) (k+len-1)&&Nat.ble 1 len) (.must (c.pre (bQ c.t (H.get i)) k len d)
     (.ret (.ok (n9 c.rs (c.fn (bQ c.t (H.get i)) k len d)) (H.set i (.own c.e c.t (c.out (bQ c.t (H.get i)) k len d))))))
   |false=> .ret .no)
 |_=> .ret .no
def Ap (l:List gN) (bu:bG):bG:=fun f args H=>match l with
 |[]=>bu f args H
 |c::l=>match Nat.beq f c.f with |true=>x7 c args H|false=>Ap l bu f args H
section
variable {P:Program} {B:Nat} {ρ:Env} {H:ai} {w:World}
def Li:∀(ts:List av) (d:iw ts),(jZ ts d).length=ts.length
 |[],_=>rfl
 |_::l,d=>by simp [jZ,Li l d.2]
def adl {F F':Env} {t:av} (ht:t.lI=true) {d:t.den} {x:Value} (h:Den F (rY t d) x):Den F' (rY t d) x:=by
 cases ha:t.isAgg with
 |true=>
  unfold rY at h ⊢;rw [ha]at h ⊢;obtain⟨xs,g1,rfl⟩:=h.tD;exact .agg (xZ t d xs ht g1)
 |false=>
  have h1:aH F (t.cells d) [x]:=by rw [CN ha];exact .cons h .nil
  have h2:=xZ (ρ':=F') t d _ ht h1;rw [CN ha]at h2;cases h2 with |cons g _=>exact g
def SQ {F F':Env}:∀(ts:List av),CU ts=true->∀{d:iw ts} {xs:List Value},aH F (jZ ts d) xs->aH F' (jZ ts d) xs
 |[],_,_,_,h=>by cases h;exact .nil
 |t::l,hn,d,_,h=>by
  have hn:(t.lI&&CU l)=true:=hn;rw [ae]at hn;cases h with
  |cons h1 h2=>exact .cons (adl hn.1 h1) (SQ l hn.2 h2)
def adm {F F':Env} {rs:List av} (hn:CU rs=true) {d:iw rs} {x:Value} (h:Den F (n9 rs d) x):Den F' (n9 rs d) x:=by
 have key:∀l,jZ rs d=l->Den F (match l with |[v]=>v|vs=> .tuple vs) x->Den F' (match l with |[v]=>v|vs=> .tuple vs) x:=by
  intro l hl hd;have hds:∀xs,aH F l xs->aH F' l xs:=fun xs hx=>by rw [<-hl]at hx ⊢;exact SQ rs hn hx
  split at hd
  .rename_i v;have:=hds [x] (.cons hd .nil);cases this with |cons g _=>exact g
  .obtain⟨xs,g1,rfl⟩:=hd.B6;exact .tuple (hds _ g1)
 exact key _ rfl h
def Lj {ρ ρ':Env} {t:av} (ht:t.lI=true) {xs:List t.den} {ys:List Value} (h:aH ρ (t.flat xs) ys):aH ρ' (t.flat xs) ys:=n6 (fun d ys=>xZ t d ys ht) xs ys h
def Aq {e:TypeId} {t:av} {xs:List t.den} {i:Nat} {k:bq} (h:(qG e t xs).get i=some k):i=64/\k= .own e t xs:=by
 have h:(Ae .nil [(64, .blk (.own e t xs))]).get i=some k:=h;rw [KO]at h;by_cases hi:i=64
 .subst hi;cases h;exact⟨rfl,rfl⟩
 .have hb:Nat.beq 64 i=false:=by
   cases hb:Nat.beq 64 i with
   |false=>rfl
   |true=>exact absurd (ac hb).symm hi
  simp only [List.find?,hb]at h;rw [au.get_nil]at h;cases h
def adn {c:gN} {args:List af} {v:af} {H':ai} (h:(x7 c args H).gr=some (.ok v H')):∃i k len cap vs xs d,args= .bT c.e c.t i k len cap::vs/\H.get i=some (.own c.e c.t xs)/\1<=len/\k+len<=xs.length/\c.pre xs k len d=true/\
  v=n9 c.rs (c.fn xs k len d)/\H'=H.set i (.own c.e c.t (c.out xs k len d))/\(∀F xv,bh P B ρ H w->F=jy false w ρ->aH ρ vs xv->aH F (jZ c.ps d) xv):=by
 unfold x7 at h;split at h
 .rename_i e t i k len cap vs;split at h
  .rename_i he;rw [ae]at he;have e1:=ac he.1;have e2:=ap he.2;subst e1;subst e2;have main:∃d:iw c.ps,(aD.must (bz c.e c.t (H.get i) (k+len-1)&&Nat.ble 1 len) (.must (c.pre (bQ c.t (H.get i)) k len d)
    (.ret (aM.ok (n9 c.rs (c.fn (bQ c.t (H.get i)) k len d)) (H.set i (.own c.e c.t (c.out (bQ c.t (H.get i)) k len d))))))).gr=some (.ok v H')/\(∀F xv,bh P B ρ H w->F=jy false w ρ->aH ρ vs xv->aH F (jZ c.ps d) xv):=by
    by_cases hH:bh P B ρ H w
    .obtain⟨d,h1,h2⟩:=FC (w:=w) hH (cC:=false) (no:=aD.ret aM.no) (b:=aM.ok v H') (by simp [aD.gr]) c.ps h;exact⟨d,h1,fun F xv _ hF hx=>by subst hF;exact h2 xv hx⟩
    .obtain⟨d,h1⟩:=CL (cC:=false) (no:=aD.ret aM.no) (b:=aM.ok v H') (by simp [aD.gr]) c.ps h;exact⟨d,h1,fun F xv hh=>absurd hh hH⟩
   obtain⟨d,h1,h2⟩:=main;cases hm:(bz c.e c.t (H.get i) (k+len-1)&&Nat.ble 1 len)with
   |false=>rw [hm]at h1;cases h1
   |true=>
    rw [hm]at h1;rw [ae]at hm;obtain⟨b1,b2⟩:=vo hm.1;have b3:=bU hm.2;cases hp:c.pre (bQ c.t (H.get i)) k len d with
    |false=>rw [hp]at h1;cases h1
    |true=>
     rw [hp]at h1;simp only [aD.gr,cond_true,s8,aM.ok.injEq]at h1;obtain⟨rfl,rfl⟩:=h1;exact⟨i,k,len,cap,vs,bQ c.t (H.get i),d,rfl,b1,b3,by omega,hp,rfl,rfl,h2⟩
  .cases h
 .cases h
def Kp {c:gN} (hc:c.Ok P) {args:List af} {v:af} {H':ai} (h:(x7 c args H).gr=some (.ok v H')) {xs:List Value} (m:Nat) (hH:bh P B ρ H w) (ct:nZ ρ) (hd:aH ρ args xs):CallsIn (dO none) m P c.f xs.toArray w (mm P B ρ H w v H'):=by
 obtain⟨i,k,len,cap,vs,us,d,rfl,hi,hlen,hk,hp,rfl,rfl,hvs⟩:=adn (P:=P) (B:=B) (ρ:=ρ) (w:=w) h;obtain⟨vR,hrl,fn,code,hf,hb,hn,hbody⟩:=hc;cases hd with
 |cons CV hds=>
  rename_i x0 xr;rcases CV.jt with⟨h0,_⟩|⟨b,c0,kc,hr,hcap,hlk,rfl⟩
  .omega
  obtain⟨b',c',o,e1,e2,e3,bV⟩:=hH.blk i _ hi;rw [hr]at e1;cases e1;have lD:b<w.heap.size:=(dz.1 e2).1
  let x8:Env:=⟨fun j=>if j<64 then ρ j else if j=64 then some (b,c0)else none,ρ.fz⟩
  let A:Nat->Option (Nat×Nat):=fun j=>if j=64 then some (b,c0)else none
  let Y:Nat->Option Obj:=fun q=>if q=b then none else w.heap[q]?
  let w0:World:={w with heap:=w.heap.extract 0 b}
  have hw0:w0.heap.size=b:=by show(w.heap.extract 0 b).size=b;simp;omega
  have jx:x8 64=some (b,c0):=rfl;have hown:∀ec:Env,ec 64=some (b,c0)->∀o,gK P ρ i (.own c.e c.t us) o->gK P ec 64 (.own c.e c.t us) o:=by
   rintro ec h2 o ⟨⟨zs,fz,g1,g2,g3,g4,g5⟩,g6⟩;refine⟨⟨zs,fz,g1,g2,Lj vR g3,g4,fun hx=> ?_⟩,g6⟩;obtain⟨b1,c1,q1,aQ⟩:=g5 hx;rw [hr]at q1;cases q1;exact⟨b,c0,h2,aQ⟩
  have Ll:bh P b x8 (qG c.e c.t us) w:=by
   refine⟨fun j q hj=> ?_,fun j j' q q' bb cl FJ hj hj' _ _=> ?_,fun j q hj=> ?_,Nat.le_of_lt lD,fun bb j0 hz=> ?_⟩
   .obtain⟨rfl,rfl⟩:=Aq hj;exact⟨b,c0,o,rfl,e2,hown _ rfl _ e3,fun _=>aJ _⟩
   .rw [(Aq hj).1,(Aq hj').1]
   .rw [(Aq hj).1];exact fB _
   .refine⟨(hH.fz bb j0 hz).1,fun j q cl hj hr'=> ?_⟩;obtain⟨rfl,rfl⟩:=Aq hj;rw [jx]at hr';cases hr';exact(hH.fz _ j0 hz).2 i _ c0 hi hr
  have ado:aH x8 (.bT c.e c.t 64 k len cap::jZ c.ps d) (.slice (some ⟨b,k*c.t.size,none⟩) len kc::xr):=by
   refine .cons (.bT jx hcap hlk) (aH.mono (ρ:=jy false w ρ) (ρ':=x8) ⟨fun j x hj=> ?_,fun _ _ h=>h⟩ (hvs _ xr hH rfl hds));have hj:(if j<64 then ρ j else none)=some x:=hj;by_cases h6:j<64
   .rw [if_pos h6]at hj;show(if j<64 then ρ j else _)=some x;rw [if_pos h6];exact hj
   .rw [if_neg h6]at hj;cases hj
  have hs:mB (qF A Y) P w0 x8 fn.ntmps (dt (.bT c.e c.t 64 k len cap::jZ c.ps d) .nil 0) (qG c.e c.t us) {tmps:=(Value.slice (some ⟨b,k*c.t.size,none⟩) len kc::xr).toArray++Array.replicate (fn.ntmps-(Value.slice (some ⟨b,k*c.t.size,none⟩) len kc::xr).toArray.size) undef,defers:=[]} w:=by
   refine⟨⟨x8,⟨Ci ado (by simp [Li];omega),by rw [hw0];exact Ll,fun g hg=> ?_,ct.zS⟩,fun j hj=> ?_,fun bb j0 hz=> .inl hz,⟨fun bb kq h=>(by cases h),fun j hj=> ?_,fun bb j0 h=>(by cases h),Nat.zero_le _,fun bb kq h=>(by cases h),rfl,fun bb kq hy=> ?_⟩⟩,⟨rfl,rfl,rfl,by rw [hw0];exact Nat.le_of_lt lD,fun q hq=> ?_⟩,rfl⟩
   .obtain⟨Lm,Ln⟩:=ct.at' g hg;exact⟨Lm,by show(if g<64 then ρ g else _)=_;rw [if_pos hg];exact Ln⟩
   .have hj:65<=j:=hj;show(if j<64 then ρ j else if j=64 then some (b,c0)else none)=none;rw [if_neg ω,if_neg ω]
   .have hj:j∈[64]:=hj;rw [List.mem_singleton]at hj;subst hj;exact⟨fB _,fun x hx=>hx⟩
   .have hy:(if bb=b then none else w.heap[bb]?)=some kq:=hy;by_cases hbb:bb=b
    .rw [if_pos hbb]at hy;cases hy
    .rw [if_neg hbb]at hy;refine⟨hy,fun⟨j,q,cl,hj,_,hr'⟩=> ?_⟩;obtain⟨rfl,rfl⟩:=Aq hj;rw [jx]at hr';cases hr';exact hbb rfl
   .have hq:q<b:=by rw [<-hw0];exact hq
    show w.heap[q]? =(w.heap.extract 0 b)[q]?;rw [Array.getElem?_extract];rw [if_pos ω];simp
  refine callsIn_of_wp_marks hf hb trivial (wpIn_mono (vN (by have:=hbody us k len cap d hp hlen hk A Y w0 x8;rwa [fl,K8]at this) _ _ hs m) fun e a' w' hh=> ?_);obtain⟨aO,H1,h1,h2⟩:=hh.resolve_right fun q=>q.2
  obtain⟨ec,aR,hnone,hfz,hkp⟩:=h2.ex;have hd':=h2.defers;have key:(match jR P fn aO H1 with | .ok v _=>cB true H1 v (n9 c.rs (c.fn us k len d))/\H1.get 64=some (.own c.e c.t (c.out us k len d))|_=>False)->LeavesInM (dO none) m P fn a'.tmps (mm P B ρ H w (n9 c.rs (c.fn us k len d)) (H.set i (.own c.e c.t (c.out us k len d)))) a'.defers .returning w':=by
   intro qH;split at qH
   .rename_i v1 H2 hres;obtain⟨kL,hr2⟩:=qH;have ng:eA ec [] a'.defers:=hd';refine xH (T:=aO) (H:=H1) [] aR ng (show kg P fn aO H1 []= .ok v1 H2 from hres) fun y w2 r1 r2 r3=> ?_
    obtain⟨rfl,_⟩:=jn aR hres;have hk2:=KV hkp r3;have SR:ec 64=some (b,c0):=(hk2.pin 64 (List.mem_singleton.2 rfl)).2 (b,c0) rfl;have iq:=h2.below.trans (r3.below aR.H);have hsz:w.heap.size<=w2.heap.size:=by
     by_cases hz:w.heap.size=b+1
     .obtain⟨b1,c1,o1,q1,aQ,_⟩:=r2.blk 64 _ hr2;rw [SR]at q1;cases q1;have:=(dz.1 aQ).1;omega
     .have hy:=hk2.y (w.heap.size-1) _ (show(if w.heap.size-1=b then none else w.heap[w.heap.size-1]?)=some (w.heap[w.heap.size-1]'ω) by rw [if_neg ω];simp);have:=(dz.1 hy.1).1;omega
    have hkeep:∀q,q<w.heap.size->q≠b->w2.heap[q]? =w.heap[q]? :=fun q hq fS=>by
     have hy:=hk2.y q _ (show(if q=b then none else w.heap[q]?)=some (w.heap[q]'hq) by rw [if_neg fS];simp [hq]);rw [hy.1];simp [hq]
    have hnf:∀bb j0,ρ.fz bb=some j0->bb≠b/\bb<w.heap.size:=fun bb j0 hz=>by
     obtain⟨⟨ee,fr,q1⟩,aQ⟩:=hH.fz bb j0 hz;refine⟨fun hbb=> ?_,(dz.1 q1).1⟩;subst hbb;have:=aQ i _ c0 hi hr;cases this
    have vS:∀j q,(H.set i (.own c.e c.t (c.out us k len d))).get j=some q->∃q',H.get j=some q'/\q'.eO=q.eO:=fun j q hj=>by
     rw [ai.fY]at hj;by_cases hij:i=j
     .subst hij;rw [if_pos rfl]at hj;cases hj;exact⟨_,hi,rfl⟩
     .rw [if_neg hij]at hj;exact⟨q,hj,rfl⟩
    refine⟨y,ρ,rfl,adm hrl (Fz r2 hfz kL r1),⟨fun j q hj=> ?_,fun j j' q q' bb cl FJ hj hj' gM adp=> ?_,fun j q hj=> ?_,c6 hH.base hsz,fun bb j0 hz=> ?_⟩,
     ⟨cA.refl _,fun _ _=>rfl,aJ _,hsz,iq.os,iq.tape,iq.output,fun q hq hno=> ?_,fun q hq ⟨j,aQ,cl,hj,hro,gM⟩=> ?_,fun q hq ⟨j,aQ,cl,hj,gM⟩=> ?_,fun _ _ h=> .inl h⟩⟩
    .rw [ai.fY]at hj;by_cases hij:i=j
     .subst hij;rw [if_pos rfl]at hj;cases hj;obtain⟨b1,c1,o1,q1,aQ,⟨⟨zs,fz,g1,g2,g3,g4,g5⟩,g6⟩,_⟩:=r2.blk 64 _ hr2;have g5:=g5 rfl;rw [SR]at q1 g5;cases q1;refine⟨b,c0,o1,hr,aQ,⟨⟨zs,fz,g1,g2,Lj vR g3,g4,fun _=> ?_⟩,g6⟩,fun _=>bV rfl⟩;obtain⟨b3,c3,k1,k2⟩:=g5;cases k1;exact⟨b,c0,hr,k2⟩
     .rw [if_neg hij]at hj;obtain⟨bj,cl,oj,p1,p2,p3,dS⟩:=hH.blk j q hj;have hne:bj≠b:=fun hbb=>hij (hH.inj i j _ _ b c0 cl hi hj hr (by rw [<-hbb];exact p1))
      exact⟨bj,cl,oj,p1,(hkeep bj (dz.1 p2).1 hne).trans p2,p3,dS⟩
    .obtain⟨q1,g1,_⟩:=vS j q hj;obtain⟨aQ,g2,_⟩:=vS j' q' hj';exact hH.inj j j' _ _ bb cl FJ g1 g2 gM adp
    .obtain⟨q1,g1,_⟩:=vS j q hj;exact hH.lt j _ g1
    .obtain⟨hnb,hlt⟩:=hnf bb j0 hz;obtain⟨⟨ee,fr,q1⟩,aQ⟩:=hH.fz bb j0 hz;refine⟨⟨ee,fr,(hkeep bb hlt hnb).trans q1⟩,fun j q cl hj gM=> ?_⟩;obtain⟨q',g1,g2⟩:=vS j q hj;rw [<-g2];exact aQ j q' cl g1 gM
    .exact hkeep q hq fun fS=>hno ⟨i,_,c0,hi,rfl,by rw [fS];exact hr⟩
    .obtain⟨q',g1,g2⟩:=vS j aQ hj;exact⟨j,q',cl,g1,g2.trans hro,gM⟩
    .obtain⟨q',g1,_⟩:=vS j aQ hj;exact⟨j,q',cl,g1,gM⟩
   .exact qH.elim
  cases e with
  |normal=>exact key h1
  |ret=>exact key h1
  |_=>exact h1.elim
def Lo {bu:bG} {f:FuncId} {args:List af} {v:af} {H':ai}:∀{l:List gN},(Ap l bu f args H).gr=some (.ok v H')->(∃c∈l,c.f=f/\(x7 c args H).gr=some (.ok v H'))\/(bu f args H).gr=some (.ok v H')
 |[],h=> .inr h
 |c::l,h=>by
  unfold Ap at h;cases hb:Nat.beq f c.f with
  |true=>simp only [hb]at h;exact .inl ⟨c,lW,(ac hb).symm,h⟩
  |false=>
   simp only [hb]at h;rcases Lo h with⟨c',h1,h2⟩|h1
   .exact .inl ⟨c',lV _ h1,h2⟩
   .exact .inr h1
def adq {c:gN} {args:List af} {v:af} {H':ai} (h:(x7 c args H).gr=some (.ok v H')):H'.next=H.next:=by
 unfold x7 at h;split at h
 .rename_i e t i k len cap vs;split at h
  .obtain⟨d,h1⟩:=CL (cC:=false) (no:=aD.ret aM.no) (b:=aM.ok v H') (by simp [aD.gr]) c.ps h;cases hm:(bz c.e c.t (H.get i) (k+len-1)&&Nat.ble 1 len)with
   |false=>rw [hm]at h1;cases h1
   |true=>
    rw [hm]at h1;cases hp:c.pre (bQ c.t (H.get i)) k len d with
    |false=>rw [hp]at h1;cases h1
    |true=>
     rw [hp]at h1;simp only [aD.gr,cond_true,s8,aM.ok.injEq]at h1;obtain⟨_,rfl⟩:=h1;rfl
  .cases h
 .cases h
def SS {l:List gN} {bu:bG} (hl:∀c∈l,c.Ok P) (hS:bD P (bF bu)):bD P (bF (Ap l bu)) where
 mono f args H v H' h:=by
  rcases Lo (gE h)with⟨c,_,_,h3⟩|h3
  .rw [adq h3];exact aJ _
  .exact hS.mono f args H v H' (by unfold bF;rw [h3];rfl)
 cw f args H v H' h B ρ xs w m hH ct hd hf:=by
  rcases Lo (gE h)with⟨c,h1,rfl,h3⟩|h3
  .exact Kp (hl c h1) h3 m hH ct hd
  .exact hS.cw f args H v H' (by unfold bF;rw [h3];rfl) B ρ xs w m hH ct hd hf
structure rZ where
 f:FuncId
 res:List af->aD (Option af)
def rZ.Ok (P:Program) (c:rZ):Prop:=∀args v,(c.res args).gr=some (some v)->∀(w:World) (F:Env) (xs:List Value),(∀b A,F.fz b=some A->∃e fr,w.heap[b]? =some (.cells A e fr))->vK F->aH F args xs->
 Calls P c.f xs.toArray w fun e w'=>∃x,e= .returned x/\Den F v x/\Below w.heap.size w w'
def CW (c:rZ) (args:List af) (H:ai):aD aM:=(c.res args).bind fun r=>match r with |some v=> .ret (.ok v H)|none=> .ret .no
def Ar (l:List rZ) (bu:bG):bG:=fun f args H=>match l with
 |[]=>bu f args H
 |c::l=>match Nat.beq f c.f with |true=>CW c args H|false=>Ar l bu f args H
def SU {c:rZ} {args:List af} {v:af} {H':ai} (h:(CW c args H).gr=some (.ok v H')):H'=H/\(c.res args).gr=some (some v):=by
 unfold CW at h;rw [aD.qz]at h;cases hr:(c.res args).gr with
 |none=>rw [hr]at h;cases h
 |some r=>
  rw [hr]at h;cases r with
  |none=>cases h
  |some v'=>cases h;exact⟨rfl,rfl⟩
def adr {c:rZ} (hc:c.Ok P) {args:List af} {v:af} {H':ai} (h:(CW c args H).gr=some (.ok v H')) {xs:List Value} (m:Nat) (hH:bh P B ρ H w) (ct:nZ ρ) (hd:aH ρ args xs):CallsIn (dO none) m P c.f xs.toArray w (mm P B ρ H w v H'):=by
 obtain⟨rfl,h1⟩:=SU h;have K0:=hc args v h1 w ρ xs (fun b A hb=>(hH.fz b A hb).1) ct.zS hd;have hin:CallsIn (dO none) m P c.f xs.toArray w _:=callsIn_wide.2 K0;refine hin.mono ?_;rintro e w' ⟨x,rfl,hx,hb⟩;have hkeep:∀b o,w.heap[b]? =some o->w'.heap[b]? =some o:=fun b o ho=>(hb.block b (dz.1 ho).1).trans ho
 refine⟨x,ρ,rfl,hx,⟨fun i k hi=> ?_,hH.inj,hH.lt,c6 hH.base hb.size,fun b A ko=> ?_⟩,⟨cA.refl _,fun _ _=>rfl,aJ _,hb.size,hb.os,hb.tape,hb.output,fun b hlt _=>hb.block b hlt,fun _ _ h=>h,fun _ _ h=>h,fun b A ko=> .inl ko⟩⟩
 .obtain⟨b,c',o,e1,e2,e3,bV⟩:=hH.blk i k hi;exact⟨b,c',o,e1,hkeep b o e2,e3,bV⟩
 .obtain⟨⟨e,fr,h3⟩,h4⟩:=hH.fz b A ko;exact⟨⟨e,fr,hkeep b _ h3⟩,h4⟩
def Lp {bu:bG} {f:FuncId} {args:List af} {v:af} {H':ai}:∀{l:List rZ},(Ar l bu f args H).gr=some (.ok v H')->(∃c∈l,c.f=f/\(CW c args H).gr=some (.ok v H'))\/(bu f args H).gr=some (.ok v H')
 |[],h=> .inr h
 |c::l,h=>by
  unfold Ar at h;cases hb:Nat.beq f c.f with
  |true=>simp only [hb]at h;exact .inl ⟨c,lW,(ac hb).symm,h⟩
  |false=>
   simp only [hb]at h;rcases Lp h with⟨c',h1,h2⟩|h1
   .exact .inl ⟨c',lV _ h1,h2⟩
   .exact .inr h1
def SV {l:List rZ} {bu:bG} (hl:∀c∈l,c.Ok P) (hS:bD P (bF bu)):bD P (bF (Ar l bu)) where
 mono f args H v H' h:=by
  rcases Lp (gE h)with⟨c,_,_,h3⟩|h3
  .rw [(SU h3).1];exact aJ _
  .exact hS.mono f args H v H' (by unfold bF;rw [h3];rfl)
 cw f args H v H' h B ρ xs w m hH ct hd hf:=by
  rcases Lp (gE h)with⟨c,h1,rfl,h3⟩|h3
  .exact adr (hl c h1) h3 m hH ct hd
  .exact hS.cw f args H v H' (by unfold bF;rw [h3];rfl) B ρ xs w m hH ct hd hf
end
end
end
section
variable [Ground]
noncomputable section
structure qI where
 f:FuncId
 e:TypeId
 t:av
 ps:List av
 pre:iw ps->Bool
 out:iw ps->List t.den
def Lq (P:Program) (fn:Func) (e:TypeId) (t:av) (xs:List t.den):Exit->au af->ai->Prop:=fun ex T H=>match ex with
 | .normal| .ret=>(match jR P fn T H with
   | .ok (.bT e' t' i k n cap) _=>e'=e/\k=0/\n=xs.length/\cap= .full/\t'=t/\H.get i=some (.own e t xs)
   |_=>False)
 |_=>False
def qI.Ok (P:Program) (c:qI):Prop:=c.t.lI=true/\∃fn code,P.funcs[c.f]? =some fn/\fn.body=some code/\c.ps.length<=fn.ntmps/\
 ∀d:iw c.ps,c.pre d=true->1<=(c.out d).length/\∀w F,aW P w F fn.ntmps (fl code []) (dt (jZ c.ps d) .nil 0) H0 (Lq P fn c.e c.t (c.out d))
def FK (c:qI) (args:List af) (H:ai):aD aM:=tY H false (.ret .no) c.ps args fun d=> .must (c.pre d) (.ret (.ok (.bT c.e c.t H.next 0 (c.out d).length .full) (H.new (.own c.e c.t (c.out d)))))
def CX (l:List qI) (bu:bG):bG:=fun f args H=>match l with
 |[]=>bu f args H
 |c::l=>match Nat.beq f c.f with |true=>FK c args H|false=>CX l bu f args H
section
variable {P:Program} {B:Nat} {ρ:Env} {H:ai} {w:World}
def ads {c:qI} {args:List af} {v:af} {H':ai} (h:(FK c args H).gr=some (.ok v H')):H'.next=H.next+1:=by
 obtain⟨d,h1⟩:=CL (cC:=false) (no:=aD.ret aM.no) (b:=aM.ok v H') (by simp [aD.gr]) c.ps h;cases hp:c.pre d with
 |false=>rw [hp]at h1;cases h1
 |true=>rw [hp]at h1;cases h1;rfl
def adt {c:qI} (hc:c.Ok P) {args:List af} {v:af} {H':ai} (h:(FK c args H).gr=some (.ok v H')) {xs:List Value} (m:Nat) (hH:bh P B ρ H w) (ct:nZ ρ) (hd:aH ρ args xs) (hfr:Fr ρ H.next H'.next):CallsIn (dO none) m P c.f xs.toArray w (mm P B ρ H w v H'):=by
 obtain⟨vR,fn,code,hf,hb,hn,hbody⟩:=hc;obtain⟨d,h1,h2⟩:=FC (w:=w) hH (cC:=false) (no:=aD.ret aM.no) (b:=aM.ok v H') (by simp [aD.gr]) c.ps h;have hp:c.pre d=true/\v= .bT c.e c.t H.next 0 (c.out d).length .full/\H'=H.new (.own c.e c.t (c.out d)):=by
  cases hp:c.pre d with
  |false=>rw [hp]at h1;cases h1
  |true=>rw [hp]at h1;cases h1;exact⟨rfl,rfl,rfl⟩
 obtain⟨hp,rfl,rfl⟩:=hp;obtain⟨hlen,hgo⟩:=hbody d hp;have hds:=h2 xs hd;have FL:∀i x,(jy false w ρ) i=some x->i<64:=fun i x hx=>by
  have hx:(if i<64 then ρ i else none)=some x:=hx;by_cases h:i<64
  .exact h
  .rw [if_neg h]at hx;cases hx
 have Ll:bh P w.heap.size (jy false w ρ) H0 w:=⟨fun i k h=>(by rw [show H0.get i=none from au.get_nil i]at h;cases h),fun i j eG eW b ci cl h=>(by rw [show H0.get i=none from au.get_nil i]at h;cases h),fun i k h=>(by rw [show H0.get i=none from au.get_nil i]at h;cases h),aJ _,
  fun b A h=>⟨(hH.fz b A h).1,fun i k c hi=>(by rw [show H0.get i=none from au.get_nil i]at hi;cases hi)⟩⟩
 have hs:Sat P w (jy false w ρ) fn.ntmps (dt (jZ c.ps d) .nil 0) H0 {tmps:=xs.toArray++Array.replicate (fn.ntmps-xs.toArray.size) undef,defers:=[]} w:=by
  refine⟨⟨jy false w ρ,⟨Ci hds (by rw [Li];exact hn),Ll,fun g hg=> ?_,ct.zS⟩,fun i hi=> ?_,fun b A h=> .inl h,⟨fun b o h=>(by cases h),fun i hi=>(by cases hi),fun b A h=>(by cases h),Nat.zero_le _,fun b o h=>(by cases h),rfl,fun b o h=>(by cases h)⟩⟩,Below.refl _ _,rfl⟩
  .obtain⟨Lm,Ln⟩:=ct.at' g hg;exact⟨Lm,by show(if g<64 then ρ g else none)=_;rw [if_pos hg];exact Ln⟩
  .have hi:64<=i:=hi;cases CI:(jy false w ρ) i with
   |none=>rfl
   |some x=>exact absurd (FL i x CI) ω
 refine callsIn_of_wp_marks hf hb trivial (wpIn_mono (vN (by have:=hgo w (jy false w ρ);rwa [fl,K8]at this) _ _ hs m) fun e a' w' hh=> ?_);obtain⟨aO,H1,g1,g2⟩:=hh.resolve_right fun q=>q.2
 obtain⟨ec,aR,hnone,hfz,_⟩:=g2.ex;have hd':=g2.defers;have key:(match jR P fn aO H1 with | .ok (.bT e' t' i k n cap) _=>e'=c.e/\k=0/\n=(c.out d).length/\cap= .full/\t'=c.t/\H1.get i=some (.own c.e c.t (c.out d))|_=>False)->LeavesInM (dO none) m P fn a'.tmps (mm P B ρ H w (.bT c.e c.t H.next 0 (c.out d).length .full) (H.new (.own c.e c.t (c.out d)))) a'.defers .returning w':=by
  intro hr;split at hr
  .rename_i e' t' i k n cap H2 hres;obtain⟨rfl,rfl,rfl,rfl,rfl,vS⟩:=hr;have ng:eA ec [] a'.defers:=hd';refine xH (T:=aO) (H:=H1) [] aR ng (show kg P fn aO H1 []= .ok _ H2 from hres) fun y w2 r1 r2 r3=> ?_
   obtain⟨rfl,_⟩:=jn aR hres;have iq:=g2.below.trans (r3.below aR.H);rcases r1.jt with⟨h0,_⟩|⟨b,c0,kc,q1,aQ,b8,rfl⟩
   .omega
   obtain⟨b',c',o,e1,e2,e3,bV⟩:=r2.blk i _ vS;rw [q1]at e1;cases e1;have hB:w.heap.size<=b:=bV rfl;have hkeep:∀q,q<w.heap.size->w2.heap[q]? =w.heap[q]? :=fun q hq=>iq.block q hq
   have hnx:ρ H.next=none:=hfr H.next (aJ _) (fB _)
   let ρ':Env:=⟨fun j=>if j=H.next then some (b,c0)else ρ j,ρ.fz⟩
   have hnew:ρ' H.next=some (b,c0):=if_pos rfl;have hold:∀j,j≠H.next->ρ' j=ρ j:=fun j hj=>if_neg hj
   have hle:cA ρ ρ':=⟨fun j x hj=>by
    by_cases hjn:j=H.next
    .rw [hjn,hnx]at hj;cases hj
    .rw [hold j hjn];exact hj,fun _ _ h=>h⟩
   have at5:∀j,H.get j≠none->j≠H.next:=fun j hj hjn=>by
    cases hg:H.get j with
    |none=>exact hj hg
    |some k=>have:=hH.lt j k hg;omega
   have hnf:∀bb j0,ρ.fz bb=some j0->bb<w.heap.size:=fun bb j0 hz=>by
    obtain⟨⟨ee,fr,h3⟩,_⟩:=hH.fz bb j0 hz;exact(dz.1 h3).1
   have x9:∀j k,(H.new (.own c.e c.t (c.out d))).get j=some k->(j=H.next/\k= .own c.e c.t (c.out d))\/(j≠H.next/\H.get j=some k):=fun j k hj=>by
    rw [ai.gA]at hj;by_cases hjn:H.next=j
    .rw [if_pos hjn]at hj;cases hj;exact .inl ⟨hjn.symm,rfl⟩
    .rw [if_neg hjn]at hj;exact .inr ⟨fun h=>hjn h.symm,hj⟩
   refine⟨_,ρ',rfl, .bT hnew aQ b8,⟨fun j k hj=> ?_,fun j j' k k' bb cl FJ hj hj' r1 r2=> ?_,fun j k hj=> ?_,c6 hH.base iq.size,fun bb j0 hz=> ?_⟩,⟨hle,fun j hj=> ?_,Nat.le_succ _,iq.size,iq.os,iq.tape,iq.output,fun q hq _=>hkeep q hq,fun q hq ⟨j,k,cl,hj,hro,gM⟩=> ?_,fun q hq ⟨j,k,cl,hj,gM⟩=> ?_,fun _ _ h=> .inl h⟩⟩
   .rcases x9 j k hj with⟨rfl,rfl⟩|⟨hjn,hj⟩
    .obtain⟨⟨zs,fz,g1,g2,g3,g4,g5⟩,g6⟩:=e3;refine⟨b,c0,o,hnew,e2,⟨⟨zs,fz,g1,g2,Lj vR g3,g4,fun hx=> ?_⟩,g6⟩,fun _=>c6 hH.base hB⟩;obtain⟨b1,c1,k1,k2⟩:=g5 hx;rw [q1]at k1;cases k1;exact⟨b,c0,hnew,k2⟩
    .obtain⟨bj,cl,oj,p1,p2,p3,dS⟩:=hH.blk j k hj;exact⟨bj,cl,oj,hle _ _ p1,(hkeep bj (dz.1 p2).1).trans p2,p3.mono hle,dS⟩
   .rcases x9 j k hj with⟨rfl,rfl⟩|⟨hjn,hj⟩<;>rcases x9 j' k' hj' with⟨rfl,rfl⟩|⟨SW,hj'⟩
    .rfl
    .rw [hnew]at r1;cases r1;rw [hold j' SW]at r2;obtain⟨bj,cl,oj,p1,p2,_⟩:=hH.blk j' k' hj';rw [r2]at p1;cases p1;have:=(dz.1 p2).1;omega
    .rw [hnew]at r2;cases r2;rw [hold j hjn]at r1;obtain⟨bj,cl,oj,p1,p2,_⟩:=hH.blk j k hj;rw [r1]at p1;cases p1;have:=(dz.1 p2).1;omega
    .rw [hold j hjn]at r1;rw [hold j' SW]at r2;exact hH.inj j j' k k' bb cl FJ hj hj' r1 r2
   .rcases x9 j k hj with⟨rfl,rfl⟩|⟨hjn,hj⟩
    .exact fB _
    .exact Nat.lt_succ_of_lt (hH.lt j k hj)
   .obtain⟨⟨ee,fr,h3⟩,h4⟩:=hH.fz bb j0 hz;refine⟨⟨ee,fr,(hkeep bb (hnf bb j0 hz)).trans h3⟩,fun j k cl hj gM=> ?_⟩;rcases x9 j k hj with⟨rfl,rfl⟩|⟨hjn,hj⟩
    .rw [hnew]at gM;cases gM;have:=hnf _ j0 hz;omega
    .rw [hold j hjn]at gM;exact h4 j k cl hj gM
   .refine hold j fun hjn=> ?_
    subst hjn;rcases hj with h|h
    .exact absurd h (Nat.lt_irrefl _)
    .exact absurd h (Nat.not_succ_le_self _)
   .rcases x9 j k hj with⟨rfl,rfl⟩|⟨hjn,hj⟩
    .rw [hnew]at gM;cases gM;omega
    .rw [hold j hjn]at gM;exact⟨j,k,cl,hj,hro,gM⟩
   .rcases x9 j k hj with⟨rfl,rfl⟩|⟨hjn,hj⟩
    .rw [hnew]at gM;cases gM;omega
    .rw [hold j hjn]at gM;exact⟨j,k,cl,hj,gM⟩
  .exact hr.elim
 cases e with
 |normal=>exact key g1
 |ret=>exact key g1
 |_=>exact g1.elim
def Lr {bu:bG} {f:FuncId} {args:List af} {v:af} {H':ai}:∀{l:List qI},(CX l bu f args H).gr=some (.ok v H')->(∃c∈l,c.f=f/\(FK c args H).gr=some (.ok v H'))\/(bu f args H).gr=some (.ok v H')
 |[],h=> .inr h
 |c::l,h=>by
  unfold CX at h;cases hb:Nat.beq f c.f with
  |true=>simp only [hb]at h;exact .inl ⟨c,lW,(ac hb).symm,h⟩
  |false=>
   simp only [hb]at h;rcases Lr h with⟨c',h1,h2⟩|h1
   .exact .inl ⟨c',lV _ h1,h2⟩
   .exact .inr h1
def adu {l:List qI} {bu:bG} (hl:∀c∈l,c.Ok P) (hS:bD P (bF bu)):bD P (bF (CX l bu)) where
 mono f args H v H' h:=by
  rcases Lr (gE h)with⟨c,_,_,h3⟩|h3
  .rw [ads h3];exact Nat.le_succ _
  .exact hS.mono f args H v H' (by unfold bF;rw [h3];rfl)
 cw f args H v H' h B ρ xs w m hH ct hd hf:=by
  rcases Lr (gE h)with⟨c,h1,rfl,h3⟩|h3
  .exact adt (hl c h1) h3 m hH ct hd hf
  .exact hS.cw f args H v H' (by unfold bF;rw [h3];rfl) B ρ xs w m hH ct hd hf
end
def FM (P:Program) (fn:Func) (e:TypeId) (t:av) (xs:List t.den):R->Prop
 | .ret T H []=>(match jR P fn T H with
   | .ok (.bT e' t' i k n cap) _=>(match H.get i with
     |some (.own e2 t2 ys)=>gX (Nat.beq e' e&&(Nat.beq e2 e&&(Nat.beq k 0&&decide (t'=t)))) (n=xs.length/\cap= .full/\pn t2 t ys xs)
     |_=>False)
   |_=>False)
 |_=>False
def aW.adv {P:Program} {w0:World} {F:Env} {n:Nat} {T:au af} {H:ai} {Q:Exit->au af->ai->Prop} (hK:e7 P) (hm:P.follows .mixedOrders=true) {bu:bG} (hS:bD P (bF bu)) {l:List Code} {fn:Func} {e:TypeId} {t:av} {xs:List t.den} (k:Nat) (D:List Bool) (h:(Sv.iy P bu n (l.take k) T H).path D (FM P fn e t xs))
  (hq:∀T H,Lq P fn e t xs .ret T H->Q .ret T H):cg pE P w0 F n l T H Q:=by
 obtain⟨r,h1,h2⟩:=aD.tV _ _ h;have key:cg pE P w0 F n (l.take k) T H (gY (fun T H=>cg pE P w0 F n (l.drop k) T H Q) Q):=by
  refine aW.iy hK hm hS (ob:=FM P fn e t xs) (fun r hr=> ?_) h1 h2;unfold FM at hr;split at hr
  .refine hq _ _ ?_;rename_i aO H';show(match jR P fn aO H' with | .ok (.bT e' t' i k n cap) _=>e'=e/\k=0/\n=xs.length/\cap= .full/\t'=t/\H'.get i=some (.own e t xs)|_=>False)
   split at hr
   .split at hr
    .rename_i hg;obtain⟨k1,k2,dG,mg⟩:=iZ hr;simp only [ae,bA]at k1;obtain⟨e1,rfl⟩:=Ai mg;subst e1;exact⟨ac k1.1,ac k1.2.2.1,k2,dG,k1.2.2.2,by rw [hg,ac k1.2.1]⟩
    .exact hr.elim
   .exact hr.elim
  .exact hr.elim
 have:=aW.split key;rwa [List.take_append_drop]at this
end
end
end Go.Proofs.YtibikmmdbdlafaaGreatDoor.Sv
namespace Go.Proofs.YtibikmmdbdlafaaGreatDoor
open Go.RowKit Sv Go.Proofs.Tryz
def adw {P:Program} {p:Func->Bool} (h:P.funcs.toList.all p=true) {f:FuncId} {fn:Func} (hf:P.funcs[f]? =some fn):p fn=true:=
 List.all_eq_true.1 h fn (List.mem_of_getElem? (by simpa using hf))
def SX {P:Program} {p:Func->Bool} {k:Nat} (h:(P.funcs.toList.zipIdx.all fun q=> !p q.1||Nat.beq q.2 k)=true) {f:FuncId} {fn:Func} (hf:P.funcs[f]? =some fn) (hp:p fn=true):f=k:=by
 have:=List.all_eq_true.1 h (fn,f) (List.mk_mem_zipIdx_iff_getElem?.2 (by simpa using hf));simp only [hp,Bool.not_true,Bool.false_or]at this;exact ac this
def EW:(prog.funcs.toList.all fun fn=> !(fn.body.isSome&&fn.name== "runtime.NumGoroutine"))=true:=by kernel_rfl
def adx:(prog.funcs.toList.zipIdx.all fun q=> !(q.1.body.isNone&&q.1.name== "internal/abi.NoEscape")||Nat.beq q.2 256)=true:=by kernel_rfl
def ady:(prog.funcs.toList.zipIdx.all fun q=> !(q.1.body.isNone&&q.1.name== "internal/bytealg.MakeNoZero")||Nat.beq q.2 268)=true:=by kernel_rfl
def adz:(prog.funcs[256]?).bind (fun fn=>Extern.find fn)=some Extern.AbiNoEscape.same:=by kernel_rfl
def adA:(prog.funcs[256]?).map (fun fn=>(Extern.findNext fn).isNone)=some true:=by kernel_rfl
def adB:(prog.funcs[268]?).bind (fun fn=>Extern.find fn)=(prog.funcs[268]?).map (fun fn=>Extern.BytealgMakeNoZero.makeNoZero fn.params fn.resultTypes):=by kernel_rfl
def adC:(prog.funcs[268]?).map (fun fn=>(Extern.findNext fn).isNone)=some true:=by kernel_rfl
def adD:(prog.funcs[268]?).map (fun fn=>fn.resultTypes.size)=some 1:=by kernel_rfl
def mixed:prog.follows .mixedOrders=true:=by kernel_rfl
def known:e7 prog where
 EW f fn hf hb:=by
  have:=adw EW hf;simpa [hb]using this
 Q9 f fn hf hb hn x w:=by
  have e:=SX (p:=fun fn=>fn.body.isNone&&fn.name== "internal/abi.NoEscape") adx hf (by simp only [hb,hn];rfl);subst e;have h1:=adz;have h2:=adA;rw [hf]at h1 h2;simp only [Option.bind_some,Option.map_some,s8,Option.isNone_iff_eq_none]at h1 h2;have hname:(fn.name== "runtime.NumGoroutine")=false:=by
   rw [eq_of_beq hn];rfl
  rw [run_callFunc_extern hf hname (by rw [hb];rfl) h2 h1];rfl
 makeNoZero f fn t el hf hb hn ht hu n w hle:=by
  have e:=SX (p:=fun fn=>fn.body.isNone&&fn.name== "internal/bytealg.MakeNoZero") ady hf (by simp only [hb,hn];rfl);subst e;have h1:=adB;have h2:=adC;have h3:=adD;rw [hf]at h1 h2 h3;simp only [Option.bind_some,Option.map_some,s8,Option.isNone_iff_eq_none]at h1 h2 h3;have hname:(fn.name== "runtime.NumGoroutine")=false:=by
   rw [eq_of_beq hn];rfl
  have hr:fn.resultTypes= #[t]:=by
   apply Array.ext
   .exact h3
   .intro i hi1 hi2;have:i=0:=by simp at hi2;exact hi2
    subst this;simpa [Array.getElem?_eq_getElem hi1]using ht
  rw [hr]at h1;obtain⟨cs,k1,k2,_⟩:=Lib.run_makeNoZero (P:=prog) w fn.params t el hu n ω;refine⟨cs,k2, ?_⟩;rw [run_callFunc_extern hf hname (by rw [hb];rfl) h2 h1,k1];rfl
noncomputable section
instance at6:Sv.Ground:=⟨fun b=>if b=0 then some (fun A=>∃m,A= #[.int .i64 m])else if b=5 then some (fun A=>A=(Lib.pow10Tab.map fun z=>Value.int .u64 z).toArray)else none⟩
def mp {a b:Prop} (p:b) (h:a=b:=by kernel_rfl):a:=h.mpr p
def FN (v:af) (h:K5 v=true:=by kernel_rfl):af.same v v=true:=aF h
def an {a b:Prop} (x:a) (y:b):a/\b:=⟨x,y⟩
def adE{fZ p1 p2:Prop}(x0:fZ)(x1:p1)(y:p2):fZ/\p1/\p2:=⟨x0,⟨x1,y⟩⟩
def FO{fZ p1 p2 p3:Prop}(x0:fZ)(x1:p1)(x2:p2)(y:p3):fZ/\p1/\p2/\p3:=⟨x0,⟨x1,⟨x2,y⟩⟩⟩
def adF{fZ p1 p2 p3 dS:Prop}(x0:fZ)(x1:p1)(x2:p2)(x3:p3)(y:dS):fZ/\p1/\p2/\p3/\dS:=⟨x0,⟨x1,⟨x2,⟨x3,y⟩⟩⟩⟩
def Ls{fZ p1 p2 p3 dS kO:Prop}(x0:fZ)(x1:p1)(x2:p2)(x3:p3)(qJ:dS)(y:kO):fZ/\p1/\p2/\p3/\dS/\kO:=⟨x0,⟨x1,⟨x2,⟨x3,⟨qJ,y⟩⟩⟩⟩⟩
def at7{fZ p1 p2 p3 dS kO pz:Prop}(x0:fZ)(x1:p1)(x2:p2)(x3:p3)(qJ:dS)(vT:kO)(y:pz):fZ/\p1/\p2/\p3/\dS/\kO/\pz:=⟨x0,⟨x1,⟨x2,⟨x3,⟨qJ,⟨vT,y⟩⟩⟩⟩⟩⟩
def adG{fZ p1 p2 p3 dS kO pz xX:Prop}(x0:fZ)(x1:p1)(x2:p2)(x3:p3)(qJ:dS)(vT:kO)(Cb:pz)(y:xX):fZ/\p1/\p2/\p3/\dS/\kO/\pz/\xX:=⟨x0,⟨x1,⟨x2,⟨x3,⟨qJ,⟨vT,⟨Cb,y⟩⟩⟩⟩⟩⟩⟩
def oc{fZ p1 p2 p3 dS kO pz xX th:Prop}(x0:fZ)(x1:p1)(x2:p2)(x3:p3)(qJ:dS)(vT:kO)(Cb:pz)(JB:xX)(y:th):fZ/\p1/\p2/\p3/\dS/\kO/\pz/\xX/\th:=⟨x0,⟨x1,⟨x2,⟨x3,⟨qJ,⟨vT,⟨Cb,⟨JB,y⟩⟩⟩⟩⟩⟩⟩⟩
def rr {α:Type} (x:α):x=x:=rfl
def rt:true=true:=rfl
section
variable {a b:Bool} (h:a=b)
def aL:(a==true)=(b==true):=by rw [h]
def bw:(a==false)=(b==false):=by rw [h]
def bY:(!a)=(!b):=by rw [h]
end
abbrev iv (x:Int):af:= .raw (.int .i64 x)
abbrev bv (x:Bool):af:= .raw (.bool x)
abbrev vU:List Int:=[]
abbrev lv (l:List Int):af:= .bt false (.int .i64) l
def pI {n b:Nat} (h:n<=1000000) (hb:b<=1000000):bounded n b=true:=by
 unfold bounded;have:=Nat.mul_le_mul h hb;rw [fA ω,fA ω];rfl
abbrev i6 (x:Int):Prop:= -9223372036854775808<=x/\x<=9223372036854775807
def yk (e:TypeId) (t:av) (xs:List t.den):iL:=aa (ZD e t xs)
section
variable (e:TypeId) (t:av) {xs:List t.den} {i:Nat} (h:i<xs.length)
def yv:iL:=aa (x:=bz e t (a7 e t xs) i) (c:=true) (by rw [EF];exact ay h)
def ja:iL:=aa (x:=bz e t (a7 e t xs) (0+i)) (c:=true) (by rw [aw,EF];exact ay h)
end
def lJ (b:Nat) {n:Nat} (h:n<=1000000) (hb:b<=1000000:=by decide):iL:=aa (pI h hb)
noncomputable def od (e:TypeId) (t:av) {xs ys zs:List t.den} (h:xs++ys=zs):iL:=pH prog e t (ys:=bQ t (a7 e t xs)++ys) (xs:=zs) (by rw [ey];exact h)
noncomputable def mE (e:TypeId) (t:av) {xs zs:List t.den} {i:Nat} {v:t.den} (h:xs.set i v=zs):iL:=pH prog e t (ys:=(bQ t (a7 e t xs)).set (0+i) v) (xs:=zs) (by rw [ey,aw];exact h)
def ys (v:af) (h:af.same v v=true):iL:=aa h
section
variable (c:bG) (l:List Code)
abbrev bB (s:bH) (d:Nat) (e:Exit) (r:Sv.Ren) (s':bH):Prop:=aD.path (oa prog c l s) (dl d) (dU prog s.n e r s')
abbrev cV (k:Nat) (s:bH) (d:Nat) (e:Exit) (r:Sv.Ren) (s':bH):Prop:=aD.path (vM prog c l k s) (dl d) (dU prog s.n e r s')
abbrev bW (s:bH) (d:Nat) (f:Func) (b:Bool) (v:af):Prop:=aD.path (oa prog c l s) (dl d) (ua prog f b v)
abbrev dy (k n:Nat) (a:List af) (d:Nat) (e:Exit) (r:Sv.Ren) (s':bH):Prop:=aD.path (pG prog c l k n a) (dl d) (dU prog n e r s')
end
abbrev bC (n d:Int):Int:= ↑(Int.gcd (if 0-n>n then 0-n else n) d)
def dV {P:Program}:∀c∈([]:List bp),c.Ok P:=fun c h=>absurd h jO
def aP {P:Program} {c:bp} {l:List bp} (h:c.Ok P) (t:∀x∈l,x.Ok P):∀x∈c::l,x.Ok P:=fun x hx=>(ek.1 hx).elim (fun e=>e ▸ h) (t x)
section
variable {X:Ext} {w0:World} {F:Sv.Env} {n:Nat} {T:au af} {H:ai} {Q:Exit->au af->ai->Prop} {bu:bG} {l:List Code} {s s':bH} {e:Exit} {σ:Sv.Ren} {D:List Bool} {fn:Func} {fresh:Bool} {res:af}
section
variable (hS:bD prog (bF bu))
def cP (k:Nat) (h:(Sv.iy prog bu n (l.take k) T H).path D (dU prog n e σ s')) (hq:gY (fun T H=>cg X prog w0 F n (l.drop k) T H Q) Q e s'.T s'.H) (hne:(l.take k).isEmpty=false:=by kernel_rfl) (hp:pinned σ s'.H.next X.pins=true:=by rfl):cg X prog w0 F n l T H Q:=aW.to known mixed hS k D h hne hq hp
def cX (k:Nat) (h:(vM prog bu l k s).path D (dU prog s.n e σ s')) (hq:gY (fun T H=>cg X prog w0 F s.n (l.drop k) T H Q) Q e s'.T s'.H) (hne:(l.take k).isEmpty=false:=by kernel_rfl) (hp:pinned σ s'.H.next X.pins=true:=by rfl):cg X prog w0 F s.n l s.T s.H Q:=aW.st known mixed hS k D h hne hq hp
def bE (h:(oa prog bu l s).path D (dU prog s.n e σ s')) (hq:Q e s'.T s'.H) (hne:l.isEmpty=false:=by kernel_rfl) (hp:pinned σ s'.H.next X.pins=true:=by rfl):cg X prog w0 F s.n l s.T s.H Q:=aW.all known mixed hS D h hne hq hp
def bg (k:Nat) (h:(Sv.iy prog bu n (l.take k) T H).path D (ua prog fn fresh res)) (hq:∀T H,gZ prog fresh fn res .ret T H->Q .ret T H:=by exact fun T H h=>h):cg X prog w0 F n l T H Q:=aW.ret known mixed hS k D h hq
def b5 (h:(oa prog bu l s).path D (ua prog fn fresh res)) (hq:∀T H,gZ prog fresh fn res .ret T H->Q .ret T H:=by exact fun T H h=>h):cg X prog w0 F s.n l s.T s.H Q:=aW.vO known mixed hS D h hq
end
end
abbrev bf (c:bG) (l:List Code) (k n:Nat) (a:List af) (d:Nat) (f:Func) (b:Bool) (v:af):Prop:=aD.path (pG prog c l k n a) (dl d) (ua prog f b v)
def cz:bD prog (bF (a8 [])):=cM (l:=[]) fun c h=>by cases h
def qK {c:bp} (h:c.Ok prog):bD prog (bF (a8 [c])):=cM fun c' hc=>by rw [List.mem_singleton.1 hc];exact h
def FP {X:Ext} {P:Program} {w0:World} {F:Env} {n:Nat} {T:au af} {H:ai} {Q:Exit->au af->ai->Prop} {l rest:List Code} {id:Nat} {c:Code} (hl:l= .block id c::rest)
  (h:cg X P w0 F n (tZ c) T H (CF id (gY (fun T H=>cg X P w0 F n rest T H Q) Q))):cg X P w0 F n l T H Q:=by
 subst hl;exact Goal.block (x:=c) rfl (vN h)
abbrev sv (s:AT):af:= .raw (.string s)
end
end Go.Proofs.YtibikmmdbdlafaaGreatDoor
namespace Go.Proofs.YtibikmmdbdlafaaGreatDoor
open Go.ChangeShapes Go.WideShapes Go.ChangeAt Go.RowKit Sv
def SY:Tryz.prog.globalNamed "internal/strconv.uint64pow10" =some 5:=by kernel_rfl
def adH:ownKnob Tryz.prog.godebug=none:=by kernel_rfl
def adI:laidOutB Tryz.prog=true:=by kernel_rfl
abbrev Au:List (String×DataW Unit):=[("math/bits.deBruijn32tab",Rows.laid_math_bits_deBruijn32tab),("math/bits.deBruijn64tab",Rows.laid_math_bits_deBruijn64tab),("internal/strconv.uint64pow10",Rows.laid_internal_strconv_uint64pow10),("strconv.ErrRange",Rows.laid_strconv_ErrRange),("strconv.ErrSyntax",Rows.laid_strconv_ErrSyntax)]
def adJ (os:Os) (args:Array Value):laidMetH Tryz.prog Au ((World.doorLaid Tryz.prog 400 os).forCall (fun _ _=>0) ⟨#[],args,[]⟩).memory:=
 laidMetH_of_parts3 (fuel:=8) (laidMet_of_run' 8 (by kernel_rfl) (by kernel_rfl)) (by kernel_rfl) (by kernel_rfl)
def adK:(Rows.laid_internal_strconv_uint64pow10:DataW Unit)=Lib.tabData .u64 Lib.pow10Tab:=by rfl
def adL:(Tryz.prog.globals[5]?).map (·.type)=some 280:=by kernel_rfl
def adM {W:World} (h:laidMetH Tryz.prog Au W):Lib.TabIs Tryz.prog W "internal/strconv.uint64pow10" .u64 Lib.pow10Tab:=by
 rw [MakeChecks.laidMetH_plain _ _ _ (by kernel_rfl)]at h;obtain⟨ps,⟨g0,t0,cs0,f0,fZ,q0,_,_,_,_,⟨g1,t1,aua,f1,p1,q1,_,_,_,_,⟨g2,t2,zO,f2,p2,aQ,hg2,ht2,iM,gw,_,_⟩,_⟩,_⟩,_⟩:=h;obtain rfl:=jP (SY.symm.trans hg2);obtain rfl:=jP (adL.symm.trans ht2);rw [adK]at gw;unfold Lib.TabIs;rw [iM,<-Lib.cells_of_tab Tryz.underlying280 Tryz.underlying167 (by kernel_rfl) (by kernel_rfl) gw]
def adN {H:Type} {enc:TypeId×Value->H} {a:Assume} {C:Checked} {os:Os} {f:FuncId} {fn:Func} {s:ChangeSpec} {conds:List PathCond} {apart fresh handsOn again:Bool} {X:World->Array Value->Prop}
  (hX:∀(w w':World) (args:Array Value),w.heap=w'.heap->X w args->X w' args)
  (own:ownKnob C.prog.godebug=none) (started:os.Started) (noInit:C.prog.inits.idxOf? f=none) (hfn:C.prog.funcs[f]? =some fn)
  (witness:∃(w:World) (tape:Tape) (i:Input),w.os=os/\(w.forCall tape i).Shaped C.prog/\i.vars=[]/\Input.okWide C.prog (w.forCall tape i) .any w.heap.size f i/\
    ((s.pre enc C.prog fn conds apart (w.forCall tape i).memory i.args/\X (w.forCall tape i).memory i.args)/\sizedMet enc C.prog fn (OpenSpec.ofChange s) apart (w.forCall tape i).memory i.args)/\a.holds C.prog (lone (Frame.enter C.prog f i.args .normal) [] (w.forCall tape i)))
  (contract:∀(W:World) (base:Nat) (args:Array Value) (ds gs:List (DataW H)) (before:List MemPlace),
    (∀(j:Nat) t v,fn.params[j]? =some t->args[j]? =some v->Value.okWide C.prog W .any base t v)->
    DataW.Whole enc C.prog fn.params.toList s.vars apart W args.toList ds gs before->
    conds.all (PathCond.test C.prog ⟨fn.params.toList,ds,s.plain.varTypes C.prog,gs⟩)=true->
    (DataW.weightsEach C.prog (fn.params.toList++s.plain.varTypes C.prog) (ds++gs)).all (· <=reachBytes)=true->X W args->W.ShapedOpen C.prog->
    a.holds C.prog (lone (Frame.enter C.prog f args .normal) [] W)->
    Calls C.prog f args W fun e W'=>∃v,e= .returned v/\s.post enc C.prog fn apart fresh handsOn again W args v W'):
  ReturnsInHanded a C os f .any (fun w args=>(s.pre enc C.prog fn conds apart w args/\X w args)/\sizedMet enc C.prog fn (OpenSpec.ofChange s) apart w args) (s.post enc C.prog fn apart fresh handsOn again):=by
 refine returnsInHanded_of_calls own started noInit witness ?_;intro w tape i _ hsh _ hok hpre hholds;obtain⟨_,_,_,fn',adO,_,_,_,_,hval⟩:=hok;have e:fn'=fn:=jP (adO.symm.trans hfn);subst e;obtain⟨⟨⟨ds,gs,before,hw,hc⟩,hx⟩,hz⟩:=hpre;have hw':=DataW.Whole.of_heap (w':=w.forCall tape i) (by rfl) hw;refine(contract (w.forCall tape i) w.heap.size i.args ds gs before hval hw' hc (hz.weights hw) (hX _ _ _ (by rfl) hx) hsh hholds).mono fun e W' ⟨v,he,hp⟩=> ?_
 subst he;exact ChangeSpec.post_blind hp
def ya (w:World):Env:=⟨fun i=>if i<64 then some (i,0)else none,fun b=>if 0<=b then kn w b else none⟩
def adP (w:World):tX w (ya w):=by
 refine⟨fun i x h=> ?_,fun g hg=>⟨0,if_pos hg⟩,fun b A h=> ?_⟩
 .have h:(if i<64 then some (i,0)else none)=some x:=h;split at h
  .assumption
  .cases h
 .have h:(if 0<=b then kn w b else none)=some A:=h;rw [if_pos (Nat.zero_le _)]at h;exact n8.1 h
def jU (b off i:Nat):(⟨b,off,none⟩:Addr).add i=⟨b,off+i,none⟩:=by
 rcases Nat.eq_zero_or_pos i with rfl |hp
 .rfl
 .simp [Addr.add];omega
def SZ {w:World} {b:Nat} {A:Array Value} (h:kn w b=some A):(ya w).fz b=some A:=by
 show(if 0<=b then kn w b else none)=some A;rw [if_pos (Nat.zero_le _)];exact h
def adQ {W:World} (h:laidMetH Tryz.prog Au W) (hs:W.ShapedOpen Tryz.prog):Sv.vK (ya W):=by
 intro b p hp;have hp:(if b=0 then some (fun A=>∃m,A= #[.int .i64 m])else if b=5 then some (fun A=>A=(Lib.pow10Tab.map fun z=>Value.int .u64 z).toArray)else none)=some p:=hp;split at hp
 .rename_i e;subst e;cases hp;obtain⟨cs,hh,hz,_⟩:=hs.1 0 #[.int .i64 0] 3 (ap (by kernel_rfl)) (by kernel_rfl);obtain⟨m,hm⟩:=Go.Proofs.cell_of_shapedOpen_int (zero:= #[.int .i64 0]) (t:=3) hs (ap (by kernel_rfl)) (by kernel_rfl) rfl (by kernel_rfl) (by kernel_rfl) Tryz.underlying3;refine⟨cs,SZ (n8.2 ⟨_,_,hh⟩),m, ?_⟩;have h1:cs.size=1:=hz;have h2:cs[0]? =some (.int .i64 m):=by
   unfold World.cell? at hm;rw [hh]at hm;simpa using hm
  apply Array.ext_getElem?;intro i;cases i with
  |zero=>rw [h2];rfl
  |succ i=>rw [Array.getElem?_eq_none ω,Array.getElem?_eq_none τ]
 .split at hp
  .rename_i e;subst e;cases hp;have ht:=adM h;unfold Lib.TabIs World.var? at ht;rw [SY]at ht;simp only [Option.bind_some]at ht;split at ht
   .rename_i cs e fr hh;refine⟨cs,SZ (n8.2 ⟨_,_,hh⟩), ?_⟩;exact jP ht
   .cases ht
  .cases hp
def adR {f:FuncId} {args:List af} (h:Holds Tryz.prog true f args (bv true)) {w:World} (ct:Sv.vK (ya w)) {vs:List Value} (hd:aH (ya w) args vs):Calls Tryz.prog f vs.toArray w fun e w'=>e= .returned (.bool true)/\Below w.heap.size w w':=
 (h w (ya w) vs (adP w) ct hd).mono fun e w' ⟨x,F',h1,h2,_,_,h5⟩=>by
   rw [h2.cc]at h1;exact⟨h1,h5⟩
def yb (k:Int):Prop:=0<=k/\k<=65535
def Lt {k:Int} (hk:(Lit.int .u16 k).wf=true):yb k:=by
 have hk:(decide ((0:Int)<=k)&&decide (k<=65535))=true:=hk;rw [ae,bA,bA]at hk;exact hk
set_option maxRecDepth 100000 in
def adS {H:Type} {enc:TypeId×Value->H} {W:World} {base:Nat} {v:Value} {d:DataW H} {p:List MemPlace} (hv:Value.okWide Tryz.prog W .any base 63 v)
  (h:DataW.Trod enc Tryz.prog W 0 (fun _=>true) true 63 v d p):
  ∃k0 k1:Int,v= .agg #[.int .u16 k0, .int .u16 k1]/\yb k0/\yb k1:=by
 simp only [Value.okWide,Tryz.underlying63]at hv;obtain⟨cs,rfl,hsz,_⟩:=hv;have adT:Tryz.prog.cellsOf 63=2:=by kernel_rfl
 have CY:Tryz.prog.cellsOf 62=1:=by kernel_rfl
 rw [adT]at hsz;obtain⟨fuel,hf⟩:=h;obtain⟨xs,m,_,he,_,hl,hel⟩:=DataW.trod_array Tryz.underlying63 hf;obtain⟨l⟩:=cs
 match l,hsz,xs,hl with
 |[aI,u1],_,[y0,y1],_=>
  have t0:=hel 0 δ;have t1:=hel 1 δ;obtain⟨k0,e0,_,w0⟩:=DataW.trod_int Tryz.underlying62 (show DataW.trod enc Tryz.prog W 0 (fun _=>true) true m 62 [aI]=some y0 by simpa [Value.cells,CY]using t0);obtain⟨k1,e1,_,w1⟩:=DataW.trod_int Tryz.underlying62 (show DataW.trod enc Tryz.prog W 0 (fun _=>true) true m 62 [u1]=some y1 by simpa [Value.cells,CY]using t1);simp at e0 e1;subst e0;subst e1;exact⟨k0,k1,rfl,Lt w0,Lt w1⟩
def adU (W:World) (x y:Int):Den (ya W) (.agg [.raw (.int .u16 x), .raw (.int .u16 y)]) (.agg #[.int .u16 x, .int .u16 y]):= .agg (.cons (.raw _) (.cons (.raw _) .nil))
end Go.Proofs.YtibikmmdbdlafaaGreatDoor
namespace Go.Proofs.YtibikmmdbdlafaaGreatDoor
open Go.RowKit Sv Go.Proofs.Tryz
section
variable [Sv.Ground] {X:Ext} {P:Program} {w0:World} {F:Env} {n:Nat} {T:au af} {H:ai} {a:Act} {w:World} {B:Nat} {ρ ρ':Env}
def S0 {i:Nat} {ρ':Env} (ha:∀i,ρ' i=ρ i) {b:Nat} (h:Sv.Own ρ' (H.drop i) b):Sv.Own ρ H b:=by
 obtain⟨k,kk,c,h1,h2,h3⟩:=h;rw [ha]at h3;rw [ai.o4]at h1;split at h1
 .cases h1
 .exact⟨k,kk,c,h1,h2,h3⟩
def Sat.freeze {i j m:Nat} {e e2:TypeId} {cs:List af} {x f r:Bool} {t:av} {xs:List t.den} {cap:aZ} (hj:H.get j=some (.cells e cs x f r)) (hm:cs[m]? =some (.bT e2 t i 0 xs.length cap)) (hi:H.get i=a7 e2 t xs) (hij:i≠j)
  (hs:mB X P w0 F n T H a w):mB X P w0 F n T ((H.drop i).set j (.cells e (cs.set m (.bt false t xs)) x f r)) a w:=by
 obtain⟨⟨ρ,aR,hnone,hfz,hkp⟩,hb,hd⟩:=hs;by_cases hx:xs=[]
 .subst hx;have hi:H.get i=none:=hi;refine⟨⟨ρ,⟨aR.T,JE aR.H (cA.refl _) (fun _=>rfl) hj hij hm (fun y hy=> ?_) (fun b A h=>⟨(aR.H.fz b A h).1,fun k kk c _ g1 g2=>(aR.H.fz b A h).2 k kk c g1 g2⟩),aR.G⟩,hnone,hfz,hkp.re (cA.refl _) (aJ _) (fun _ hh=>JF (fun _=>rfl) hj hh) fun _ _ h=> .inl h⟩,hb,hd⟩;rcases hy.jt with⟨_,a,rfl⟩|⟨b,c,kc,_,_,_,rfl⟩
  .exact .e6 fun e=>by cases e
  .exact .e6 fun e=>by cases e
 .obtain⟨x0,l0,rfl⟩:=List.exists_cons_of_ne_nil hx;have hi:H.get i=some (.own e2 t (x0::l0)):=hi;generalize hxs:x0::l0=xs at*;obtain⟨b,c,o,hib,_,_,hB⟩:=aR.H.blk i _ hi;obtain⟨zs,dx,z2,z3,z4,z5,Ra⟩:=rM aR.H hi hib;have hnf:ρ.fz b=none:=by
   cases hz:ρ.fz b with
   |none=>rfl
   |some A=>
    have:=(aR.H.fz b A hz).2 i _ c hi hib;cases this
  have hle:cA ρ ⟨ρ.at',fun q=>if q=b then some zs else ρ.fz q⟩:=⟨fun _ _ h=>h,fun q A h=>by
   show(if q=b then some zs else ρ.fz q)=some A;by_cases hq:q=b
   .subst hq;rw [hnf]at h;cases h
   .rw [if_neg hq];exact h⟩
  refine⟨⟨⟨ρ.at',fun q=>if q=b then some zs else ρ.fz q⟩,⟨aR.T.mono hle,JE aR.H hle (fun _=>rfl) hj hij hm (fun y hy=> ?_) (fun q A h=> ?_),aR.G.mono hle⟩,hnone,fun q A h=> ?_,hkp.re hle (aJ _) (fun _ hh=>JF (fun _=>rfl) hj hh) fun q A h=>by
   have h:(if q=b then some zs else ρ.fz q)=some A:=h;by_cases hq:q=b
   .exact .inr ⟨i,_,c,hi,rfl,hq ▸ hib⟩
   .rw [if_neg hq]at h;exact .inl h⟩,hb,hd⟩
  .rcases hy.jt with⟨h0,_⟩|⟨b',c',kc,g1,_,g3,rfl⟩
   .exact absurd (List.length_eq_zero_iff.1 h0) hx
   .rw [hib]at g1;cases g1;refine .bt (A:=zs) (b:=b) (off:=0*t.size) (by show(if b=b then some zs else _)=_;rw [if_pos rfl]) (by rw [Nat.zero_mul,aw];exact z4) rfl ?_ g3 (fun e=>by cases e);rw [Nat.zero_mul,List.drop_zero];exact z2.mono hle
  .have h:(if q=b then some zs else ρ.fz q)=some A:=h;by_cases hq:q=b
   .subst hq;rw [if_pos rfl]at h;cases h;exact⟨⟨_,_,dx⟩,fun k kk c' hne g1 g2=>absurd (aR.H.inj k i kk _ q c' c g1 hi g2 hib) hne⟩
   .rw [if_neg hq]at h;exact⟨(aR.H.fz q A h).1,fun k kk c _ g1 g2=>(aR.H.fz q A h).2 k kk c g1 g2⟩
  .have h:(if q=b then some zs else ρ.fz q)=some A:=h;by_cases hq:q=b
   .subst hq;exact .inr (hB rfl)
   .rw [if_neg hq]at h;exact hfz q A h
def Sat.vV {i s:Nat} {e2:TypeId} {t:av} {xs:List t.den} {cap:aZ} (hs':T.get s=some (.bT e2 t i 0 xs.length cap)) (hi:H.get i=a7 e2 t xs) (hs:mB X P w0 F n T H a w):mB X P w0 F n (T.set s (some (.bt false t xs))) (H.drop i) a w:=by
 obtain⟨⟨ρ,aR,hnone,hfz,hkp⟩,hb,hd⟩:=hs;have S1:∀{ρ':Env},cA ρ ρ'->(∀i,ρ' i=ρ i)->(∀b A,ρ'.fz b=some A->(∃e fr,w.heap[b]? =some (.cells A e fr))/\∀k kk c,k≠i->H.get k=some kk->ρ k=some (b,c)->kk.eO=true)->bh P w0.heap.size ρ' (H.drop i) w:=fun {ρ'} hl ha hf=>by
  have key:∀k kk,(H.drop i).get k=some kk->k≠i/\H.get k=some kk:=fun k kk h=>by
   rw [ai.o4]at h;split at h
   .cases h
   .rename_i h2;exact⟨fun h=>h2 h.symm,h⟩
  refine⟨fun k kk h=> ?_,fun i1 i2 k1 k2 b c1 c2 g1 g2 g3 g4=> ?_,fun k kk h=>aR.H.lt k kk (key k kk h).2,aR.H.base,fun b A h=>⟨(hf b A h).1,fun k kk c g1 g2=> ?_⟩⟩
  .obtain⟨b,c,o,e1,e2,e3,bV⟩:=aR.H.blk k kk (key k kk h).2;exact⟨b,c,o,by rw [ha];exact e1,e2,e3.mono hl,bV⟩
  .rw [ha]at g3 g4;exact aR.H.inj _ _ _ _ _ _ _ (key _ _ g1).2 (key _ _ g2).2 g3 g4
  .rw [ha]at g2;exact(hf b A h).2 k kk c (key k kk g1).1 (key k kk g1).2 g2
 have qL:∀{ρ':Env},cA ρ ρ'->(∀y,Den ρ (.bT e2 t i 0 xs.length cap) y->Den ρ' (.bt false t xs) y)->jS ρ' (T.set s (some (.bt false t xs))) n a.tmps:=fun {ρ'} hl hv=>⟨aR.T.size,fun k=>by
  rw [au.fY];have hk:=aR.T.get k;by_cases hks:s=k
  .subst hks;rw [if_pos rfl];rw [hs']at hk;exact hv _ hk
  .rw [if_neg hks];exact hk.mono hl⟩
 by_cases hx:xs=[]
 .subst hx;refine⟨⟨ρ,⟨qL (cA.refl _) fun y hy=> ?_,S1 (cA.refl _) (fun _=>rfl) (fun b A h=>⟨(aR.H.fz b A h).1,fun k kk c _ g1 g2=>(aR.H.fz b A h).2 k kk c g1 g2⟩),aR.G⟩,hnone,hfz,hkp.re (cA.refl _) (aJ _) (fun _ hh=>S0 (fun _=>rfl) hh) fun _ _ h=> .inl h⟩,hb,hd⟩;rcases hy.jt with⟨_,a,rfl⟩|⟨b,c,kc,_,_,_,rfl⟩
  .exact .e6 fun e=>by cases e
  .exact .e6 fun e=>by cases e
 .obtain⟨x0,l0,rfl⟩:=List.exists_cons_of_ne_nil hx;have hi:H.get i=some (.own e2 t (x0::l0)):=hi;generalize hxs:x0::l0=xs at*;obtain⟨b,c,o,hib,_,_,hB⟩:=aR.H.blk i _ hi;obtain⟨zs,dx,z2,z3,z4,z5,Ra⟩:=rM aR.H hi hib;have hnf:ρ.fz b=none:=by
   cases hz:ρ.fz b with
   |none=>rfl
   |some A=>
    have:=(aR.H.fz b A hz).2 i _ c hi hib;cases this
  have hle:cA ρ ⟨ρ.at',fun q=>if q=b then some zs else ρ.fz q⟩:=⟨fun _ _ h=>h,fun q A h=>by
   show(if q=b then some zs else ρ.fz q)=some A;by_cases hq:q=b
   .subst hq;rw [hnf]at h;cases h
   .rw [if_neg hq];exact h⟩
  refine⟨⟨⟨ρ.at',fun q=>if q=b then some zs else ρ.fz q⟩,⟨qL hle fun y hy=> ?_,S1 hle (fun _=>rfl) (fun q A h=> ?_),aR.G.mono hle⟩,hnone,fun q A h=> ?_,hkp.re hle (aJ _) (fun _ hh=>S0 (fun _=>rfl) hh) fun q A h=>by
   have h:(if q=b then some zs else ρ.fz q)=some A:=h;by_cases hq:q=b
   .exact .inr ⟨i,_,c,hi,rfl,hq ▸ hib⟩
   .rw [if_neg hq]at h;exact .inl h⟩,hb,hd⟩
  .rcases hy.jt with⟨h0,_⟩|⟨b',c',kc,g1,_,g3,rfl⟩
   .exact absurd (List.length_eq_zero_iff.1 h0) hx
   .rw [hib]at g1;cases g1;refine .bt (A:=zs) (b:=b) (off:=0*t.size) (by show(if b=b then some zs else _)=_;rw [if_pos rfl]) (by rw [Nat.zero_mul,aw];exact z4) rfl ?_ g3 (fun e=>by cases e);rw [Nat.zero_mul,List.drop_zero];exact z2.mono hle
  .have h:(if q=b then some zs else ρ.fz q)=some A:=h;by_cases hq:q=b
   .subst hq;rw [if_pos rfl]at h;cases h;exact⟨⟨_,_,dx⟩,fun k kk c' hne g1 g2=>absurd (aR.H.inj k i kk _ q c' c g1 hi g2 hib) hne⟩
   .rw [if_neg hq]at h;exact⟨(aR.H.fz q A h).1,fun k kk c _ g1 g2=>(aR.H.fz q A h).2 k kk c g1 g2⟩
  .have h:(if q=b then some zs else ρ.fz q)=some A:=h;by_cases hq:q=b
   .subst hq;exact .inr (hB rfl)
   .rw [if_neg hq]at h;exact hfz q A h
def aW.vV {Q:Exit->au af->ai->Prop} {l:List Code} (hl:l≠[]) {i s:Nat} {e2:TypeId} {t:av} {xs:List t.den} {cap:aZ} (hs':T.get s=some (.bT e2 t i 0 xs.length cap)) (hi:H.get i=a7 e2 t xs)
  (hg:cg X P w0 F n l (T.set s (some (.bt false t xs))) (H.drop i) Q):cg X P w0 F n l T H Q:=by
 cases l with
 |nil=>exact absurd rfl hl
 |cons c l=>exact fun a w hs k=>hg a w (Sat.vV hs' hi hs) k
def Goal.freeze {Q:Exit->au af->ai->Prop} {c:Code} {i j m:Nat} {e e2:TypeId} {cs:List af} {x f r:Bool} {t:av} {xs:List t.den} {cap:aZ} (hj:H.get j=some (.cells e cs x f r)) (hm:cs[m]? =some (.bT e2 t i 0 xs.length cap)) (hi:H.get i=a7 e2 t xs) (hij:i≠j)
  (hg:iK X P w0 F n c T ((H.drop i).set j (.cells e (cs.set m (.bt false t xs)) x f r)) Q):iK X P w0 F n c T H Q:=fun a w hs k=>hg a w (Sat.freeze hj hm hi hij hs) k
def aW.freeze {Q:Exit->au af->ai->Prop} {l:List Code} (hl:l≠[]) {i j m:Nat} {e e2:TypeId} {cs:List af} {x f r:Bool} {t:av} {xs:List t.den} {cap:aZ} (hj:H.get j=some (.cells e cs x f r)) (hm:cs[m]? =some (.bT e2 t i 0 xs.length cap)) (hi:H.get i=a7 e2 t xs) (hij:i≠j)
  (hg:cg X P w0 F n l T ((H.drop i).set j (.cells e (cs.set m (.bt false t xs)) x f r)) Q):cg X P w0 F n l T H Q:=by
 cases l with
 |nil=>exact absurd rfl hl
 |cons c l=>exact Goal.freeze hj hm hi hij hg
def aW.n7 {Q:Exit->au af->ai->Prop} {l:List Code} (hl:l≠[]) {σ:Ren} {s:bH} (h:fit P σ n T H s) (hg:cg X P w0 F n l s.T s.H Q) (hp:pinned σ s.H.next X.pins=true:=by rfl):cg X P w0 F n l T H Q:=by
 cases l with
 |nil=>exact absurd rfl hl
 |cons c l=>exact Goal.n7 h hg hp
end
end Go.Proofs.YtibikmmdbdlafaaGreatDoor
namespace Go.Proofs.YtibikmmdbdlafaaGreatDoor
def vl (b:Int):List Int->Int
 |[]=>0
 |x::r=>x+b*vl b r
def aS (b:Int) (l:List Int):Prop:=∀x∈l,0<=x/\x<b
def aS.nil {b:Int}:aS b []:=fun x h=>by cases h
def aS.cons {b x:Int} {l:List Int} (h:0<=x/\x<b) (hl:aS b l):aS b (x::l):=fun y hy=>by
 rcases ek.1 hy with rfl |hy
 .exact h
 .exact hl y hy
def aS.tail {b x:Int} {l:List Int} (h:aS b (x::l)):aS b l:=fun y hy=>h y (lV _ hy)
def aS.head {b x:Int} {l:List Int} (h:aS b (x::l)):0<=x/\x<b:=h x lW
def aS.app {b:Int} {l m:List Int} (h:aS b l) (g:aS b m):aS b (l++m):=fun y hy=>(List.mem_append.1 hy).elim (h y) (g y)
def aS.left {b:Int} {l m:List Int} (h:aS b (l++m)):aS b l:=fun y hy=>h y (List.mem_append_left _ hy)
def aS.right {b:Int} {l m:List Int} (h:aS b (l++m)):aS b m:=fun y hy=>h y (List.mem_append_right _ hy)
def aS.take {b:Int} {l:List Int} (h:aS b l) (k:Nat):aS b (l.take k):=fun y hy=>h y (List.mem_of_mem_take hy)
def aS.drop {b:Int} {l:List Int} (h:aS b l) (k:Nat):aS b (l.drop k):=fun y hy=>h y (List.mem_of_mem_drop hy)
def aS.set {b:Int} {l:List Int} (h:aS b l) {k:Nat} {x:Int} (hx:0<=x/\x<b):aS b (l.set k x):=fun y hy=>by
 rcases List.mem_or_eq_of_mem_set hy with hy|rfl
 .exact h y hy
 .exact hx
def aS.at' {b:Int} {l:List Int} (h:aS b l) {k:Nat} (hk:k<l.length):0<=l.getD k 0/\l.getD k 0<b:=by
 have:l.getD k 0=l[k]:=by simp [ao,hk]
 rw [this];exact h _ (List.getElem_mem _)
def aS.get {b:Int} (hb:0<b) {l:List Int} (h:aS b l) (k:Nat):0<=l.getD k 0/\l.getD k 0<b:=by
 by_cases hk:k<l.length
 .exact h.at' hk
 .rw [ao,List.getElem?_eq_none ω];exact⟨Int.le_refl _,hb⟩
def aS.rep {b:Int} (hb:0<b) (n:Nat):aS b (List.replicate n 0):=fun y hy=>by
 rw [(List.mem_replicate.1 hy).2];exact⟨Int.le_refl _,hb⟩
def adV {a b:Int} (ha:0<=a) (hb:0<=b):0<=a*b:=Int.mul_nonneg ha hb
def dD {b:Int} (hb:0<b):∀n:Nat,0<b^n
 |0=>by simp
 |n+1=>by rw [Int.pow_succ];exact Int.mul_pos (dD hb n) hb
def gh {b:Int} (hb:0<b):∀{l:List Int},aS b l->0<=vl b l
 |[],_=>Int.le_refl _
 |x::r,h=>by
  have h1:=h.head;have h2:=Int.mul_nonneg (cq hb) (gh hb h.tail);show 0<=x+b*vl b r;omega
def fK {b:Int} (hb:0<b):∀{l:List Int},aS b l->vl b l<b^l.length
 |[],_=>by simp [vl]
 |x::r,h=>by
  have h1:=h.head;have h2:=fK hb h.tail;have h3:b*vl b r<=b*(b^r.length-1):=dZ ω (cq hb);have h4:b*(b^r.length-1)=b*b^r.length-b:=by rw [Int.mul_sub,Int.mul_one]
  have h5:b^(x::r).length=b*b^r.length:=by rw [List.length_cons,Int.pow_succ,Int.mul_comm]
  rw [h5];show x+b*vl b r<_;omega
def FQ (b:Int):∀(l m:List Int),vl b (l++m)=vl b l+b^l.length*vl b m
 |[],m=>by simp [vl]
 |x::r,m=>by
  show x+b*vl b (r++m)=x+b*vl b r+b^(r.length+1)*vl b m;rw [FQ b r m,Int.mul_add,Int.pow_succ,Int.mul_comm (b^r.length) b,Int.mul_assoc,Int.add_assoc]
def r0 (b x:Int):vl b [x]=x:=by simp [vl]
def yc (b:Int) (l:List Int) (x:Int):vl b (l++[x])=vl b l+b^l.length*x:=by rw [FQ,r0]
def CZ (b:Int):∀n:Nat,vl b (List.replicate n 0)=0
 |0=>rfl
 |n+1=>by rw [List.replicate_succ];show 0+b*vl b (List.replicate n 0)=0;rw [CZ b n];simp
def ue {l:List Int} {k:Nat} (h:k<l.length):l.getD k 0=l[k]:=by simp [ao,h]
def S2 {l:List Int} {k:Nat} (h:k<l.length):l.take (k+1)=l.take k++[l.getD k 0]:=by rw [ue h];simp
def dC {b:Int} {l:List Int} {k:Nat} (h:k<l.length):vl b (l.take (k+1))=vl b (l.take k)+b^k*l.getD k 0:=by
 rw [S2 h,yc,eE,Nat.min_eq_left ω]
def kQ {b:Int} (l:List Int) (k:Nat):vl b (l.take (k+1))=vl b (l.take k)+b^k*l.getD k 0:=by
 by_cases h:k<l.length
 .exact dC h
 .have e:l.getD k 0=0:=by rw [ao,List.getElem?_eq_none ω];rfl
  rw [e,eT ω,eT ω];simp
def r4 (b:Int) (l:List Int) (k:Nat) (h:k<=l.length):vl b l=vl b (l.take k)+b^k*vl b (l.drop k):=by
 have:=FQ b (l.take k) (l.drop k);rw [List.take_append_drop,eE,Nat.min_eq_left h]at this;exact this
def qM (b:Int):∀(l:List Int) (k:Nat) (x:Int),k<l.length->vl b (l.set k x)=vl b l+b^k*(x-l.getD k 0)
 |[],k,_,h=>absurd h (Nat.not_lt_zero _)
 |y::r,0,x,_=>by
  show x+b*vl b r=y+b*vl b r+b^0*(x-(y::r).getD 0 0);simp;omega
 |y::r,k+1,x,h=>by
  show y+b*vl b (r.set k x)=y+b*vl b r+b^(k+1)*(x-(y::r).getD (k+1) 0);have e:(y::r).getD (k+1) 0=r.getD k 0:=by simp
  rw [qM b r k x (by simpa using h),e,Int.mul_add,Int.pow_succ,Int.mul_comm (b^k) b,Int.mul_assoc,Int.add_assoc]
def e9 (l:List Int):Prop:=∀k,l.length=k+1->l.getD k 0≠0
def fg (l:List Int):Nat->List Int
 |0=>[]
 |k+1=>if l.getD k 0=0 then fg l k else l.take (k+1)
def C0 (l:List Int):∀k,k<=l.length->∃m,m<=k/\fg l k=l.take m/\(∀j,m<=j->j<k->l.getD j 0=0)/\(∀j,m=j+1->l.getD j 0≠0)
 |0,_=>⟨0,aJ _,by simp [fg],fun j _ h=>by omega,fun j h=>by omega⟩
 |k+1,hk=>by
  unfold fg;by_cases h:l.getD k 0=0
  .rw [if_pos h];obtain⟨m,h1,h2,h3,h4⟩:=C0 l k ω;refine⟨m,by omega,h2,fun j g1 g2=> ?_,h4⟩;by_cases e:j=k
   .rw [e];exact h
   .exact h3 j g1 ω
  .rw [if_neg h];exact⟨k+1,aJ _,rfl,fun j g1 g2=>by omega,fun j e=>by
    obtain rfl:j=k:=by omega
    exact h⟩
def Lu {b:Int} (l:List Int):∀k,k<=l.length->vl b (fg l k)=vl b (l.take k)
 |0,_=>by simp [fg]
 |k+1,hk=>by
  unfold fg;by_cases h:l.getD k 0=0
  .rw [if_pos h,Lu l k ω,dC ω,h];simp
  .rw [if_neg h]
def FR (l:List Int) (k:Nat) (hk:k<=l.length):e9 (fg l k):=by
 obtain⟨m,h1,h2,_,h4⟩:=C0 l k hk;rw [h2];intro j hj;rw [eE,Nat.min_eq_left ω]at hj;have:=h4 j hj;rwa [ao,List.getElem?_take,if_pos ω,<-ao]
def S3 {b:Int} {l:List Int} (h:aS b l) (k:Nat) (hk:k<=l.length):aS b (fg l k):=by
 obtain⟨m,_,h2,_⟩:=C0 l k hk;rw [h2];exact h.take _
def S4 {l:List Int} (h:e9 l):fg l l.length=l:=by
 cases hl:l.length with
 |zero=>rw [List.eq_nil_of_length_eq_zero hl];rfl
 |succ k=>
  unfold fg;rw [if_neg (h k hl)];exact eT ω
def yd {b:Int} (hb:0<b) {l:List Int} (h:aS b l) (ht:e9 l) {k:Nat} (hl:l.length=k+1):b^k<=vl b l:=by
 have h1:=dC (b:=b) (l:=l) (k:=k) ω;rw [eT ω]at h1;have h2:=gh hb (h.take k);have h3:=h.at' (k:=k) ω;have h4:=ht k hl;have h5:b^k*1<=b^k*l.getD k 0:=dZ ω (cq (dD hb k));omega
def iN {b:Int} (hb:1<=b) {m n:Nat} (h:m<=n):b^m<=b^n:=by
 obtain⟨d,rfl⟩:=Nat.exists_eq_add_of_le h;rw [Int.pow_add];have h1:=dD (show 0<b by omega) m;have h2:=dD (show 0<b by omega) d;have:=dZ (show 1<=b^d by omega) (cq h1);omega
def vW {b:Int} (hb:1<b) {l m:List Int} (h:aS b l) (g:aS b m) (ht:e9 m) (hl:l.length<m.length):vl b l<vl b m:=by
 obtain⟨k,hk⟩:∃k,m.length=k+1:=⟨m.length-1,by omega⟩;have h1:=fK (show 0<b by omega) h;have h2:=yd (show 0<b by omega) g ht hk;have h3:=iN (show 1<=b by omega) (show l.length<=k by omega);omega
def FT {b:Int} (hb:1<b) {l m:List Int} (h:aS b l) (g:aS b m) (hl:l.length=m.length) {k:Nat} (hk:k<l.length) (hlt:l.getD k 0<m.getD k 0) (heq:∀j,k<j->j<l.length->l.getD j 0=m.getD j 0):vl b l<vl b m:=by
 have hb0:0<b:=by omega
 have hd:l.drop (k+1)=m.drop (k+1):=by
  refine List.ext_getElem (by simp [hl]) fun i h1 h2=> ?_
  rw [List.getElem_drop,List.getElem_drop,<-ue,<-ue];exact heq _ ω (by simp at h1;omega)
 rw [r4 b l (k+1) ω,r4 b m (k+1) ω,hd,dC hk,dC ω];have h1:=fK hb0 (h.take k);rw [eE,Nat.min_eq_left ω]at h1;have h2:=gh hb0 (g.take k);have h3:b^k*(l.getD k 0+1)<=b^k*m.getD k 0:=dZ ω (cq (dD hb0 k));rw [Int.mul_add,Int.mul_one]at h3;omega
def Lv {b:Int} (hb:1<b):∀{l m:List Int},aS b l->aS b m->l.length=m.length->vl b l=vl b m->l=m
 |[],[],_,_,_,_=>rfl
 |[],_::_,_,_,h,_=>by cases h
 |_::_,[],_,_,h,_=>by cases h
 |x::l,y::m,h,g,hl,e=>by
  have e:x+b*vl b l=y+b*vl b m:=e;have h1:=h.head;have g1:=g.head;have hx:x=y:=by
   have a1:(x+b*vl b l)%b=x:=by rw [Int.add_mul_emod_self_left];exact Int.emod_eq_of_lt h1.1 h1.2
   have a2:(y+b*vl b m)%b=y:=by rw [Int.add_mul_emod_self_left];exact Int.emod_eq_of_lt g1.1 g1.2
   rw [<-a1,<-a2,e]
  subst hx;have e2:b*vl b l=b*vl b m:=by omega
  have e3:=Int.eq_of_mul_eq_mul_left ω e2;rw [Lv hb h.tail g.tail (by simpa using hl) e3]
def S5 {b:Int} (hb:1<b) {l m:List Int} (h:aS b l) (g:aS b m) (hl:e9 l) (hm:e9 m) (e:vl b l=vl b m):l=m:=by
 rcases Nat.lt_trichotomy l.length m.length with h1|h1|h1
 .have:=vW hb h g hm h1;omega
 .exact Lv hb h g h1 e
 .have:=vW hb g h hl h1;omega
def FU {b:Int} (hb:1<b) {l:List Int} (h:aS b l) (ht:e9 l):vl b l=0↔l=[]:=by
 constructor
 .intro e;exact S5 hb h .nil ht (fun k hk=>by cases hk) (by rw [e];rfl)
 .rintro rfl;rfl
def e9.nil:e9 []:=fun k h=>by cases h
section
variable {b:Int}
structure Av (b v1 v2 v' aI u1 u2 u' s:Int):Prop where
 b2:2<=b
 s1:1<=s
 v1:1<=v1/\v1<b
 v2:0<=v2/\v2<b
 v':0<=v'/\v'<s
 aI:0<=aI/\aI<b
 u1:0<=u1/\u1<b
 u2:0<=u2/\u2<b
 u':0<=u'/\u'<s
variable {v1 v2 v' aI u1 u2 u' s:Int}
def gC (b v1 v2 v' s:Int):Int:=(v1*b+v2)*s+v'
def nk (b aI u1 u2 u' s:Int):Int:=((aI*b+u1)*b+u2)*s+u'
def S6 {a c x:Int} (h:a*x<c*x) (hx:0<x):a<c:=Int.lt_of_mul_lt_mul_right h (cq hx)
section
variable (p:Av b v1 v2 v' aI u1 u2 u' s)
def S7 {t q:Int} (ht:0<=t) (hq:q*gC b v1 v2 v' s<=nk b aI u1 u2 u' s) (h:(aI*b+u1-t*v1)*b+u2<t*v2):q<t:=by
 have h1:(aI*b+u1)*b+u2+1<=t*(v1*b+v2):=by
  have e1:(aI*b+u1-t*v1)*b=(aI*b+u1)*b-t*v1*b:=Int.sub_mul _ _ _;have e2:t*(v1*b+v2)=t*v1*b+t*v2:=by rw [Int.mul_add,Int.mul_assoc]
  rw [e1]at h;rw [e2];omega
 have h2:=ar h1 (show 0<=s by have:=p.s1;omega);have e3:((aI*b+u1)*b+u2+1)*s=((aI*b+u1)*b+u2)*s+s:=by rw [Int.add_mul _ 1,Int.one_mul]
 rw [e3]at h2;have h3:t*(v1*b+v2)*s<=t*gC b v1 v2 v' s:=by
  rw [Int.mul_assoc];exact dZ (by unfold gC;have:=p.v';omega) ht
 have h4:nk b aI u1 u2 u' s<t*gC b v1 v2 v' s:=by unfold nk;have:=p.u';omega
 have h5:q*gC b v1 v2 v' s<t*gC b v1 v2 v' s:=by omega
 refine S6 h5 ?_;have:=p.v1;have h6:0<v1*b+v2:=by
  have:=Int.mul_pos (show 0<v1 by omega) (show 0<b by have:=p.b2;omega);have:=p.v2;omega
 have h7:=Int.mul_pos h6 (show 0<s by have:=p.s1;omega);unfold gC;have:=p.v';omega
def Lw {t:Int} (ht:0<=t/\t<b) (h:t*v2<=(aI*b+u1-t*v1)*b+u2):(t-1)*gC b v1 v2 v' s<=nk b aI u1 u2 u' s:=by
 have e1:(aI*b+u1-t*v1)*b=(aI*b+u1)*b-t*v1*b:=Int.sub_mul _ _ _;have e2:t*(v1*b+v2)=t*v1*b+t*v2:=by rw [Int.mul_add,Int.mul_assoc]
 have h1:t*(v1*b+v2)<=(aI*b+u1)*b+u2:=by rw [e2];rw [e1]at h;omega
 have h2:=ar h1 (show 0<=s by have:=p.s1;omega);have h3:t*v'<=(b-1)*s:=by
  have a:=ar (show t<=b-1 by omega) p.v'.1;have c:=dZ (show v'<=s by have:=p.v';omega) (show 0<=b-1 by have:=p.b2;omega);omega
 have h4:b*s<=gC b v1 v2 v' s:=by
  have a:=ar p.v1.1 (show 0<=b by have:=p.b2;omega);rw [Int.one_mul]at a;have c:=ar (show b<=v1*b+v2 by have:=p.v2;omega) (show 0<=s by have:=p.s1;omega);unfold gC;have:=p.v';omega
 have e3:(t-1)*gC b v1 v2 v' s=t*gC b v1 v2 v' s-gC b v1 v2 v' s:=by rw [Int.sub_mul,Int.one_mul]
 have bV:t*gC b v1 v2 v' s=t*(v1*b+v2)*s+t*v':=by unfold gC;rw [Int.mul_add,Int.mul_assoc]
 have j3:(b-1)*s=b*s-s:=by rw [Int.sub_mul,Int.one_mul]
 rw [e3,bV];unfold nk;have:=p.u';have:=p.s1;omega
def S8 {t:Int} (ht:0<=t/\t<b) (h:b<=aI*b+u1-t*v1):t*v2<=(aI*b+u1-t*v1)*b+u2:=by
 have h1:t*v2<=b*b:=by
  have a:=ar (show t<=b by omega) p.v2.1;have c:=dZ (show v2<=b by have:=p.v2;omega) (show 0<=b by have:=p.b2;omega);omega
 have h2:=ar h (show 0<=b by have:=p.b2;omega);have:=p.u2;omega
def S9 {q:Int} (j4:0<=q) (hq:q*gC b v1 v2 v' s<=nk b aI u1 u2 u' s):q*v1<=aI*b+u1:=by
 refine Int.not_lt.1 fun hlt=> ?_
 have hb:=p.b2;have h1:aI*b+u1+1<=q*v1:=hlt;have h2:=ar h1 (show 0<=b by omega);have e1:(aI*b+u1+1)*b=(aI*b+u1)*b+b:=by rw [Int.add_mul _ 1,Int.one_mul]
 rw [e1]at h2;have h3:=ar (show(aI*b+u1)*b+u2+1<=q*v1*b by have:=p.u2;omega) (show 0<=s by have:=p.s1;omega);have e2:((aI*b+u1)*b+u2+1)*s=((aI*b+u1)*b+u2)*s+s:=by rw [Int.add_mul _ 1,Int.one_mul]
 rw [e2]at h3;have h4:q*v1*b*s<=q*gC b v1 v2 v' s:=by
  rw [Int.mul_assoc,Int.mul_assoc];refine dZ ?_ j4;rw [<-Int.mul_assoc];unfold gC;have a:v1*b*s<=(v1*b+v2)*s:=ar (by have:=p.v2;omega) (by have:=p.s1;omega);have:=p.v';omega
 unfold nk at hq;have:=p.u';omega
end
end
def e9.cons {x:Int} {l:List Int} (h:e9 l) (hx:l=[]->x≠0):e9 (x::l):=fun k hk=>by
 cases l with
 |nil=>
  simp at hk;subst hk;exact hx rfl
 |cons y r=>
  cases k with
  |zero=>simp at hk
  |succ k=>
   have:=h k (by simpa using hk);simpa using this
def Ta {b:Int} (hb:1<b):∀n:Nat,∃l,aS b l/\e9 l/\vl b l=(n:Int):=fun n=>by
 induction n using Nat.strongRecOn with
 |_ n ih=>
  by_cases h0:n=0
  .subst h0;exact⟨[],aS.nil,e9.nil,rfl⟩
  .have hlt:((n:Int)/b).toNat<n:=by
    have h1:(n:Int)/b<n:=Int.ediv_lt_of_lt_mul ω (by
     have:(n:Int)*1<n*b:=Int.mul_lt_mul_of_pos_left hb ω;omega)
    have h2:0<=(n:Int)/b:=Int.ediv_nonneg ω ω;omega
   obtain⟨l,h1,h2,h3⟩:=ih _ hlt;have h4:0<=(n:Int)/b:=Int.ediv_nonneg ω ω;rw [Int.toNat_of_nonneg h4]at h3;have h5:=dM (n:Int) (show b≠0 by omega);have h6:=er (n:Int) (show 0<b by omega);have h7:=Int.emod_add_mul_ediv (n:Int) b;refine⟨(n:Int)%b::l,aS.cons ⟨h5,h6⟩ h1,e9.cons h2 fun e hz=> ?_, ?_⟩
   .subst e;have h3:(0:Int)=(n:Int)/b:=h3;rw [hz,<-h3]at h7;simp at h7;omega
   .show(n:Int)%b+b*vl b l=n;rw [h3];exact h7
noncomputable def cQ (b z:Int):List Int:=if h:1<b/\0<=z then Classical.choose (Ta h.1 z.toNat)else []
def qN {b z:Int} (hb:1<b) (hz:0<=z):aS b (cQ b z)/\e9 (cQ b z)/\vl b (cQ b z)=z:=by
 unfold cQ;rw [dif_pos ⟨hb,hz⟩];obtain⟨h1,h2,h3⟩:=Classical.choose_spec (Ta hb z.toNat);exact⟨h1,h2,by rw [h3];omega⟩
def fp {b z:Int} {l:List Int} (hb:1<b) (h1:aS b l) (h2:e9 l) (h3:vl b l=z):l=cQ b z:=by
 have hz:0<=z:=by rw [<-h3];exact gh ω h1
 obtain⟨g1,g2,g3⟩:=qN hb hz;exact S5 hb h1 g1 h2 g2 (by rw [h3,g3])
def Aw {l:List Int} {i:Nat} {d:Int}:(l.set i d).take i=l.take i:=by
 refine List.ext_getElem? fun j=> ?_
 rw [List.getElem?_take,List.getElem?_take];split
 .rw [List.getElem?_set_ne ω]
 .rfl
def vX {l:List Int} {i:Nat} {d:Int} (h:i<l.length):(l.set i d).getD i 0=d:=by
 rw [ao,List.getElem?_set_self h];rfl
def ye {b:Int} {l:List Int} {i:Nat} {d:Int} (h:i<l.length):vl b ((l.set i d).take (i+1))=vl b (l.take i)+b^i*d:=by
 rw [kQ,Aw,vX h]
section
variable {b:Int} (hb:0<b) {l:List Int} (h:aS b l)
def adW (k:Nat):vl b (l.take k)<=vl b l:=by
 by_cases hk:k<=l.length
 .rw [r4 b l k hk];have:=adV (cq (dD hb k)) (gh hb (h.drop k));omega
 .rw [eT ω];exact Int.le_refl _
def C1 {k:Nat} (hlt:vl b l<b^k):vl b (l.take k)=vl b l:=by
 by_cases hk:k<=l.length
 .have hs:=r4 b l k hk;have h1:=gh hb (h.drop k);have h2:=gh hb (h.take k);have hz:vl b (l.drop k)=0:=by
   by_cases hz:vl b (l.drop k)=0
   .exact hz
   .have h3:b^k*1<=b^k*vl b (l.drop k):=dZ ω (cq (dD hb k));omega
  rw [hz]at hs;omega
 .rw [eT ω]
end
def Lx {P b s c' a e c X Y O:Int} (h:s+b*c'=a+e+c) (hi:O+P*c=X+Y):O+P*s+P*b*c'=X+P*a+(Y+P*e):=by
 have h1:P*(s+b*c')=P*(a+e+c):=by rw [h]
 rw [Int.mul_add,Int.mul_add,Int.mul_add,<-Int.mul_assoc]at h1;omega
def Tb {P b s c' a e c X Y O:Int} (h:s-b*c'=a-e-c) (hi:O-P*c=X-Y):O+P*s-P*b*c'=X+P*a-(Y+P*e):=by
 have h1:P*(s-b*c')=P*(a-e-c):=by rw [h]
 rw [Int.mul_sub,Int.mul_sub,Int.mul_sub,<-Int.mul_assoc]at h1;omega
def fL (b:Int):Nat->Int->List Int
 |0,_=>[]
 |m+1,z=>z%b::fL b m (z/b)
def yf (b:Int):∀(m:Nat) (z:Int),(fL b m z).length=m
 |0,_=>rfl
 |m+1,z=>by rw [fL,List.length_cons,yf b m]
def C2 {b:Int} (hb:0<b):∀(m:Nat) (z:Int),aS b (fL b m z)
 |0,_=> .nil
 |m+1,z=> .cons ⟨dM _ ω,er _ hb⟩ (C2 hb m _)
def C3 {b:Int} (hb:0<b):∀(m:Nat) (z:Int),0<=z->z<b^m->vl b (fL b m z)=z
 |0,z,h0,h1=>by simp at h1;simp [fL,vl];omega
 |m+1,z,h0,h1=>by
  have h2:z/b<b^m:=Int.ediv_lt_of_lt_mul hb (by rw [Int.pow_succ]at h1;exact h1);have h3:=C3 hb m (z/b) (Int.ediv_nonneg h0 (cq hb)) h2;show z%b+b*vl b (fL b m (z/b))=z;rw [h3];exact Int.emod_add_mul_ediv z b
def Lz {b:Int} (hb:1<b) {l:List Int} (h:aS b l):l=fL b l.length (vl b l):=by
 have hb0:0<b:=by omega
 exact Lv hb h (C2 hb0 _ _) (yf b _ _).symm (C3 hb0 _ _ (gh hb0 h) (fK hb0 h)).symm
def LA {b:Int} {u v:List Int} {n:Nat} (hb:2<=b) (hu:aS b u) (hv:aS b v) (bI:u.length=n+3) (lv:v.length=n+2) (h1:1<=v.getD (n+1) 0):
  Av b (v.getD (n+1) 0) (v.getD n 0) (vl b (v.take n)) (u.getD (n+2) 0) (u.getD (n+1) 0) (u.getD n 0) (vl b (u.take n)) (b^n):=by
 have hb0:0<b:=by omega
 have hp:=dD hb0 n;have l1:=fK hb0 (hv.take n);have l2:=fK hb0 (hu.take n);rw [eE,Nat.min_eq_left ω]at l1 l2;exact⟨hb,hp,⟨h1,(hv.get hb0 _).2⟩,hv.get hb0 _,⟨gh hb0 (hv.take n),l1⟩,hu.get hb0 _,hu.get hb0 _,hu.get hb0 _,⟨gh hb0 (hu.take n),l2⟩⟩
def LB {b:Int} {v:List Int} {n:Nat} (lv:v.length=n+2):gC b (v.getD (n+1) 0) (v.getD n 0) (vl b (v.take n)) (b^n)=vl b v:=by
 have h1:=dC (b:=b) (l:=v) (k:=n+1) ω;have h2:=dC (b:=b) (l:=v) (k:=n) ω;rw [eT ω]at h1;rw [h1,h2];unfold gC;rw [Int.add_mul,Int.pow_succ,Int.mul_comm (v.getD (n+1) 0) b,Int.mul_assoc,Int.mul_comm (v.getD (n+1) 0),Int.mul_comm (v.getD n 0),<-Int.mul_assoc,Int.mul_comm b];omega
def LC {b:Int} {u:List Int} {n:Nat} (bI:u.length=n+3):nk b (u.getD (n+2) 0) (u.getD (n+1) 0) (u.getD n 0) (vl b (u.take n)) (b^n)=vl b u:=by
 have h0:=dC (b:=b) (l:=u) (k:=n+2) ω;have h1:=dC (b:=b) (l:=u) (k:=n+1) ω;have h2:=dC (b:=b) (l:=u) (k:=n) ω;rw [eT ω]at h0;rw [h0,h1,h2];unfold nk;simp only [Int.pow_succ];generalize u.getD (n+2) 0=x;generalize u.getD (n+1) 0=y;generalize u.getD n 0=z;generalize b^n=P;clear h0 h1 h2 bI;generalize vl b (u.take n)=V;grind
def yg {U V t:Int} (hV:0<V) (h1:0<=U-t*V) (h2:U-t*V<V):U/V=t/\U%V=U-t*V:=by
 have h3:U=(U-t*V)+t*V:=by omega
 have hq:U/V=t:=by
  rw [h3,Int.add_mul_ediv_right _ _ ω,Int.ediv_eq_zero_of_lt h1 h2];omega
 refine⟨hq, ?_⟩;have:=Int.emod_add_mul_ediv U V;rw [hq,Int.mul_comm]at this;omega
def adX {B P lo c' c t v u u' r5 bo X O W:Int} (h1:c'*B+lo=t*v+c) (h2:u'-B*r5=u-lo-bo) (hi:O-P*bo=X-t*W+P*c):
  O+P*u'-P*B*r5=X+P*u-t*(W+P*v)+P*B*c':=by
 grind
end Go.Proofs.YtibikmmdbdlafaaGreatDoor
namespace Go.Proofs.YtibikmmdbdlafaaGreatDoor.Sv
open Go.RowKit
variable [Ground]
noncomputable section
def yh (ty:av) (v:af) (H:ai):aD (Option (af×ai)):=match ty,v with
 | .list false t, .bT e u i k len _=>(match decide (u=t)with
   |true=> .must (Nat.beq len 0||bz e t (H.get i) (k+len-1)) (.ret (some (.bt false t (((bQ t (H.get i)).drop k).take len),H.drop i)))
   |false=> .ret none)
 | .list false t, .slice i off n _=>(match H.get i with
   |some (.cells _ cs _ false false)=>(match t.rE n (cut cs off (n*t.size))with
    |some ds=> .must (Nat.ble (off+n*t.size) cs.length) (.ret (some (.bt false t ds,H.drop i)))
    |none=> .ret none)
   |_=> .ret none)
 |_,v=> .ret (some (v,H))
def r6:List av->List af->ai->aD (Option (List af×ai))
 |t::ts,v::vs,H=>(yh t v H).bind fun r=>match r with
  |some (v1,H1)=>(r6 ts vs H1).bind fun r2=>match r2 with
   |some (oe,H2)=> .ret (some (v1::oe,H2))
   |none=> .ret none
  |none=> .ret none
 |_,vs,H=> .ret (some (vs,H))
def FV (c:bp) (args:List af) (H:ai):aD aM:=(r6 c.ps args H).bind fun r=>match r with
 |some (args1,H1)=>x4 c args1 H1
 |none=> .ret .no
def og (l:List bp) (bu:bG):bG:=fun f args H=>match l with
 |[]=>bu f args H
 |c::l=>match Nat.beq f c.f with |true=>FV c args H|false=>og l bu f args H
section
variable {P:Program} {B:Nat} {ρ:Env} {H:ai} {w:World}
def FW (hH:bh P B ρ H w) {i b c:Nat} {k:bq} {zs:Array Value} {e:TypeId} {fr:Nat×Nat} (hi:H.get i=some k) (hro:k.eO=false) (hr:ρ i=some (b,c)) (hz:w.heap[b]? =some (.cells zs e fr)):
  ∃cL:Env,cL.fz b=some zs/\(∀j,cL j=ρ j)/\cA ρ cL/\bh P B cL (H.drop i) w/\bS ρ H w cL (H.drop i) w:=by
 have hnf:ρ.fz b=none:=by
  cases o6:ρ.fz b with
  |none=>rfl
  |some A=>
   have:=(hH.fz b A o6).2 i k c hi hr;rw [hro]at this;cases this
 have hle:cA ρ ⟨ρ.at',fun q=>if q=b then some zs else ρ.fz q⟩:=⟨fun _ _ h=>h,fun q A h=>by
  show(if q=b then some zs else ρ.fz q)=some A;by_cases hq:q=b
  .subst hq;rw [hnf]at h;cases h
  .rw [if_neg hq];exact h⟩
 have key:∀j kk,(H.drop i).get j=some kk->j≠i/\H.get j=some kk:=fun j kk h=>by
  rw [ai.o4]at h;split at h
  .cases h
  .rename_i h2;exact⟨fun h=>h2 h.symm,h⟩
 refine⟨⟨ρ.at',fun q=>if q=b then some zs else ρ.fz q⟩,if_pos rfl,fun _=>rfl,hle,⟨fun j kk h=> ?_,fun i1 i2 k1 k2 bb c1 c2 g1 g2 g3 g4=>hH.inj i1 i2 k1 k2 bb c1 c2 (key _ _ g1).2 (key _ _ g2).2 g3 g4,fun j kk h=>hH.lt j kk (key j kk h).2,hH.base,fun bb A h=> ?_⟩,
  ⟨hle,fun _ _=>rfl,aJ _,aJ _,rfl,rfl,rfl,fun _ _ _=>rfl,fun q _ ⟨j,kk,cl,h1,h2,h3⟩=>⟨j,kk,cl,(key j kk h1).2,h2,h3⟩,fun q _ ⟨j,kk,cl,h1,h3⟩=>⟨j,kk,cl,(key j kk h1).2,h3⟩,fun bb A h=> ?_⟩⟩
 .obtain⟨bj,cl,o,e1,e2,e3,bV⟩:=hH.blk j kk (key j kk h).2;exact⟨bj,cl,o,e1,e2,e3.mono hle,bV⟩
 .have h:(if bb=b then some zs else ρ.fz bb)=some A:=h;by_cases hq:bb=b
  .subst hq;rw [if_pos rfl]at h;cases h;exact⟨⟨_,_,hz⟩,fun j kk c' g1 g2=>absurd (hH.inj j i kk k bb c' c (key j kk g1).2 hi g2 hr) (key j kk g1).1⟩
  .rw [if_neg hq]at h;exact⟨(hH.fz bb A h).1,fun j kk c' g1 g2=>(hH.fz bb A h).2 j kk c' (key j kk g1).2 g2⟩
 .have h:(if bb=b then some zs else ρ.fz bb)=some A:=h;by_cases hq:bb=b
  .subst hq;exact .inr (.inr ⟨i,k,c,hi,hro,hr⟩)
  .rw [if_neg hq]at h;exact .inl h
def adY (hH:bh P B ρ H w) {ty:av} {v v1:af} {H1:ai} {x:Value} (h:(yh ty v H).gr=some (some (v1,H1))) (hd:Den ρ v x):∃cL:Env,cA ρ cL/\bh P B cL H1 w/\bS ρ H w cL H1 w/\Den cL v1 x:=by
 unfold yh at h;split at h
 .rename_i t e u i k len cap;split at h
  .rename_i hu;have hu:=ap hu;subst hu;cases hm:(Nat.beq len 0||bz e u (H.get i) (k+len-1))with
   |false=>rw [hm]at h;cases h
   |true=>
    rw [hm]at h;cases h;rcases hd.jt with⟨rfl,a,rfl⟩|⟨b,c,kc,g1,g2,g3,rfl⟩
    .rw [List.take_zero];by_cases hg:∃kk,H.get i=some kk/\kk.eO=false/\∃b c zs e fr,ρ i=some (b,c)/\w.heap[b]? =some (.cells zs e fr)
     .obtain⟨kk,q1,aQ,b,c,zs,e',fr,b8,eo⟩:=hg;obtain⟨cL,_,_,r1,r2,r3⟩:=FW hH q1 aQ b8 eo;exact⟨cL,r1,r2,r3, .e6 fun e=>by cases e⟩
     . -- the block is given up without being frozen
       have key:∀j kk,(H.drop i).get j=some kk->j≠i/\H.get j=some kk:=fun j kk h=>by
        rw [ai.o4]at h;split at h
        .cases h
        .rename_i h2;exact⟨fun h=>h2 h.symm,h⟩
       exact⟨ρ,cA.refl _,⟨fun j kk h=>hH.blk j kk (key j kk h).2,fun i1 i2 k1 k2 bb c1 c2 g1 g2 g3 g4=>hH.inj i1 i2 k1 k2 bb c1 c2 (key _ _ g1).2 (key _ _ g2).2 g3 g4,fun j kk h=>hH.lt j kk (key j kk h).2,hH.base,fun bb A h=>⟨(hH.fz bb A h).1,fun j kk c' g1 g2=>(hH.fz bb A h).2 j kk c' (key j kk g1).2 g2⟩⟩,
        ⟨cA.refl _,fun _ _=>rfl,aJ _,aJ _,rfl,rfl,rfl,fun _ _ _=>rfl,fun q _ ⟨j,kk,cl,h1,h2,h3⟩=>⟨j,kk,cl,(key j kk h1).2,h2,h3⟩,fun q _ ⟨j,kk,cl,h1,h3⟩=>⟨j,kk,cl,(key j kk h1).2,h3⟩,fun bb A h=> .inl h⟩, .e6 fun e=>by cases e⟩
    .by_cases hl:len=0
     .subst hl;rw [List.take_zero];by_cases hg:∃kk,H.get i=some kk/\kk.eO=false/\∃b c zs e fr,ρ i=some (b,c)/\w.heap[b]? =some (.cells zs e fr)
      .obtain⟨kk,q1,aQ,b,c,zs,e',fr,b8,eo⟩:=hg;obtain⟨cL,_,_,r1,r2,r3⟩:=FW hH q1 aQ b8 eo;exact⟨cL,r1,r2,r3, .e6 fun e=>by cases e⟩
      .have key:∀j kk,(H.drop i).get j=some kk->j≠i/\H.get j=some kk:=fun j kk h=>by
        rw [ai.o4]at h;split at h
        .cases h
        .rename_i h2;exact⟨fun h=>h2 h.symm,h⟩
       exact⟨ρ,cA.refl _,⟨fun j kk h=>hH.blk j kk (key j kk h).2,fun i1 i2 k1 k2 bb c1 c2 g1 g2 g3 g4=>hH.inj i1 i2 k1 k2 bb c1 c2 (key _ _ g1).2 (key _ _ g2).2 g3 g4,fun j kk h=>hH.lt j kk (key j kk h).2,hH.base,fun bb A h=>⟨(hH.fz bb A h).1,fun j kk c' g1 g2=>(hH.fz bb A h).2 j kk c' (key j kk g1).2 g2⟩⟩,
        ⟨cA.refl _,fun _ _=>rfl,aJ _,aJ _,rfl,rfl,rfl,fun _ _ _=>rfl,fun q _ ⟨j,kk,cl,h1,h2,h3⟩=>⟨j,kk,cl,(key j kk h1).2,h2,h3⟩,fun q _ ⟨j,kk,cl,h1,h3⟩=>⟨j,kk,cl,(key j kk h1).2,h3⟩,fun bb A h=> .inl h⟩, .e6 fun e=>by cases e⟩
     .rw [Bool.or_eq_true]at hm;have hm:=hm.resolve_left fun e=>hl (ac e)
      obtain⟨b1,b2⟩:=vo hm;obtain⟨zs,q1,aQ,_⟩:=rM hH b1 g1;obtain⟨cL,f1,_,r1,r2,r3⟩:=FW hH b1 rfl g1 q1;refine⟨cL,r1,r2,r3, ?_⟩;generalize bQ u (H.get i)=xs at b1 b2 aQ ⊢;have hle2:k+len<=xs.length:=by omega
      have e1:(xs.drop k).take len=(xs.take (k+len)).drop k:=by rw [List.take_drop]
      have gL:=Cd (off:=0) (A:=zs.toList) (l:=k) (h:=k+len) (by simpa using aQ) ω hle2;rw [aw,<-e1]at gL;have hn:((xs.drop k).take len).length=len:=by simp;omega
      have gw:=Den.bt (ρ:=cL) (z:=false) (t:=u) (xs:=(xs.drop k).take len) (b:=b) (off:=k*u.size) (k:=kc) (A:=zs) f1 (by
       have e3:(u.flat xs).length<=zs.toList.length:=by
        have:=aQ.length;simp at this ⊢;omega
       rw [u.iW]at e3 ⊢;rw [hn,<-Nat.add_mul];have:=c6 (Nat.mul_le_mul_right u.size hle2) e3;simpa using this) rfl (gL.mono r1) ω (fun e=>by cases e)
      rwa [hn]at gw
  .cases h
 .rename_i t i off n cap;split at h
  .rename_i e cs x hg;split at h
   .rename_i ds hrd;cases hm:Nat.ble (off+n*t.size) cs.length with
    |false=>rw [hm]at h;cases h
    |true=>
     rw [hm]at h;cases h;have hle:=bU hm;obtain⟨b,c,k,g1,_,g3,rfl⟩:=hd.ij;obtain⟨zs,xE,q1,_,b8,_,_,qD⟩:=l9 hH hg g1;obtain⟨cL,f1,_,r1,r2,r3⟩:=FW hH hg rfl g1 q1;refine⟨cL,r1,r2,r3, ?_⟩;have hcut:=(b8.drop off).take (n*t.size);obtain⟨mC,hn⟩:=av.B8 hrd hcut;subst hn;have hfl:=t.iW ds;have e2:((zs.toList.take cs.length).drop off).take (ds.length*t.size)=(zs.toList.drop off).take (t.flat ds).length:=by
      rw [hfl,List.drop_take,List.take_take,Nat.min_eq_left ω]
     rw [e2]at mC;exact .bt f1 (by rw [hfl];omega) rfl (mC.mono r1) g3 fun e=>by cases e
   .cases h
  .cases h
 .cases h;exact⟨ρ,cA.refl _,hH,bS.refl _ _ _,hd⟩
def Tc:∀{ts:List av} {vs oe:List af} {ρ:Env} {H H1:ai} {xs:List Value},bh P B ρ H w->(r6 ts vs H).gr=some (some (oe,H1))->aH ρ vs xs->∃cL:Env,cA ρ cL/\bh P B cL H1 w/\bS ρ H w cL H1 w/\aH cL oe xs
 |[],vs,oe,ρ,H,H1,xs,hH,h,hd=>by
  cases h;exact⟨ρ,cA.refl _,hH,bS.refl _ _ _,hd⟩
 |t::ts,[],oe,ρ,H,H1,xs,hH,h,hd=>by
  cases h;exact⟨ρ,cA.refl _,hH,bS.refl _ _ _,hd⟩
 |t::ts,v::vs,oe,ρ,H,H1,_,hH,h, .cons d1 d2=>by
  unfold r6 at h;rw [aD.qz]at h;cases h1:(yh t v H).gr with
  |none=>rw [h1]at h;cases h
  |some r=>
   rw [h1]at h;cases r with
   |none=>cases h
   |some r=>
    obtain⟨v1,H2⟩:=r;simp only [Option.bind_some]at h;rw [aD.qz]at h;cases h2:(r6 ts vs H2).gr with
    |none=>rw [h2]at h;cases h
    |some r2=>
     rw [h2]at h;cases r2 with
     |none=>cases h
     |some r2=>
      obtain⟨Td,H3⟩:=r2;cases h;obtain⟨cL,l1,a1,s1,e1⟩:=adY hH h1 d1;obtain⟨ec,l2,a2,s2,e2⟩:=Tc a1 h2 (d2.mono l1);exact⟨ec,l1.trans l2,a2,s1.trans s2, .cons (e1.mono l2) e2⟩
def adZ {ty:av} {v v1:af} {H1:ai} (h:(yh ty v H).gr=some (some (v1,H1))):H1.next=H.next:=by
 unfold yh at h;split at h
 .split at h
  .rename_i e u i k len _ _ _;cases hm:(Nat.beq len 0||bz e _ (H.get i) (k+len-1))with
   |false=>rw [hm]at h;cases h
   |true=>rw [hm]at h;cases h;rfl
  .cases h
 .split at h
  .split at h
   .unfold aD.gr at h;generalize Nat.ble _ _=bb at h;cases bb with
    |false=>cases h
    |true=>cases h;rfl
   .cases h
  .cases h
 .cases h;rfl
def Te:∀{ts:List av} {vs oe:List af} {H H1:ai},(r6 ts vs H).gr=some (some (oe,H1))->H1.next=H.next
 |[],vs,oe,H,H1,h=>by cases h;rfl
 |t::ts,[],oe,H,H1,h=>by cases h;rfl
 |t::ts,v::vs,oe,H,H1,h=>by
  unfold r6 at h;rw [aD.qz]at h;cases h1:(yh t v H).gr with
  |none=>rw [h1]at h;cases h
  |some r=>
   rw [h1]at h;cases r with
   |none=>cases h
   |some r=>
    obtain⟨v1,H2⟩:=r;simp only [Option.bind_some]at h;rw [aD.qz]at h;cases h2:(r6 ts vs H2).gr with
    |none=>rw [h2]at h;cases h
    |some r2=>
     rw [h2]at h;cases r2 with
     |none=>cases h
     |some r2=>
      obtain⟨Td,H3⟩:=r2;cases h;rw [Te h2,adZ h1]
def Tf {c:bp} {args:List af} {v:af} {H':ai} (h:(FV c args H).gr=some (.ok v H')):∃args1,(r6 c.ps args H).gr=some (some (args1,H'))/\(x4 c args1 H').gr=some (.ok v H'):=by
 unfold FV at h;rw [aD.qz]at h;cases h1:(r6 c.ps args H).gr with
 |none=>rw [h1]at h;cases h
 |some r=>
  rw [h1]at h;cases r with
  |none=>cases h
  |some r=>
   obtain⟨a1,H1⟩:=r;have h:(x4 c a1 H1).gr=some (.ok v H'):=h;have e:=KZ h;subst e;exact⟨a1,rfl,h⟩
def LD {bu:bG} {f:FuncId} {args:List af} {v:af} {H':ai}:∀{l:List bp},(og l bu f args H).gr=some (.ok v H')->(∃c∈l,c.f=f/\(FV c args H).gr=some (.ok v H'))\/(bu f args H).gr=some (.ok v H')
 |[],h=> .inr h
 |c::l,h=>by
  unfold og at h;cases hb:Nat.beq f c.f with
  |true=>simp only [hb]at h;exact .inl ⟨c,lW,(ac hb).symm,h⟩
  |false=>
   simp only [hb]at h;rcases LD h with⟨c',h1,h2⟩|h1
   .exact .inl ⟨c',lV _ h1,h2⟩
   .exact .inr h1
def uf {l:List bp} {bu:bG} (hl:∀c∈l,c.Ok P) (hS:bD P (bF bu)):bD P (bF (og l bu)) where
 mono f args H v H' h:=by
  rcases LD (gE h)with⟨c,_,_,h3⟩|h3
  .obtain⟨a1,g1,_⟩:=Tf h3;rw [Te g1];exact aJ _
  .exact hS.mono f args H v H' (by unfold bF;rw [h3];rfl)
 cw f args H v H' h B ρ xs w m hH ct hd hf:=by
  rcases LD (gE h)with⟨c,h1,rfl,h3⟩|h3
  .obtain⟨a1,g1,g2⟩:=Tf h3;obtain⟨cL,l1,a2,s1,e1⟩:=Tc hH g1 hd;refine(SF (hl c h1) g2 m a2 (ct.mono l1) e1).mono ?_;rintro e w' ⟨x,ρ',rfl,q1,aQ,b8⟩;exact⟨x,ρ',rfl,q1,aQ,s1.trans b8⟩
  .exact hS.cw f args H v H' (by unfold bF;rw [h3];rfl) B ρ xs w m hH ct hd hf
end
end
end Go.Proofs.YtibikmmdbdlafaaGreatDoor.Sv
