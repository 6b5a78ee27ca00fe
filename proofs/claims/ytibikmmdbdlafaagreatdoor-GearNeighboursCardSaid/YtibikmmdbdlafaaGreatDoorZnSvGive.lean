import Derived.Test.YtibikmmdbdlafaaGreatDoorZnSvUse
import Derived.Lib.MakeNoZero
import Derived.Lib.ItoaNum
import Derived.Test.YtibikmmdbdlafaaGreatDoorRows
import Derived.LaidMore
import Derived.SevenTiedAt
import Derived.Shelf.Vars
import Derived.Lib.SmallJoins
set_option linter.defProp false
set_option linter.unusedSectionVars false
set_option linter.unusedSimpArgs false
set_option linter.unusedVariables false
set_option maxRecDepth 100000
namespace Go.Proofs.YtibikmmdbdlafaaGreatDoor.Sv
open Go.RowKit
section
variable [Ground]
noncomputable section
inductive cx:Type 1 where
 |b (x c:Bool)
 |e {α:Type} (x y:α)
 |o (P:Program) (m:Option Nat) (b:Option bq) (e:TypeId) (t:av) (xs:List t.den)
 |p (q:Prop)
def cx.ok:cx->Prop
 | .b x c=>x=c
 | .e x y=>x=y
 | .o P m k f t xs=>Ad P m k f t xs
 | .p q=>q
def e7:List cx->Prop
 |[]=>True
 |o::l=>o.ok/\e7 l
abbrev iU:={o:cx//o.ok}
def aa {x c:Bool} (h:x=c):iU:=⟨.b x c,h⟩
def ax {α:Type} {x y:α} (h:x=y):iU:=⟨.e x y,h⟩
def vO {q:Prop} (h:q):iU:=⟨.p q,h⟩
def pK (P:Program) (e:TypeId) (t:av) {ys xs:List t.den} (h:ys=xs):iU:=⟨.o P none (some (.own e t ys)) e t xs,by subst h;simp [cx.ok,Ad,rV,ic,pF]⟩
def ah {p:Prop} [Decidable p] (h:p):iU:=aa (az h)
def aF {p:Prop} [Decidable p] (h:¬p):iU:=aa (ab h)
def cM {α:Type} [BEq α] [LawfulBEq α] {a b:α} (h:a=b):iU:=aa (fW.mpr h)
def yn {α:Type} [BEq α] [LawfulBEq α] {a b:α} (h:¬a=b):iU:=aa (eB.mpr h)
def yi {r:Int} (h: -9223372036854775808<=r/\r<=9223372036854775807):iU:=aa (eP h)
def Sw:Nat->Nat->List Bool
 |0,_=>[]
 |k+1,n=>cond (Nat.ble n 1) [] (Nat.beq (n%2) 1::Sw k (n/2))
def dl (n:Nat):List Bool:=Sw n n
def cx.fix:cx->cx
 | .b _ c=> .b c c
 | .e x _=> .e x x
 | .o P _ _ f t xs=> .o P none (a8 f t xs) f t xs
 | .p _=> .p True
def cx.Sy:cx->cx
 | .o P _ _ f t xs=> .o P none (some (.own f t xs)) f t xs
 |q=>q.fix
def FE:List iU->Nat->cx->cx
 |[],_,o=>o.fix
 |f::F,k,o=>cond (Nat.beq k 0) f.1 (FE F (k-1) o)
def FF (F:List iU):List cx->Nat->List cx
 |[],_=>[]
 |o::l,n=>cond (Nat.beq (n%64) 0) o.fix (cond (Nat.beq (n%64) 63) o.Sy (FE F (n%64-1) o))::FF F l (n/64)
def cx.Sz:∀o:cx,o.fix.ok
 | .b _ _=>rfl
 | .e _ _=>rfl
 | .o _ _ _ _ _ _=>acK _ _ _ _
 | .p _=>trivial
def cx.ac9:∀o:cx,o.Sy.ok
 | .b _ _=>rfl
 | .e _ _=>rfl
 | .o P _ _ f t _=>(pK P f t rfl).2
 | .p _=>trivial
def SA:∀(F:List iU) (k:Nat) (o:cx),(FE F k o).ok
 |[],_,o=>o.Sz
 |f::F,k,o=>by unfold FE;cases Nat.beq k 0<;>first |exact SA F _ o|exact f.2
def K5 (F:List iU):∀(l:List cx) (n:Nat),e7 (FF F l n)
 |[],_=>trivial
 |o::l,n=>⟨by cases Nat.beq (n%64) 0<;>cases Nat.beq (n%64) 63<;>first |exact o.Sz|exact o.ac9|exact SA F _ o,K5 F l _⟩
def aE.obs {α:Type} (w:Bool):aE α->List Bool->(α->List cx)->List cx
 | .ret a,_,q=>q a
 | .must b k,D,q=> .b b true::k.obs w D q
 | .ask b k,[],q=>(k b).obs w [] q
 | .ask b k,c::D,q=> .b b c::(k c).obs w D q
 | .opt b k l,D,q=> .b b (!w)::match w with |false=>k.obs w D q|true=>l.obs w D q
class CN {α:Type} (Q:α->Prop) where
 x4:α->List cx
 ok:∀a,e7 (x4 a)->Q a
instance (priority:=low) {α:Type} (Q:α->Prop):CN Q:=⟨fun a=>[.p (Q a)],fun _ h=>h.1⟩
def aE.CO {α:Type} {Q:α->Prop} {q:α->List cx} (hq:∀a,e7 (q a)->Q a):∀(x:aE α) (D:List Bool),e7 (x.obs false D q)->x.path D Q
 | .ret a,_,h=>hq a h
 | .must _ k,D,h=>⟨h.1,CO hq k D h.2⟩
 | .ask b k,[],h=>CO hq (k b) [] h
 | .ask _ k,c::D,h=>⟨h.1,CO hq (k c) D h.2⟩
 | .opt _ k _,D,h=>⟨h.1,CO hq k D h.2⟩
def aE.CP {α:Type} {Q:α->Prop} {q:α->List cx} (hq:∀a,e7 (q a)->Q a):∀(x:aE α) (D:List Bool),e7 (x.obs true D q)->x.tW D Q
 | .ret a,_,h=>hq a h
 | .must _ k,D,h=>⟨h.1,CP hq k D h.2⟩
 | .ask b k,[],h=>CP hq (k b) [] h
 | .ask _ k,c::D,h=>⟨h.1,CP hq (k c) D h.2⟩
 | .opt _ _ l,D,h=>⟨h.1,CP hq l D h.2⟩
def wy {α:Type} {r:aE α} {D:List Bool} {Q:α->Prop} [I:CN Q] (F:List iU) (n:Nat) (h:r.obs false D I.x4=FF F (r.obs false D I.x4) n:=by kernel_rfl):r.path D Q:=aE.CO I.ok r D (by rw [h];exact K5 F _ n)
def ada {α:Type} {r:aE α} {D:List Bool} {Q:α->Prop} [I:CN Q] (F:List iU) (n:Nat) (h:r.obs true D I.x4=FF F (r.obs true D I.x4) n:=by kernel_rfl):r.tW D Q:=aE.CP I.ok r D (by rw [h];exact K5 F _ n)
def mM (b:Bool) (l:List cx):List cx:=match b with |true=>l|false=>[.p False]
def Al (t u:av) (xs:List t.den) (ys:List u.den) (K:List cx):List cx:=if h:t=u then .e (h ▸ xs) ys::K else [.p False]
def K6 (z z':Bool) (n:Nat) (l:List cx):List cx:=match z',z with
 |true,false=> .b (Nat.ble 1 n) true::l
 |_,_=>l
def FG:Value->Value->List cx->List cx
 | .int k a, .int k' b,K=>mM (decide (k=k')) (.e a b::K)
 | .bool a, .bool b,K=> .e a b::K
 | .string a, .string b,K=> .e a b::K
 |a,b,K=> .e a b::K
def adb (m:Option Nat) (c c':bh) (K:List cx):List cx:=match m with
 |none=> .e c c'::K
 |some m=> .e c (.known m):: .e c' (bM m)::K
def K7 (σ:Ren) (i n:Nat) (c:bh) (j n':Nat) (c':bh) (K:List cx):List cx:=match look σ j with
 |some (i',m)=>mM (Nat.beq i i') (.e n n'::adb m c c' K)
 |none=>[.p False]
mutual
def CQ (σ:Ren):af->af->List cx->List cx
 |_, .bot,K=>K
 | .raw (.slice none 0 0), .bU _ _ _ _ n _,K=> .e n 0::K
 | .raw (.slice none 0 0), .bu _ _ ys,K=> .e ys []::K
 | .raw a, .raw b,K=>FG a b K
 | .ptr i off, .ptr j off',K=>mM (ob σ j i) (.e off off'::K)
 | .slice i off n c, .slice j off' n' c',K=>mM (ob σ j i) (.e off off':: .e n n':: .e c c'::K)
 | .slice i 0 n c, .bU _ _ j 0 n' c',K=>K7 σ i n c j n' c' K
 | .func f a b, .func f' a' b',K=>mM (decide (f=f')) (vP σ a a' (vP σ b b' K))
 | .map i, .map j,K=>mM (ob σ j i) K
 | .iface t v, .iface t' v',K=>mM (Nat.beq t t') (CQ σ v v' K)
 | .agg l, .agg l',K=>vP σ l l' K
 | .tuple l, .tuple l',K=>vP σ l l' K
 | .bu z t xs, .bu z' u ys,K=>Al t u xs ys (K6 z z' ys.length K)
 | .fB t xs k off, .fB u ys k' off',K=>Al t u xs ys (.e k k':: .e off off'::K)
 | .bU e t i k n c, .bU e' u j k' n' c',K=>mM (Nat.beq e e'&&(decide (t=u)&&ob σ j i)) (.e k k':: .e n n':: .e c c'::K)
 | .dH e t i k off, .dH e' u j k' off',K=>mM (Nat.beq e e'&&(decide (t=u)&&ob σ j i)) (.e k k':: .e off off'::K)
 |_,_,_=>[.p False]
def vP (σ:Ren):List af->List af->List cx->List cx
 |[],[],K=>K
 |v::l,v'::l',K=>CQ σ v v' (vP σ l l' K)
 |_,_,_=>[.p False]
end
def nB {b:Bool} {l:List cx} {p:Prop} {K:List cx} (h:e7 (mM b l)) (g:e7 l->p/\e7 K):ic b p/\e7 K:=by
 cases b with
 |true=>exact g h
 |false=>exact h.1.elim
def Am {t u:av} {xs:List t.den} {ys:List u.den} {K:List cx} (h:e7 (Al t u xs ys K)):pF t u xs ys/\e7 K:=by
 unfold Al at h;unfold pF;split at h
 .rename_i e;rw [dif_pos e];exact h
 .exact h.1.elim
def SB {z z':Bool} {n:Nat} {K:List cx} {p:Prop} (g:p) (h:e7 (K6 z z' n K)):Fw z z' n p/\e7 K:=by
 cases z'<;>cases z
 .exact⟨g,h⟩
 .exact⟨g,h⟩
 .exact⟨⟨g,h.1⟩,h.2⟩
 .exact⟨g,h⟩
def K8 {a b:Value} {K:List cx} (h:e7 (FG a b K)):xT a b/\e7 K:=by
 unfold FG at h;unfold xT;split at h
 .exact nB h fun h=>h
 .exact h
 .exact h
 .rename_i h1 h2 h3;refine⟨?_,h.2⟩;split
  .exact(h1 _ _ _ _ rfl rfl).elim
  .exact(h2 _ _ rfl rfl).elim
  .exact(h3 _ _ rfl rfl).elim
  .exact h.1
def ade {σ:Ren} {i n:Nat} {c:bh} {j n':Nat} {c':bh} {K:List cx} (h:e7 (K7 σ i n c j n' c' K)):Ac σ i n c j n' c'/\e7 K:=by
 unfold K7 at h;unfold Ac;cases hl:look σ j with
 |none=>simp only [hl]at h;exact h.1.elim
 |some q=>
  simp only [hl]at h ⊢;refine nB h fun h=> ?_
  obtain⟨q1,aP⟩:=q;cases aP with
  |none=>exact⟨⟨h.1,h.2.1⟩,h.2.2⟩
  |some m=>exact⟨⟨h.1,h.2.1,h.2.2.1⟩,h.2.2.2⟩
mutual
def FH {σ:Ren}:∀{v v':af} {K:List cx},e7 (CQ σ v v' K)->vJ σ v v'/\e7 K:=by
 intro v v' K h;unfold CQ at h;unfold vJ;split at h
 .exact⟨trivial,h⟩
 .exact h
 .exact h
 .exact K8 h
 .exact nB h fun h=>h
 .exact nB h fun h=>⟨⟨h.1,h.2.1,h.2.2.1⟩,h.2.2.2⟩
 .exact ade h
 .exact nB h fun h=>by
   obtain⟨h1,h2⟩:=An h;obtain⟨h2,h3⟩:=An h2;exact⟨⟨h1,h2⟩,h3⟩
 .exact nB h fun h=>⟨trivial,h⟩
 .exact nB h fun h=>FH h
 .exact An h
 .exact An h
 .exact SB (Am h).1 (Am h).2
 .obtain⟨h1,h2⟩:=Am h;exact⟨⟨h1,h2.1,h2.2.1⟩,h2.2.2⟩
 .exact nB h fun h=>⟨⟨h.1,h.2.1,h.2.2.1⟩,h.2.2.2⟩
 .exact nB h fun h=>⟨⟨h.1,h.2.1⟩,h.2.2⟩
 .exact h.1.elim
def An {σ:Ren}:∀{v v':List af} {K:List cx},e7 (vP σ v v' K)->rU σ v v'/\e7 K:=by
 intro v v' K h;unfold vP at h;unfold rU;split at h
 .exact⟨trivial,h⟩
 .obtain⟨h1,h2⟩:=FH h;obtain⟨h2,h3⟩:=An h2;exact⟨⟨h1,h2⟩,h3⟩
 .exact h.1.elim
end
def K9 (P:Program) (m:Option Nat) (b:Option bq) (e:TypeId) (t:av) (xs:List t.den) (K:List cx):List cx:=match b,m with
 |some (.own e' u ys),none=>mM (Nat.beq e e') (Al u t ys xs K)
 |b,m=> .p (rV P m b e t xs)::K
def La (P:Program) (σ:Ren) (H:ai) (p:Nat×fS) (K:List cx):List cx:=match look σ p.1 with
 |none=>(match p.2 with | .opt _ _ xs=> .e xs []::K| .blk _=>[.p False])
 |some (i,m)=>match p.2 with
  | .opt e t xs=> .o P m (H.get i) e t xs::K
  | .blk (.own e t xs)=>K9 P m (H.get i) e t xs K
  | .blk (.cells e cs x f r)=>(match H.get i,m with
    |some (.cells e' cs' x' f' r'),none=>mM (Nat.beq e e'&&(x==x'&&(f==f'&&r==r'))) (vP σ cs' cs K)
    |_,_=>[.p False])
  | .blk _=>[.p False]
def Lb (σ:Ren) (T:au af) (K:List cx):List (Nat×af)->List cx
 |[]=>K
 |p::l=>CQ σ ((T.get p.1).getD (.raw undef)) p.2 (Lb σ T K l)
def FI (P:Program) (σ:Ren) (H:ai):List (Nat×fS)->List cx
 |[]=>[]
 |p::l=>La P σ H p (FI P σ H l)
def Lc (P:Program) (σ:Ren) (n:Nat) (T:au af) (H:ai) (s:bI):List cx:=
 mM (Nat.beq s.n n&&(vK σ s.next&&(R9 s.next s.bH&&(Sa n s.sl&&Nat.ble 64 s.next)))) (Lb σ T (FI P σ H s.bH) s.sl)
def adf {P:Program} {m:Option Nat} {b:Option bq} {e:TypeId} {t:av} {xs:List t.den} {K:List cx} (h:e7 (K9 P m b e t xs K)):rV P m b e t xs/\e7 K:=by
 unfold K9 at h;split at h
 .unfold rV;exact nB h fun h=>Am h
 .exact h
def SC {P:Program} {σ:Ren} {H:ai} {p:Nat×fS} {K:List cx} (h:e7 (La P σ H p K)):Ae P σ H p/\e7 K:=by
 obtain⟨j,bH⟩:=p;unfold La at h;unfold Ae;cases hl:look σ j with
 |none=>
  simp only [hl]at h ⊢;cases bH with
  |opt e t xs=>exact h
  |blk k=>exact h.1.elim
 |some q=>
  simp only [hl]at h ⊢;cases bH with
  |opt e t xs=>exact h
  |blk k=>cases k with
   |own e t xs=>exact adf h
   |cells e cs x f r=>
    simp only at h ⊢;split at h
    .rename_i g1 g2;rw [g1,g2];exact nB h fun h=>An h
    .exact h.1.elim
   |_=>exact h.1.elim
def SD {P:Program} {σ:Ren} {n:Nat} {T:au af} {H:ai} {s:bI} (h:e7 (Lc P σ n T H s)):fit P σ n T H s:=by
 have h1:∀(l:List (Nat×fS)),e7 (FI P σ H l)->CB P σ H True l:=fun l=>by
  induction l with
  |nil=>exact fun h=>h
  |cons p l ih=>exact fun h=>⟨(SC h).1,ih (SC h).2⟩
 have h2:∀(l:List (Nat×af)),e7 (Lb σ T (FI P σ H s.bH) l)->Fx σ T (CB P σ H True s.bH) l:=fun l=>by
  induction l with
  |nil=>exact h1 _
  |cons p l ih=>exact fun h=>⟨(FH h).1,ih (FH h).2⟩
 unfold fit;exact(nB (K:=[]) h fun h=>⟨h2 _ h,trivial⟩).1
instance (P:Program) (n:Nat) (e:Exit) (σ:Ren) (s':bI):CN (ep P n e σ s') where
 x4:=fun r=>match r with
  | .normal T H []=>(match e with | .normal=>Lc P σ n T H s'|_=>[.p False])
  | .exit id T H []=>(match e with | .exit i=>mM (Nat.beq i id) (Lc P σ n T H s')|_=>[.p False])
  |_=>[.p False]
 ok:=fun r h=>by
  unfold ep;split at h
  .split at h
   .exact SD h
   .exact h.1.elim
  .split at h
   .exact(nB (K:=[]) h fun h=>⟨SD h,trivial⟩).1
   .exact h.1.elim
  .exact h.1.elim
mutual
def FJ (fr:Bool) (H:ai):af->af->List cx->List cx
 | .raw (.slice none 0 0), .bu _ _ ys,K=> .e ys []::K
 | .raw a, .raw b,K=>FG a b K
 | .bu z t xs, .bu z' u ys,K=>mM (!fr) (Al t u xs ys (K6 z z' ys.length K))
 | .bU e t i k len c, .bu z u ys,K=> .p (cG fr H (.bU e t i k len c) (.bu z u ys))::K
 | .slice i off n c, .bu z u ys,K=> .p (cG fr H (.slice i off n c) (.bu z u ys))::K
 | .agg l, .agg l',K=>CR fr H l l' K
 | .tuple l, .tuple l',K=>CR fr H l l' K
 |_,_,_=>[.p False]
def CR (fr:Bool) (H:ai):List af->List af->List cx->List cx
 |[],[],K=>K
 |v::l,v'::l',K=>FJ fr H v v' (CR fr H l l' K)
 |_,_,_=>[.p False]
end
def adg {fr:Bool} {H:ai} {a b:Value} (h:xT a b):cG fr H (.raw a) (.raw b):=by
 unfold cG;split
 .rename_i e;cases e
 .rename_i e1 e2;cases e1;cases e2;exact h
 all_goals first
  |(rename_i e _;cases e;done)
  |(rename_i g _ _ _ _ _;exact(g _ _ rfl rfl).elim)
mutual
def SE {fr:Bool} {H:ai}:∀{v v':af} {K:List cx},e7 (FJ fr H v v' K)->cG fr H v v'/\e7 K:=by
 intro v v' K h;unfold FJ at h;split at h
 .unfold cG;exact h
 .exact⟨adg (K8 h).1,(K8 h).2⟩
 .unfold cG;exact nB h fun h=>SB (Am h).1 (Am h).2
 .exact h
 .exact h
 .unfold cG;exact Ld h
 .unfold cG;exact Ld h
 .exact h.1.elim
def Ld {fr:Bool} {H:ai}:∀{v v':List af} {K:List cx},e7 (CR fr H v v' K)->tZ fr H v v'/\e7 K:=by
 intro v v' K h;unfold CR at h;unfold tZ;split at h
 .exact⟨trivial,h⟩
 .obtain⟨h1,h2⟩:=SE h;obtain⟨h2,h3⟩:=Ld h2;exact⟨⟨h1,h2⟩,h3⟩
 .exact h.1.elim
end
instance (P:Program) (fn:Func) (fresh:Bool) (res:af):CN (uf P fn fresh res) where
 x4:=fun r=>match r with
  | .ret T H []=>(match jX P fn T H with | .ok v _=>FJ fresh H v res []|_=>[.p False])
  |_=>[.p False]
 ok:=fun r h=>by
  split at h
  .show(match jX P fn _ _ with | .ok v _=>cG fresh _ v res|_=>False)
   split at h
   .exact(SE h).1
   .exact h.1.elim
  .exact h.1.elim
end
end
section
variable [Ground]
noncomputable section
structure gW where
 f:FuncId
 e:TypeId
 t:av
 ps:List av
 rs:List av
 pre:List t.den->Nat->Nat->iD ps->Bool
 out:List t.den->Nat->Nat->iD ps->List t.den
 fn:List t.den->Nat->Nat->iD ps->iD rs
def qE (A:Nat->Option (Nat×Nat)) (Y:Nat->Option Obj):Ext:={rd:=none,K:=fun _=>none,R:=fun _ _=>False,pin:=[64],A:=A,Y:=Y}
def qF (e:TypeId) (t:av) (xs:List t.den):ai:=⟨Ab .nil [(64, .blk (.own e t xs))],65⟩
def CS (P:Program) (fn:Func) (e:TypeId) (t:av) (xs:List t.den) (res:af):Exit->au af->ai->Prop:=fun ex T H=>match ex with
 | .normal| .ret=>(match jX P fn T H with | .ok v _=>cG true H v res/\H.get 64=some (.own e t xs)|_=>False)
 |_=>False
def CT:List av->Bool
 |[]=>true
 |t::l=>t.lS&&CT l
def gW.Ok (P:Program) (c:gW):Prop:=c.t.lS=true/\CT c.rs=true/\∃fn code,P.funcs[c.f]? =some fn/\fn.body=some code/\c.ps.length+1<=fn.ntmps/\
 ∀(xs:List c.t.den) (k len:Nat) (cap:bh) (d:iD c.ps),c.pre xs k len d=true->1<=len->k+len<=xs.length->∀A Y w F,
  cg (qE A Y) P w F fn.ntmps (fl code []) (fX (.bU c.e c.t 64 k len cap::ga c.ps d) .nil 0) (qF c.e c.t xs) (CS P fn c.e c.t (c.out xs k len d) (og c.rs (c.fn xs k len d)))
def x5 (c:gW) (args:List af) (H:ai):aE aM:=match args with
 | .bU e t i k len _::vs=>(match Nat.beq e c.e&&decide (t=c.t)with
   |true=>ud H false (.ret .no) c.ps vs fun d=> .must (bA c.e c.t (H.get i) (k+len-1)&&Nat.ble 1 len) (.must (c.pre (bP c.t (H.get i)) k len d)
     (.ret (.ok (og c.rs (c.fn (bP c.t (H.get i)) k len d)) (H.set i (.own c.e c.t (c.out (bP c.t (H.get i)) k len d))))))
   |false=> .ret .no)
 |_=> .ret .no
def Ao (l:List gW) (bw:bG):bG:=fun f args H=>match l with
 |[]=>bw f args H
 |c::l=>match Nat.beq f c.f with |true=>x5 c args H|false=>Ao l bw f args H
section
variable {P:Program} {B:Nat} {ρ:Env} {H:ai} {w:World}
def Le:∀(ts:List av) (d:iD ts),(ga ts d).length=ts.length
 |[],_=>rfl
 |_::l,d=>by simp [ga,Le l d.2]
def adh {F F':Env} {t:av} (ht:t.lS=true) {d:t.den} {x:Value} (h:Den F (wa t d) x):Den F' (wa t d) x:=by
 cases ha:t.isAgg with
 |true=>
  unfold wa at h ⊢;rw [ha]at h ⊢;obtain⟨xs,g1,rfl⟩:=h.tG;exact .agg (xX t d xs ht g1)
 |false=>
  have h1:aI F (t.cells d) [x]:=by rw [CL ha];exact .cons h .nil
  have h2:=xX (ρ':=F') t d _ ht h1;rw [CL ha]at h2;cases h2 with |cons g _=>exact g
def SF {F F':Env}:∀(ts:List av),CT ts=true->∀{d:iD ts} {xs:List Value},aI F (ga ts d) xs->aI F' (ga ts d) xs
 |[],_,_,_,h=>by cases h;exact .nil
 |t::l,hn,d,_,h=>by
  have hn:(t.lS&&CT l)=true:=hn;rw [ae]at hn;cases h with
  |cons h1 h2=>exact .cons (adh hn.1 h1) (SF l hn.2 h2)
def adi {F F':Env} {rs:List av} (hn:CT rs=true) {d:iD rs} {x:Value} (h:Den F (og rs d) x):Den F' (og rs d) x:=by
 have key:∀l,ga rs d=l->Den F (match l with |[v]=>v|vs=> .tuple vs) x->Den F' (match l with |[v]=>v|vs=> .tuple vs) x:=by
  intro l hl hd;have hds:∀xs,aI F l xs->aI F' l xs:=fun xs hx=>by rw [<-hl]at hx ⊢;exact SF rs hn hx
  split at hd
  .rename_i v;have:=hds [x] (.cons hd .nil);cases this with |cons g _=>exact g
  .obtain⟨xs,g1,rfl⟩:=hd.B4;exact .tuple (hds _ g1)
 exact key _ rfl h
def ma {ρ ρ':Env} {t:av} (ht:t.lS=true) {xs:List t.den} {ys:List Value} (h:aI ρ (t.flat xs) ys):aI ρ' (t.flat xs) ys:=oc (fun d ys=>xX t d ys ht) xs ys h
def Ap {e:TypeId} {t:av} {xs:List t.den} {i:Nat} {k:bq} (h:(qF e t xs).get i=some k):i=64/\k= .own e t xs:=by
 have h:(Ab .nil [(64, .blk (.own e t xs))]).get i=some k:=h;rw [KK]at h;by_cases hi:i=64
 .subst hi;cases h;exact⟨rfl,rfl⟩
 .have hb:Nat.beq 64 i=false:=by
   cases hb:Nat.beq 64 i with
   |false=>rfl
   |true=>exact absurd (ac hb).symm hi
  simp only [List.find?,hb]at h;rw [au.get_nil]at h;cases h
def adj {c:gW} {args:List af} {v:af} {H':ai} (h:(x5 c args H).gr=some (.ok v H')):∃i k len cap vs xs d,args= .bU c.e c.t i k len cap::vs/\H.get i=some (.own c.e c.t xs)/\1<=len/\k+len<=xs.length/\c.pre xs k len d=true/\
  v=og c.rs (c.fn xs k len d)/\H'=H.set i (.own c.e c.t (c.out xs k len d))/\(∀F xv,bk P B ρ H w->F=jF false w ρ->aI ρ vs xv->aI F (ga c.ps d) xv):=by
 unfold x5 at h;split at h
 .rename_i e t i k len cap vs;split at h
  .rename_i he;rw [ae]at he;have e1:=ac he.1;have e2:=ap he.2;subst e1;subst e2;have main:∃d:iD c.ps,(aE.must (bA c.e c.t (H.get i) (k+len-1)&&Nat.ble 1 len) (.must (c.pre (bP c.t (H.get i)) k len d)
    (.ret (aM.ok (og c.rs (c.fn (bP c.t (H.get i)) k len d)) (H.set i (.own c.e c.t (c.out (bP c.t (H.get i)) k len d))))))).gr=some (.ok v H')/\(∀F xv,bk P B ρ H w->F=jF false w ρ->aI ρ vs xv->aI F (ga c.ps d) xv):=by
    by_cases hH:bk P B ρ H w
    .obtain⟨d,h1,h2⟩:=FD (w:=w) hH (cH:=false) (no:=aE.ret aM.no) (b:=aM.ok v H') (by simp [aE.gr]) c.ps h;exact⟨d,h1,fun F xv _ hF hx=>by subst hF;exact h2 xv hx⟩
    .obtain⟨d,h1⟩:=CK (cH:=false) (no:=aE.ret aM.no) (b:=aM.ok v H') (by simp [aE.gr]) c.ps h;exact⟨d,h1,fun F xv hh=>absurd hh hH⟩
   obtain⟨d,h1,h2⟩:=main;cases hm:(bA c.e c.t (H.get i) (k+len-1)&&Nat.ble 1 len)with
   |false=>rw [hm]at h1;cases h1
   |true=>
    rw [hm]at h1;rw [ae]at hm;obtain⟨b1,b2⟩:=vq hm.1;have b3:=bV hm.2;cases hp:c.pre (bP c.t (H.get i)) k len d with
    |false=>rw [hp]at h1;cases h1
    |true=>
     rw [hp]at h1;simp only [aE.gr,cond_true,tj,aM.ok.injEq]at h1;obtain⟨rfl,rfl⟩:=h1;exact⟨i,k,len,cap,vs,bP c.t (H.get i),d,rfl,b1,b3,by omega,hp,rfl,rfl,h2⟩
  .cases h
 .cases h
def adk {c:gW} (hc:c.Ok P) {args:List af} {v:af} {H':ai} (h:(x5 c args H).gr=some (.ok v H')) {xs:List Value} (m:Nat) (hH:bk P B ρ H w) (cv:n9 ρ) (hd:aI ρ args xs):CallsIn (dU none) m P c.f xs.toArray w (dt P B ρ H w v H'):=by
 obtain⟨i,k,len,cap,vs,us,d,rfl,hi,hlen,hk,hp,rfl,rfl,hvs⟩:=adj (P:=P) (B:=B) (ρ:=ρ) (w:=w) h;obtain⟨vQ,hrl,fn,code,hf,hb,hn,hbody⟩:=hc;cases hd with
 |cons CU hds=>
  rename_i x0 xr;rcases CU.jA with⟨h0,_⟩|⟨b,c0,kc,hr,hcap,hlk,rfl⟩
  .omega
  obtain⟨b',c',o,e1,e2,e3,bW⟩:=hH.blk i _ hi;rw [hr]at e1;cases e1;have lK:b<w.heap.size:=(dG.1 e2).1
  let x6:Env:=⟨fun j=>if j<64 then ρ j else if j=64 then some (b,c0)else none,ρ.fz⟩
  let A:Nat->Option (Nat×Nat):=fun j=>if j=64 then some (b,c0)else none
  let Y:Nat->Option Obj:=fun q=>if q=b then none else w.heap[q]?
  let w0:World:={w with heap:=w.heap.extract 0 b}
  have hw0:w0.heap.size=b:=by show(w.heap.extract 0 b).size=b;simp;omega
  have jE:x6 64=some (b,c0):=rfl;have hown:∀en:Env,en 64=some (b,c0)->∀o,gT P ρ i (.own c.e c.t us) o->gT P en 64 (.own c.e c.t us) o:=by
   rintro en h2 o ⟨⟨zs,fz,g1,g2,g3,g4,g5⟩,g6⟩;refine⟨⟨zs,fz,g1,g2,ma vQ g3,g4,fun hx=> ?_⟩,g6⟩;obtain⟨b1,c1,q1,aP⟩:=g5 hx;rw [hr]at q1;cases q1;exact⟨b,c0,h2,aP⟩
  have Lf:bk P b x6 (qF c.e c.t us) w:=by
   refine⟨fun j q hj=> ?_,fun j j' q q' bb cn FK hj hj' _ _=> ?_,fun j q hj=> ?_,Nat.le_of_lt lK,fun bb j5 hz=> ?_⟩
   .obtain⟨rfl,rfl⟩:=Ap hj;exact⟨b,c0,o,rfl,e2,hown _ rfl _ e3,fun _=>aK _⟩
   .rw [(Ap hj).1,(Ap hj').1]
   .rw [(Ap hj).1];exact fL _
   .refine⟨(hH.fz bb j5 hz).1,fun j q cn hj hr'=> ?_⟩;obtain⟨rfl,rfl⟩:=Ap hj;rw [jE]at hr';cases hr';exact(hH.fz _ j5 hz).2 i _ c0 hi hr
  have adl:aI x6 (.bU c.e c.t 64 k len cap::ga c.ps d) (.slice (some ⟨b,k*c.t.size,none⟩) len kc::xr):=by
   refine .cons (.bU jE hcap hlk) (aI.mono (ρ:=jF false w ρ) (ρ':=x6) ⟨fun j x hj=> ?_,fun _ _ h=>h⟩ (hvs _ xr hH rfl hds));have hj:(if j<64 then ρ j else none)=some x:=hj;by_cases h6:j<64
   .rw [if_pos h6]at hj;show(if j<64 then ρ j else _)=some x;rw [if_pos h6];exact hj
   .rw [if_neg h6]at hj;cases hj
  have hs:mK (qE A Y) P w0 x6 fn.ntmps (fX (.bU c.e c.t 64 k len cap::ga c.ps d) .nil 0) (qF c.e c.t us) {tmps:=(Value.slice (some ⟨b,k*c.t.size,none⟩) len kc::xr).toArray++Array.replicate (fn.ntmps-(Value.slice (some ⟨b,k*c.t.size,none⟩) len kc::xr).toArray.size) undef,defers:=[]} w:=by
   refine⟨⟨x6,⟨Ce adl (by simp [Le];omega),by rw [hw0];exact Lf,fun g hg=> ?_,cv.zR⟩,fun j hj=> ?_,fun bb j5 hz=> .inl hz,⟨fun bb kB h=>(by cases h),fun j hj=> ?_,fun bb j5 h=>(by cases h),Nat.zero_le _,fun bb kB h=>(by cases h),rfl,fun bb kB hy=> ?_⟩⟩,⟨rfl,rfl,rfl,by rw [hw0];exact Nat.le_of_lt lK,fun q hq=> ?_⟩,rfl⟩
   .obtain⟨Lg,Lh⟩:=cv.at' g hg;exact⟨Lg,by show(if g<64 then ρ g else _)=_;rw [if_pos hg];exact Lh⟩
   .have hj:65<=j:=hj;show(if j<64 then ρ j else if j=64 then some (b,c0)else none)=none;rw [if_neg (by omega),if_neg (by omega)]
   .have hj:j∈[64]:=hj;rw [List.mem_singleton]at hj;subst hj;exact⟨fL _,fun x hx=>hx⟩
   .have hy:(if bb=b then none else w.heap[bb]?)=some kB:=hy;by_cases hbb:bb=b
    .rw [if_pos hbb]at hy;cases hy
    .rw [if_neg hbb]at hy;refine⟨hy,fun⟨j,q,cn,hj,_,hr'⟩=> ?_⟩;obtain⟨rfl,rfl⟩:=Ap hj;rw [jE]at hr';cases hr';exact hbb rfl
   .have hq:q<b:=by rw [<-hw0];exact hq
    show w.heap[q]? =(w.heap.extract 0 b)[q]?;rw [Array.getElem?_extract];rw [if_pos (by omega)];simp
  refine callsIn_of_wp_marks hf hb trivial (wpIn_mono (vN (by have:=hbody us k len cap d hp hlen hk A Y w0 x6;rwa [fl,K4]at this) _ _ hs m) fun e a' w' hh=> ?_);obtain⟨aO,H1,h1,h2⟩:=hh.resolve_right fun q=>q.2
  obtain⟨en,aR,hnone,hfz,hkp⟩:=h2.ex;have hd':=h2.defers;have key:(match jX P fn aO H1 with | .ok v _=>cG true H1 v (og c.rs (c.fn us k len d))/\H1.get 64=some (.own c.e c.t (c.out us k len d))|_=>False)->LeavesInM (dU none) m P fn a'.tmps (dt P B ρ H w (og c.rs (c.fn us k len d)) (H.set i (.own c.e c.t (c.out us k len d)))) a'.defers .returning w':=by
   intro qG;split at qG
   .rename_i v1 H2 hres;obtain⟨kU,hr2⟩:=qG;have nx:eF en [] a'.defers:=hd';refine xG (T:=aO) (H:=H1) [] aR nx (show ko P fn aO H1 []= .ok v1 H2 from hres) fun y w2 r1 r2 r3=> ?_
    obtain⟨rfl,_⟩:=EZ aR hres;have hk2:=KR hkp r3;have SG:en 64=some (b,c0):=(hk2.pin 64 (List.mem_singleton.2 rfl)).2 (b,c0) rfl;have iA:=h2.below.trans (r3.below aR.H);have hsz:w.heap.size<=w2.heap.size:=by
     by_cases hz:w.heap.size=b+1
     .obtain⟨b1,c1,o1,q1,aP,_⟩:=r2.blk 64 _ hr2;rw [SG]at q1;cases q1;have:=(dG.1 aP).1;omega
     .have hy:=hk2.y (w.heap.size-1) _ (show(if w.heap.size-1=b then none else w.heap[w.heap.size-1]?)=some (w.heap[w.heap.size-1]'(by omega)) by rw [if_neg (by omega)];simp);have:=(dG.1 hy.1).1;omega
    have hkeep:∀q,q<w.heap.size->q≠b->w2.heap[q]? =w.heap[q]? :=fun q hq gb=>by
     have hy:=hk2.y q _ (show(if q=b then none else w.heap[q]?)=some (w.heap[q]'hq) by rw [if_neg gb];simp [hq]);rw [hy.1];simp [hq]
    have hnf:∀bb j5,ρ.fz bb=some j5->bb≠b/\bb<w.heap.size:=fun bb j5 hz=>by
     obtain⟨⟨ee,fr,q1⟩,aP⟩:=hH.fz bb j5 hz;refine⟨fun hbb=> ?_,(dG.1 q1).1⟩;subst hbb;have:=aP i _ c0 hi hr;cases this
    have vR:∀j q,(H.set i (.own c.e c.t (c.out us k len d))).get j=some q->∃q',H.get j=some q'/\q'.eU=q.eU:=fun j q hj=>by
     rw [ai.gp]at hj;by_cases hij:i=j
     .subst hij;rw [if_pos rfl]at hj;cases hj;exact⟨_,hi,rfl⟩
     .rw [if_neg hij]at hj;exact⟨q,hj,rfl⟩
    refine⟨y,ρ,rfl,adi hrl (FA r2 hfz kU r1),⟨fun j q hj=> ?_,fun j j' q q' bb cn FK hj hj' gV adm=> ?_,fun j q hj=> ?_,dc hH.base hsz,fun bb j5 hz=> ?_⟩,
     ⟨cD.refl _,fun _ _=>rfl,aK _,hsz,iA.os,iA.tape,iA.output,fun q hq hno=> ?_,fun q hq ⟨j,aP,cn,hj,hro,gV⟩=> ?_,fun q hq ⟨j,aP,cn,hj,gV⟩=> ?_,fun _ _ h=> .inl h⟩⟩
    .rw [ai.gp]at hj;by_cases hij:i=j
     .subst hij;rw [if_pos rfl]at hj;cases hj;obtain⟨b1,c1,o1,q1,aP,⟨⟨zs,fz,g1,g2,g3,g4,g5⟩,g6⟩,_⟩:=r2.blk 64 _ hr2;have g5:=g5 rfl;rw [SG]at q1 g5;cases q1;refine⟨b,c0,o1,hr,aP,⟨⟨zs,fz,g1,g2,ma vQ g3,g4,fun _=> ?_⟩,g6⟩,fun _=>bW rfl⟩;obtain⟨b3,c3,k1,k2⟩:=g5;cases k1;exact⟨b,c0,hr,k2⟩
     .rw [if_neg hij]at hj;obtain⟨bj,cn,oj,p1,p2,p3,dM⟩:=hH.blk j q hj;have hne:bj≠b:=fun hbb=>hij (hH.inj i j _ _ b c0 cn hi hj hr (by rw [<-hbb];exact p1))
      exact⟨bj,cn,oj,p1,(hkeep bj (dG.1 p2).1 hne).trans p2,p3,dM⟩
    .obtain⟨q1,g1,_⟩:=vR j q hj;obtain⟨aP,g2,_⟩:=vR j' q' hj';exact hH.inj j j' _ _ bb cn FK g1 g2 gV adm
    .obtain⟨q1,g1,_⟩:=vR j q hj;exact hH.lt j _ g1
    .obtain⟨hnb,hlt⟩:=hnf bb j5 hz;obtain⟨⟨ee,fr,q1⟩,aP⟩:=hH.fz bb j5 hz;refine⟨⟨ee,fr,(hkeep bb hlt hnb).trans q1⟩,fun j q cn hj gV=> ?_⟩;obtain⟨q',g1,g2⟩:=vR j q hj;rw [<-g2];exact aP j q' cn g1 gV
    .exact hkeep q hq fun gb=>hno ⟨i,_,c0,hi,rfl,by rw [gb];exact hr⟩
    .obtain⟨q',g1,g2⟩:=vR j aP hj;exact⟨j,q',cn,g1,g2.trans hro,gV⟩
    .obtain⟨q',g1,_⟩:=vR j aP hj;exact⟨j,q',cn,g1,gV⟩
   .exact qG.elim
  cases e with
  |normal=>exact key h1
  |ret=>exact key h1
  |_=>exact h1.elim
def Li {bw:bG} {f:FuncId} {args:List af} {v:af} {H':ai}:∀{l:List gW},(Ao l bw f args H).gr=some (.ok v H')->(∃c∈l,c.f=f/\(x5 c args H).gr=some (.ok v H'))\/(bw f args H).gr=some (.ok v H')
 |[],h=> .inr h
 |c::l,h=>by
  unfold Ao at h;cases hb:Nat.beq f c.f with
  |true=>simp only [hb]at h;exact .inl ⟨c,mj,(ac hb).symm,h⟩
  |false=>
   simp only [hb]at h;rcases Li h with⟨c',h1,h2⟩|h1
   .exact .inl ⟨c',mh _ h1,h2⟩
   .exact .inr h1
def adn {c:gW} {args:List af} {v:af} {H':ai} (h:(x5 c args H).gr=some (.ok v H')):H'.next=H.next:=by
 unfold x5 at h;split at h
 .rename_i e t i k len cap vs;split at h
  .obtain⟨d,h1⟩:=CK (cH:=false) (no:=aE.ret aM.no) (b:=aM.ok v H') (by simp [aE.gr]) c.ps h;cases hm:(bA c.e c.t (H.get i) (k+len-1)&&Nat.ble 1 len)with
   |false=>rw [hm]at h1;cases h1
   |true=>
    rw [hm]at h1;cases hp:c.pre (bP c.t (H.get i)) k len d with
    |false=>rw [hp]at h1;cases h1
    |true=>
     rw [hp]at h1;simp only [aE.gr,cond_true,tj,aM.ok.injEq]at h1;obtain⟨_,rfl⟩:=h1;rfl
  .cases h
 .cases h
def SH {l:List gW} {bw:bG} (hl:∀c∈l,c.Ok P) (hS:bD P (bF bw)):bD P (bF (Ao l bw)) where
 mono f args H v H' h:=by
  rcases Li (rW h)with⟨c,_,_,h3⟩|h3
  .rw [adn h3];exact aK _
  .exact hS.mono f args H v H' (by unfold bF;rw [h3];rfl)
 cz f args H v H' h B ρ xs w m hH cv hd hf:=by
  rcases Li (rW h)with⟨c,h1,rfl,h3⟩|h3
  .exact adk (hl c h1) h3 m hH cv hd
  .exact hS.cz f args H v H' (by unfold bF;rw [h3];rfl) B ρ xs w m hH cv hd hf
structure rY where
 f:FuncId
 res:List af->aE (Option af)
def rY.Ok (P:Program) (c:rY):Prop:=∀args v,(c.res args).gr=some (some v)->∀(w:World) (F:Env) (xs:List Value),(∀b A,F.fz b=some A->∃e fr,w.heap[b]? =some (.cells A e fr))->vL F->aI F args xs->
 Calls P c.f xs.toArray w fun e w'=>∃x,e= .returned x/\Den F v x/\Below w.heap.size w w'
def CV (c:rY) (args:List af) (H:ai):aE aM:=(c.res args).bind fun r=>match r with |some v=> .ret (.ok v H)|none=> .ret .no
def Aq (l:List rY) (bw:bG):bG:=fun f args H=>match l with
 |[]=>bw f args H
 |c::l=>match Nat.beq f c.f with |true=>CV c args H|false=>Aq l bw f args H
def w7 {c:rY} {args:List af} {v:af} {H':ai} (h:(CV c args H).gr=some (.ok v H')):H'=H/\(c.res args).gr=some (some v):=by
 unfold CV at h;rw [aE.qy]at h;cases hr:(c.res args).gr with
 |none=>rw [hr]at h;cases h
 |some r=>
  rw [hr]at h;cases r with
  |none=>cases h
  |some v'=>cases h;exact⟨rfl,rfl⟩
def ado {c:rY} (hc:c.Ok P) {args:List af} {v:af} {H':ai} (h:(CV c args H).gr=some (.ok v H')) {xs:List Value} (m:Nat) (hH:bk P B ρ H w) (cv:n9 ρ) (hd:aI ρ args xs):CallsIn (dU none) m P c.f xs.toArray w (dt P B ρ H w v H'):=by
 obtain⟨rfl,h1⟩:=w7 h;have KX:=hc args v h1 w ρ xs (fun b A hb=>(hH.fz b A hb).1) cv.zR hd;have hin:CallsIn (dU none) m P c.f xs.toArray w _:=callsIn_wide.2 KX;refine hin.mono ?_;rintro e w' ⟨x,rfl,hx,hb⟩;have hkeep:∀b o,w.heap[b]? =some o->w'.heap[b]? =some o:=fun b o ho=>(hb.block b (dG.1 ho).1).trans ho
 refine⟨x,ρ,rfl,hx,⟨fun i k hi=> ?_,hH.inj,hH.lt,dc hH.base hb.size,fun b A kA=> ?_⟩,⟨cD.refl _,fun _ _=>rfl,aK _,hb.size,hb.os,hb.tape,hb.output,fun b hlt _=>hb.block b hlt,fun _ _ h=>h,fun _ _ h=>h,fun b A kA=> .inl kA⟩⟩
 .obtain⟨b,c',o,e1,e2,e3,bW⟩:=hH.blk i k hi;exact⟨b,c',o,e1,hkeep b o e2,e3,bW⟩
 .obtain⟨⟨e,fr,h3⟩,h4⟩:=hH.fz b A kA;exact⟨⟨e,fr,hkeep b _ h3⟩,h4⟩
def Lj {bw:bG} {f:FuncId} {args:List af} {v:af} {H':ai}:∀{l:List rY},(Aq l bw f args H).gr=some (.ok v H')->(∃c∈l,c.f=f/\(CV c args H).gr=some (.ok v H'))\/(bw f args H).gr=some (.ok v H')
 |[],h=> .inr h
 |c::l,h=>by
  unfold Aq at h;cases hb:Nat.beq f c.f with
  |true=>simp only [hb]at h;exact .inl ⟨c,mj,(ac hb).symm,h⟩
  |false=>
   simp only [hb]at h;rcases Lj h with⟨c',h1,h2⟩|h1
   .exact .inl ⟨c',mh _ h1,h2⟩
   .exact .inr h1
def SI {l:List rY} {bw:bG} (hl:∀c∈l,c.Ok P) (hS:bD P (bF bw)):bD P (bF (Aq l bw)) where
 mono f args H v H' h:=by
  rcases Lj (rW h)with⟨c,_,_,h3⟩|h3
  .rw [(w7 h3).1];exact aK _
  .exact hS.mono f args H v H' (by unfold bF;rw [h3];rfl)
 cz f args H v H' h B ρ xs w m hH cv hd hf:=by
  rcases Lj (rW h)with⟨c,h1,rfl,h3⟩|h3
  .exact ado (hl c h1) h3 m hH cv hd
  .exact hS.cz f args H v H' (by unfold bF;rw [h3];rfl) B ρ xs w m hH cv hd hf
end
end
end
section
variable [Ground]
noncomputable section
structure qH where
 f:FuncId
 e:TypeId
 t:av
 ps:List av
 pre:iD ps->Bool
 out:iD ps->List t.den
def Ll (P:Program) (fn:Func) (e:TypeId) (t:av) (xs:List t.den):Exit->au af->ai->Prop:=fun ex T H=>match ex with
 | .normal| .ret=>(match jX P fn T H with
   | .ok (.bU e' t' i k n cap) _=>e'=e/\k=0/\n=xs.length/\cap= .full/\t'=t/\H.get i=some (.own e t xs)
   |_=>False)
 |_=>False
def qH.Ok (P:Program) (c:qH):Prop:=c.t.lS=true/\∃fn code,P.funcs[c.f]? =some fn/\fn.body=some code/\c.ps.length<=fn.ntmps/\
 ∀d:iD c.ps,c.pre d=true->1<=(c.out d).length/\∀w F,aW P w F fn.ntmps (fl code []) (fX (ga c.ps d) .nil 0) H0 (Ll P fn c.e c.t (c.out d))
def FL (c:qH) (args:List af) (H:ai):aE aM:=ud H false (.ret .no) c.ps args fun d=> .must (c.pre d) (.ret (.ok (.bU c.e c.t H.next 0 (c.out d).length .full) (H.new (.own c.e c.t (c.out d)))))
def CW (l:List qH) (bw:bG):bG:=fun f args H=>match l with
 |[]=>bw f args H
 |c::l=>match Nat.beq f c.f with |true=>FL c args H|false=>CW l bw f args H
section
variable {P:Program} {B:Nat} {ρ:Env} {H:ai} {w:World}
def adp {c:qH} {args:List af} {v:af} {H':ai} (h:(FL c args H).gr=some (.ok v H')):H'.next=H.next+1:=by
 obtain⟨d,h1⟩:=CK (cH:=false) (no:=aE.ret aM.no) (b:=aM.ok v H') (by simp [aE.gr]) c.ps h;cases hp:c.pre d with
 |false=>rw [hp]at h1;cases h1
 |true=>rw [hp]at h1;cases h1;rfl
def Kx {c:qH} (hc:c.Ok P) {args:List af} {v:af} {H':ai} (h:(FL c args H).gr=some (.ok v H')) {xs:List Value} (m:Nat) (hH:bk P B ρ H w) (cv:n9 ρ) (hd:aI ρ args xs) (hfr:Fr ρ H.next H'.next):CallsIn (dU none) m P c.f xs.toArray w (dt P B ρ H w v H'):=by
 obtain⟨vQ,fn,code,hf,hb,hn,hbody⟩:=hc;obtain⟨d,h1,h2⟩:=FD (w:=w) hH (cH:=false) (no:=aE.ret aM.no) (b:=aM.ok v H') (by simp [aE.gr]) c.ps h;have hp:c.pre d=true/\v= .bU c.e c.t H.next 0 (c.out d).length .full/\H'=H.new (.own c.e c.t (c.out d)):=by
  cases hp:c.pre d with
  |false=>rw [hp]at h1;cases h1
  |true=>rw [hp]at h1;cases h1;exact⟨rfl,rfl,rfl⟩
 obtain⟨hp,rfl,rfl⟩:=hp;obtain⟨hlen,hgo⟩:=hbody d hp;have hds:=h2 xs hd;have FM:∀i x,(jF false w ρ) i=some x->i<64:=fun i x hx=>by
  have hx:(if i<64 then ρ i else none)=some x:=hx;by_cases h:i<64
  .exact h
  .rw [if_neg h]at hx;cases hx
 have Lf:bk P w.heap.size (jF false w ρ) H0 w:=⟨fun i k h=>(by rw [show H0.get i=none from au.get_nil i]at h;cases h),fun i j eN e5 b ci cn h=>(by rw [show H0.get i=none from au.get_nil i]at h;cases h),fun i k h=>(by rw [show H0.get i=none from au.get_nil i]at h;cases h),aK _,
  fun b A h=>⟨(hH.fz b A h).1,fun i k c hi=>(by rw [show H0.get i=none from au.get_nil i]at hi;cases hi)⟩⟩
 have hs:Sat P w (jF false w ρ) fn.ntmps (fX (ga c.ps d) .nil 0) H0 {tmps:=xs.toArray++Array.replicate (fn.ntmps-xs.toArray.size) undef,defers:=[]} w:=by
  refine⟨⟨jF false w ρ,⟨Ce hds (by rw [Le];exact hn),Lf,fun g hg=> ?_,cv.zR⟩,fun i hi=> ?_,fun b A h=> .inl h,⟨fun b o h=>(by cases h),fun i hi=>(by cases hi),fun b A h=>(by cases h),Nat.zero_le _,fun b o h=>(by cases h),rfl,fun b o h=>(by cases h)⟩⟩,Below.refl _ _,rfl⟩
  .obtain⟨Lg,Lh⟩:=cv.at' g hg;exact⟨Lg,by show(if g<64 then ρ g else none)=_;rw [if_pos hg];exact Lh⟩
  .have hi:64<=i:=hi;cases CG:(jF false w ρ) i with
   |none=>rfl
   |some x=>exact absurd (FM i x CG) (by omega)
 refine callsIn_of_wp_marks hf hb trivial (wpIn_mono (vN (by have:=hgo w (jF false w ρ);rwa [fl,K4]at this) _ _ hs m) fun e a' w' hh=> ?_);obtain⟨aO,H1,g1,g2⟩:=hh.resolve_right fun q=>q.2
 obtain⟨en,aR,hnone,hfz,_⟩:=g2.ex;have hd':=g2.defers;have key:(match jX P fn aO H1 with | .ok (.bU e' t' i k n cap) _=>e'=c.e/\k=0/\n=(c.out d).length/\cap= .full/\t'=c.t/\H1.get i=some (.own c.e c.t (c.out d))|_=>False)->LeavesInM (dU none) m P fn a'.tmps (dt P B ρ H w (.bU c.e c.t H.next 0 (c.out d).length .full) (H.new (.own c.e c.t (c.out d)))) a'.defers .returning w':=by
  intro hr;split at hr
  .rename_i e' t' i k n cap H2 hres;obtain⟨rfl,rfl,rfl,rfl,rfl,vR⟩:=hr;have nx:eF en [] a'.defers:=hd';refine xG (T:=aO) (H:=H1) [] aR nx (show ko P fn aO H1 []= .ok _ H2 from hres) fun y w2 r1 r2 r3=> ?_
   obtain⟨rfl,_⟩:=EZ aR hres;have iA:=g2.below.trans (r3.below aR.H);rcases r1.jA with⟨h0,_⟩|⟨b,c0,kc,q1,aP,b8,rfl⟩
   .omega
   obtain⟨b',c',o,e1,e2,e3,bW⟩:=r2.blk i _ vR;rw [q1]at e1;cases e1;have hB:w.heap.size<=b:=bW rfl;have hkeep:∀q,q<w.heap.size->w2.heap[q]? =w.heap[q]? :=fun q hq=>iA.block q hq
   have hnx:ρ H.next=none:=hfr H.next (aK _) (fL _)
   let ρ':Env:=⟨fun j=>if j=H.next then some (b,c0)else ρ j,ρ.fz⟩
   have hnew:ρ' H.next=some (b,c0):=if_pos rfl;have hold:∀j,j≠H.next->ρ' j=ρ j:=fun j hj=>if_neg hj
   have hle:cD ρ ρ':=⟨fun j x hj=>by
    by_cases hjn:j=H.next
    .rw [hjn,hnx]at hj;cases hj
    .rw [hold j hjn];exact hj,fun _ _ h=>h⟩
   have auh:∀j,H.get j≠none->j≠H.next:=fun j hj hjn=>by
    cases hg:H.get j with
    |none=>exact hj hg
    |some k=>have:=hH.lt j k hg;omega
   have hnf:∀bb j5,ρ.fz bb=some j5->bb<w.heap.size:=fun bb j5 hz=>by
    obtain⟨⟨ee,fr,h3⟩,_⟩:=hH.fz bb j5 hz;exact(dG.1 h3).1
   have x7:∀j k,(H.new (.own c.e c.t (c.out d))).get j=some k->(j=H.next/\k= .own c.e c.t (c.out d))\/(j≠H.next/\H.get j=some k):=fun j k hj=>by
    rw [ai.gK]at hj;by_cases hjn:H.next=j
    .rw [if_pos hjn]at hj;cases hj;exact .inl ⟨hjn.symm,rfl⟩
    .rw [if_neg hjn]at hj;exact .inr ⟨fun h=>hjn h.symm,hj⟩
   refine⟨_,ρ',rfl, .bU hnew aP b8,⟨fun j k hj=> ?_,fun j j' k k' bb cn FK hj hj' r1 r2=> ?_,fun j k hj=> ?_,dc hH.base iA.size,fun bb j5 hz=> ?_⟩,⟨hle,fun j hj=> ?_,Nat.le_succ _,iA.size,iA.os,iA.tape,iA.output,fun q hq _=>hkeep q hq,fun q hq ⟨j,k,cn,hj,hro,gV⟩=> ?_,fun q hq ⟨j,k,cn,hj,gV⟩=> ?_,fun _ _ h=> .inl h⟩⟩
   .rcases x7 j k hj with⟨rfl,rfl⟩|⟨hjn,hj⟩
    .obtain⟨⟨zs,fz,g1,g2,g3,g4,g5⟩,g6⟩:=e3;refine⟨b,c0,o,hnew,e2,⟨⟨zs,fz,g1,g2,ma vQ g3,g4,fun hx=> ?_⟩,g6⟩,fun _=>dc hH.base hB⟩;obtain⟨b1,c1,k1,k2⟩:=g5 hx;rw [q1]at k1;cases k1;exact⟨b,c0,hnew,k2⟩
    .obtain⟨bj,cn,oj,p1,p2,p3,dM⟩:=hH.blk j k hj;exact⟨bj,cn,oj,hle _ _ p1,(hkeep bj (dG.1 p2).1).trans p2,p3.mono hle,dM⟩
   .rcases x7 j k hj with⟨rfl,rfl⟩|⟨hjn,hj⟩<;>rcases x7 j' k' hj' with⟨rfl,rfl⟩|⟨SJ,hj'⟩
    .rfl
    .rw [hnew]at r1;cases r1;rw [hold j' SJ]at r2;obtain⟨bj,cn,oj,p1,p2,_⟩:=hH.blk j' k' hj';rw [r2]at p1;cases p1;have:=(dG.1 p2).1;omega
    .rw [hnew]at r2;cases r2;rw [hold j hjn]at r1;obtain⟨bj,cn,oj,p1,p2,_⟩:=hH.blk j k hj;rw [r1]at p1;cases p1;have:=(dG.1 p2).1;omega
    .rw [hold j hjn]at r1;rw [hold j' SJ]at r2;exact hH.inj j j' k k' bb cn FK hj hj' r1 r2
   .rcases x7 j k hj with⟨rfl,rfl⟩|⟨hjn,hj⟩
    .exact fL _
    .exact Nat.lt_succ_of_lt (hH.lt j k hj)
   .obtain⟨⟨ee,fr,h3⟩,h4⟩:=hH.fz bb j5 hz;refine⟨⟨ee,fr,(hkeep bb (hnf bb j5 hz)).trans h3⟩,fun j k cn hj gV=> ?_⟩;rcases x7 j k hj with⟨rfl,rfl⟩|⟨hjn,hj⟩
    .rw [hnew]at gV;cases gV;have:=hnf _ j5 hz;omega
    .rw [hold j hjn]at gV;exact h4 j k cn hj gV
   .refine hold j fun hjn=> ?_
    subst hjn;rcases hj with h|h
    .exact absurd h (Nat.lt_irrefl _)
    .exact absurd h (Nat.not_succ_le_self _)
   .rcases x7 j k hj with⟨rfl,rfl⟩|⟨hjn,hj⟩
    .rw [hnew]at gV;cases gV;omega
    .rw [hold j hjn]at gV;exact⟨j,k,cn,hj,hro,gV⟩
   .rcases x7 j k hj with⟨rfl,rfl⟩|⟨hjn,hj⟩
    .rw [hnew]at gV;cases gV;omega
    .rw [hold j hjn]at gV;exact⟨j,k,cn,hj,gV⟩
  .exact hr.elim
 cases e with
 |normal=>exact key g1
 |ret=>exact key g1
 |_=>exact g1.elim
def Lm {bw:bG} {f:FuncId} {args:List af} {v:af} {H':ai}:∀{l:List qH},(CW l bw f args H).gr=some (.ok v H')->(∃c∈l,c.f=f/\(FL c args H).gr=some (.ok v H'))\/(bw f args H).gr=some (.ok v H')
 |[],h=> .inr h
 |c::l,h=>by
  unfold CW at h;cases hb:Nat.beq f c.f with
  |true=>simp only [hb]at h;exact .inl ⟨c,mj,(ac hb).symm,h⟩
  |false=>
   simp only [hb]at h;rcases Lm h with⟨c',h1,h2⟩|h1
   .exact .inl ⟨c',mh _ h1,h2⟩
   .exact .inr h1
def adq {l:List qH} {bw:bG} (hl:∀c∈l,c.Ok P) (hS:bD P (bF bw)):bD P (bF (CW l bw)) where
 mono f args H v H' h:=by
  rcases Lm (rW h)with⟨c,_,_,h3⟩|h3
  .rw [adp h3];exact Nat.le_succ _
  .exact hS.mono f args H v H' (by unfold bF;rw [h3];rfl)
 cz f args H v H' h B ρ xs w m hH cv hd hf:=by
  rcases Lm (rW h)with⟨c,h1,rfl,h3⟩|h3
  .exact Kx (hl c h1) h3 m hH cv hd hf
  .exact hS.cz f args H v H' (by unfold bF;rw [h3];rfl) B ρ xs w m hH cv hd hf
end
def FN (P:Program) (fn:Func) (e:TypeId) (t:av) (xs:List t.den):R->Prop
 | .ret T H []=>(match jX P fn T H with
   | .ok (.bU e' t' i k n cap) _=>(match H.get i with
     |some (.own e2 t2 ys)=>ic (Nat.beq e' e&&(Nat.beq e2 e&&(Nat.beq k 0&&decide (t'=t)))) (n=xs.length/\cap= .full/\pF t2 t ys xs)
     |_=>False)
   |_=>False)
 |_=>False
def aW.adr {P:Program} {w0:World} {F:Env} {n:Nat} {T:au af} {H:ai} {Q:Exit->au af->ai->Prop} (hK:ff P) (hm:P.follows .mixedOrders=true) {bw:bG} (hS:bD P (bF bw)) {l:List Code} {fn:Func} {e:TypeId} {t:av} {xs:List t.den} (k:Nat) (D:List Bool) (h:(Sv.iE P bw n (l.take k) T H).path D (FN P fn e t xs))
  (hq:∀T H,Ll P fn e t xs .ret T H->Q .ret T H):cg pI P w0 F n l T H Q:=by
 obtain⟨r,h1,h2⟩:=aE.tX _ _ h;have key:cg pI P w0 F n (l.take k) T H (ig (fun T H=>cg pI P w0 F n (l.drop k) T H Q) Q):=by
  refine aW.iE hK hm hS (oo:=FN P fn e t xs) (fun r hr=> ?_) h1 h2;unfold FN at hr;split at hr
  .refine hq _ _ ?_;rename_i aO H';show(match jX P fn aO H' with | .ok (.bU e' t' i k n cap) _=>e'=e/\k=0/\n=xs.length/\cap= .full/\t'=t/\H'.get i=some (.own e t xs)|_=>False)
   split at hr
   .split at hr
    .rename_i hg;obtain⟨k1,k2,c8,jh⟩:=jk hr;simp only [ae,bE]at k1;obtain⟨e1,rfl⟩:=Af jh;subst e1;exact⟨ac k1.1,ac k1.2.2.1,k2,c8,k1.2.2.2,by rw [hg,ac k1.2.1]⟩
    .exact hr.elim
   .exact hr.elim
  .exact hr.elim
 have:=aW.split key;rwa [List.take_append_drop]at this
end
end
end Go.Proofs.YtibikmmdbdlafaaGreatDoor.Sv
namespace Go.Proofs.YtibikmmdbdlafaaGreatDoor
open Go.RowKit Sv Go.Proofs.Tryz
def ads {P:Program} {p:Func->Bool} (h:P.funcs.toList.all p=true) {f:FuncId} {fn:Func} (hf:P.funcs[f]? =some fn):p fn=true:=
 List.all_eq_true.1 h fn (List.mem_of_getElem? (by simpa using hf))
def SK {P:Program} {p:Func->Bool} {k:Nat} (h:(P.funcs.toList.zipIdx.all fun q=> !p q.1||Nat.beq q.2 k)=true) {f:FuncId} {fn:Func} (hf:P.funcs[f]? =some fn) (hp:p fn=true):f=k:=by
 have:=List.all_eq_true.1 h (fn,f) (List.mk_mem_zipIdx_iff_getElem?.2 (by simpa using hf));simp only [hp,Bool.not_true,Bool.false_or]at this;exact ac this
def EU:(prog.funcs.toList.all fun fn=> !(fn.body.isSome&&fn.name== "runtime.NumGoroutine"))=true:=by kernel_rfl
def adt:(prog.funcs.toList.zipIdx.all fun q=> !(q.1.body.isNone&&q.1.name== "internal/abi.NoEscape")||Nat.beq q.2 256)=true:=by kernel_rfl
def adu:(prog.funcs.toList.zipIdx.all fun q=> !(q.1.body.isNone&&q.1.name== "internal/bytealg.MakeNoZero")||Nat.beq q.2 268)=true:=by kernel_rfl
def adv:(prog.funcs[256]?).bind (fun fn=>Extern.find fn)=some Extern.AbiNoEscape.same:=by kernel_rfl
def adw:(prog.funcs[256]?).map (fun fn=>(Extern.findNext fn).isNone)=some true:=by kernel_rfl
def adx:(prog.funcs[268]?).bind (fun fn=>Extern.find fn)=(prog.funcs[268]?).map (fun fn=>Extern.BytealgMakeNoZero.makeNoZero fn.params fn.resultTypes):=by kernel_rfl
def ady:(prog.funcs[268]?).map (fun fn=>(Extern.findNext fn).isNone)=some true:=by kernel_rfl
def wb:(prog.funcs[268]?).map (fun fn=>fn.resultTypes.size)=some 1:=by kernel_rfl
def mixed:prog.follows .mixedOrders=true:=by kernel_rfl
def known:ff prog where
 EU f fn hf hb:=by
  have:=ads EU hf;simpa [hb]using this
 QX f fn hf hb hn x w:=by
  have e:=SK (p:=fun fn=>fn.body.isNone&&fn.name== "internal/abi.NoEscape") adt hf (by simp only [hb,hn];rfl);subst e;have h1:=adv;have h2:=adw;rw [hf]at h1 h2;simp only [Option.bind_some,Option.map_some,tj,Option.isNone_iff_eq_none]at h1 h2;have hname:(fn.name== "runtime.NumGoroutine")=false:=by
   rw [eq_of_beq hn];rfl
  rw [run_callFunc_extern hf hname (by rw [hb];rfl) h2 h1];rfl
 makeNoZero f fn t el hf hb hn ht hu n w hle:=by
  have e:=SK (p:=fun fn=>fn.body.isNone&&fn.name== "internal/bytealg.MakeNoZero") adu hf (by simp only [hb,hn];rfl);subst e;have h1:=adx;have h2:=ady;have h3:=wb;rw [hf]at h1 h2 h3;simp only [Option.bind_some,Option.map_some,tj,Option.isNone_iff_eq_none]at h1 h2 h3;have hname:(fn.name== "runtime.NumGoroutine")=false:=by
   rw [eq_of_beq hn];rfl
  have hr:fn.resultTypes= #[t]:=by
   apply Array.ext
   .exact h3
   .intro i hi1 hi2;have:i=0:=by simp at hi2;exact hi2
    subst this;simpa [Array.getElem?_eq_getElem hi1]using ht
  rw [hr]at h1;obtain⟨cs,k1,k2,_⟩:=Lib.run_makeNoZero (P:=prog) w fn.params t el hu n (by omega);refine⟨cs,k2, ?_⟩;rw [run_callFunc_extern hf hname (by rw [hb];rfl) h2 h1,k1];rfl
noncomputable section
instance aui:Sv.Ground:=⟨fun b=>if b=0 then some (fun A=>∃m,A= #[.int .i64 m])else if b=5 then some (fun A=>A=(Lib.pow10Tab.map fun z=>Value.int .u64 z).toArray)else none⟩
def mp {a b:Prop} (p:b) (h:a=b:=by kernel_rfl):a:=h.mpr p
def auj (v:af) (h:K1 v=true:=by kernel_rfl):af.same v v=true:=aD h
def an {a b:Prop} (x:a) (y:b):a/\b:=⟨x,y⟩
def adz{gq p1 p2:Prop}(x0:gq)(x1:p1)(y:p2):gq/\p1/\p2:=⟨x0,⟨x1,y⟩⟩
def FO{gq p1 p2 p3:Prop}(x0:gq)(x1:p1)(x2:p2)(y:p3):gq/\p1/\p2/\p3:=⟨x0,⟨x1,⟨x2,y⟩⟩⟩
def adA{gq p1 p2 p3 dM:Prop}(x0:gq)(x1:p1)(x2:p2)(x3:p3)(y:dM):gq/\p1/\p2/\p3/\dM:=⟨x0,⟨x1,⟨x2,⟨x3,y⟩⟩⟩⟩
def Ln{gq p1 p2 p3 dM kX:Prop}(x0:gq)(x1:p1)(x2:p2)(x3:p3)(qI:dM)(y:kX):gq/\p1/\p2/\p3/\dM/\kX:=⟨x0,⟨x1,⟨x2,⟨x3,⟨qI,y⟩⟩⟩⟩⟩
def auk{gq p1 p2 p3 dM kX pH:Prop}(x0:gq)(x1:p1)(x2:p2)(x3:p3)(qI:dM)(vS:kX)(y:pH):gq/\p1/\p2/\p3/\dM/\kX/\pH:=⟨x0,⟨x1,⟨x2,⟨x3,⟨qI,⟨vS,y⟩⟩⟩⟩⟩⟩
def adB{gq p1 p2 p3 dM kX pH xV:Prop}(x0:gq)(x1:p1)(x2:p2)(x3:p3)(qI:dM)(vS:kX)(w9:pH)(y:xV):gq/\p1/\p2/\p3/\dM/\kX/\pH/\xV:=⟨x0,⟨x1,⟨x2,⟨x3,⟨qI,⟨vS,⟨w9,y⟩⟩⟩⟩⟩⟩⟩
def oq{gq p1 p2 p3 dM kX pH xV kZ:Prop}(x0:gq)(x1:p1)(x2:p2)(x3:p3)(qI:dM)(vS:kX)(w9:pH)(zA:xV)(y:kZ):gq/\p1/\p2/\p3/\dM/\kX/\pH/\xV/\kZ:=⟨x0,⟨x1,⟨x2,⟨x3,⟨qI,⟨vS,⟨w9,⟨zA,y⟩⟩⟩⟩⟩⟩⟩⟩
def rr {α:Type} (x:α):x=x:=rfl
def rt:true=true:=rfl
section
variable {a b:Bool} (h:a=b)
def aL:(a==true)=(b==true):=by rw [h]
def bg:(a==false)=(b==false):=by rw [h]
def cj:(!a)=(!b):=by rw [h]
end
abbrev iv (x:Int):af:= .raw (.int .i64 x)
abbrev bv (x:Bool):af:= .raw (.bool x)
abbrev vT:List Int:=[]
abbrev lv (l:List Int):af:= .bu false (.int .i64) l
def getD_lt {l:List Int} {k:Nat} (h:k<l.length):l.getD k 0=l[k]:=by simp [ao,h]
def pL {n b:Nat} (h:n<=1000000) (hb:b<=1000000):bounded n b=true:=by
 unfold bounded;have:=Nat.mul_le_mul h hb;rw [fK (by omega),fK (by omega)];rfl
abbrev i6 (x:Int):Prop:= -9223372036854775808<=x/\x<=9223372036854775807
def yk (e:TypeId) (t:av) (xs:List t.den):iU:=aa (ZB e t xs)
section
variable (e:TypeId) (t:av) {xs:List t.den} {i:Nat} (h:i<xs.length)
def yv:iU:=aa (x:=bA e t (a8 e t xs) i) (c:=true) (by rw [ED];exact az h)
def jl:iU:=aa (x:=bA e t (a8 e t xs) (0+i)) (c:=true) (by rw [aw,ED];exact az h)
end
def lT (b:Nat) {n:Nat} (h:n<=1000000) (hb:b<=1000000:=by decide):iU:=aa (pL h hb)
noncomputable def ot (e:TypeId) (t:av) {xs ys zs:List t.den} (h:xs++ys=zs):iU:=pK prog e t (ys:=bP t (a8 e t xs)++ys) (xs:=zs) (by rw [eD];exact h)
noncomputable def mN (e:TypeId) (t:av) {xs zs:List t.den} {i:Nat} {v:t.den} (h:xs.set i v=zs):iU:=pK prog e t (ys:=(bP t (a8 e t xs)).set (0+i) v) (xs:=zs) (by rw [eD,aw];exact h)
def ys (v:af) (h:af.same v v=true):iU:=aa h
section
variable (c:bG) (l:List Code)
abbrev bz (s:bI) (d:Nat) (e:Exit) (r:Sv.Ren) (s':bI):Prop:=aE.path (oh prog c l s) (dl d) (ep prog s.n e r s')
abbrev dV (k:Nat) (s:bI) (d:Nat) (e:Exit) (r:Sv.Ren) (s':bI):Prop:=aE.path (Aj prog c l k s) (dl d) (ep prog s.n e r s')
abbrev bS (s:bI) (d:Nat) (f:Func) (b:Bool) (v:af):Prop:=aE.path (oh prog c l s) (dl d) (uf prog f b v)
abbrev c7 (k n:Nat) (a:List af) (d:Nat) (e:Exit) (r:Sv.Ren) (s':bI):Prop:=aE.path (om prog c l k n a) (dl d) (ep prog n e r s')
end
abbrev bB (n d:Int):Int:= ↑(Int.gcd (if 0-n>n then 0-n else n) d)
def dW {P:Program}:∀c∈([]:List bn),c.Ok P:=fun c h=>absurd h jU
def aQ {P:Program} {c:bn} {l:List bn} (h:c.Ok P) (t:∀x∈l,x.Ok P):∀x∈c::l,x.Ok P:=fun x hx=>(ew.1 hx).elim (fun e=>e ▸ h) (t x)
section
variable {X:Ext} {w0:World} {F:Sv.Env} {n:Nat} {T:au af} {H:ai} {Q:Exit->au af->ai->Prop} {bw:bG} {l:List Code} {s s':bI} {e:Exit} {σ:Sv.Ren} {D:List Bool} {fn:Func} {fresh:Bool} {res:af}
section
variable (hS:bD prog (bF bw))
def cR (k:Nat) (h:(Sv.iE prog bw n (l.take k) T H).path D (ep prog n e σ s')) (hq:ig (fun T H=>cg X prog w0 F n (l.drop k) T H Q) Q e s'.T s'.H) (hne:(l.take k).isEmpty=false:=by kernel_rfl) (hp:pinned σ s'.H.next X.pins=true:=by rfl):cg X prog w0 F n l T H Q:=aW.to known mixed hS k D h hne hq hp
def dP (k:Nat) (h:(Aj prog bw l k s).path D (ep prog s.n e σ s')) (hq:ig (fun T H=>cg X prog w0 F s.n (l.drop k) T H Q) Q e s'.T s'.H) (hne:(l.take k).isEmpty=false:=by kernel_rfl) (hp:pinned σ s'.H.next X.pins=true:=by rfl):cg X prog w0 F s.n l s.T s.H Q:=aW.st known mixed hS k D h hne hq hp
def bC (h:(oh prog bw l s).path D (ep prog s.n e σ s')) (hq:Q e s'.T s'.H) (hne:l.isEmpty=false:=by kernel_rfl) (hp:pinned σ s'.H.next X.pins=true:=by rfl):cg X prog w0 F s.n l s.T s.H Q:=aW.all known mixed hS D h hne hq hp
def aY (k:Nat) (h:(Sv.iE prog bw n (l.take k) T H).path D (uf prog fn fresh res)) (hq:∀T H,hJ prog fresh fn res .ret T H->Q .ret T H:=by exact fun T H h=>h):cg X prog w0 F n l T H Q:=aW.ret known mixed hS k D h hq
def bY (h:(oh prog bw l s).path D (uf prog fn fresh res)) (hq:∀T H,hJ prog fresh fn res .ret T H->Q .ret T H:=by exact fun T H h=>h):cg X prog w0 F s.n l s.T s.H Q:=aW.rX known mixed hS D h hq
end
end
abbrev aV (c:bG) (l:List Code) (k n:Nat) (a:List af) (d:Nat) (f:Func) (b:Bool) (v:af):Prop:=aE.path (om prog c l k n a) (dl d) (uf prog f b v)
def cC:bD prog (bF (a7 [])):=cN (l:=[]) fun c h=>by cases h
def qJ {c:bn} (h:c.Ok prog):bD prog (bF (a7 [c])):=cN fun c' hc=>by rw [List.mem_singleton.1 hc];exact h
def FP {X:Ext} {P:Program} {w0:World} {F:Env} {n:Nat} {T:au af} {H:ai} {Q:Exit->au af->ai->Prop} {l rest:List Code} {id:Nat} {c:Code} (hl:l= .block id c::rest)
  (h:cg X P w0 F n (ue c) T H (CE id (ig (fun T H=>cg X P w0 F n rest T H Q) Q))):cg X P w0 F n l T H Q:=by
 subst hl;exact Goal.block (x:=c) rfl (vN h)
abbrev sv (s:AT):af:= .raw (.string s)
end
end Go.Proofs.YtibikmmdbdlafaaGreatDoor
namespace Go.Proofs.YtibikmmdbdlafaaGreatDoor
open Go.ChangeShapes Go.WideShapes Go.ChangeAt Go.RowKit Sv
def SL:Tryz.prog.globalNamed "internal/strconv.uint64pow10" =some 5:=by kernel_rfl
def adC:ownKnob Tryz.prog.godebug=none:=by kernel_rfl
def adD:laidOutB Tryz.prog=true:=by kernel_rfl
abbrev Ar:List (String×DataW Unit):=[("math/bits.deBruijn32tab",Rows.laid_math_bits_deBruijn32tab),("math/bits.deBruijn64tab",Rows.laid_math_bits_deBruijn64tab),("internal/strconv.uint64pow10",Rows.laid_internal_strconv_uint64pow10),("strconv.ErrRange",Rows.laid_strconv_ErrRange),("strconv.ErrSyntax",Rows.laid_strconv_ErrSyntax)]
def adE (os:Os) (args:Array Value):laidMetH Tryz.prog Ar ((World.doorLaid Tryz.prog 400 os).forCall (fun _ _=>0) ⟨#[],args,[]⟩).memory:=
 laidMetH_of_parts3 (fuel:=8) (laidMet_of_run' 8 (by kernel_rfl) (by kernel_rfl)) (by kernel_rfl) (by kernel_rfl)
def adF:(Rows.laid_internal_strconv_uint64pow10:DataW Unit)=Lib.tabData .u64 Lib.pow10Tab:=by rfl
def adG:(Tryz.prog.globals[5]?).map (·.type)=some 280:=by kernel_rfl
def adH {W:World} (h:laidMetH Tryz.prog Ar W):Lib.TabIs Tryz.prog W "internal/strconv.uint64pow10" .u64 Lib.pow10Tab:=by
 rw [MakeChecks.laidMetH_plain _ _ _ (by kernel_rfl)]at h;obtain⟨ps,⟨g0,t0,cs0,f0,gq,q0,_,_,_,_,⟨g1,t1,aul,f1,p1,q1,_,_,_,_,⟨g2,t2,zO,f2,p2,aP,hg2,ht2,iV,gH,_,_⟩,_⟩,_⟩,_⟩:=h;obtain rfl:=jV (SL.symm.trans hg2);obtain rfl:=jV (adG.symm.trans ht2);rw [adF]at gH;unfold Lib.TabIs;rw [iV,<-Lib.cells_of_tab Tryz.underlying280 Tryz.underlying167 (by kernel_rfl) (by kernel_rfl) gH]
def sE {H:Type} {enc:TypeId×Value->H} {a:Assume} {C:Checked} {os:Os} {f:FuncId} {fn:Func} {s:ChangeSpec} {conds:List PathCond} {apart fresh handsOn again:Bool} {X:World->Array Value->Prop}
  (hX:∀(w w':World) (args:Array Value),w.heap=w'.heap->X w args->X w' args)
  (own:ownKnob C.prog.godebug=none) (started:os.Started) (noInit:C.prog.inits.idxOf? f=none) (hfn:C.prog.funcs[f]? =some fn)
  (witness:∃(w:World) (tape:Tape) (i:Input),w.os=os/\(w.forCall tape i).Shaped C.prog/\i.vars=[]/\Input.okWide C.prog (w.forCall tape i) .any w.heap.size f i/\
    ((s.pre enc C.prog fn conds apart (w.forCall tape i).memory i.args/\X (w.forCall tape i).memory i.args)/\sizedMet enc C.prog fn (OpenSpec.ofChange s) apart (w.forCall tape i).memory i.args)/\a.holds C.prog (lone (Frame.enter C.prog f i.args .normal) [] (w.forCall tape i)))
  (contract:∀(W:World) (base:Nat) (args:Array Value) (ds gs:List (DataW H)) (before:List MemPlace),
    (∀(j:Nat) t v,fn.params[j]? =some t->args[j]? =some v->Value.okWide C.prog W .any base t v)->
    DataW.Whole enc C.prog fn.params.toList s.vars apart W args.toList ds gs before->
    conds.all (PathCond.test C.prog ⟨fn.params.toList,ds,s.plain.varTypes C.prog,gs⟩)=true->
    (DataW.weightsEach C.prog (fn.params.toList++s.plain.varTypes C.prog) (ds++gs)).all (· <=reachBytes)=true->X W args->W.ShapedOpen C.prog->
    a.holds C.prog (lone (Frame.enter C.prog f args .normal) [] W)->
    Calls C.prog f args W fun e W'=>∃v,e= .returned v/\s.post enc C.prog fn apart fresh handsOn again W args v W'):
  ReturnsInHanded a C os f .any (fun w args=>(s.pre enc C.prog fn conds apart w args/\X w args)/\sizedMet enc C.prog fn (OpenSpec.ofChange s) apart w args) (s.post enc C.prog fn apart fresh handsOn again):=by
 refine returnsInHanded_of_calls own started noInit witness ?_;intro w tape i _ hsh _ hok hpre hholds;obtain⟨_,_,_,fn',adI,_,_,_,_,hval⟩:=hok;have e:fn'=fn:=jV (adI.symm.trans hfn);subst e;obtain⟨⟨⟨ds,gs,before,hw,hc⟩,hx⟩,hz⟩:=hpre;have hw':=DataW.Whole.of_heap (w':=w.forCall tape i) (by rfl) hw;refine(contract (w.forCall tape i) w.heap.size i.args ds gs before hval hw' hc (hz.weights hw) (hX _ _ _ (by rfl) hx) hsh hholds).mono fun e W' ⟨v,he,hp⟩=> ?_
 subst he;exact ChangeSpec.post_blind hp
def x8 (w:World):Env:=⟨fun i=>if i<64 then some (i,0)else none,fun b=>if 0<=b then kz w b else none⟩
def adJ (w:World):ua w (x8 w):=by
 refine⟨fun i x h=> ?_,fun g hg=>⟨0,if_pos hg⟩,fun b A h=> ?_⟩
 .have h:(if i<64 then some (i,0)else none)=some x:=h;split at h
  .assumption
  .cases h
 .have h:(if 0<=b then kz w b else none)=some A:=h;rw [if_pos (Nat.zero_le _)]at h;exact oe.1 h
def j0 (b off i:Nat):(⟨b,off,none⟩:Addr).add i=⟨b,off+i,none⟩:=by
 rcases Nat.eq_zero_or_pos i with rfl |hp
 .rfl
 .simp [Addr.add];omega
def SM {w:World} {b:Nat} {A:Array Value} (h:kz w b=some A):(x8 w).fz b=some A:=by
 show(if 0<=b then kz w b else none)=some A;rw [if_pos (Nat.zero_le _)];exact h
def adK {W:World} (h:laidMetH Tryz.prog Ar W) (hs:W.ShapedOpen Tryz.prog):Sv.vL (x8 W):=by
 intro b p hp;have hp:(if b=0 then some (fun A=>∃m,A= #[.int .i64 m])else if b=5 then some (fun A=>A=(Lib.pow10Tab.map fun z=>Value.int .u64 z).toArray)else none)=some p:=hp;split at hp
 .rename_i e;subst e;cases hp;obtain⟨cs,hh,hz,_⟩:=hs.1 0 #[.int .i64 0] 3 (ap (by kernel_rfl)) (by kernel_rfl);obtain⟨m,hm⟩:=Go.Proofs.cell_of_shapedOpen_int (zero:= #[.int .i64 0]) (t:=3) hs (ap (by kernel_rfl)) (by kernel_rfl) rfl (by kernel_rfl) (by kernel_rfl) Tryz.underlying3;refine⟨cs,SM (oe.2 ⟨_,_,hh⟩),m, ?_⟩;have h1:cs.size=1:=hz;have h2:cs[0]? =some (.int .i64 m):=by
   unfold World.cell? at hm;rw [hh]at hm;simpa using hm
  apply Array.ext_getElem?;intro i;cases i with
  |zero=>rw [h2];rfl
  |succ i=>rw [Array.getElem?_eq_none (by omega),Array.getElem?_eq_none (by simp)]
 .split at hp
  .rename_i e;subst e;cases hp;have ht:=adH h;unfold Lib.TabIs World.var? at ht;rw [SL]at ht;simp only [Option.bind_some]at ht;split at ht
   .rename_i cs e fr hh;refine⟨cs,SM (oe.2 ⟨_,_,hh⟩), ?_⟩;exact jV ht
   .cases ht
  .cases hp
def adL {f:FuncId} {args:List af} (h:Holds Tryz.prog true f args (bv true)) {w:World} (cv:Sv.vL (x8 w)) {vs:List Value} (hd:aI (x8 w) args vs):Calls Tryz.prog f vs.toArray w fun e w'=>e= .returned (.bool true)/\Below w.heap.size w w':=
 (h w (x8 w) vs (adJ w) cv hd).mono fun e w' ⟨x,F',h1,h2,_,_,h5⟩=>by
   rw [h2.cc]at h1;exact⟨h1,h5⟩
set_option maxRecDepth 100000 in
def adM {H:Type} {enc:TypeId×Value->H} {W:World} {base:Nat} {v:Value} {d:DataW H} {p:List MemPlace} (hv:Value.okWide Tryz.prog W .any base 54 v)
  (h:DataW.Trod enc Tryz.prog W 0 (fun _=>true) true 54 v d p):
  ∃(x y:AT),v= .agg #[.string x, .string y]:=by
 simp only [Value.okWide,Tryz.underlying54]at hv;obtain⟨cs,rfl,hsz,_⟩:=hv;have c2:Tryz.prog.cellsOf 54=2:=by kernel_rfl
 have nt:Tryz.prog.cellsOf 22=1:=by kernel_rfl
 rw [c2]at hsz;obtain⟨fuel,hf⟩:=h;obtain⟨y0,y1,m,he,gX,t0,t1⟩:=trod_struct2 Tryz.underlying54 hf;obtain⟨l⟩:=cs
 match l,hsz with
 |[aJ,u1],_=>
  obtain⟨x,e0,_,w0⟩:=DataW.trod_string Tryz.underlying22 (show DataW.trod enc Tryz.prog W 0 (fun _=>true) true m 22 [aJ]=some y0 by simpa [Value.cells,nt]using t0);obtain⟨y,e1,_,w1⟩:=DataW.trod_string Tryz.underlying22 (show DataW.trod enc Tryz.prog W 0 (fun _=>true) true m 22 [u1]=some y1 by simpa [Value.cells,nt]using t1);simp at e0 e1;subst e0;subst e1;exact⟨x,y,rfl⟩
def adN (W:World) (x y:AT):Den (x8 W) (.agg [sv x,sv y]) (.agg #[.string x, .string y]):= .agg (.cons (.raw _) (.cons (.raw _) .nil))
end Go.Proofs.YtibikmmdbdlafaaGreatDoor
namespace Go.Proofs.YtibikmmdbdlafaaGreatDoor
open Go.RowKit Sv Go.Proofs.Tryz
section
variable [Sv.Ground] {X:Ext} {P:Program} {w0:World} {F:Env} {n:Nat} {T:au af} {H:ai} {a:Act} {w:World} {B:Nat} {ρ ρ':Env}
def SN {i:Nat} {ρ':Env} (ha:∀i,ρ' i=ρ i) {b:Nat} (h:Sv.Own ρ' (H.drop i) b):Sv.Own ρ H b:=by
 obtain⟨k,kk,c,h1,h2,h3⟩:=h;rw [ha]at h3;rw [ai.o8]at h1;split at h1
 .cases h1
 .exact⟨k,kk,c,h1,h2,h3⟩
def Sat.freeze {i j m:Nat} {e e2:TypeId} {cs:List af} {x f r:Bool} {t:av} {xs:List t.den} {cap:bh} (hj:H.get j=some (.cells e cs x f r)) (hm:cs[m]? =some (.bU e2 t i 0 xs.length cap)) (hi:H.get i=a8 e2 t xs) (hij:i≠j)
  (hs:mK X P w0 F n T H a w):mK X P w0 F n T ((H.drop i).set j (.cells e (cs.set m (.bu false t xs)) x f r)) a w:=by
 obtain⟨⟨ρ,aR,hnone,hfz,hkp⟩,hb,hd⟩:=hs;by_cases hx:xs=[]
 .subst hx;have hi:H.get i=none:=hi;refine⟨⟨ρ,⟨aR.T,Jy aR.H (cD.refl _) (fun _=>rfl) hj hij hm (fun y hy=> ?_) (fun b A h=>⟨(aR.H.fz b A h).1,fun k kk c _ g1 g2=>(aR.H.fz b A h).2 k kk c g1 g2⟩),aR.G⟩,hnone,hfz,hkp.re (cD.refl _) (aK _) (fun _ hh=>Jz (fun _=>rfl) hj hh) fun _ _ h=> .inl h⟩,hb,hd⟩;rcases hy.jA with⟨_,a,rfl⟩|⟨b,c,kc,_,_,_,rfl⟩
  .exact .fe fun e=>by cases e
  .exact .fe fun e=>by cases e
 .obtain⟨x0,l0,rfl⟩:=List.exists_cons_of_ne_nil hx;have hi:H.get i=some (.own e2 t (x0::l0)):=hi;generalize hxs:x0::l0=xs at*;obtain⟨b,c,o,hib,_,_,hB⟩:=aR.H.blk i _ hi;obtain⟨zs,cT,z2,z3,z4,z5,QY⟩:=rK aR.H hi hib;have hnf:ρ.fz b=none:=by
   cases hz:ρ.fz b with
   |none=>rfl
   |some A=>
    have:=(aR.H.fz b A hz).2 i _ c hi hib;cases this
  have hle:cD ρ ⟨ρ.at',fun q=>if q=b then some zs else ρ.fz q⟩:=⟨fun _ _ h=>h,fun q A h=>by
   show(if q=b then some zs else ρ.fz q)=some A;by_cases hq:q=b
   .subst hq;rw [hnf]at h;cases h
   .rw [if_neg hq];exact h⟩
  refine⟨⟨⟨ρ.at',fun q=>if q=b then some zs else ρ.fz q⟩,⟨aR.T.mono hle,Jy aR.H hle (fun _=>rfl) hj hij hm (fun y hy=> ?_) (fun q A h=> ?_),aR.G.mono hle⟩,hnone,fun q A h=> ?_,hkp.re hle (aK _) (fun _ hh=>Jz (fun _=>rfl) hj hh) fun q A h=>by
   have h:(if q=b then some zs else ρ.fz q)=some A:=h;by_cases hq:q=b
   .exact .inr ⟨i,_,c,hi,rfl,hq ▸ hib⟩
   .rw [if_neg hq]at h;exact .inl h⟩,hb,hd⟩
  .rcases hy.jA with⟨h0,_⟩|⟨b',c',kc,g1,_,g3,rfl⟩
   .exact absurd (List.length_eq_zero_iff.1 h0) hx
   .rw [hib]at g1;cases g1;refine .bu (A:=zs) (b:=b) (off:=0*t.size) (by show(if b=b then some zs else _)=_;rw [if_pos rfl]) (by rw [Nat.zero_mul,aw];exact z4) rfl ?_ g3 (fun e=>by cases e);rw [Nat.zero_mul,List.drop_zero];exact z2.mono hle
  .have h:(if q=b then some zs else ρ.fz q)=some A:=h;by_cases hq:q=b
   .subst hq;rw [if_pos rfl]at h;cases h;exact⟨⟨_,_,cT⟩,fun k kk c' hne g1 g2=>absurd (aR.H.inj k i kk _ q c' c g1 hi g2 hib) hne⟩
   .rw [if_neg hq]at h;exact⟨(aR.H.fz q A h).1,fun k kk c _ g1 g2=>(aR.H.fz q A h).2 k kk c g1 g2⟩
  .have h:(if q=b then some zs else ρ.fz q)=some A:=h;by_cases hq:q=b
   .subst hq;exact .inr (hB rfl)
   .rw [if_neg hq]at h;exact hfz q A h
def Sat.vU {i s:Nat} {e2:TypeId} {t:av} {xs:List t.den} {cap:bh} (hs':T.get s=some (.bU e2 t i 0 xs.length cap)) (hi:H.get i=a8 e2 t xs) (hs:mK X P w0 F n T H a w):mK X P w0 F n (T.set s (some (.bu false t xs))) (H.drop i) a w:=by
 obtain⟨⟨ρ,aR,hnone,hfz,hkp⟩,hb,hd⟩:=hs;have SP:∀{ρ':Env},cD ρ ρ'->(∀i,ρ' i=ρ i)->(∀b A,ρ'.fz b=some A->(∃e fr,w.heap[b]? =some (.cells A e fr))/\∀k kk c,k≠i->H.get k=some kk->ρ k=some (b,c)->kk.eU=true)->bk P w0.heap.size ρ' (H.drop i) w:=fun {ρ'} hl ha hf=>by
  have key:∀k kk,(H.drop i).get k=some kk->k≠i/\H.get k=some kk:=fun k kk h=>by
   rw [ai.o8]at h;split at h
   .cases h
   .rename_i h2;exact⟨fun h=>h2 h.symm,h⟩
  refine⟨fun k kk h=> ?_,fun i1 i2 k1 k2 b c1 c2 g1 g2 g3 g4=> ?_,fun k kk h=>aR.H.lt k kk (key k kk h).2,aR.H.base,fun b A h=>⟨(hf b A h).1,fun k kk c g1 g2=> ?_⟩⟩
  .obtain⟨b,c,o,e1,e2,e3,bW⟩:=aR.H.blk k kk (key k kk h).2;exact⟨b,c,o,by rw [ha];exact e1,e2,e3.mono hl,bW⟩
  .rw [ha]at g3 g4;exact aR.H.inj _ _ _ _ _ _ _ (key _ _ g1).2 (key _ _ g2).2 g3 g4
  .rw [ha]at g2;exact(hf b A h).2 k kk c (key k kk g1).1 (key k kk g1).2 g2
 have qK:∀{ρ':Env},cD ρ ρ'->(∀y,Den ρ (.bU e2 t i 0 xs.length cap) y->Den ρ' (.bu false t xs) y)->jY ρ' (T.set s (some (.bu false t xs))) n a.tmps:=fun {ρ'} hl hv=>⟨aR.T.size,fun k=>by
  rw [au.gp];have hk:=aR.T.get k;by_cases hks:s=k
  .subst hks;rw [if_pos rfl];rw [hs']at hk;exact hv _ hk
  .rw [if_neg hks];exact hk.mono hl⟩
 by_cases hx:xs=[]
 .subst hx;refine⟨⟨ρ,⟨qK (cD.refl _) fun y hy=> ?_,SP (cD.refl _) (fun _=>rfl) (fun b A h=>⟨(aR.H.fz b A h).1,fun k kk c _ g1 g2=>(aR.H.fz b A h).2 k kk c g1 g2⟩),aR.G⟩,hnone,hfz,hkp.re (cD.refl _) (aK _) (fun _ hh=>SN (fun _=>rfl) hh) fun _ _ h=> .inl h⟩,hb,hd⟩;rcases hy.jA with⟨_,a,rfl⟩|⟨b,c,kc,_,_,_,rfl⟩
  .exact .fe fun e=>by cases e
  .exact .fe fun e=>by cases e
 .obtain⟨x0,l0,rfl⟩:=List.exists_cons_of_ne_nil hx;have hi:H.get i=some (.own e2 t (x0::l0)):=hi;generalize hxs:x0::l0=xs at*;obtain⟨b,c,o,hib,_,_,hB⟩:=aR.H.blk i _ hi;obtain⟨zs,cT,z2,z3,z4,z5,QY⟩:=rK aR.H hi hib;have hnf:ρ.fz b=none:=by
   cases hz:ρ.fz b with
   |none=>rfl
   |some A=>
    have:=(aR.H.fz b A hz).2 i _ c hi hib;cases this
  have hle:cD ρ ⟨ρ.at',fun q=>if q=b then some zs else ρ.fz q⟩:=⟨fun _ _ h=>h,fun q A h=>by
   show(if q=b then some zs else ρ.fz q)=some A;by_cases hq:q=b
   .subst hq;rw [hnf]at h;cases h
   .rw [if_neg hq];exact h⟩
  refine⟨⟨⟨ρ.at',fun q=>if q=b then some zs else ρ.fz q⟩,⟨qK hle fun y hy=> ?_,SP hle (fun _=>rfl) (fun q A h=> ?_),aR.G.mono hle⟩,hnone,fun q A h=> ?_,hkp.re hle (aK _) (fun _ hh=>SN (fun _=>rfl) hh) fun q A h=>by
   have h:(if q=b then some zs else ρ.fz q)=some A:=h;by_cases hq:q=b
   .exact .inr ⟨i,_,c,hi,rfl,hq ▸ hib⟩
   .rw [if_neg hq]at h;exact .inl h⟩,hb,hd⟩
  .rcases hy.jA with⟨h0,_⟩|⟨b',c',kc,g1,_,g3,rfl⟩
   .exact absurd (List.length_eq_zero_iff.1 h0) hx
   .rw [hib]at g1;cases g1;refine .bu (A:=zs) (b:=b) (off:=0*t.size) (by show(if b=b then some zs else _)=_;rw [if_pos rfl]) (by rw [Nat.zero_mul,aw];exact z4) rfl ?_ g3 (fun e=>by cases e);rw [Nat.zero_mul,List.drop_zero];exact z2.mono hle
  .have h:(if q=b then some zs else ρ.fz q)=some A:=h;by_cases hq:q=b
   .subst hq;rw [if_pos rfl]at h;cases h;exact⟨⟨_,_,cT⟩,fun k kk c' hne g1 g2=>absurd (aR.H.inj k i kk _ q c' c g1 hi g2 hib) hne⟩
   .rw [if_neg hq]at h;exact⟨(aR.H.fz q A h).1,fun k kk c _ g1 g2=>(aR.H.fz q A h).2 k kk c g1 g2⟩
  .have h:(if q=b then some zs else ρ.fz q)=some A:=h;by_cases hq:q=b
   .subst hq;exact .inr (hB rfl)
   .rw [if_neg hq]at h;exact hfz q A h
def aW.vU {Q:Exit->au af->ai->Prop} {l:List Code} (hl:l≠[]) {i s:Nat} {e2:TypeId} {t:av} {xs:List t.den} {cap:bh} (hs':T.get s=some (.bU e2 t i 0 xs.length cap)) (hi:H.get i=a8 e2 t xs)
  (hg:cg X P w0 F n l (T.set s (some (.bu false t xs))) (H.drop i) Q):cg X P w0 F n l T H Q:=by
 cases l with
 |nil=>exact absurd rfl hl
 |cons c l=>exact fun a w hs k=>hg a w (Sat.vU hs' hi hs) k
def Goal.freeze {Q:Exit->au af->ai->Prop} {c:Code} {i j m:Nat} {e e2:TypeId} {cs:List af} {x f r:Bool} {t:av} {xs:List t.den} {cap:bh} (hj:H.get j=some (.cells e cs x f r)) (hm:cs[m]? =some (.bU e2 t i 0 xs.length cap)) (hi:H.get i=a8 e2 t xs) (hij:i≠j)
  (hg:iT X P w0 F n c T ((H.drop i).set j (.cells e (cs.set m (.bu false t xs)) x f r)) Q):iT X P w0 F n c T H Q:=fun a w hs k=>hg a w (Sat.freeze hj hm hi hij hs) k
def aW.freeze {Q:Exit->au af->ai->Prop} {l:List Code} (hl:l≠[]) {i j m:Nat} {e e2:TypeId} {cs:List af} {x f r:Bool} {t:av} {xs:List t.den} {cap:bh} (hj:H.get j=some (.cells e cs x f r)) (hm:cs[m]? =some (.bU e2 t i 0 xs.length cap)) (hi:H.get i=a8 e2 t xs) (hij:i≠j)
  (hg:cg X P w0 F n l T ((H.drop i).set j (.cells e (cs.set m (.bu false t xs)) x f r)) Q):cg X P w0 F n l T H Q:=by
 cases l with
 |nil=>exact absurd rfl hl
 |cons c l=>exact Goal.freeze hj hm hi hij hg
def aW.od {Q:Exit->au af->ai->Prop} {l:List Code} (hl:l≠[]) {σ:Ren} {s:bI} (h:fit P σ n T H s) (hg:cg X P w0 F n l s.T s.H Q) (hp:pinned σ s.H.next X.pins=true:=by rfl):cg X P w0 F n l T H Q:=by
 cases l with
 |nil=>exact absurd rfl hl
 |cons c l=>exact Goal.od h hg hp
end
end Go.Proofs.YtibikmmdbdlafaaGreatDoor
namespace Go.Proofs.YtibikmmdbdlafaaGreatDoor
def vl (b:Int):List Int->Int
 |[]=>0
 |x::r=>x+b*vl b r
def aS (b:Int) (l:List Int):Prop:=∀x∈l,0<=x/\x<b
def aS.nil {b:Int}:aS b []:=fun x h=>by cases h
def aS.cons {b x:Int} {l:List Int} (h:0<=x/\x<b) (hl:aS b l):aS b (x::l):=fun y hy=>by
 rcases ew.1 hy with rfl |hy
 .exact h
 .exact hl y hy
def aS.tail {b x:Int} {l:List Int} (h:aS b (x::l)):aS b l:=fun y hy=>h y (mh _ hy)
def aS.head {b x:Int} {l:List Int} (h:aS b (x::l)):0<=x/\x<b:=h x mj
def aS.app {b:Int} {l m:List Int} (h:aS b l) (g:aS b m):aS b (l++m):=fun y hy=>(List.mem_append.1 hy).elim (h y) (g y)
def aS.left {b:Int} {l m:List Int} (h:aS b (l++m)):aS b l:=fun y hy=>h y (List.mem_append_left _ hy)
def aS.right {b:Int} {l m:List Int} (h:aS b (l++m)):aS b m:=fun y hy=>h y (List.mem_append_right _ hy)
def aS.take {b:Int} {l:List Int} (h:aS b l) (k:Nat):aS b (l.take k):=fun y hy=>h y (List.mem_of_mem_take hy)
def aS.drop {b:Int} {l:List Int} (h:aS b l) (k:Nat):aS b (l.drop k):=fun y hy=>h y (List.mem_of_mem_drop hy)
def aS.set {b:Int} {l:List Int} (h:aS b l) {k:Nat} {x:Int} (hx:0<=x/\x<b):aS b (l.set k x):=fun y hy=>by
 rcases List.mem_or_eq_of_mem_set hy with hy|rfl
 .exact h y hy
 .exact hx
def aS.at' {b:Int} {l:List Int} (h:aS b l) {k:Nat} (hk:k<l.length):0<=l.getD k 0/\l.getD k 0<b:=by
 have:l.getD k 0=l[k]:=by simp [ao,hk]
 rw [this];exact h _ (List.getElem_mem _)
def aS.get {b:Int} (hb:0<b) {l:List Int} (h:aS b l) (k:Nat):0<=l.getD k 0/\l.getD k 0<b:=by
 by_cases hk:k<l.length
 .exact h.at' hk
 .rw [ao,List.getElem?_eq_none (by omega)];exact⟨Int.le_refl _,hb⟩
def aS.rep {b:Int} (hb:0<b) (n:Nat):aS b (List.replicate n 0):=fun y hy=>by
 rw [(List.mem_replicate.1 hy).2];exact⟨Int.le_refl _,hb⟩
def adO {a b:Int} (ha:0<=a) (hb:0<=b):0<=a*b:=Int.mul_nonneg ha hb
def dK {b:Int} (hb:0<b):∀n:Nat,0<b^n
 |0=>by simp
 |n+1=>by rw [Int.pow_succ];exact Int.mul_pos (dK hb n) hb
def gv {b:Int} (hb:0<b):∀{l:List Int},aS b l->0<=vl b l
 |[],_=>Int.le_refl _
 |x::r,h=>by
  have h1:=h.head;have h2:=Int.mul_nonneg (ct hb) (gv hb h.tail);show 0<=x+b*vl b r;omega
def dC {b:Int} (hb:0<b):∀{l:List Int},aS b l->vl b l<b^l.length
 |[],_=>by simp [vl]
 |x::r,h=>by
  have h1:=h.head;have h2:=dC hb h.tail;have h3:b*vl b r<=b*(b^r.length-1):=eu (by omega) (ct hb);have h4:b*(b^r.length-1)=b*b^r.length-b:=by rw [Int.mul_sub,Int.mul_one]
  have h5:b^(x::r).length=b*b^r.length:=by rw [List.length_cons,Int.pow_succ,Int.mul_comm]
  rw [h5];show x+b*vl b r<_;omega
def FQ (b:Int):∀(l m:List Int),vl b (l++m)=vl b l+b^l.length*vl b m
 |[],m=>by simp [vl]
 |x::r,m=>by
  show x+b*vl b (r++m)=x+b*vl b r+b^(r.length+1)*vl b m;rw [FQ b r m,Int.mul_add,Int.pow_succ,Int.mul_comm (b^r.length) b,Int.mul_assoc,Int.add_assoc]
def rZ (b x:Int):vl b [x]=x:=by simp [vl]
def x9 (b:Int) (l:List Int) (x:Int):vl b (l++[x])=vl b l+b^l.length*x:=by rw [FQ,rZ]
def CX (b:Int):∀n:Nat,vl b (List.replicate n 0)=0
 |0=>rfl
 |n+1=>by rw [List.replicate_succ];show 0+b*vl b (List.replicate n 0)=0;rw [CX b n];simp
def uh {l:List Int} {k:Nat} (h:k<l.length):l.getD k 0=l[k]:=by simp [ao,h]
def SQ {l:List Int} {k:Nat} (h:k<l.length):l.take (k+1)=l.take k++[l.getD k 0]:=by rw [uh h];simp
def lU {b:Int} {l:List Int} {k:Nat} (h:k<l.length):vl b (l.take (k+1))=vl b (l.take k)+b^k*l.getD k 0:=by
 rw [SQ h,x9,eM,Nat.min_eq_left (by omega)]
def k3 {b:Int} (l:List Int) (k:Nat):vl b (l.take (k+1))=vl b (l.take k)+b^k*l.getD k 0:=by
 by_cases h:k<l.length
 .exact lU h
 .have e:l.getD k 0=0:=by rw [ao,List.getElem?_eq_none (by omega)];rfl
  rw [e,eZ (by omega),eZ (by omega)];simp
def r0 (b:Int) (l:List Int) (k:Nat) (h:k<=l.length):vl b l=vl b (l.take k)+b^k*vl b (l.drop k):=by
 have:=FQ b (l.take k) (l.drop k);rw [List.take_append_drop,eM,Nat.min_eq_left h]at this;exact this
def qL (b:Int):∀(l:List Int) (k:Nat) (x:Int),k<l.length->vl b (l.set k x)=vl b l+b^k*(x-l.getD k 0)
 |[],k,_,h=>absurd h (Nat.not_lt_zero _)
 |y::r,0,x,_=>by
  show x+b*vl b r=y+b*vl b r+b^0*(x-(y::r).getD 0 0);simp;omega
 |y::r,k+1,x,h=>by
  show y+b*vl b (r.set k x)=y+b*vl b r+b^(k+1)*(x-(y::r).getD (k+1) 0);have e:(y::r).getD (k+1) 0=r.getD k 0:=by simp
  rw [qL b r k x (by simpa using h),e,Int.mul_add,Int.pow_succ,Int.mul_comm (b^k) b,Int.mul_assoc,Int.add_assoc]
def fk (l:List Int):Prop:=∀k,l.length=k+1->l.getD k 0≠0
def fm (l:List Int):Nat->List Int
 |0=>[]
 |k+1=>if l.getD k 0=0 then fm l k else l.take (k+1)
def CY (l:List Int):∀k,k<=l.length->∃m,m<=k/\fm l k=l.take m/\(∀j,m<=j->j<k->l.getD j 0=0)/\(∀j,m=j+1->l.getD j 0≠0)
 |0,_=>⟨0,aK _,by simp [fm],fun j _ h=>by omega,fun j h=>by omega⟩
 |k+1,hk=>by
  unfold fm;by_cases h:l.getD k 0=0
  .rw [if_pos h];obtain⟨m,h1,h2,h3,h4⟩:=CY l k (by omega);refine⟨m,by omega,h2,fun j g1 g2=> ?_,h4⟩;by_cases e:j=k
   .rw [e];exact h
   .exact h3 j g1 (by omega)
  .rw [if_neg h];exact⟨k+1,aK _,rfl,fun j g1 g2=>by omega,fun j e=>by
    obtain rfl:j=k:=by omega
    exact h⟩
def Lo {b:Int} (l:List Int):∀k,k<=l.length->vl b (fm l k)=vl b (l.take k)
 |0,_=>by simp [fm]
 |k+1,hk=>by
  unfold fm;by_cases h:l.getD k 0=0
  .rw [if_pos h,Lo l k (by omega),lU (by omega),h];simp
  .rw [if_neg h]
def FR (l:List Int) (k:Nat) (hk:k<=l.length):fk (fm l k):=by
 obtain⟨m,h1,h2,_,h4⟩:=CY l k hk;rw [h2];intro j hj;rw [eM,Nat.min_eq_left (by omega)]at hj;have:=h4 j hj;rwa [ao,List.getElem?_take,if_pos (by omega),<-ao]
def SR {b:Int} {l:List Int} (h:aS b l) (k:Nat) (hk:k<=l.length):aS b (fm l k):=by
 obtain⟨m,_,h2,_⟩:=CY l k hk;rw [h2];exact h.take _
def SS {l:List Int} (h:fk l):fm l l.length=l:=by
 cases hl:l.length with
 |zero=>rw [List.eq_nil_of_length_eq_zero hl];rfl
 |succ k=>
  unfold fm;rw [if_neg (h k hl)];exact eZ (by omega)
def ya {b:Int} (hb:0<b) {l:List Int} (h:aS b l) (ht:fk l) {k:Nat} (hl:l.length=k+1):b^k<=vl b l:=by
 have h1:=lU (b:=b) (l:=l) (k:=k) (by omega);rw [eZ (by omega)]at h1;have h2:=gv hb (h.take k);have h3:=h.at' (k:=k) (by omega);have h4:=ht k hl;have h5:b^k*1<=b^k*l.getD k 0:=eu (by omega) (ct (dK hb k));omega
def iW {b:Int} (hb:1<=b) {m n:Nat} (h:m<=n):b^m<=b^n:=by
 obtain⟨d,rfl⟩:=Nat.exists_eq_add_of_le h;rw [Int.pow_add];have h1:=dK (show 0<b by omega) m;have h2:=dK (show 0<b by omega) d;have:=eu (show 1<=b^d by omega) (ct h1);omega
def ib {b:Int} (hb:1<b) {l m:List Int} (h:aS b l) (g:aS b m) (ht:fk m) (hl:l.length<m.length):vl b l<vl b m:=by
 obtain⟨k,hk⟩:∃k,m.length=k+1:=⟨m.length-1,by omega⟩;have h1:=dC (show 0<b by omega) h;have h2:=ya (show 0<b by omega) g ht hk;have h3:=iW (show 1<=b by omega) (show l.length<=k by omega);omega
def FT {b:Int} (hb:1<b) {l m:List Int} (h:aS b l) (g:aS b m) (hl:l.length=m.length) {k:Nat} (hk:k<l.length) (hlt:l.getD k 0<m.getD k 0) (heq:∀j,k<j->j<l.length->l.getD j 0=m.getD j 0):vl b l<vl b m:=by
 have hb0:0<b:=by omega
 have hd:l.drop (k+1)=m.drop (k+1):=by
  refine List.ext_getElem (by simp [hl]) fun i h1 h2=> ?_
  rw [List.getElem_drop,List.getElem_drop,<-uh,<-uh];exact heq _ (by omega) (by simp at h1;omega)
 rw [r0 b l (k+1) (by omega),r0 b m (k+1) (by omega),hd,lU hk,lU (by omega)];have h1:=dC hb0 (h.take k);rw [eM,Nat.min_eq_left (by omega)]at h1;have h2:=gv hb0 (g.take k);have h3:b^k*(l.getD k 0+1)<=b^k*m.getD k 0:=eu (by omega) (ct (dK hb0 k));rw [Int.mul_add,Int.mul_one]at h3;omega
def Lp {b:Int} (hb:1<b):∀{l m:List Int},aS b l->aS b m->l.length=m.length->vl b l=vl b m->l=m
 |[],[],_,_,_,_=>rfl
 |[],_::_,_,_,h,_=>by cases h
 |_::_,[],_,_,h,_=>by cases h
 |x::l,y::m,h,g,hl,e=>by
  have e:x+b*vl b l=y+b*vl b m:=e;have h1:=h.head;have g1:=g.head;have hx:x=y:=by
   have a1:(x+b*vl b l)%b=x:=by rw [Int.add_mul_emod_self_left];exact Int.emod_eq_of_lt h1.1 h1.2
   have a2:(y+b*vl b m)%b=y:=by rw [Int.add_mul_emod_self_left];exact Int.emod_eq_of_lt g1.1 g1.2
   rw [<-a1,<-a2,e]
  subst hx;have e2:b*vl b l=b*vl b m:=by omega
  have e3:=Int.eq_of_mul_eq_mul_left (by omega) e2;rw [Lp hb h.tail g.tail (by simpa using hl) e3]
def SU {b:Int} (hb:1<b) {l m:List Int} (h:aS b l) (g:aS b m) (hl:fk l) (hm:fk m) (e:vl b l=vl b m):l=m:=by
 rcases Nat.lt_trichotomy l.length m.length with h1|h1|h1
 .have:=ib hb h g hm h1;omega
 .exact Lp hb h g h1 e
 .have:=ib hb g h hl h1;omega
def FU {b:Int} (hb:1<b) {l:List Int} (h:aS b l) (ht:fk l):vl b l=0↔l=[]:=by
 constructor
 .intro e;exact SU hb h .nil ht (fun k hk=>by cases hk) (by rw [e];rfl)
 .rintro rfl;rfl
def fk.nil:fk []:=fun k h=>by cases h
section
variable {b:Int}
structure Au (b v1 v2 v' aJ u1 u2 u' s:Int):Prop where
 b2:2<=b
 s1:1<=s
 v1:1<=v1/\v1<b
 v2:0<=v2/\v2<b
 v':0<=v'/\v'<s
 aJ:0<=aJ/\aJ<b
 u1:0<=u1/\u1<b
 u2:0<=u2/\u2<b
 u':0<=u'/\u'<s
variable {v1 v2 v' aJ u1 u2 u' s:Int}
def gM (b v1 v2 v' s:Int):Int:=(v1*b+v2)*s+v'
def nC (b aJ u1 u2 u' s:Int):Int:=((aJ*b+u1)*b+u2)*s+u'
def SV {a c x:Int} (h:a*x<c*x) (hx:0<x):a<c:=Int.lt_of_mul_lt_mul_right h (ct hx)
section
variable (p:Au b v1 v2 v' aJ u1 u2 u' s)
def SW {t q:Int} (ht:0<=t) (hq:q*gM b v1 v2 v' s<=nC b aJ u1 u2 u' s) (h:(aJ*b+u1-t*v1)*b+u2<t*v2):q<t:=by
 have h1:(aJ*b+u1)*b+u2+1<=t*(v1*b+v2):=by
  have e1:(aJ*b+u1-t*v1)*b=(aJ*b+u1)*b-t*v1*b:=Int.sub_mul _ _ _;have e2:t*(v1*b+v2)=t*v1*b+t*v2:=by rw [Int.mul_add,Int.mul_assoc]
  rw [e1]at h;rw [e2];omega
 have h2:=ar h1 (show 0<=s by have:=p.s1;omega);have e3:((aJ*b+u1)*b+u2+1)*s=((aJ*b+u1)*b+u2)*s+s:=by rw [Int.add_mul _ 1,Int.one_mul]
 rw [e3]at h2;have h3:t*(v1*b+v2)*s<=t*gM b v1 v2 v' s:=by
  rw [Int.mul_assoc];exact eu (by unfold gM;have:=p.v';omega) ht
 have h4:nC b aJ u1 u2 u' s<t*gM b v1 v2 v' s:=by unfold nC;have:=p.u';omega
 have h5:q*gM b v1 v2 v' s<t*gM b v1 v2 v' s:=by omega
 refine SV h5 ?_;have:=p.v1;have h6:0<v1*b+v2:=by
  have:=Int.mul_pos (show 0<v1 by omega) (show 0<b by have:=p.b2;omega);have:=p.v2;omega
 have h7:=Int.mul_pos h6 (show 0<s by have:=p.s1;omega);unfold gM;have:=p.v';omega
def Lq {t:Int} (ht:0<=t/\t<b) (h:t*v2<=(aJ*b+u1-t*v1)*b+u2):(t-1)*gM b v1 v2 v' s<=nC b aJ u1 u2 u' s:=by
 have e1:(aJ*b+u1-t*v1)*b=(aJ*b+u1)*b-t*v1*b:=Int.sub_mul _ _ _;have e2:t*(v1*b+v2)=t*v1*b+t*v2:=by rw [Int.mul_add,Int.mul_assoc]
 have h1:t*(v1*b+v2)<=(aJ*b+u1)*b+u2:=by rw [e2];rw [e1]at h;omega
 have h2:=ar h1 (show 0<=s by have:=p.s1;omega);have h3:t*v'<=(b-1)*s:=by
  have a:=ar (show t<=b-1 by omega) p.v'.1;have c:=eu (show v'<=s by have:=p.v';omega) (show 0<=b-1 by have:=p.b2;omega);omega
 have h4:b*s<=gM b v1 v2 v' s:=by
  have a:=ar p.v1.1 (show 0<=b by have:=p.b2;omega);rw [Int.one_mul]at a;have c:=ar (show b<=v1*b+v2 by have:=p.v2;omega) (show 0<=s by have:=p.s1;omega);unfold gM;have:=p.v';omega
 have e3:(t-1)*gM b v1 v2 v' s=t*gM b v1 v2 v' s-gM b v1 v2 v' s:=by rw [Int.sub_mul,Int.one_mul]
 have bW:t*gM b v1 v2 v' s=t*(v1*b+v2)*s+t*v':=by unfold gM;rw [Int.mul_add,Int.mul_assoc]
 have j6:(b-1)*s=b*s-s:=by rw [Int.sub_mul,Int.one_mul]
 rw [e3,bW];unfold nC;have:=p.u';have:=p.s1;omega
def xa {t:Int} (ht:0<=t/\t<b) (h:b<=aJ*b+u1-t*v1):t*v2<=(aJ*b+u1-t*v1)*b+u2:=by
 have h1:t*v2<=b*b:=by
  have a:=ar (show t<=b by omega) p.v2.1;have c:=eu (show v2<=b by have:=p.v2;omega) (show 0<=b by have:=p.b2;omega);omega
 have h2:=ar h (show 0<=b by have:=p.b2;omega);have:=p.u2;omega
def SX {q:Int} (j7:0<=q) (hq:q*gM b v1 v2 v' s<=nC b aJ u1 u2 u' s):q*v1<=aJ*b+u1:=by
 refine Int.not_lt.1 fun hlt=> ?_
 have hb:=p.b2;have h1:aJ*b+u1+1<=q*v1:=hlt;have h2:=ar h1 (show 0<=b by omega);have e1:(aJ*b+u1+1)*b=(aJ*b+u1)*b+b:=by rw [Int.add_mul _ 1,Int.one_mul]
 rw [e1]at h2;have h3:=ar (show(aJ*b+u1)*b+u2+1<=q*v1*b by have:=p.u2;omega) (show 0<=s by have:=p.s1;omega);have e2:((aJ*b+u1)*b+u2+1)*s=((aJ*b+u1)*b+u2)*s+s:=by rw [Int.add_mul _ 1,Int.one_mul]
 rw [e2]at h3;have h4:q*v1*b*s<=q*gM b v1 v2 v' s:=by
  rw [Int.mul_assoc,Int.mul_assoc];refine eu ?_ j7;rw [<-Int.mul_assoc];unfold gM;have a:v1*b*s<=(v1*b+v2)*s:=ar (by have:=p.v2;omega) (by have:=p.s1;omega);have:=p.v';omega
 unfold nC at hq;have:=p.u';omega
end
end
def fk.cons {x:Int} {l:List Int} (h:fk l) (hx:l=[]->x≠0):fk (x::l):=fun k hk=>by
 cases l with
 |nil=>
  simp at hk;subst hk;exact hx rfl
 |cons y r=>
  cases k with
  |zero=>simp at hk
  |succ k=>
   have:=h k (by simpa using hk);simpa using this
def SY {b:Int} (hb:1<b):∀n:Nat,∃l,aS b l/\fk l/\vl b l=(n:Int):=fun n=>by
 induction n using Nat.strongRecOn with
 |_ n ih=>
  by_cases h0:n=0
  .subst h0;exact⟨[],aS.nil,fk.nil,rfl⟩
  .have hlt:((n:Int)/b).toNat<n:=by
    have h1:(n:Int)/b<n:=Int.ediv_lt_of_lt_mul (by omega) (by
     have:(n:Int)*1<n*b:=Int.mul_lt_mul_of_pos_left hb (by omega);omega)
    have h2:0<=(n:Int)/b:=Int.ediv_nonneg (by omega) (by omega);omega
   obtain⟨l,h1,h2,h3⟩:=ih _ hlt;have h4:0<=(n:Int)/b:=Int.ediv_nonneg (by omega) (by omega);rw [Int.toNat_of_nonneg h4]at h3;have h5:=ec (n:Int) (show b≠0 by omega);have h6:=eL (n:Int) (show 0<b by omega);have h7:=Int.emod_add_mul_ediv (n:Int) b;refine⟨(n:Int)%b::l,aS.cons ⟨h5,h6⟩ h1,fk.cons h2 fun e hz=> ?_, ?_⟩
   .subst e;have h3:(0:Int)=(n:Int)/b:=h3;rw [hz,<-h3]at h7;simp at h7;omega
   .show(n:Int)%b+b*vl b l=n;rw [h3];exact h7
noncomputable def cV (b z:Int):List Int:=if h:1<b/\0<=z then Classical.choose (SY h.1 z.toNat)else []
def qM {b z:Int} (hb:1<b) (hz:0<=z):aS b (cV b z)/\fk (cV b z)/\vl b (cV b z)=z:=by
 unfold cV;rw [dif_pos ⟨hb,hz⟩];obtain⟨h1,h2,h3⟩:=Classical.choose_spec (SY hb z.toNat);exact⟨h1,h2,by rw [h3];omega⟩
def r4 {b z:Int} {l:List Int} (hb:1<b) (h1:aS b l) (h2:fk l) (h3:vl b l=z):l=cV b z:=by
 have hz:0<=z:=by rw [<-h3];exact gv (by omega) h1
 obtain⟨g1,g2,g3⟩:=qM hb hz;exact SU hb h1 g1 h2 g2 (by rw [h3,g3])
def Av {l:List Int} {i:Nat} {d:Int}:(l.set i d).take i=l.take i:=by
 refine List.ext_getElem? fun j=> ?_
 rw [List.getElem?_take,List.getElem?_take];split
 .rw [List.getElem?_set_ne (by omega)]
 .rfl
def mc {l:List Int} {i:Nat} {d:Int} (h:i<l.length):(l.set i d).getD i 0=d:=by
 rw [ao,List.getElem?_set_self h];rfl
def yb {b:Int} {l:List Int} {i:Nat} {d:Int} (h:i<l.length):vl b ((l.set i d).take (i+1))=vl b (l.take i)+b^i*d:=by
 rw [k3,Av,mc h]
section
variable {b:Int} (hb:0<b) {l:List Int} (h:aS b l)
def adP (k:Nat):vl b (l.take k)<=vl b l:=by
 by_cases hk:k<=l.length
 .rw [r0 b l k hk];have:=adO (ct (dK hb k)) (gv hb (h.drop k));omega
 .rw [eZ (by omega)];exact Int.le_refl _
def CZ {k:Nat} (hlt:vl b l<b^k):vl b (l.take k)=vl b l:=by
 by_cases hk:k<=l.length
 .have hs:=r0 b l k hk;have h1:=gv hb (h.drop k);have h2:=gv hb (h.take k);have hz:vl b (l.drop k)=0:=by
   by_cases hz:vl b (l.drop k)=0
   .exact hz
   .have h3:b^k*1<=b^k*vl b (l.drop k):=eu (by omega) (ct (dK hb k));omega
  rw [hz]at hs;omega
 .rw [eZ (by omega)]
end
def Lr {P b s c' a e c X Y O:Int} (h:s+b*c'=a+e+c) (hi:O+P*c=X+Y):O+P*s+P*b*c'=X+P*a+(Y+P*e):=by
 have h1:P*(s+b*c')=P*(a+e+c):=by rw [h]
 rw [Int.mul_add,Int.mul_add,Int.mul_add,<-Int.mul_assoc]at h1;omega
def SZ {P b s c' a e c X Y O:Int} (h:s-b*c'=a-e-c) (hi:O-P*c=X-Y):O+P*s-P*b*c'=X+P*a-(Y+P*e):=by
 have h1:P*(s-b*c')=P*(a-e-c):=by rw [h]
 rw [Int.mul_sub,Int.mul_sub,Int.mul_sub,<-Int.mul_assoc]at h1;omega
def fT (b:Int):Nat->Int->List Int
 |0,_=>[]
 |m+1,z=>z%b::fT b m (z/b)
def yc (b:Int):∀(m:Nat) (z:Int),(fT b m z).length=m
 |0,_=>rfl
 |m+1,z=>by rw [fT,List.length_cons,yc b m]
def C0 {b:Int} (hb:0<b):∀(m:Nat) (z:Int),aS b (fT b m z)
 |0,_=> .nil
 |m+1,z=> .cons ⟨ec _ (by omega),eL _ hb⟩ (C0 hb m _)
def C1 {b:Int} (hb:0<b):∀(m:Nat) (z:Int),0<=z->z<b^m->vl b (fT b m z)=z
 |0,z,h0,h1=>by simp at h1;simp [fT,vl];omega
 |m+1,z,h0,h1=>by
  have h2:z/b<b^m:=Int.ediv_lt_of_lt_mul hb (by rw [Int.pow_succ]at h1;exact h1);have h3:=C1 hb m (z/b) (Int.ediv_nonneg h0 (ct hb)) h2;show z%b+b*vl b (fT b m (z/b))=z;rw [h3];exact Int.emod_add_mul_ediv z b
def Ls {b:Int} (hb:1<b) {l:List Int} (h:aS b l):l=fT b l.length (vl b l):=by
 have hb0:0<b:=by omega
 exact Lp hb h (C0 hb0 _ _) (yc b _ _).symm (C1 hb0 _ _ (gv hb0 h) (dC hb0 h)).symm
def Lt {b:Int} {u v:List Int} {n:Nat} (hb:2<=b) (hu:aS b u) (hv:aS b v) (bJ:u.length=n+3) (lv:v.length=n+2) (h1:1<=v.getD (n+1) 0):
  Au b (v.getD (n+1) 0) (v.getD n 0) (vl b (v.take n)) (u.getD (n+2) 0) (u.getD (n+1) 0) (u.getD n 0) (vl b (u.take n)) (b^n):=by
 have hb0:0<b:=by omega
 have hp:=dK hb0 n;have l1:=dC hb0 (hv.take n);have l2:=dC hb0 (hu.take n);rw [eM,Nat.min_eq_left (by omega)]at l1 l2;exact⟨hb,hp,⟨h1,(hv.get hb0 _).2⟩,hv.get hb0 _,⟨gv hb0 (hv.take n),l1⟩,hu.get hb0 _,hu.get hb0 _,hu.get hb0 _,⟨gv hb0 (hu.take n),l2⟩⟩
def Lu {b:Int} {v:List Int} {n:Nat} (lv:v.length=n+2):gM b (v.getD (n+1) 0) (v.getD n 0) (vl b (v.take n)) (b^n)=vl b v:=by
 have h1:=lU (b:=b) (l:=v) (k:=n+1) (by omega);have h2:=lU (b:=b) (l:=v) (k:=n) (by omega);rw [eZ (by omega)]at h1;rw [h1,h2];unfold gM;rw [Int.add_mul,Int.pow_succ,Int.mul_comm (v.getD (n+1) 0) b,Int.mul_assoc,Int.mul_comm (v.getD (n+1) 0),Int.mul_comm (v.getD n 0),<-Int.mul_assoc,Int.mul_comm b];omega
def Lv {b:Int} {u:List Int} {n:Nat} (bJ:u.length=n+3):nC b (u.getD (n+2) 0) (u.getD (n+1) 0) (u.getD n 0) (vl b (u.take n)) (b^n)=vl b u:=by
 have h0:=lU (b:=b) (l:=u) (k:=n+2) (by omega);have h1:=lU (b:=b) (l:=u) (k:=n+1) (by omega);have h2:=lU (b:=b) (l:=u) (k:=n) (by omega);rw [eZ (by omega)]at h0;rw [h0,h1,h2];unfold nC;simp only [Int.pow_succ];generalize u.getD (n+2) 0=x;generalize u.getD (n+1) 0=y;generalize u.getD n 0=z;generalize b^n=P;clear h0 h1 h2 bJ;generalize vl b (u.take n)=V;grind
def yd {U V t:Int} (hV:0<V) (h1:0<=U-t*V) (h2:U-t*V<V):U/V=t/\U%V=U-t*V:=by
 have h3:U=(U-t*V)+t*V:=by omega
 have hq:U/V=t:=by
  rw [h3,Int.add_mul_ediv_right _ _ (by omega),Int.ediv_eq_zero_of_lt h1 h2];omega
 refine⟨hq, ?_⟩;have:=Int.emod_add_mul_ediv U V;rw [hq,Int.mul_comm]at this;omega
def adQ {B P lo c' c t v u u' r5 bo X O W:Int} (h1:c'*B+lo=t*v+c) (h2:u'-B*r5=u-lo-bo) (hi:O-P*bo=X-t*W+P*c):
  O+P*u'-P*B*r5=X+P*u-t*(W+P*v)+P*B*c':=by
 grind
end Go.Proofs.YtibikmmdbdlafaaGreatDoor
namespace Go.Proofs.YtibikmmdbdlafaaGreatDoor.Sv
open Go.RowKit
variable [Ground]
noncomputable section
def ye (ty:av) (v:af) (H:ai):aE (Option (af×ai)):=match ty,v with
 | .list false t, .bU e u i k len _=>(match decide (u=t)with
   |true=> .must (Nat.beq len 0||bA e t (H.get i) (k+len-1)) (.ret (some (.bu false t (((bP t (H.get i)).drop k).take len),H.drop i)))
   |false=> .ret none)
 | .list false t, .slice i off n _=>(match H.get i with
   |some (.cells _ cs _ false false)=>(match t.rD n (cut cs off (n*t.size))with
    |some ds=> .must (Nat.ble (off+n*t.size) cs.length) (.ret (some (.bu false t ds,H.drop i)))
    |none=> .ret none)
   |_=> .ret none)
 |_,v=> .ret (some (v,H))
def r6:List av->List af->ai->aE (Option (List af×ai))
 |t::ts,v::vs,H=>(ye t v H).bind fun r=>match r with
  |some (v1,H1)=>(r6 ts vs H1).bind fun r2=>match r2 with
   |some (ou,H2)=> .ret (some (v1::ou,H2))
   |none=> .ret none
  |none=> .ret none
 |_,vs,H=> .ret (some (vs,H))
def FV (c:bn) (args:List af) (H:ai):aE aM:=(r6 c.ps args H).bind fun r=>match r with
 |some (args1,H1)=>xY c args1 H1
 |none=> .ret .no
def ov (l:List bn) (bw:bG):bG:=fun f args H=>match l with
 |[]=>bw f args H
 |c::l=>match Nat.beq f c.f with |true=>FV c args H|false=>ov l bw f args H
section
variable {P:Program} {B:Nat} {ρ:Env} {H:ai} {w:World}
def FW (hH:bk P B ρ H w) {i b c:Nat} {k:bq} {zs:Array Value} {e:TypeId} {fr:Nat×Nat} (hi:H.get i=some k) (hro:k.eU=false) (hr:ρ i=some (b,c)) (hz:w.heap[b]? =some (.cells zs e fr)):
  ∃cS:Env,cS.fz b=some zs/\(∀j,cS j=ρ j)/\cD ρ cS/\bk P B cS (H.drop i) w/\bR ρ H w cS (H.drop i) w:=by
 have hnf:ρ.fz b=none:=by
  cases pg:ρ.fz b with
  |none=>rfl
  |some A=>
   have:=(hH.fz b A pg).2 i k c hi hr;rw [hro]at this;cases this
 have hle:cD ρ ⟨ρ.at',fun q=>if q=b then some zs else ρ.fz q⟩:=⟨fun _ _ h=>h,fun q A h=>by
  show(if q=b then some zs else ρ.fz q)=some A;by_cases hq:q=b
  .subst hq;rw [hnf]at h;cases h
  .rw [if_neg hq];exact h⟩
 have key:∀j kk,(H.drop i).get j=some kk->j≠i/\H.get j=some kk:=fun j kk h=>by
  rw [ai.o8]at h;split at h
  .cases h
  .rename_i h2;exact⟨fun h=>h2 h.symm,h⟩
 refine⟨⟨ρ.at',fun q=>if q=b then some zs else ρ.fz q⟩,if_pos rfl,fun _=>rfl,hle,⟨fun j kk h=> ?_,fun i1 i2 k1 k2 bb c1 c2 g1 g2 g3 g4=>hH.inj i1 i2 k1 k2 bb c1 c2 (key _ _ g1).2 (key _ _ g2).2 g3 g4,fun j kk h=>hH.lt j kk (key j kk h).2,hH.base,fun bb A h=> ?_⟩,
  ⟨hle,fun _ _=>rfl,aK _,aK _,rfl,rfl,rfl,fun _ _ _=>rfl,fun q _ ⟨j,kk,cn,h1,h2,h3⟩=>⟨j,kk,cn,(key j kk h1).2,h2,h3⟩,fun q _ ⟨j,kk,cn,h1,h3⟩=>⟨j,kk,cn,(key j kk h1).2,h3⟩,fun bb A h=> ?_⟩⟩
 .obtain⟨bj,cn,o,e1,e2,e3,bW⟩:=hH.blk j kk (key j kk h).2;exact⟨bj,cn,o,e1,e2,e3.mono hle,bW⟩
 .have h:(if bb=b then some zs else ρ.fz bb)=some A:=h;by_cases hq:bb=b
  .subst hq;rw [if_pos rfl]at h;cases h;exact⟨⟨_,_,hz⟩,fun j kk c' g1 g2=>absurd (hH.inj j i kk k bb c' c (key j kk g1).2 hi g2 hr) (key j kk g1).1⟩
  .rw [if_neg hq]at h;exact⟨(hH.fz bb A h).1,fun j kk c' g1 g2=>(hH.fz bb A h).2 j kk c' (key j kk g1).2 g2⟩
 .have h:(if bb=b then some zs else ρ.fz bb)=some A:=h;by_cases hq:bb=b
  .subst hq;exact .inr (.inr ⟨i,k,c,hi,hro,hr⟩)
  .rw [if_neg hq]at h;exact .inl h
def adR (hH:bk P B ρ H w) {ty:av} {v v1:af} {H1:ai} {x:Value} (h:(ye ty v H).gr=some (some (v1,H1))) (hd:Den ρ v x):∃cS:Env,cD ρ cS/\bk P B cS H1 w/\bR ρ H w cS H1 w/\Den cS v1 x:=by
 unfold ye at h;split at h
 .rename_i t e u i k len cap;split at h
  .rename_i hu;have hu:=ap hu;subst hu;cases hm:(Nat.beq len 0||bA e u (H.get i) (k+len-1))with
   |false=>rw [hm]at h;cases h
   |true=>
    rw [hm]at h;cases h;rcases hd.jA with⟨rfl,a,rfl⟩|⟨b,c,kc,g1,g2,g3,rfl⟩
    .rw [List.take_zero];by_cases hg:∃kk,H.get i=some kk/\kk.eU=false/\∃b c zs e fr,ρ i=some (b,c)/\w.heap[b]? =some (.cells zs e fr)
     .obtain⟨kk,q1,aP,b,c,zs,e',fr,b8,ez⟩:=hg;obtain⟨cS,_,_,r1,r2,r3⟩:=FW hH q1 aP b8 ez;exact⟨cS,r1,r2,r3, .fe fun e=>by cases e⟩
     . -- the block is given up without being frozen
       have key:∀j kk,(H.drop i).get j=some kk->j≠i/\H.get j=some kk:=fun j kk h=>by
        rw [ai.o8]at h;split at h
        .cases h
        .rename_i h2;exact⟨fun h=>h2 h.symm,h⟩
       exact⟨ρ,cD.refl _,⟨fun j kk h=>hH.blk j kk (key j kk h).2,fun i1 i2 k1 k2 bb c1 c2 g1 g2 g3 g4=>hH.inj i1 i2 k1 k2 bb c1 c2 (key _ _ g1).2 (key _ _ g2).2 g3 g4,fun j kk h=>hH.lt j kk (key j kk h).2,hH.base,fun bb A h=>⟨(hH.fz bb A h).1,fun j kk c' g1 g2=>(hH.fz bb A h).2 j kk c' (key j kk g1).2 g2⟩⟩,
        ⟨cD.refl _,fun _ _=>rfl,aK _,aK _,rfl,rfl,rfl,fun _ _ _=>rfl,fun q _ ⟨j,kk,cn,h1,h2,h3⟩=>⟨j,kk,cn,(key j kk h1).2,h2,h3⟩,fun q _ ⟨j,kk,cn,h1,h3⟩=>⟨j,kk,cn,(key j kk h1).2,h3⟩,fun bb A h=> .inl h⟩, .fe fun e=>by cases e⟩
    .by_cases hl:len=0
     .subst hl;rw [List.take_zero];by_cases hg:∃kk,H.get i=some kk/\kk.eU=false/\∃b c zs e fr,ρ i=some (b,c)/\w.heap[b]? =some (.cells zs e fr)
      .obtain⟨kk,q1,aP,b,c,zs,e',fr,b8,ez⟩:=hg;obtain⟨cS,_,_,r1,r2,r3⟩:=FW hH q1 aP b8 ez;exact⟨cS,r1,r2,r3, .fe fun e=>by cases e⟩
      .have key:∀j kk,(H.drop i).get j=some kk->j≠i/\H.get j=some kk:=fun j kk h=>by
        rw [ai.o8]at h;split at h
        .cases h
        .rename_i h2;exact⟨fun h=>h2 h.symm,h⟩
       exact⟨ρ,cD.refl _,⟨fun j kk h=>hH.blk j kk (key j kk h).2,fun i1 i2 k1 k2 bb c1 c2 g1 g2 g3 g4=>hH.inj i1 i2 k1 k2 bb c1 c2 (key _ _ g1).2 (key _ _ g2).2 g3 g4,fun j kk h=>hH.lt j kk (key j kk h).2,hH.base,fun bb A h=>⟨(hH.fz bb A h).1,fun j kk c' g1 g2=>(hH.fz bb A h).2 j kk c' (key j kk g1).2 g2⟩⟩,
        ⟨cD.refl _,fun _ _=>rfl,aK _,aK _,rfl,rfl,rfl,fun _ _ _=>rfl,fun q _ ⟨j,kk,cn,h1,h2,h3⟩=>⟨j,kk,cn,(key j kk h1).2,h2,h3⟩,fun q _ ⟨j,kk,cn,h1,h3⟩=>⟨j,kk,cn,(key j kk h1).2,h3⟩,fun bb A h=> .inl h⟩, .fe fun e=>by cases e⟩
     .rw [Bool.or_eq_true]at hm;have hm:=hm.resolve_left fun e=>hl (ac e)
      obtain⟨b1,b2⟩:=vq hm;obtain⟨zs,q1,aP,_⟩:=rK hH b1 g1;obtain⟨cS,f1,_,r1,r2,r3⟩:=FW hH b1 rfl g1 q1;refine⟨cS,r1,r2,r3, ?_⟩;generalize bP u (H.get i)=xs at b1 b2 aP ⊢;have hle2:k+len<=xs.length:=by omega
      have e1:(xs.drop k).take len=(xs.take (k+len)).drop k:=by rw [List.take_drop]
      have gU:=lP (off:=0) (A:=zs.toList) (l:=k) (h:=k+len) (by simpa using aP) (by omega) hle2;rw [aw,<-e1]at gU;have hn:((xs.drop k).take len).length=len:=by simp;omega
      have gH:=Den.bu (ρ:=cS) (z:=false) (t:=u) (xs:=(xs.drop k).take len) (b:=b) (off:=k*u.size) (k:=kc) (A:=zs) f1 (by
       have e3:(u.flat xs).length<=zs.toList.length:=by
        have:=aP.length;simp at this ⊢;omega
       rw [u.jf]at e3 ⊢;rw [hn,<-Nat.add_mul];have:=dc (Nat.mul_le_mul_right u.size hle2) e3;simpa using this) rfl (gU.mono r1) (by omega) (fun e=>by cases e)
      rwa [hn]at gH
  .cases h
 .rename_i t i off n cap;split at h
  .rename_i e cs x hg;split at h
   .rename_i ds hrd;cases hm:Nat.ble (off+n*t.size) cs.length with
    |false=>rw [hm]at h;cases h
    |true=>
     rw [hm]at h;cases h;have hle:=bV hm;obtain⟨b,c,k,g1,_,g3,rfl⟩:=hd.iz;obtain⟨zs,xC,q1,_,b8,_,_,qC⟩:=dp hH hg g1;obtain⟨cS,f1,_,r1,r2,r3⟩:=FW hH hg rfl g1 q1;refine⟨cS,r1,r2,r3, ?_⟩;have hcut:=(b8.drop off).take (n*t.size);obtain⟨mL,hn⟩:=av.B6 hrd hcut;subst hn;have hfl:=t.jf ds;have e2:((zs.toList.take cs.length).drop off).take (ds.length*t.size)=(zs.toList.drop off).take (t.flat ds).length:=by
      rw [hfl,List.drop_take,List.take_take,Nat.min_eq_left (by omega)]
     rw [e2]at mL;exact .bu f1 (by rw [hfl];omega) rfl (mL.mono r1) g3 fun e=>by cases e
   .cases h
  .cases h
 .cases h;exact⟨ρ,cD.refl _,hH,bR.refl _ _ _,hd⟩
def S0:∀{ts:List av} {vs ou:List af} {ρ:Env} {H H1:ai} {xs:List Value},bk P B ρ H w->(r6 ts vs H).gr=some (some (ou,H1))->aI ρ vs xs->∃cS:Env,cD ρ cS/\bk P B cS H1 w/\bR ρ H w cS H1 w/\aI cS ou xs
 |[],vs,ou,ρ,H,H1,xs,hH,h,hd=>by
  cases h;exact⟨ρ,cD.refl _,hH,bR.refl _ _ _,hd⟩
 |t::ts,[],ou,ρ,H,H1,xs,hH,h,hd=>by
  cases h;exact⟨ρ,cD.refl _,hH,bR.refl _ _ _,hd⟩
 |t::ts,v::vs,ou,ρ,H,H1,_,hH,h, .cons d1 d2=>by
  unfold r6 at h;rw [aE.qy]at h;cases h1:(ye t v H).gr with
  |none=>rw [h1]at h;cases h
  |some r=>
   rw [h1]at h;cases r with
   |none=>cases h
   |some r=>
    obtain⟨v1,H2⟩:=r;simp only [Option.bind_some]at h;rw [aE.qy]at h;cases h2:(r6 ts vs H2).gr with
    |none=>rw [h2]at h;cases h
    |some r2=>
     rw [h2]at h;cases r2 with
     |none=>cases h
     |some r2=>
      obtain⟨S1,H3⟩:=r2;cases h;obtain⟨cS,l1,a1,s1,e1⟩:=adR hH h1 d1;obtain⟨en,l2,a2,s2,e2⟩:=S0 a1 h2 (d2.mono l1);exact⟨en,l1.trans l2,a2,s1.trans s2, .cons (e1.mono l2) e2⟩
def adS {ty:av} {v v1:af} {H1:ai} (h:(ye ty v H).gr=some (some (v1,H1))):H1.next=H.next:=by
 unfold ye at h;split at h
 .split at h
  .rename_i e u i k len _ _ _;cases hm:(Nat.beq len 0||bA e _ (H.get i) (k+len-1))with
   |false=>rw [hm]at h;cases h
   |true=>rw [hm]at h;cases h;rfl
  .cases h
 .split at h
  .split at h
   .unfold aE.gr at h;generalize Nat.ble _ _=bb at h;cases bb with
    |false=>cases h
    |true=>cases h;rfl
   .cases h
  .cases h
 .cases h;rfl
def S2:∀{ts:List av} {vs ou:List af} {H H1:ai},(r6 ts vs H).gr=some (some (ou,H1))->H1.next=H.next
 |[],vs,ou,H,H1,h=>by cases h;rfl
 |t::ts,[],ou,H,H1,h=>by cases h;rfl
 |t::ts,v::vs,ou,H,H1,h=>by
  unfold r6 at h;rw [aE.qy]at h;cases h1:(ye t v H).gr with
  |none=>rw [h1]at h;cases h
  |some r=>
   rw [h1]at h;cases r with
   |none=>cases h
   |some r=>
    obtain⟨v1,H2⟩:=r;simp only [Option.bind_some]at h;rw [aE.qy]at h;cases h2:(r6 ts vs H2).gr with
    |none=>rw [h2]at h;cases h
    |some r2=>
     rw [h2]at h;cases r2 with
     |none=>cases h
     |some r2=>
      obtain⟨S1,H3⟩:=r2;cases h;rw [S2 h2,adS h1]
def xc {c:bn} {args:List af} {v:af} {H':ai} (h:(FV c args H).gr=some (.ok v H')):∃args1,(r6 c.ps args H).gr=some (some (args1,H'))/\(xY c args1 H').gr=some (.ok v H'):=by
 unfold FV at h;rw [aE.qy]at h;cases h1:(r6 c.ps args H).gr with
 |none=>rw [h1]at h;cases h
 |some r=>
  rw [h1]at h;cases r with
  |none=>cases h
  |some r=>
   obtain⟨a1,H1⟩:=r;have h:(xY c a1 H1).gr=some (.ok v H'):=h;have e:=KW h;subst e;exact⟨a1,rfl,h⟩
def Lw {bw:bG} {f:FuncId} {args:List af} {v:af} {H':ai}:∀{l:List bn},(ov l bw f args H).gr=some (.ok v H')->(∃c∈l,c.f=f/\(FV c args H).gr=some (.ok v H'))\/(bw f args H).gr=some (.ok v H')
 |[],h=> .inr h
 |c::l,h=>by
  unfold ov at h;cases hb:Nat.beq f c.f with
  |true=>simp only [hb]at h;exact .inl ⟨c,mj,(ac hb).symm,h⟩
  |false=>
   simp only [hb]at h;rcases Lw h with⟨c',h1,h2⟩|h1
   .exact .inl ⟨c',mh _ h1,h2⟩
   .exact .inr h1
def uj {l:List bn} {bw:bG} (hl:∀c∈l,c.Ok P) (hS:bD P (bF bw)):bD P (bF (ov l bw)) where
 mono f args H v H' h:=by
  rcases Lw (rW h)with⟨c,_,_,h3⟩|h3
  .obtain⟨a1,g1,_⟩:=xc h3;rw [S2 g1];exact aK _
  .exact hS.mono f args H v H' (by unfold bF;rw [h3];rfl)
 cz f args H v H' h B ρ xs w m hH cv hd hf:=by
  rcases Lw (rW h)with⟨c,h1,rfl,h3⟩|h3
  .obtain⟨a1,g1,g2⟩:=xc h3;obtain⟨cS,l1,a2,s1,e1⟩:=S0 hH g1 hd;refine(St (hl c h1) g2 m a2 (cv.mono l1) e1).mono ?_;rintro e w' ⟨x,ρ',rfl,q1,aP,b8⟩;exact⟨x,ρ',rfl,q1,aP,s1.trans b8⟩
  .exact hS.cz f args H v H' (by unfold bF;rw [h3];rfl) B ρ xs w m hH cv hd hf
end
end
end Go.Proofs.YtibikmmdbdlafaaGreatDoor.Sv
