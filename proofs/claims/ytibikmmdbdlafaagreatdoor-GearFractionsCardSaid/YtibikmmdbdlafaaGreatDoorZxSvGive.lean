/- The tests of one way in short: the list of what is to be shown; most of it holds by computation. -/
import Derived.Test.YtibikmmdbdlafaaGreatDoorZxSvUse
import Derived.Test.YtibikmmdbdlafaaGreatDoorZxSvFit
import Derived.Lib.MakeNoZero
import Derived.Test.YtibikmmdbdlafaaGreatDoorProg
import Derived.Lib.LaidTab
import Derived.Lib.ItoaNum
import Derived.Test.YtibikmmdbdlafaaGreatDoorRows
import Derived.WalkKit
import Derived.ProofKit
import Derived.LaidMore
import Derived.OpenShut
import Derived.ChangeOld
import Derived.Below
import Derived.Stop.Joined
import Derived.SevenTiedAt
import Derived.SizedLaws
import Derived.Shelf.Vars
set_option linter.unusedVariables false
set_option linter.unusedSectionVars false
set_option maxRecDepth 100000
set_option linter.unusedSimpArgs false
namespace Go.Proofs.YtibikmmdbdlafaaGreatDoor.Sv
open Go.RowKit
variable [Ground]
noncomputable section
inductive cq:Type 1 where
 |b (x c:Bool)
 |e {α:Type} (x y:α)
 |o (P:Program) (m:Option Nat) (b:Option bf) (e:TypeId) (t:au) (xs:List t.den)
 |p (q:Prop)
def cq.ok:cq->Prop
 | .b x c=>x=c
 | .e x y=>x=y
 | .o P m k f t xs=>zH P m k f t xs
 | .p q=>q
def eR:List cq->Prop
 |[]=>True
 |o::l=>o.ok/\eR l
abbrev iE:={o:cq//o.ok}
def af {x c:Bool} (h:x=c):iE:=⟨.b x c,h⟩
def ax {α:Type} {x y:α} (h:x=y):iE:=⟨.e x y,h⟩
def oT {q:Prop} (h:q):iE:=⟨.p q,h⟩
def oU (P:Program) (e:TypeId) (t:au) {ys xs:List t.den} (h:ys=xs):iE:=⟨.o P none (some (.own e t ys)) e t xs,by subst h;simp [cq.ok,zH,q6,gO,oO]⟩
def ah {p:Prop} [Decidable p] (h:p):iE:=af (az h)
def aJ {p:Prop} [Decidable p] (h:¬p):iE:=af (ab h)
def c8 {α:Type} [BEq α] [LawfulBEq α] {a b:α} (h:a=b):iE:=af (fU.mpr h)
def yn {α:Type} [BEq α] [LawfulBEq α] {a b:α} (h:¬a=b):iE:=af (fP.mpr h)
def yi {r:Int} (h: -9223372036854775808<=r/\r<=9223372036854775807):iE:=af (bm h)
def QF:Nat->Nat->List Bool
 |0,_=>[]
 |k+1,n=>cond (Nat.ble n 1) [] (Nat.beq (n%2) 1::QF k (n/2))
def dl (n:Nat):List Bool:=QF n n
def cq.fix:cq->cq
 | .b _ c=> .b c c
 | .e x _=> .e x x
 | .o P _ _ f t xs=> .o P none (bM f t xs) f t xs
 | .p _=> .p True
def cq.QG:cq->cq
 | .o P _ _ f t xs=> .o P none (some (.own f t xs)) f t xs
 |q=>q.fix
def Ez:List iE->Nat->cq->cq
 |[],_,o=>o.fix
 |f::F,k,o=>cond (Nat.beq k 0) f.1 (Ez F (k-1) o)
def EA (F:List iE):List cq->Nat->List cq
 |[],_=>[]
 |o::l,n=>cond (Nat.beq (n%64) 0) o.fix (cond (Nat.beq (n%64) 63) o.QG (Ez F (n%64-1) o))::EA F l (n/64)
theorem cq.QH:∀o:cq,o.fix.ok
 | .b _ _=>rfl
 | .e _ _=>rfl
 | .o _ _ _ _ _ _=>aau _ _ _ _
 | .p _=>trivial
theorem cq.aaP:∀o:cq,o.QG.ok
 | .b _ _=>rfl
 | .e _ _=>rfl
 | .o P _ _ f t _=>(oU P f t rfl).2
 | .p _=>trivial
theorem QI:∀(F:List iE) (k:Nat) (o:cq),(Ez F k o).ok
 |[],_,o=>o.QH
 |f::F,k,o=>by unfold Ez;cases Nat.beq k 0<;>first |exact QI F _ o|exact f.2
theorem JG (F:List iE):∀(l:List cq) (n:Nat),eR (EA F l n)
 |[],_=>trivial
 |o::l,n=>⟨by cases Nat.beq (n%64) 0<;>cases Nat.beq (n%64) 63<;>first |exact o.QH|exact o.aaP|exact QI F _ o,JG F l _⟩
def aA.obs {α:Type} (w:Bool):aA α->List Bool->(α->List cq)->List cq
 | .ret a,_,q=>q a
 | .must b k,D,q=> .b b true::k.obs w D q
 | .ask b k,[],q=>(k b).obs w [] q
 | .ask b k,c::D,q=> .b b c::(k c).obs w D q
 | .opt b k l,D,q=> .b b (!w)::match w with |false=>k.obs w D q|true=>l.obs w D q
class Cb {α:Type} (Q:α->Prop) where
 xF:α->List cq
 ok:∀a,eR (xF a)->Q a
instance (priority:=low) {α:Type} (Q:α->Prop):Cb Q:=⟨fun a=>[.p (Q a)],fun _ h=>h.1⟩
theorem aA.Cc {α:Type} {Q:α->Prop} {q:α->List cq} (hq:∀a,eR (q a)->Q a):∀(x:aA α) (D:List Bool),eR (x.obs false D q)->x.path D Q
 | .ret a,_,h=>hq a h
 | .must _ k,D,h=>⟨h.1,Cc hq k D h.2⟩
 | .ask b k,[],h=>Cc hq (k b) [] h
 | .ask _ k,c::D,h=>⟨h.1,Cc hq (k c) D h.2⟩
 | .opt _ k _,D,h=>⟨h.1,Cc hq k D h.2⟩
theorem aA.Cd {α:Type} {Q:α->Prop} {q:α->List cq} (hq:∀a,eR (q a)->Q a):∀(x:aA α) (D:List Bool),eR (x.obs true D q)->x.s8 D Q
 | .ret a,_,h=>hq a h
 | .must _ k,D,h=>⟨h.1,Cd hq k D h.2⟩
 | .ask b k,[],h=>Cd hq (k b) [] h
 | .ask _ k,c::D,h=>⟨h.1,Cd hq (k c) D h.2⟩
 | .opt _ _ l,D,h=>⟨h.1,Cd hq l D h.2⟩
theorem wy {α:Type} {r:aA α} {D:List Bool} {Q:α->Prop} [I:Cb Q] (F:List iE) (n:Nat) (h:r.obs false D I.xF=EA F (r.obs false D I.xF) n:=by kernel_rfl):r.path D Q:=aA.Cc I.ok r D (by rw [h];exact JG F _ n)
theorem aaQ {α:Type} {r:aA α} {D:List Bool} {Q:α->Prop} [I:Cb Q] (F:List iE) (n:Nat) (h:r.obs true D I.xF=EA F (r.obs true D I.xF) n:=by kernel_rfl):r.s8 D Q:=aA.Cd I.ok r D (by rw [h];exact JG F _ n)
def mA (b:Bool) (l:List cq):List cq:=match b with |true=>l|false=>[.p False]
def zO (t u:au) (xs:List t.den) (ys:List u.den) (K:List cq):List cq:=if h:t=u then .e (h ▸ xs) ys::K else [.p False]
def JH (z z':Bool) (n:Nat) (l:List cq):List cq:=match z',z with
 |true,false=> .b (Nat.ble 1 n) true::l
 |_,_=>l
def EB:Value->Value->List cq->List cq
 | .int k a, .int k' b,K=>mA (decide (k=k')) (.e a b::K)
 | .bool a, .bool b,K=> .e a b::K
 | .string a, .string b,K=> .e a b::K
 |a,b,K=> .e a b::K
def aaR (m:Option Nat) (c c':aS) (K:List cq):List cq:=match m with
 |none=> .e c c'::K
 |some m=> .e c (.known m):: .e c' (bA m)::K
def JI (σ:Ren) (i n:Nat) (c:aS) (j n':Nat) (c':aS) (K:List cq):List cq:=match look σ j with
 |some (i',m)=>mA (Nat.beq i i') (.e n n'::aaR m c c' K)
 |none=>[.p False]
mutual
def Ce (σ:Ren):aa->aa->List cq->List cq
 |_, .bot,K=>K
 | .raw (.slice none 0 0), .bN _ _ _ _ n _,K=> .e n 0::K
 | .raw (.slice none 0 0), .bk _ _ ys,K=> .e ys []::K
 | .raw a, .raw b,K=>EB a b K
 | .ptr i off, .ptr j off',K=>mA (nR σ j i) (.e off off'::K)
 | .slice i off n c, .slice j off' n' c',K=>mA (nR σ j i) (.e off off':: .e n n':: .e c c'::K)
 | .slice i 0 n c, .bN _ _ j 0 n' c',K=>JI σ i n c j n' c' K
 | .func f a b, .func f' a' b',K=>mA (decide (f=f')) (u7 σ a a' (u7 σ b b' K))
 | .map i, .map j,K=>mA (nR σ j i) K
 | .iface t v, .iface t' v',K=>mA (Nat.beq t t') (Ce σ v v' K)
 | .agg l, .agg l',K=>u7 σ l l' K
 | .tuple l, .tuple l',K=>u7 σ l l' K
 | .bk z t xs, .bk z' u ys,K=>zO t u xs ys (JH z z' ys.length K)
 | .e8 t xs k off, .e8 u ys k' off',K=>zO t u xs ys (.e k k':: .e off off'::K)
 | .bN e t i k n c, .bN e' u j k' n' c',K=>mA (Nat.beq e e'&&(decide (t=u)&&nR σ j i)) (.e k k':: .e n n':: .e c c'::K)
 | .dy e t i k off, .dy e' u j k' off',K=>mA (Nat.beq e e'&&(decide (t=u)&&nR σ j i)) (.e k k':: .e off off'::K)
 |_,_,_=>[.p False]
def u7 (σ:Ren):List aa->List aa->List cq->List cq
 |[],[],K=>K
 |v::l,v'::l',K=>Ce σ v v' (u7 σ l l' K)
 |_,_,_=>[.p False]
end
theorem nh {b:Bool} {l:List cq} {p:Prop} {K:List cq} (h:eR (mA b l)) (g:eR l->p/\eR K):gO b p/\eR K:=by
 cases b with
 |true=>exact g h
 |false=>exact h.1.elim
theorem zP {t u:au} {xs:List t.den} {ys:List u.den} {K:List cq} (h:eR (zO t u xs ys K)):oO t u xs ys/\eR K:=by
 unfold zO at h;unfold oO;split at h
 .rename_i e;rw [dif_pos e];exact h
 .exact h.1.elim
theorem QJ {z z':Bool} {n:Nat} {K:List cq} {p:Prop} (g:p) (h:eR (JH z z' n K)):Eu z z' n p/\eR K:=by
 cases z'<;>cases z
 .exact⟨g,h⟩
 .exact⟨g,h⟩
 .exact⟨⟨g,h.1⟩,h.2⟩
 .exact⟨g,h⟩
theorem JJ {a b:Value} {K:List cq} (h:eR (EB a b K)):xz a b/\eR K:=by
 unfold EB at h;unfold xz;split at h
 .exact nh h fun h=>h
 .exact h
 .exact h
 .rename_i h1 h2 h3;refine⟨?_,h.2⟩;split
  .exact(h1 _ _ _ _ rfl rfl).elim
  .exact(h2 _ _ rfl rfl).elim
  .exact(h3 _ _ rfl rfl).elim
  .exact h.1
theorem aaS {σ:Ren} {i n:Nat} {c:aS} {j n':Nat} {c':aS} {K:List cq} (h:eR (JI σ i n c j n' c' K)):zG σ i n c j n' c'/\eR K:=by
 unfold JI at h;unfold zG;cases hl:look σ j with
 |none=>simp only [hl]at h;exact h.1.elim
 |some q=>
  simp only [hl]at h ⊢;refine nh h fun h=> ?_
  obtain⟨q1,aO⟩:=q;cases aO with
  |none=>exact⟨⟨h.1,h.2.1⟩,h.2.2⟩
  |some m=>exact⟨⟨h.1,h.2.1,h.2.2.1⟩,h.2.2.2⟩
mutual
theorem EC {σ:Ren}:∀{v v':aa} {K:List cq},eR (Ce σ v v' K)->uZ σ v v'/\eR K:=by
 intro v v' K h;unfold Ce at h;unfold uZ;split at h
 .exact⟨trivial,h⟩
 .exact h
 .exact h
 .exact JJ h
 .exact nh h fun h=>h
 .exact nh h fun h=>⟨⟨h.1,h.2.1,h.2.2.1⟩,h.2.2.2⟩
 .exact aaS h
 .exact nh h fun h=>by
   obtain⟨h1,h2⟩:=zQ h;obtain⟨h2,h3⟩:=zQ h2;exact⟨⟨h1,h2⟩,h3⟩
 .exact nh h fun h=>⟨trivial,h⟩
 .exact nh h fun h=>EC h
 .exact zQ h
 .exact zQ h
 .exact QJ (zP h).1 (zP h).2
 .obtain⟨h1,h2⟩:=zP h;exact⟨⟨h1,h2.1,h2.2.1⟩,h2.2.2⟩
 .exact nh h fun h=>⟨⟨h.1,h.2.1,h.2.2.1⟩,h.2.2.2⟩
 .exact nh h fun h=>⟨⟨h.1,h.2.1⟩,h.2.2⟩
 .exact h.1.elim
theorem zQ {σ:Ren}:∀{v v':List aa} {K:List cq},eR (u7 σ v v' K)->q5 σ v v'/\eR K:=by
 intro v v' K h;unfold u7 at h;unfold q5;split at h
 .exact⟨trivial,h⟩
 .obtain⟨h1,h2⟩:=EC h;obtain⟨h2,h3⟩:=zQ h2;exact⟨⟨h1,h2⟩,h3⟩
 .exact h.1.elim
end
def JK (P:Program) (m:Option Nat) (b:Option bf) (e:TypeId) (t:au) (xs:List t.den) (K:List cq):List cq:=match b,m with
 |some (.own e' u ys),none=>mA (Nat.beq e e') (zO u t ys xs K)
 |b,m=> .p (q6 P m b e t xs)::K
def JL (P:Program) (σ:Ren) (H:ai) (p:Nat×fy) (K:List cq):List cq:=match look σ p.1 with
 |none=>(match p.2 with | .opt _ _ xs=> .e xs []::K| .blk _=>[.p False])
 |some (i,m)=>match p.2 with
  | .opt e t xs=> .o P m (H.get i) e t xs::K
  | .blk (.own e t xs)=>JK P m (H.get i) e t xs K
  | .blk (.cells e cs x f r)=>(match H.get i,m with
    |some (.cells e' cs' x' f' r'),none=>mA (Nat.beq e e'&&(x==x'&&(f==f'&&r==r'))) (u7 σ cs' cs K)
    |_,_=>[.p False])
  | .blk _=>[.p False]
def JM (σ:Ren) (T:av aa) (K:List cq):List (Nat×aa)->List cq
 |[]=>K
 |p::l=>Ce σ ((T.get p.1).getD (.raw undef)) p.2 (JM σ T K l)
def ED (P:Program) (σ:Ren) (H:ai):List (Nat×fy)->List cq
 |[]=>[]
 |p::l=>JL P σ H p (ED P σ H l)
def JN (P:Program) (σ:Ren) (n:Nat) (T:av aa) (H:ai) (s:bC):List cq:=
 mA (Nat.beq s.n n&&(u0 σ s.next&&(Qq s.next s.bG&&(Qr n s.sl&&Nat.ble 64 s.next)))) (JM σ T (ED P σ H s.bG) s.sl)
theorem aaT {P:Program} {m:Option Nat} {b:Option bf} {e:TypeId} {t:au} {xs:List t.den} {K:List cq} (h:eR (JK P m b e t xs K)):q6 P m b e t xs/\eR K:=by
 unfold JK at h;split at h
 .unfold q6;exact nh h fun h=>zP h
 .exact h
theorem QK {P:Program} {σ:Ren} {H:ai} {p:Nat×fy} {K:List cq} (h:eR (JL P σ H p K)):zI P σ H p/\eR K:=by
 obtain⟨j,bG⟩:=p;unfold JL at h;unfold zI;cases hl:look σ j with
 |none=>
  simp only [hl]at h ⊢;cases bG with
  |opt e t xs=>exact h
  |blk k=>exact h.1.elim
 |some q=>
  simp only [hl]at h ⊢;cases bG with
  |opt e t xs=>exact h
  |blk k=>cases k with
   |own e t xs=>exact aaT h
   |cells e cs x f r=>
    simp only at h ⊢;split at h
    .rename_i g1 g2;rw [g1,g2];exact nh h fun h=>zQ h
    .exact h.1.elim
   |_=>exact h.1.elim
theorem QL {P:Program} {σ:Ren} {n:Nat} {T:av aa} {H:ai} {s:bC} (h:eR (JN P σ n T H s)):fit P σ n T H s:=by
 have h1:∀(l:List (Nat×fy)),eR (ED P σ H l)->B3 P σ H True l:=fun l=>by
  induction l with
  |nil=>exact fun h=>h
  |cons p l ih=>exact fun h=>⟨(QK h).1,ih (QK h).2⟩
 have h2:∀(l:List (Nat×aa)),eR (JM σ T (ED P σ H s.bG) l)->nq σ T (B3 P σ H True s.bG) l:=fun l=>by
  induction l with
  |nil=>exact h1 _
  |cons p l ih=>exact fun h=>⟨(EC h).1,ih (EC h).2⟩
 unfold fit;exact(nh (K:=[]) h fun h=>⟨h2 _ h,trivial⟩).1
instance (P:Program) (n:Nat) (e:Exit) (σ:Ren) (s':bC):Cb (dX P n e σ s') where
 xF:=fun r=>match r with
  | .normal T H []=>(match e with | .normal=>JN P σ n T H s'|_=>[.p False])
  | .exit id T H []=>(match e with | .exit i=>mA (Nat.beq i id) (JN P σ n T H s')|_=>[.p False])
  |_=>[.p False]
 ok:=fun r h=>by
  unfold dX;split at h
  .split at h
   .exact QL h
   .exact h.1.elim
  .split at h
   .exact(nh (K:=[]) h fun h=>⟨QL h,trivial⟩).1
   .exact h.1.elim
  .exact h.1.elim
mutual
def EE (fr:Bool) (H:ai):aa->aa->List cq->List cq
 | .raw (.slice none 0 0), .bk _ _ ys,K=> .e ys []::K
 | .raw a, .raw b,K=>EB a b K
 | .bk z t xs, .bk z' u ys,K=>mA (!fr) (zO t u xs ys (JH z z' ys.length K))
 | .bN e t i k len c, .bk z u ys,K=> .p (cz fr H (.bN e t i k len c) (.bk z u ys))::K
 | .slice i off n c, .bk z u ys,K=> .p (cz fr H (.slice i off n c) (.bk z u ys))::K
 | .agg l, .agg l',K=>Cf fr H l l' K
 | .tuple l, .tuple l',K=>Cf fr H l l' K
 |_,_,_=>[.p False]
def Cf (fr:Bool) (H:ai):List aa->List aa->List cq->List cq
 |[],[],K=>K
 |v::l,v'::l',K=>EE fr H v v' (Cf fr H l l' K)
 |_,_,_=>[.p False]
end
theorem aaU {fr:Bool} {H:ai} {a b:Value} (h:xz a b):cz fr H (.raw a) (.raw b):=by
 unfold cz;split
 .rename_i e;cases e
 .rename_i e1 e2;cases e1;cases e2;exact h
 all_goals first
  |(rename_i e _;cases e;done)
  |(rename_i g _ _ _ _ _;exact(g _ _ rfl rfl).elim)
mutual
theorem QM {fr:Bool} {H:ai}:∀{v v':aa} {K:List cq},eR (EE fr H v v' K)->cz fr H v v'/\eR K:=by
 intro v v' K h;unfold EE at h;split at h
 .unfold cz;exact h
 .exact⟨aaU (JJ h).1,(JJ h).2⟩
 .unfold cz;exact nh h fun h=>QJ (zP h).1 (zP h).2
 .exact h
 .exact h
 .unfold cz;exact sE h
 .unfold cz;exact sE h
 .exact h.1.elim
theorem sE {fr:Bool} {H:ai}:∀{v v':List aa} {K:List cq},eR (Cf fr H v v' K)->th fr H v v'/\eR K:=by
 intro v v' K h;unfold Cf at h;unfold th;split at h
 .exact⟨trivial,h⟩
 .obtain⟨h1,h2⟩:=QM h;obtain⟨h2,h3⟩:=sE h2;exact⟨⟨h1,h2⟩,h3⟩
 .exact h.1.elim
end
instance (P:Program) (fn:Func) (fresh:Bool) (res:aa):Cb (tq P fn fresh res) where
 xF:=fun r=>match r with
  | .ret T H []=>(match jD P fn T H with | .ok v _=>EE fresh H v res []|_=>[.p False])
  |_=>[.p False]
 ok:=fun r h=>by
  split at h
  .show(match jD P fn _ _ with | .ok v _=>cz fresh _ v res|_=>False)
   split at h
   .exact(QM h).1
   .exact h.1.elim
  .exact h.1.elim
end
end Go.Proofs.YtibikmmdbdlafaaGreatDoor.Sv
/- The runner over an abstract memory: functions that write into a row of the caller's own. -/
namespace Go.Proofs.YtibikmmdbdlafaaGreatDoor.Sv
open Go.RowKit
variable [Ground]
noncomputable section
structure gz where
 f:FuncId
 e:TypeId
 t:au
 ps:List au
 rs:List au
 pre:List t.den->Nat->Nat->hO ps->Bool
 out:List t.den->Nat->Nat->hO ps->List t.den
 fn:List t.den->Nat->Nat->hO ps->hO rs
def qc (A:Nat->Option (Nat×Nat)) (Y:Nat->Option Obj):Ext:={rd:=none,K:=fun _=>none,R:=fun _ _=>False,pin:=[64],A:=A,Y:=Y}
def qd (e:TypeId) (t:au) (xs:List t.den):ai:=⟨zF .nil [(64, .blk (.own e t xs))],65⟩
def Cg (P:Program) (fn:Func) (e:TypeId) (t:au) (xs:List t.den) (res:aa):Exit->av aa->ai->Prop:=fun ex T H=>match ex with
 | .normal| .ret=>(match jD P fn T H with | .ok v _=>cz true H v res/\H.get 64=some (.own e t xs)|_=>False)
 |_=>False
def Ch:List au->Bool
 |[]=>true
 |t::l=>t.lB&&Ch l
def gz.Ok (P:Program) (c:gz):Prop:=c.t.lB=true/\Ch c.rs=true/\∃fn code,P.funcs[c.f]? =some fn/\fn.body=some code/\c.ps.length+1<=fn.ntmps/\
 ∀(xs:List c.t.den) (k len:Nat) (cap:aS) (d:hO c.ps),c.pre xs k len d=true->1<=len->k+len<=xs.length->∀A Y w F,
  a8 (qc A Y) P w F fn.ntmps (fl code []) (fG (.bN c.e c.t 64 k len cap::jL c.ps d) .nil 0) (qd c.e c.t xs) (Cg P fn c.e c.t (c.out xs k len d) (nU c.rs (c.fn xs k len d)))
def xG (c:gz) (args:List aa) (H:ai):aA aI:=match args with
 | .bN e t i k len _::vs=>(match Nat.beq e c.e&&decide (t=c.t)with
   |true=>ns H false (.ret .no) c.ps vs fun d=> .must (bt c.e c.t (H.get i) (k+len-1)&&Nat.ble 1 len) (.must (c.pre (bI c.t (H.get i)) k len d)
     (.ret (.ok (nU c.rs (c.fn (bI c.t (H.get i)) k len d)) (H.set i (.own c.e c.t (c.out (bI c.t (H.get i)) k len d))))))
   |false=> .ret .no)
 |_=> .ret .no
def zR (l:List gz) (bl:bF):bF:=fun f args H=>match l with
 |[]=>bl f args H
 |c::l=>match Nat.beq f c.f with |true=>xG c args H|false=>zR l bl f args H
section
variable {P:Program} {B:Nat} {ρ:Env} {H:ai} {w:World}
theorem pb:∀(ts:List au) (d:hO ts),(jL ts d).length=ts.length
 |[],_=>rfl
 |_::l,d=>by simp [jL,pb l d.2]
theorem aaV {F F':Env} {t:au} (ht:t.lB=true) {d:t.den} {x:Value} (h:Den F (q7 t d) x):Den F' (q7 t d) x:=by
 cases ha:t.isAgg with
 |true=>
  unfold q7 at h ⊢;rw [ha]at h ⊢;obtain⟨xs,g1,rfl⟩:=h.sO;exact .agg (xD t d xs ht g1)
 |false=>
  have h1:aF F (t.cells d) [x]:=by rw [ga ha];exact .cons h .nil
  have h2:=xD (ρ':=F') t d _ ht h1;rw [ga ha]at h2;cases h2 with |cons g _=>exact g
theorem vi {F F':Env}:∀(ts:List au),Ch ts=true->∀{d:hO ts} {xs:List Value},aF F (jL ts d) xs->aF F' (jL ts d) xs
 |[],_,_,_,h=>by cases h;exact .nil
 |t::l,hn,d,_,h=>by
  have hn:(t.lB&&Ch l)=true:=hn;rw [ae]at hn;cases h with
  |cons h1 h2=>exact .cons (aaV hn.1 h1) (vi l hn.2 h2)
theorem IH {F F':Env} {rs:List au} (hn:Ch rs=true) {d:hO rs} {x:Value} (h:Den F (nU rs d) x):Den F' (nU rs d) x:=by
 have key:∀l,jL rs d=l->Den F (match l with |[v]=>v|vs=> .tuple vs) x->Den F' (match l with |[v]=>v|vs=> .tuple vs) x:=by
  intro l hl hd;have hds:∀xs,aF F l xs->aF F' l xs:=fun xs hx=>by rw [<-hl]at hx ⊢;exact vi rs hn hx
  split at hd
  .rename_i v;have:=hds [x] (.cons hd .nil);cases this with |cons g _=>exact g
  .obtain⟨xs,g1,rfl⟩:=hd.Bu;exact .tuple (hds _ g1)
 exact key _ rfl h
theorem JO {ρ ρ':Env} {t:au} (ht:t.lB=true) {xs:List t.den} {ys:List Value} (h:aF ρ (t.flat xs) ys):aF ρ' (t.flat xs) ys:=nS (fun d ys=>xD t d ys ht) xs ys h
theorem pc {e:TypeId} {t:au} {xs:List t.den} {i:Nat} {k:bf} (h:(qd e t xs).get i=some k):i=64/\k= .own e t xs:=by
 have h:(zF .nil [(64, .blk (.own e t xs))]).get i=some k:=h;rw [Jk]at h;by_cases hi:i=64
 .subst hi;cases h;exact⟨rfl,rfl⟩
 .have hb:Nat.beq 64 i=false:=by
   cases hb:Nat.beq 64 i with
   |false=>rfl
   |true=>exact absurd (ac hb).symm hi
  simp only [List.find?,hb]at h;rw [av.get_nil]at h;cases h
theorem aaW {c:gz} {args:List aa} {v:aa} {H':ai} (h:(xG c args H).gr=some (.ok v H')):∃i k len cap vs xs d,args= .bN c.e c.t i k len cap::vs/\H.get i=some (.own c.e c.t xs)/\1<=len/\k+len<=xs.length/\c.pre xs k len d=true/\
  v=nU c.rs (c.fn xs k len d)/\H'=H.set i (.own c.e c.t (c.out xs k len d))/\(∀F xv,aX P B ρ H w->F=js false w ρ->aF ρ vs xv->aF F (jL c.ps d) xv):=by
 unfold xG at h;split at h
 .rename_i e t i k len cap vs;split at h
  .rename_i he;rw [ae]at he;have e1:=ac he.1;have e2:=ap he.2;subst e1;subst e2;have main:∃d:hO c.ps,(aA.must (bt c.e c.t (H.get i) (k+len-1)&&Nat.ble 1 len) (.must (c.pre (bI c.t (H.get i)) k len d)
    (.ret (aI.ok (nU c.rs (c.fn (bI c.t (H.get i)) k len d)) (H.set i (.own c.e c.t (c.out (bI c.t (H.get i)) k len d))))))).gr=some (.ok v H')/\(∀F xv,aX P B ρ H w->F=js false w ρ->aF ρ vs xv->aF F (jL c.ps d) xv):=by
    by_cases hH:aX P B ρ H w
    .obtain⟨d,h1,h2⟩:=lL (w:=w) hH (cA:=false) (no:=aA.ret aI.no) (b:=aI.ok v H') (by simp [aA.gr]) c.ps h;exact⟨d,h1,fun F xv _ hF hx=>by subst hF;exact h2 xv hx⟩
    .obtain⟨d,h1⟩:=Ca (cA:=false) (no:=aA.ret aI.no) (b:=aI.ok v H') (by simp [aA.gr]) c.ps h;exact⟨d,h1,fun F xv hh=>absurd hh hH⟩
   obtain⟨d,h1,h2⟩:=main;cases hm:(bt c.e c.t (H.get i) (k+len-1)&&Nat.ble 1 len)with
   |false=>rw [hm]at h1;cases h1
   |true=>
    rw [hm]at h1;rw [ae]at hm;obtain⟨b1,b2⟩:=uM hm.1;have b3:=bR hm.2;cases hp:c.pre (bI c.t (H.get i)) k len d with
    |false=>rw [hp]at h1;cases h1
    |true=>
     rw [hp]at h1;simp only [aA.gr,cond_true,sB,aI.ok.injEq]at h1;obtain⟨rfl,rfl⟩:=h1;exact⟨i,k,len,cap,vs,bI c.t (H.get i),d,rfl,b1,b3,by omega,hp,rfl,rfl,h2⟩
  .cases h
 .cases h
theorem aaX {c:gz} (hc:c.Ok P) {args:List aa} {v:aa} {H':ai} (h:(xG c args H).gr=some (.ok v H')) {xs:List Value} (m:Nat) (hH:aX P B ρ H w) (cn:nP ρ) (hd:aF ρ args xs):CallsIn (dM none) m P c.f xs.toArray w (mb P B ρ H w v H'):=by
 obtain⟨i,k,len,cap,vs,us,d,rfl,hi,hlen,hk,hp,rfl,rfl,hvs⟩:=aaW (P:=P) (B:=B) (ρ:=ρ) (w:=w) h;obtain⟨u9,hrl,fn,code,hf,hb,hn,hbody⟩:=hc;cases hd with
 |cons Ci hds=>
  rename_i x0 xr;rcases Ci.jl with⟨h0,_⟩|⟨b,c0,kc,hr,hcap,hlk,rfl⟩
  .omega
  obtain⟨b',c',o,e1,e2,e3,bP⟩:=hH.blk i _ hi;rw [hr]at e1;cases e1;have lg:b<w.heap.size:=(dx.1 e2).1
  let xH:Env:=⟨fun j=>if j<64 then ρ j else if j=64 then some (b,c0)else none,ρ.fz⟩
  let A:Nat->Option (Nat×Nat):=fun j=>if j=64 then some (b,c0)else none
  let Y:Nat->Option Obj:=fun q=>if q=b then none else w.heap[q]?
  let w0:World:={w with heap:=w.heap.extract 0 b}
  have hw0:w0.heap.size=b:=by show(w.heap.extract 0 b).size=b;simp;omega
  have jq:xH 64=some (b,c0):=rfl;have hown:∀dW:Env,dW 64=some (b,c0)->∀o,gv P ρ i (.own c.e c.t us) o->gv P dW 64 (.own c.e c.t us) o:=by
   rintro dW h2 o ⟨⟨zs,fz,g1,g2,g3,g4,g5⟩,g6⟩;refine⟨⟨zs,fz,g1,g2,JO u9 g3,g4,fun hx=> ?_⟩,g6⟩;obtain⟨b1,c1,q1,aO⟩:=g5 hx;rw [hr]at q1;cases q1;exact⟨b,c0,h2,aO⟩
  have JP:aX P b xH (qd c.e c.t us) w:=by
   refine⟨fun j q hj=> ?_,fun j j' q q' bb b9 EF hj hj' _ _=> ?_,fun j q hj=> ?_,Nat.le_of_lt lg,fun bb jM hz=> ?_⟩
   .obtain⟨rfl,rfl⟩:=pc hj;exact⟨b,c0,o,rfl,e2,hown _ rfl _ e3,fun _=>aE _⟩
   .rw [(pc hj).1,(pc hj').1]
   .rw [(pc hj).1];exact e7 _
   .refine⟨(hH.fz bb jM hz).1,fun j q b9 hj hr'=> ?_⟩;obtain⟨rfl,rfl⟩:=pc hj;rw [jq]at hr';cases hr';exact(hH.fz _ jM hz).2 i _ c0 hi hr
  have aaY:aF xH (.bN c.e c.t 64 k len cap::jL c.ps d) (.slice (some ⟨b,k*c.t.size,none⟩) len kc::xr):=by
   refine .cons (.bN jq hcap hlk) (aF.mono (ρ:=js false w ρ) (ρ':=xH) ⟨fun j x hj=> ?_,fun _ _ h=>h⟩ (hvs _ xr hH rfl hds));have hj:(if j<64 then ρ j else none)=some x:=hj;by_cases h6:j<64
   .rw [if_pos h6]at hj;show(if j<64 then ρ j else _)=some x;rw [if_pos h6];exact hj
   .rw [if_neg h6]at hj;cases hj
  have hs:mq (qc A Y) P w0 xH fn.ntmps (fG (.bN c.e c.t 64 k len cap::jL c.ps d) .nil 0) (qd c.e c.t us) {tmps:=(Value.slice (some ⟨b,k*c.t.size,none⟩) len kc::xr).toArray++Array.replicate (fn.ntmps-(Value.slice (some ⟨b,k*c.t.size,none⟩) len kc::xr).toArray.size) undef,defers:=[]} w:=by
   refine⟨⟨xH,⟨BF aaY (by simp [pb];omega),by rw [hw0];exact JP,fun g hg=> ?_,cn.zk⟩,fun j hj=> ?_,fun bb jM hz=> .inl hz,⟨fun bb j5 h=>(by cases h),fun j hj=> ?_,fun bb jM h=>(by cases h),Nat.zero_le _,fun bb j5 h=>(by cases h),rfl,fun bb j5 hy=> ?_⟩⟩,⟨rfl,rfl,rfl,by rw [hw0];exact Nat.le_of_lt lg,fun q hq=> ?_⟩,rfl⟩
   .obtain⟨JQ,JR⟩:=cn.at' g hg;exact⟨JQ,by show(if g<64 then ρ g else _)=_;rw [if_pos hg];exact JR⟩
   .have hj:65<=j:=hj;show(if j<64 then ρ j else if j=64 then some (b,c0)else none)=none;rw [if_neg (by omega),if_neg (by omega)]
   .have hj:j∈[64]:=hj;rw [List.mem_singleton]at hj;subst hj;exact⟨e7 _,fun x hx=>hx⟩
   .have hy:(if bb=b then none else w.heap[bb]?)=some j5:=hy;by_cases hbb:bb=b
    .rw [if_pos hbb]at hy;cases hy
    .rw [if_neg hbb]at hy;refine⟨hy,fun⟨j,q,b9,hj,_,hr'⟩=> ?_⟩;obtain⟨rfl,rfl⟩:=pc hj;rw [jq]at hr';cases hr';exact hbb rfl
   .have hq:q<b:=by rw [<-hw0];exact hq
    show w.heap[q]? =(w.heap.extract 0 b)[q]?;rw [Array.getElem?_extract];rw [if_pos (by omega)];simp
  refine callsIn_of_wp_marks hf hb trivial (wpIn_mono (tr (by have:=hbody us k len cap d hp hlen hk A Y w0 xH;rwa [fl,JF]at this) _ _ hs m) fun e a' w' hh=> ?_);obtain⟨aL,H1,h1,h2⟩:=hh.resolve_right fun q=>q.2
  obtain⟨dW,aN,hnone,hfz,hkp⟩:=h2.ex;have hd':=h2.defers;have key:(match jD P fn aL H1 with | .ok v _=>cz true H1 v (nU c.rs (c.fn us k len d))/\H1.get 64=some (.own c.e c.t (c.out us k len d))|_=>False)->LeavesInM (dM none) m P fn a'.tmps (mb P B ρ H w (nU c.rs (c.fn us k len d)) (H.set i (.own c.e c.t (c.out us k len d)))) a'.defers .returning w':=by
   intro qf;split at qf
   .rename_i v1 H2 hres;obtain⟨kE,hr2⟩:=qf;have mY:ey dW [] a'.defers:=hd';refine xd (T:=aL) (H:=H1) [] aN mY (show jZ P fn aL H1 []= .ok v1 H2 from hres) fun y w2 r1 r2 r3=> ?_
    obtain⟨rfl,_⟩:=D1 aN hres;have hk2:=Jr hkp r3;have QN:dW 64=some (b,c0):=(hk2.pin 64 (List.mem_singleton.2 rfl)).2 (b,c0) rfl;have gZ:=h2.below.trans (r3.below aN.H);have hsz:w.heap.size<=w2.heap.size:=by
     by_cases hz:w.heap.size=b+1
     .obtain⟨b1,c1,o1,q1,aO,_⟩:=r2.blk 64 _ hr2;rw [QN]at q1;cases q1;have:=(dx.1 aO).1;omega
     .have hy:=hk2.y (w.heap.size-1) _ (show(if w.heap.size-1=b then none else w.heap[w.heap.size-1]?)=some (w.heap[w.heap.size-1]'(by omega)) by rw [if_neg (by omega)];simp);have:=(dx.1 hy.1).1;omega
    have hkeep:∀q,q<w.heap.size->q≠b->w2.heap[q]? =w.heap[q]? :=fun q hq fJ=>by
     have hy:=hk2.y q _ (show(if q=b then none else w.heap[q]?)=some (w.heap[q]'hq) by rw [if_neg fJ];simp [hq]);rw [hy.1];simp [hq]
    have hnf:∀bb jM,ρ.fz bb=some jM->bb≠b/\bb<w.heap.size:=fun bb jM hz=>by
     obtain⟨⟨ee,fr,q1⟩,aO⟩:=hH.fz bb jM hz;refine⟨fun hbb=> ?_,(dx.1 q1).1⟩;subst hbb;have:=aO i _ c0 hi hr;cases this
    have ve:∀j q,(H.set i (.own c.e c.t (c.out us k len d))).get j=some q->∃q',H.get j=some q'/\q'.eF=q.eF:=fun j q hj=>by
     rw [ai.fQ]at hj;by_cases hij:i=j
     .subst hij;rw [if_pos rfl]at hj;cases hj;exact⟨_,hi,rfl⟩
     .rw [if_neg hij]at hj;exact⟨q,hj,rfl⟩
    refine⟨y,ρ,rfl,IH hrl (rm r2 hfz kE r1),⟨fun j q hj=> ?_,fun j j' q q' bb b9 EF hj hj' gx aaZ=> ?_,fun j q hj=> ?_,cX hH.base hsz,fun bb jM hz=> ?_⟩,
     ⟨cw.refl _,fun _ _=>rfl,aE _,hsz,gZ.os,gZ.tape,gZ.output,fun q hq hno=> ?_,fun q hq ⟨j,aO,b9,hj,hro,gx⟩=> ?_,fun q hq ⟨j,aO,b9,hj,gx⟩=> ?_,fun _ _ h=> .inl h⟩⟩
    .rw [ai.fQ]at hj;by_cases hij:i=j
     .subst hij;rw [if_pos rfl]at hj;cases hj;obtain⟨b1,c1,o1,q1,aO,⟨⟨zs,fz,g1,g2,g3,g4,g5⟩,g6⟩,_⟩:=r2.blk 64 _ hr2;have g5:=g5 rfl;rw [QN]at q1 g5;cases q1;refine⟨b,c0,o1,hr,aO,⟨⟨zs,fz,g1,g2,JO u9 g3,g4,fun _=> ?_⟩,g6⟩,fun _=>bP rfl⟩;obtain⟨b3,c3,k1,k2⟩:=g5;cases k1;exact⟨b,c0,hr,k2⟩
     .rw [if_neg hij]at hj;obtain⟨bj,b9,oj,p1,p2,p3,ek⟩:=hH.blk j q hj;have hne:bj≠b:=fun hbb=>hij (hH.inj i j _ _ b c0 b9 hi hj hr (by rw [<-hbb];exact p1))
      exact⟨bj,b9,oj,p1,(hkeep bj (dx.1 p2).1 hne).trans p2,p3,ek⟩
    .obtain⟨q1,g1,_⟩:=ve j q hj;obtain⟨aO,g2,_⟩:=ve j' q' hj';exact hH.inj j j' _ _ bb b9 EF g1 g2 gx aaZ
    .obtain⟨q1,g1,_⟩:=ve j q hj;exact hH.lt j _ g1
    .obtain⟨hnb,hlt⟩:=hnf bb jM hz;obtain⟨⟨ee,fr,q1⟩,aO⟩:=hH.fz bb jM hz;refine⟨⟨ee,fr,(hkeep bb hlt hnb).trans q1⟩,fun j q b9 hj gx=> ?_⟩;obtain⟨q',g1,g2⟩:=ve j q hj;rw [<-g2];exact aO j q' b9 g1 gx
    .exact hkeep q hq fun fJ=>hno ⟨i,_,c0,hi,rfl,by rw [fJ];exact hr⟩
    .obtain⟨q',g1,g2⟩:=ve j aO hj;exact⟨j,q',b9,g1,g2.trans hro,gx⟩
    .obtain⟨q',g1,_⟩:=ve j aO hj;exact⟨j,q',b9,g1,gx⟩
   .exact qf.elim
  cases e with
  |normal=>exact key h1
  |ret=>exact key h1
  |_=>exact h1.elim
theorem JS {bl:bF} {f:FuncId} {args:List aa} {v:aa} {H':ai}:∀{l:List gz},(zR l bl f args H).gr=some (.ok v H')->(∃c∈l,c.f=f/\(xG c args H).gr=some (.ok v H'))\/(bl f args H).gr=some (.ok v H')
 |[],h=> .inr h
 |c::l,h=>by
  unfold zR at h;cases hb:Nat.beq f c.f with
  |true=>simp only [hb]at h;exact .inl ⟨c,k7,(ac hb).symm,h⟩
  |false=>
   simp only [hb]at h;rcases JS h with⟨c',h1,h2⟩|h1
   .exact .inl ⟨c',k6 _ h1,h2⟩
   .exact .inr h1
theorem aa0 {c:gz} {args:List aa} {v:aa} {H':ai} (h:(xG c args H).gr=some (.ok v H')):H'.next=H.next:=by
 unfold xG at h;split at h
 .rename_i e t i k len cap vs;split at h
  .obtain⟨d,h1⟩:=Ca (cA:=false) (no:=aA.ret aI.no) (b:=aI.ok v H') (by simp [aA.gr]) c.ps h;cases hm:(bt c.e c.t (H.get i) (k+len-1)&&Nat.ble 1 len)with
   |false=>rw [hm]at h1;cases h1
   |true=>
    rw [hm]at h1;cases hp:c.pre (bI c.t (H.get i)) k len d with
    |false=>rw [hp]at h1;cases h1
    |true=>
     rw [hp]at h1;simp only [aA.gr,cond_true,sB,aI.ok.injEq]at h1;obtain⟨_,rfl⟩:=h1;rfl
  .cases h
 .cases h
theorem QO {l:List gz} {bl:bF} (hl:∀c∈l,c.Ok P) (hS:bB P (bD bl)):bB P (bD (zR l bl)) where
 mono f args H v H' h:=by
  rcases JS (q8 h)with⟨c,_,_,h3⟩|h3
  .rw [aa0 h3];exact aE _
  .exact hS.mono f args H v H' (by unfold bD;rw [h3];rfl)
 ct f args H v H' h B ρ xs w m hH cn hd hf:=by
  rcases JS (q8 h)with⟨c,h1,rfl,h3⟩|h3
  .exact aaX (hl c h1) h3 m hH cn hd
  .exact hS.ct f args H v H' (by unfold bD;rw [h3];rfl) B ρ xs w m hH cn hd hf
structure tA where
 f:FuncId
 res:List aa->aA (Option aa)
def tA.Ok (P:Program) (c:tA):Prop:=∀args v,(c.res args).gr=some (some v)->∀(w:World) (F:Env) (xs:List Value),(∀b A,F.fz b=some A->∃e fr,w.heap[b]? =some (.cells A e fr))->u5 F->aF F args xs->
 Calls P c.f xs.toArray w fun e w'=>∃x,e= .returned x/\Den F v x/\Below w.heap.size w w'
def Cj (c:tA) (args:List aa) (H:ai):aA aI:=(c.res args).bind fun r=>match r with |some v=> .ret (.ok v H)|none=> .ret .no
def Ck (l:List tA) (bl:bF):bF:=fun f args H=>match l with
 |[]=>bl f args H
 |c::l=>match Nat.beq f c.f with |true=>Cj c args H|false=>Ck l bl f args H
theorem vj {c:tA} {args:List aa} {v:aa} {H':ai} (h:(Cj c args H).gr=some (.ok v H')):H'=H/\(c.res args).gr=some (some v):=by
 unfold Cj at h;rw [aA.p6]at h;cases hr:(c.res args).gr with
 |none=>rw [hr]at h;cases h
 |some r=>
  rw [hr]at h;cases r with
  |none=>cases h
  |some v'=>cases h;exact⟨rfl,rfl⟩
theorem aa1 {c:tA} (hc:c.Ok P) {args:List aa} {v:aa} {H':ai} (h:(Cj c args H).gr=some (.ok v H')) {xs:List Value} (m:Nat) (hH:aX P B ρ H w) (cn:nP ρ) (hd:aF ρ args xs):CallsIn (dM none) m P c.f xs.toArray w (mb P B ρ H w v H'):=by
 obtain⟨rfl,h1⟩:=vj h;have Jx:=hc args v h1 w ρ xs (fun b A hb=>(hH.fz b A hb).1) cn.zk hd;have hin:CallsIn (dM none) m P c.f xs.toArray w _:=callsIn_wide.2 Jx;refine hin.mono ?_;rintro e w' ⟨x,rfl,hx,hb⟩;have hkeep:∀b o,w.heap[b]? =some o->w'.heap[b]? =some o:=fun b o ho=>(hb.block b (dx.1 ho).1).trans ho
 refine⟨x,ρ,rfl,hx,⟨fun i k hi=> ?_,hH.inj,hH.lt,cX hH.base hb.size,fun b A j4=> ?_⟩,⟨cw.refl _,fun _ _=>rfl,aE _,hb.size,hb.os,hb.tape,hb.output,fun b hlt _=>hb.block b hlt,fun _ _ h=>h,fun _ _ h=>h,fun b A j4=> .inl j4⟩⟩
 .obtain⟨b,c',o,e1,e2,e3,bP⟩:=hH.blk i k hi;exact⟨b,c',o,e1,hkeep b o e2,e3,bP⟩
 .obtain⟨⟨e,fr,h3⟩,h4⟩:=hH.fz b A j4;exact⟨⟨e,fr,hkeep b _ h3⟩,h4⟩
theorem JT {bl:bF} {f:FuncId} {args:List aa} {v:aa} {H':ai}:∀{l:List tA},(Ck l bl f args H).gr=some (.ok v H')->(∃c∈l,c.f=f/\(Cj c args H).gr=some (.ok v H'))\/(bl f args H).gr=some (.ok v H')
 |[],h=> .inr h
 |c::l,h=>by
  unfold Ck at h;cases hb:Nat.beq f c.f with
  |true=>simp only [hb]at h;exact .inl ⟨c,k7,(ac hb).symm,h⟩
  |false=>
   simp only [hb]at h;rcases JT h with⟨c',h1,h2⟩|h1
   .exact .inl ⟨c',k6 _ h1,h2⟩
   .exact .inr h1
theorem aa2 {l:List tA} {bl:bF} (hl:∀c∈l,c.Ok P) (hS:bB P (bD bl)):bB P (bD (Ck l bl)) where
 mono f args H v H' h:=by
  rcases JT (q8 h)with⟨c,_,_,h3⟩|h3
  .rw [(vj h3).1];exact aE _
  .exact hS.mono f args H v H' (by unfold bD;rw [h3];rfl)
 ct f args H v H' h B ρ xs w m hH cn hd hf:=by
  rcases JT (q8 h)with⟨c,h1,rfl,h3⟩|h3
  .exact aa1 (hl c h1) h3 m hH cn hd
  .exact hS.ct f args H v H' (by unfold bD;rw [h3];rfl) B ρ xs w m hH cn hd hf
end
end
end Go.Proofs.YtibikmmdbdlafaaGreatDoor.Sv
/- The runner over an abstract memory: functions that hand back a new row, which is the caller's own from then on. -/
namespace Go.Proofs.YtibikmmdbdlafaaGreatDoor.Sv
open Go.RowKit
variable [Ground]
noncomputable section
structure qg where
 f:FuncId
 e:TypeId
 t:au
 ps:List au
 pre:hO ps->Bool
 out:hO ps->List t.den
def JU (P:Program) (fn:Func) (e:TypeId) (t:au) (xs:List t.den):Exit->av aa->ai->Prop:=fun ex T H=>match ex with
 | .normal| .ret=>(match jD P fn T H with
   | .ok (.bN e' t' i k n cap) _=>e'=e/\k=0/\n=xs.length/\cap= .full/\t'=t/\H.get i=some (.own e t xs)
   |_=>False)
 |_=>False
def qg.Ok (P:Program) (c:qg):Prop:=c.t.lB=true/\∃fn code,P.funcs[c.f]? =some fn/\fn.body=some code/\c.ps.length<=fn.ntmps/\
 ∀d:hO c.ps,c.pre d=true->1<=(c.out d).length/\∀w F,aR P w F fn.ntmps (fl code []) (fG (jL c.ps d) .nil 0) H0 (JU P fn c.e c.t (c.out d))
def EG (c:qg) (args:List aa) (H:ai):aA aI:=ns H false (.ret .no) c.ps args fun d=> .must (c.pre d) (.ret (.ok (.bN c.e c.t H.next 0 (c.out d).length .full) (H.new (.own c.e c.t (c.out d)))))
def Cl (l:List qg) (bl:bF):bF:=fun f args H=>match l with
 |[]=>bl f args H
 |c::l=>match Nat.beq f c.f with |true=>EG c args H|false=>Cl l bl f args H
section
variable {P:Program} {B:Nat} {ρ:Env} {H:ai} {w:World}
theorem aa3 {c:qg} {args:List aa} {v:aa} {H':ai} (h:(EG c args H).gr=some (.ok v H')):H'.next=H.next+1:=by
 obtain⟨d,h1⟩:=Ca (cA:=false) (no:=aA.ret aI.no) (b:=aI.ok v H') (by simp [aA.gr]) c.ps h;cases hp:c.pre d with
 |false=>rw [hp]at h1;cases h1
 |true=>rw [hp]at h1;cases h1;rfl
theorem aa4 {c:qg} (hc:c.Ok P) {args:List aa} {v:aa} {H':ai} (h:(EG c args H).gr=some (.ok v H')) {xs:List Value} (m:Nat) (hH:aX P B ρ H w) (cn:nP ρ) (hd:aF ρ args xs) (hfr:Fr ρ H.next H'.next):CallsIn (dM none) m P c.f xs.toArray w (mb P B ρ H w v H'):=by
 obtain⟨u9,fn,code,hf,hb,hn,hbody⟩:=hc;obtain⟨d,h1,h2⟩:=lL (w:=w) hH (cA:=false) (no:=aA.ret aI.no) (b:=aI.ok v H') (by simp [aA.gr]) c.ps h;have hp:c.pre d=true/\v= .bN c.e c.t H.next 0 (c.out d).length .full/\H'=H.new (.own c.e c.t (c.out d)):=by
  cases hp:c.pre d with
  |false=>rw [hp]at h1;cases h1
  |true=>rw [hp]at h1;cases h1;exact⟨rfl,rfl,rfl⟩
 obtain⟨hp,rfl,rfl⟩:=hp;obtain⟨hlen,hgo⟩:=hbody d hp;have hds:=h2 xs hd;have EH:∀i x,(js false w ρ) i=some x->i<64:=fun i x hx=>by
  have hx:(if i<64 then ρ i else none)=some x:=hx;by_cases h:i<64
  .exact h
  .rw [if_neg h]at hx;cases hx
 have JP:aX P w.heap.size (js false w ρ) H0 w:=⟨fun i k h=>(by rw [show H0.get i=none from av.get_nil i]at h;cases h),fun i j eB eO b ci b9 h=>(by rw [show H0.get i=none from av.get_nil i]at h;cases h),fun i k h=>(by rw [show H0.get i=none from av.get_nil i]at h;cases h),aE _,
  fun b A h=>⟨(hH.fz b A h).1,fun i k c hi=>(by rw [show H0.get i=none from av.get_nil i]at hi;cases hi)⟩⟩
 have hs:Sat P w (js false w ρ) fn.ntmps (fG (jL c.ps d) .nil 0) H0 {tmps:=xs.toArray++Array.replicate (fn.ntmps-xs.toArray.size) undef,defers:=[]} w:=by
  refine⟨⟨js false w ρ,⟨BF hds (by rw [pb];exact hn),JP,fun g hg=> ?_,cn.zk⟩,fun i hi=> ?_,fun b A h=> .inl h,⟨fun b o h=>(by cases h),fun i hi=>(by cases hi),fun b A h=>(by cases h),Nat.zero_le _,fun b o h=>(by cases h),rfl,fun b o h=>(by cases h)⟩⟩,Below.refl _ _,rfl⟩
  .obtain⟨JQ,JR⟩:=cn.at' g hg;exact⟨JQ,by show(if g<64 then ρ g else none)=_;rw [if_pos hg];exact JR⟩
  .have hi:64<=i:=hi;cases B7:(js false w ρ) i with
   |none=>rfl
   |some x=>exact absurd (EH i x B7) (by omega)
 refine callsIn_of_wp_marks hf hb trivial (wpIn_mono (tr (by have:=hgo w (js false w ρ);rwa [fl,JF]at this) _ _ hs m) fun e a' w' hh=> ?_);obtain⟨aL,H1,g1,g2⟩:=hh.resolve_right fun q=>q.2
 obtain⟨dW,aN,hnone,hfz,_⟩:=g2.ex;have hd':=g2.defers;have key:(match jD P fn aL H1 with | .ok (.bN e' t' i k n cap) _=>e'=c.e/\k=0/\n=(c.out d).length/\cap= .full/\t'=c.t/\H1.get i=some (.own c.e c.t (c.out d))|_=>False)->LeavesInM (dM none) m P fn a'.tmps (mb P B ρ H w (.bN c.e c.t H.next 0 (c.out d).length .full) (H.new (.own c.e c.t (c.out d)))) a'.defers .returning w':=by
  intro hr;split at hr
  .rename_i e' t' i k n cap H2 hres;obtain⟨rfl,rfl,rfl,rfl,rfl,ve⟩:=hr;have mY:ey dW [] a'.defers:=hd';refine xd (T:=aL) (H:=H1) [] aN mY (show jZ P fn aL H1 []= .ok _ H2 from hres) fun y w2 r1 r2 r3=> ?_
   obtain⟨rfl,_⟩:=D1 aN hres;have gZ:=g2.below.trans (r3.below aN.H);rcases r1.jl with⟨h0,_⟩|⟨b,c0,kc,q1,aO,bZ,rfl⟩
   .omega
   obtain⟨b',c',o,e1,e2,e3,bP⟩:=r2.blk i _ ve;rw [q1]at e1;cases e1;have hB:w.heap.size<=b:=bP rfl;have hkeep:∀q,q<w.heap.size->w2.heap[q]? =w.heap[q]? :=fun q hq=>gZ.block q hq
   have hnx:ρ H.next=none:=hfr H.next (aE _) (e7 _)
   let ρ':Env:=⟨fun j=>if j=H.next then some (b,c0)else ρ j,ρ.fz⟩
   have hnew:ρ' H.next=some (b,c0):=if_pos rfl;have hold:∀j,j≠H.next->ρ' j=ρ j:=fun j hj=>if_neg hj
   have hle:cw ρ ρ':=⟨fun j x hj=>by
    by_cases hjn:j=H.next
    .rw [hjn,hnx]at hj;cases hj
    .rw [hold j hjn];exact hj,fun _ _ h=>h⟩
   have aqB:∀j,H.get j≠none->j≠H.next:=fun j hj hjn=>by
    cases hg:H.get j with
    |none=>exact hj hg
    |some k=>have:=hH.lt j k hg;omega
   have hnf:∀bb jM,ρ.fz bb=some jM->bb<w.heap.size:=fun bb jM hz=>by
    obtain⟨⟨ee,fr,h3⟩,_⟩:=hH.fz bb jM hz;exact(dx.1 h3).1
   have xJ:∀j k,(H.new (.own c.e c.t (c.out d))).get j=some k->(j=H.next/\k= .own c.e c.t (c.out d))\/(j≠H.next/\H.get j=some k):=fun j k hj=>by
    rw [ai.gb]at hj;by_cases hjn:H.next=j
    .rw [if_pos hjn]at hj;cases hj;exact .inl ⟨hjn.symm,rfl⟩
    .rw [if_neg hjn]at hj;exact .inr ⟨fun h=>hjn h.symm,hj⟩
   refine⟨_,ρ',rfl, .bN hnew aO bZ,⟨fun j k hj=> ?_,fun j j' k k' bb b9 EF hj hj' r1 r2=> ?_,fun j k hj=> ?_,cX hH.base gZ.size,fun bb jM hz=> ?_⟩,⟨hle,fun j hj=> ?_,Nat.le_succ _,gZ.size,gZ.os,gZ.tape,gZ.output,fun q hq _=>hkeep q hq,fun q hq ⟨j,k,b9,hj,hro,gx⟩=> ?_,fun q hq ⟨j,k,b9,hj,gx⟩=> ?_,fun _ _ h=> .inl h⟩⟩
   .rcases xJ j k hj with⟨rfl,rfl⟩|⟨hjn,hj⟩
    .obtain⟨⟨zs,fz,g1,g2,g3,g4,g5⟩,g6⟩:=e3;refine⟨b,c0,o,hnew,e2,⟨⟨zs,fz,g1,g2,JO u9 g3,g4,fun hx=> ?_⟩,g6⟩,fun _=>cX hH.base hB⟩;obtain⟨b1,c1,k1,k2⟩:=g5 hx;rw [q1]at k1;cases k1;exact⟨b,c0,hnew,k2⟩
    .obtain⟨bj,b9,oj,p1,p2,p3,ek⟩:=hH.blk j k hj;exact⟨bj,b9,oj,hle _ _ p1,(hkeep bj (dx.1 p2).1).trans p2,p3.mono hle,ek⟩
   .rcases xJ j k hj with⟨rfl,rfl⟩|⟨hjn,hj⟩<;>rcases xJ j' k' hj' with⟨rfl,rfl⟩|⟨QS,hj'⟩
    .rfl
    .rw [hnew]at r1;cases r1;rw [hold j' QS]at r2;obtain⟨bj,b9,oj,p1,p2,_⟩:=hH.blk j' k' hj';rw [r2]at p1;cases p1;have:=(dx.1 p2).1;omega
    .rw [hnew]at r2;cases r2;rw [hold j hjn]at r1;obtain⟨bj,b9,oj,p1,p2,_⟩:=hH.blk j k hj;rw [r1]at p1;cases p1;have:=(dx.1 p2).1;omega
    .rw [hold j hjn]at r1;rw [hold j' QS]at r2;exact hH.inj j j' k k' bb b9 EF hj hj' r1 r2
   .rcases xJ j k hj with⟨rfl,rfl⟩|⟨hjn,hj⟩
    .exact e7 _
    .exact Nat.lt_succ_of_lt (hH.lt j k hj)
   .obtain⟨⟨ee,fr,h3⟩,h4⟩:=hH.fz bb jM hz;refine⟨⟨ee,fr,(hkeep bb (hnf bb jM hz)).trans h3⟩,fun j k b9 hj gx=> ?_⟩;rcases xJ j k hj with⟨rfl,rfl⟩|⟨hjn,hj⟩
    .rw [hnew]at gx;cases gx;have:=hnf _ jM hz;omega
    .rw [hold j hjn]at gx;exact h4 j k b9 hj gx
   .refine hold j fun hjn=> ?_
    subst hjn;rcases hj with h|h
    .exact absurd h (Nat.lt_irrefl _)
    .exact absurd h (Nat.not_succ_le_self _)
   .rcases xJ j k hj with⟨rfl,rfl⟩|⟨hjn,hj⟩
    .rw [hnew]at gx;cases gx;omega
    .rw [hold j hjn]at gx;exact⟨j,k,b9,hj,hro,gx⟩
   .rcases xJ j k hj with⟨rfl,rfl⟩|⟨hjn,hj⟩
    .rw [hnew]at gx;cases gx;omega
    .rw [hold j hjn]at gx;exact⟨j,k,b9,hj,gx⟩
  .exact hr.elim
 cases e with
 |normal=>exact key g1
 |ret=>exact key g1
 |_=>exact g1.elim
theorem JV {bl:bF} {f:FuncId} {args:List aa} {v:aa} {H':ai}:∀{l:List qg},(Cl l bl f args H).gr=some (.ok v H')->(∃c∈l,c.f=f/\(EG c args H).gr=some (.ok v H'))\/(bl f args H).gr=some (.ok v H')
 |[],h=> .inr h
 |c::l,h=>by
  unfold Cl at h;cases hb:Nat.beq f c.f with
  |true=>simp only [hb]at h;exact .inl ⟨c,k7,(ac hb).symm,h⟩
  |false=>
   simp only [hb]at h;rcases JV h with⟨c',h1,h2⟩|h1
   .exact .inl ⟨c',k6 _ h1,h2⟩
   .exact .inr h1
theorem aa5 {l:List qg} {bl:bF} (hl:∀c∈l,c.Ok P) (hS:bB P (bD bl)):bB P (bD (Cl l bl)) where
 mono f args H v H' h:=by
  rcases JV (q8 h)with⟨c,_,_,h3⟩|h3
  .rw [aa3 h3];exact Nat.le_succ _
  .exact hS.mono f args H v H' (by unfold bD;rw [h3];rfl)
 ct f args H v H' h B ρ xs w m hH cn hd hf:=by
  rcases JV (q8 h)with⟨c,h1,rfl,h3⟩|h3
  .exact aa4 (hl c h1) h3 m hH cn hd hf
  .exact hS.ct f args H v H' (by unfold bD;rw [h3];rfl) B ρ xs w m hH cn hd hf
end
def EI (P:Program) (fn:Func) (e:TypeId) (t:au) (xs:List t.den):R->Prop
 | .ret T H []=>(match jD P fn T H with
   | .ok (.bN e' t' i k n cap) _=>(match H.get i with
     |some (.own e2 t2 ys)=>gO (Nat.beq e' e&&(Nat.beq e2 e&&(Nat.beq k 0&&decide (t'=t)))) (n=xs.length/\cap= .full/\oO t2 t ys xs)
     |_=>False)
   |_=>False)
 |_=>False
theorem aR.aa6 {P:Program} {w0:World} {F:Env} {n:Nat} {T:av aa} {H:ai} {Q:Exit->av aa->ai->Prop} (hK:eW P) (hm:P.follows .mixedOrders=true) {bl:bF} (hS:bB P (bD bl)) {l:List Code} {fn:Func} {e:TypeId} {t:au} {xs:List t.den} (k:Nat) (D:List Bool) (h:(Sv.hU P bl n (l.take k) T H).path D (EI P fn e t xs))
  (hq:∀T H,JU P fn e t xs .ret T H->Q .ret T H):a8 oQ P w0 F n l T H Q:=by
 obtain⟨r,h1,h2⟩:=aA.s9 _ _ h;have key:a8 oQ P w0 F n (l.take k) T H (gP (fun T H=>a8 oQ P w0 F n (l.drop k) T H Q) Q):=by
  refine aR.hU hK hm hS (nW:=EI P fn e t xs) (fun r hr=> ?_) h1 h2;unfold EI at hr;split at hr
  .refine hq _ _ ?_;rename_i aL H';show(match jD P fn aL H' with | .ok (.bN e' t' i k n cap) _=>e'=e/\k=0/\n=xs.length/\cap= .full/\t'=t/\H'.get i=some (.own e t xs)|_=>False)
   split at hr
   .split at hr
    .rename_i hg;obtain⟨k1,k2,dB,l8⟩:=iU hr;simp only [ae,bz]at k1;obtain⟨e1,rfl⟩:=zJ l8;subst e1;exact⟨ac k1.1,ac k1.2.2.1,k2,dB,k1.2.2.2,by rw [hg,ac k1.2.1]⟩
    .exact hr.elim
   .exact hr.elim
  .exact hr.elim
 have:=aR.split key;rwa [List.take_append_drop]at this
end
end Go.Proofs.YtibikmmdbdlafaaGreatDoor.Sv
/- What the runner over an abstract memory leans on in this program. -/
namespace Go.Proofs.YtibikmmdbdlafaaGreatDoor
open Go.RowKit Sv Go.Proofs.Tryz
theorem aa7 {P:Program} {p:Func->Bool} (h:P.funcs.toList.all p=true) {f:FuncId} {fn:Func} (hf:P.funcs[f]? =some fn):p fn=true:=
 List.all_eq_true.1 h fn (List.mem_of_getElem? (by simpa using hf))
theorem QT {P:Program} {p:Func->Bool} {k:Nat} (h:(P.funcs.toList.zipIdx.all fun q=> !p q.1||Nat.beq q.2 k)=true) {f:FuncId} {fn:Func} (hf:P.funcs[f]? =some fn) (hp:p fn=true):f=k:=by
 have:=List.all_eq_true.1 h (fn,f) (List.mk_mem_zipIdx_iff_getElem?.2 (by simpa using hf));simp only [hp,Bool.not_true,Bool.false_or]at this;exact ac this
theorem DW:(prog.funcs.toList.all fun fn=> !(fn.body.isSome&&fn.name== "runtime.NumGoroutine"))=true:=by kernel_rfl
theorem aa8:(prog.funcs.toList.zipIdx.all fun q=> !(q.1.body.isNone&&q.1.name== "internal/abi.NoEscape")||Nat.beq q.2 256)=true:=by kernel_rfl
theorem aa9:(prog.funcs.toList.zipIdx.all fun q=> !(q.1.body.isNone&&q.1.name== "internal/bytealg.MakeNoZero")||Nat.beq q.2 268)=true:=by kernel_rfl
theorem aba:(prog.funcs[256]?).bind (fun fn=>Extern.find fn)=some Extern.AbiNoEscape.same:=by kernel_rfl
theorem abb:(prog.funcs[256]?).map (fun fn=>(Extern.findNext fn).isNone)=some true:=by kernel_rfl
theorem abc:(prog.funcs[268]?).bind (fun fn=>Extern.find fn)=(prog.funcs[268]?).map (fun fn=>Extern.BytealgMakeNoZero.makeNoZero fn.params fn.resultTypes):=by kernel_rfl
theorem abd:(prog.funcs[268]?).map (fun fn=>(Extern.findNext fn).isNone)=some true:=by kernel_rfl
theorem abe:(prog.funcs[268]?).map (fun fn=>fn.resultTypes.size)=some 1:=by kernel_rfl
theorem mixed:prog.follows .mixedOrders=true:=by kernel_rfl
theorem known:eW prog where
 DW f fn hf hb:=by
  have:=aa7 DW hf;simpa [hb]using this
 Pb f fn hf hb hn x w:=by
  have e:=QT (p:=fun fn=>fn.body.isNone&&fn.name== "internal/abi.NoEscape") aa8 hf (by simp only [hb,hn];rfl);subst e;have h1:=aba;have h2:=abb;rw [hf]at h1 h2;simp only [Option.bind_some,Option.map_some,sB,Option.isNone_iff_eq_none]at h1 h2;have hname:(fn.name== "runtime.NumGoroutine")=false:=by
   rw [eq_of_beq hn];rfl
  rw [run_callFunc_extern hf hname (by rw [hb];rfl) h2 h1];rfl
 makeNoZero f fn t el hf hb hn ht hu n w hle:=by
  have e:=QT (p:=fun fn=>fn.body.isNone&&fn.name== "internal/bytealg.MakeNoZero") aa9 hf (by simp only [hb,hn];rfl);subst e;have h1:=abc;have h2:=abd;have h3:=abe;rw [hf]at h1 h2 h3;simp only [Option.bind_some,Option.map_some,sB,Option.isNone_iff_eq_none]at h1 h2 h3;have hname:(fn.name== "runtime.NumGoroutine")=false:=by
   rw [eq_of_beq hn];rfl
  have hr:fn.resultTypes= #[t]:=by
   apply Array.ext
   .exact h3
   .intro i hi1 hi2;have:i=0:=by simp at hi2;exact hi2
    subst this;simpa [Array.getElem?_eq_getElem hi1]using ht
  rw [hr]at h1;obtain⟨cs,k1,k2,_⟩:=Lib.run_makeNoZero (P:=prog) w fn.params t el hu n (by omega);refine⟨cs,k2, ?_⟩;rw [run_callFunc_extern hf hname (by rw [hb];rfl) h2 h1,k1];rfl
noncomputable section
instance aqC:Sv.Ground:=⟨fun b=>if b=0 then some (fun A=>∃m,A= #[.int .i64 m])else if b=5 then some (fun A=>A=(Lib.pow10Tab.map fun z=>Value.int .u64 z).toArray)else none⟩
theorem mp {a b:Prop} (p:b) (h:a=b:=by kernel_rfl):a:=h.mpr p
theorem aqD (v:aa) (h:JC v=true:=by kernel_rfl):aa.same v v=true:=aW h
theorem an {a b:Prop} (x:a) (y:b):a/\b:=⟨x,y⟩
theorem abf{gi p1 p2:Prop}(x0:gi)(x1:p1)(y:p2):gi/\p1/\p2:=⟨x0,⟨x1,y⟩⟩
theorem EJ{gi p1 p2 p3:Prop}(x0:gi)(x1:p1)(x2:p2)(y:p3):gi/\p1/\p2/\p3:=⟨x0,⟨x1,⟨x2,y⟩⟩⟩
theorem abg{gi p1 p2 p3 ek:Prop}(x0:gi)(x1:p1)(x2:p2)(x3:p3)(y:ek):gi/\p1/\p2/\p3/\ek:=⟨x0,⟨x1,⟨x2,⟨x3,y⟩⟩⟩⟩
theorem JW{gi p1 p2 p3 ek kH:Prop}(x0:gi)(x1:p1)(x2:p2)(x3:p3)(qh:ek)(y:kH):gi/\p1/\p2/\p3/\ek/\kH:=⟨x0,⟨x1,⟨x2,⟨x3,⟨qh,y⟩⟩⟩⟩⟩
theorem aqE{gi p1 p2 p3 ek kH oP:Prop}(x0:gi)(x1:p1)(x2:p2)(x3:p3)(qh:ek)(vg:kH)(y:oP):gi/\p1/\p2/\p3/\ek/\kH/\oP:=⟨x0,⟨x1,⟨x2,⟨x3,⟨qh,⟨vg,y⟩⟩⟩⟩⟩⟩
theorem abh{gi p1 p2 p3 ek kH oP xB:Prop}(x0:gi)(x1:p1)(x2:p2)(x3:p3)(qh:ek)(vg:kH)(nX:oP)(y:xB):gi/\p1/\p2/\p3/\ek/\kH/\oP/\xB:=⟨x0,⟨x1,⟨x2,⟨x3,⟨qh,⟨vg,⟨nX,y⟩⟩⟩⟩⟩⟩⟩
theorem nY{gi p1 p2 p3 ek kH oP xB BH:Prop}(x0:gi)(x1:p1)(x2:p2)(x3:p3)(qh:ek)(vg:kH)(nX:oP)(Cm:xB)(y:BH):gi/\p1/\p2/\p3/\ek/\kH/\oP/\xB/\BH:=⟨x0,⟨x1,⟨x2,⟨x3,⟨qh,⟨vg,⟨nX,⟨Cm,y⟩⟩⟩⟩⟩⟩⟩⟩
theorem rr {α:Type} (x:α):x=x:=rfl
theorem rt:true=true:=rfl
theorem aQ {a b:Bool} (h:a=b):(a==true)=(b==true):=by rw [h]
theorem bx {a b:Bool} (h:a=b):(a==false)=(b==false):=by rw [h]
theorem cm {a b:Bool} (h:a=b):(!a)=(!b):=by rw [h]
abbrev iv (x:Int):aa:= .raw (.int .i64 x)
abbrev bv (x:Bool):aa:= .raw (.bool x)
abbrev vh:List Int:=[]
abbrev lv (l:List Int):aa:= .bk false (.int .i64) l
theorem oV {n b:Nat} (h:n<=1000000) (hb:b<=1000000):bounded n b=true:=by
 unfold bounded;have:=Nat.mul_le_mul h hb;rw [fo (by omega),fo (by omega)];rfl
/-! short words for the printed steps -/
abbrev i6 (x:Int):Prop:= -9223372036854775808<=x/\x<=9223372036854775807
def yk (e:TypeId) (t:au) (xs:List t.den):iE:=af (ww e t xs)
def yv (e:TypeId) (t:au) {xs:List t.den} {i:Nat} (h:i<xs.length):iE:=af (x:=bt e t (bM e t xs) i) (c:=true) (by rw [Bx];exact az h)
def iW (e:TypeId) (t:au) {xs:List t.den} {i:Nat} (h:i<xs.length):iE:=af (x:=bt e t (bM e t xs) (0+i)) (c:=true) (by rw [aw,Bx];exact az h)
def ia (b:Nat) {n:Nat} (h:n<=1000000) (hb:b<=1000000:=by decide):iE:=af (oV h hb)
noncomputable def jN (e:TypeId) (t:au) {xs ys zs:List t.den} (h:xs++ys=zs):iE:=oU prog e t (ys:=bI t (bM e t xs)++ys) (xs:=zs) (by rw [dI];exact h)
noncomputable def mB (e:TypeId) (t:au) {xs zs:List t.den} {i:Nat} {v:t.den} (h:xs.set i v=zs):iE:=oU prog e t (ys:=(bI t (bM e t xs)).set (0+i) v) (xs:=zs) (by rw [dI,aw];exact h)
def ys (v:aa) (h:aa.same v v=true):iE:=af h
abbrev bh (c:bF) (l:List Code) (s:bC) (d:Nat) (e:Exit) (r:Sv.Ren) (s':bC):Prop:=aA.path (nV prog c l s) (dl d) (dX prog s.n e r s')
abbrev en (c:bF) (l:List Code) (k:Nat) (s:bC) (d:Nat) (e:Exit) (r:Sv.Ren) (s':bC):Prop:=aA.path (zN prog c l k s) (dl d) (dX prog s.n e r s')
abbrev bQ (c:bF) (l:List Code) (s:bC) (d:Nat) (f:Func) (b:Bool) (v:aa):Prop:=aA.path (nV prog c l s) (dl d) (tq prog f b v)
abbrev cT (c:bF) (l:List Code) (k n:Nat) (a:List aa) (d:Nat) (e:Exit) (r:Sv.Ren) (s':bC):Prop:=aA.path (oS prog c l k n a) (dl d) (dX prog n e r s')
abbrev bw (n d:Int):Int:= ↑(Int.gcd (if 0-n>n then 0-n else n) d)
theorem dY {P:Program}:∀c∈([]:List bn),c.Ok P:=fun c h=>absurd h jY
theorem aT {P:Program} {c:bn} {l:List bn} (h:c.Ok P) (t:∀x∈l,x.Ok P):∀x∈c::l,x.Ok P:=fun x hx=>(dV.1 hx).elim (fun e=>e ▸ h) (t x)
section
variable {X:Ext} {w0:World} {F:Sv.Env} {n:Nat} {T:av aa} {H:ai} {Q:Exit->av aa->ai->Prop} {bl:bF} {l:List Code} {s s':bC} {e:Exit} {σ:Sv.Ren} {D:List Bool} {fn:Func} {fresh:Bool} {res:aa}
theorem cE (hS:bB prog (bD bl)) (k:Nat) (h:(Sv.hU prog bl n (l.take k) T H).path D (dX prog n e σ s')) (hq:gP (fun T H=>a8 X prog w0 F n (l.drop k) T H Q) Q e s'.T s'.H) (hne:(l.take k).isEmpty=false:=by kernel_rfl) (hp:pinned σ s'.H.next X.pins=true:=by rfl):a8 X prog w0 F n l T H Q:=aR.to known mixed hS k D h hne hq hp
theorem dZ (hS:bB prog (bD bl)) (k:Nat) (h:(zN prog bl l k s).path D (dX prog s.n e σ s')) (hq:gP (fun T H=>a8 X prog w0 F s.n (l.drop k) T H Q) Q e s'.T s'.H) (hne:(l.take k).isEmpty=false:=by kernel_rfl) (hp:pinned σ s'.H.next X.pins=true:=by rfl):a8 X prog w0 F s.n l s.T s.H Q:=aR.st known mixed hS k D h hne hq hp
theorem bp (hS:bB prog (bD bl)) (h:(nV prog bl l s).path D (dX prog s.n e σ s')) (hq:Q e s'.T s'.H) (hne:l.isEmpty=false:=by kernel_rfl) (hp:pinned σ s'.H.next X.pins=true:=by rfl):a8 X prog w0 F s.n l s.T s.H Q:=aR.all known mixed hS D h hne hq hp
theorem bu (hS:bB prog (bD bl)) (k:Nat) (h:(Sv.hU prog bl n (l.take k) T H).path D (tq prog fn fresh res)) (hq:∀T H,gk prog fresh fn res .ret T H->Q .ret T H:=by exact fun T H h=>h):a8 X prog w0 F n l T H Q:=aR.ret known mixed hS k D h hq
theorem bT (hS:bB prog (bD bl)) (h:(nV prog bl l s).path D (tq prog fn fresh res)) (hq:∀T H,gk prog fresh fn res .ret T H->Q .ret T H:=by exact fun T H h=>h):a8 X prog w0 F s.n l s.T s.H Q:=aR.tv known mixed hS D h hq
end
abbrev bq (c:bF) (l:List Code) (k n:Nat) (a:List aa) (d:Nat) (f:Func) (b:Bool) (v:aa):Prop:=aA.path (oS prog c l k n a) (dl d) (tq prog f b v)
theorem ba:bB prog (bD (a7 [])):=cR (l:=[]) fun c h=>by cases h
theorem ri {c:bn} (h:c.Ok prog):bB prog (bD (a7 [c])):=cR fun c' hc=>by rw [List.mem_singleton.1 hc];exact h
theorem EK {X:Ext} {P:Program} {w0:World} {F:Env} {n:Nat} {T:av aa} {H:ai} {Q:Exit->av aa->ai->Prop} {l rest:List Code} {id:Nat} {c:Code} (hl:l= .block id c::rest)
  (h:a8 X P w0 F n (q9 c) T H (B5 id (gP (fun T H=>a8 X P w0 F n rest T H Q) Q))):a8 X P w0 F n l T H Q:=by
 subst hl;exact Goal.block (x:=c) rfl (tr h)
abbrev sv (s:ByteArray):aa:= .raw (.string s)
end
end Go.Proofs.YtibikmmdbdlafaaGreatDoor
namespace Go.Proofs.YtibikmmdbdlafaaGreatDoor
open Go.ChangeShapes Go.WideShapes Go.ChangeAt Go.RowKit Sv
theorem QU:Tryz.prog.globalNamed "internal/strconv.uint64pow10" =some 5:=by kernel_rfl
theorem abi:ownKnob Tryz.prog.godebug=none:=by kernel_rfl
abbrev zS:List (String×DataW Unit):=[("math/bits.deBruijn32tab",Rows.laid_math_bits_deBruijn32tab),("math/bits.deBruijn64tab",Rows.laid_math_bits_deBruijn64tab),("internal/strconv.uint64pow10",Rows.laid_internal_strconv_uint64pow10),("strconv.ErrRange",Rows.laid_strconv_ErrRange),("strconv.ErrSyntax",Rows.laid_strconv_ErrSyntax)]
theorem IOz (os:Os) (args:Array Value):laidMetH Tryz.prog zS ((World.doorLaid Tryz.prog 400 os).forCall (fun _ _=>0) ⟨#[],args,[]⟩).memory:=
 laidMetH_of_parts3 (fuel:=8) (laidMet_of_run' 8 (by kernel_rfl) (by kernel_rfl)) (by kernel_rfl) (by kernel_rfl)
theorem abj:(Rows.laid_internal_strconv_uint64pow10:DataW Unit)=Lib.tabData .u64 Lib.pow10Tab:=by rfl
theorem abk:(Tryz.prog.globals[5]?).map (·.type)=some 280:=by kernel_rfl
theorem abl {W:World} (h:laidMetH Tryz.prog zS W):Lib.TabIs Tryz.prog W "internal/strconv.uint64pow10" .u64 Lib.pow10Tab:=by
 rw [MakeChecks.laidMetH_plain _ _ _ (by kernel_rfl)]at h;obtain⟨ps,⟨g0,t0,cs0,f0,gi,q0,_,_,_,_,⟨g1,t1,aqF,f1,p1,q1,_,_,_,_,⟨g2,t2,zg,f2,p2,aO,hg2,ht2,iF,gy,_,_⟩,_⟩,_⟩,_⟩:=h;obtain rfl:=jB (QU.symm.trans hg2);obtain rfl:=jB (abk.symm.trans ht2);rw [abj]at gy;unfold Lib.TabIs;rw [iF,<-Lib.cells_of_tab Tryz.underlying280 Tryz.underlying167 (by kernel_rfl) (by kernel_rfl) gy]
theorem abm {H:Type} {enc:TypeId×Value->H} {a:Assume} {C:Checked} {os:Os} {f:FuncId} {fn:Func} {s:ChangeSpec} {conds:List PathCond} {apart fresh handsOn again:Bool} {X:World->Array Value->Prop}
  (hX:∀(w w':World) (args:Array Value),w.heap=w'.heap->X w args->X w' args)
  (own:ownKnob C.prog.godebug=none) (started:os.Started) (noInit:C.prog.inits.idxOf? f=none) (hfn:C.prog.funcs[f]? =some fn)
  (witness:∃(w:World) (tape:Tape) (i:Input),w.os=os/\(w.forCall tape i).Shaped C.prog/\i.vars=[]/\Input.okWide C.prog (w.forCall tape i) .any w.heap.size f i/\
    ((s.pre enc C.prog fn conds apart (w.forCall tape i).memory i.args/\X (w.forCall tape i).memory i.args)/\sizedMet enc C.prog fn (OpenSpec.ofChange s) apart (w.forCall tape i).memory i.args)/\a.holds C.prog (lone (Frame.enter C.prog f i.args .normal) [] (w.forCall tape i)))
  (contract:∀(W:World) (base:Nat) (args:Array Value) (ds gs:List (DataW H)) (before:List MemPlace),
    (∀(j:Nat) t v,fn.params[j]? =some t->args[j]? =some v->Value.okWide C.prog W .any base t v)->
    DataW.Whole enc C.prog fn.params.toList s.vars apart W args.toList ds gs before->
    conds.all (PathCond.test C.prog ⟨fn.params.toList,ds,s.plain.varTypes C.prog,gs⟩)=true->
    (DataW.weightsEach C.prog (fn.params.toList++s.plain.varTypes C.prog) (ds++gs)).all (· <=reachBytes)=true->X W args->W.ShapedOpen C.prog->
    a.holds C.prog (lone (Frame.enter C.prog f args .normal) [] W)->
    Calls C.prog f args W fun e W'=>∃v,e= .returned v/\s.post enc C.prog fn apart fresh handsOn again W args v W'):
  ReturnsInHanded a C os f .any (fun w args=>(s.pre enc C.prog fn conds apart w args/\X w args)/\sizedMet enc C.prog fn (OpenSpec.ofChange s) apart w args) (s.post enc C.prog fn apart fresh handsOn again):=by
 refine returnsInHanded_of_calls own started noInit witness ?_;intro w tape i _ hsh _ hok hpre hholds;obtain⟨_,_,_,fn',abn,_,_,_,_,hval⟩:=hok;have e:fn'=fn:=jB (abn.symm.trans hfn);subst e;obtain⟨⟨⟨ds,gs,before,hw,hc⟩,hx⟩,hz⟩:=hpre;have hw':=DataW.Whole.of_heap (w':=w.forCall tape i) (by rfl) hw;refine(contract (w.forCall tape i) w.heap.size i.args ds gs before hval hw' hc (hz.weights hw) (hX _ _ _ (by rfl) hx) hsh hholds).mono fun e W' ⟨v,he,hp⟩=> ?_
 subst he;exact ChangeSpec.post_blind hp
def zT (w:World):Env:=⟨fun i=>if i<64 then some (i,0)else none,fun b=>if 0<=b then j3 w b else none⟩
theorem abo (w:World):tj w (zT w):=by
 refine⟨fun i x h=> ?_,fun g hg=>⟨0,if_pos hg⟩,fun b A h=> ?_⟩
 .have h:(if i<64 then some (i,0)else none)=some x:=h;split at h
  .assumption
  .cases h
 .have h:(if 0<=b then j3 w b else none)=some A:=h;rw [if_pos (Nat.zero_le _)]at h;exact nT.1 h
theorem jG (b off i:Nat):(⟨b,off,none⟩:Addr).add i=⟨b,off+i,none⟩:=by
 rcases Nat.eq_zero_or_pos i with rfl |hp
 .rfl
 .simp [Addr.add];omega
theorem QV {w:World} {b:Nat} {A:Array Value} (h:j3 w b=some A):(zT w).fz b=some A:=by
 show(if 0<=b then j3 w b else none)=some A;rw [if_pos (Nat.zero_le _)];exact h
theorem abp {W:World} (h:laidMetH Tryz.prog zS W) (hs:W.ShapedOpen Tryz.prog):Sv.u5 (zT W):=by
 intro b p hp;have hp:(if b=0 then some (fun A=>∃m,A= #[.int .i64 m])else if b=5 then some (fun A=>A=(Lib.pow10Tab.map fun z=>Value.int .u64 z).toArray)else none)=some p:=hp;split at hp
 .rename_i e;subst e;cases hp;obtain⟨cs,hh,hz,_⟩:=hs.1 0 #[.int .i64 0] 3 (ap (by kernel_rfl)) (by kernel_rfl);obtain⟨m,hm⟩:=Go.Proofs.cell_of_shapedOpen_int (zero:= #[.int .i64 0]) (t:=3) hs (ap (by kernel_rfl)) (by kernel_rfl) rfl (by kernel_rfl) (by kernel_rfl) Tryz.underlying3;refine⟨cs,QV (nT.2 ⟨_,_,hh⟩),m, ?_⟩;have h1:cs.size=1:=hz;have h2:cs[0]? =some (.int .i64 m):=by
   unfold World.cell? at hm;rw [hh]at hm;simpa using hm
  apply Array.ext_getElem?;intro i;cases i with
  |zero=>rw [h2];rfl
  |succ i=>rw [Array.getElem?_eq_none (by omega),Array.getElem?_eq_none (by simp)]
 .split at hp
  .rename_i e;subst e;cases hp;have ht:=abl h;unfold Lib.TabIs World.var? at ht;rw [QU]at ht;simp only [Option.bind_some]at ht;split at ht
   .rename_i cs e fr hh;refine⟨cs,QV (nT.2 ⟨_,_,hh⟩), ?_⟩;exact jB ht
   .cases ht
  .cases hp
theorem abq {f:FuncId} {args:List aa} (h:Holds Tryz.prog true f args (bv true)) {w:World} (cn:Sv.u5 (zT w)) {vs:List Value} (hd:aF (zT w) args vs):Calls Tryz.prog f vs.toArray w fun e w'=>e= .returned (.bool true)/\Below w.heap.size w w':=
 (h w (zT w) vs (abo w) cn hd).mono fun e w' ⟨x,F',h1,h2,_,_,h5⟩=>by
   rw [h2.b7]at h1;exact⟨h1,h5⟩
end Go.Proofs.YtibikmmdbdlafaaGreatDoor
/- The runner: a row of the run's own that is never written again is taken as plain data. -/
namespace Go.Proofs.YtibikmmdbdlafaaGreatDoor
open Go.RowKit Sv Go.Proofs.Tryz
section
variable [Sv.Ground] {X:Ext} {P:Program} {w0:World} {F:Env} {n:Nat} {T:av aa} {H:ai} {a:Act} {w:World} {B:Nat} {ρ ρ':Env}
theorem QW {i:Nat} {ρ':Env} (ha:∀i,ρ' i=ρ i) {b:Nat} (h:Sv.Own ρ' (H.drop i) b):Sv.Own ρ H b:=by
 obtain⟨k,kk,c,h1,h2,h3⟩:=h;rw [ha]at h3;rw [ai.oG]at h1;split at h1
 .cases h1
 .exact⟨k,kk,c,h1,h2,h3⟩
theorem Sat.freeze {i j m:Nat} {e e2:TypeId} {cs:List aa} {x f r:Bool} {t:au} {xs:List t.den} {cap:aS} (hj:H.get j=some (.cells e cs x f r)) (hm:cs[m]? =some (.bN e2 t i 0 xs.length cap)) (hi:H.get i=bM e2 t xs) (hij:i≠j)
  (hs:mq X P w0 F n T H a w):mq X P w0 F n T ((H.drop i).set j (.cells e (cs.set m (.bk false t xs)) x f r)) a w:=by
 obtain⟨⟨ρ,aN,hnone,hfz,hkp⟩,hb,hd⟩:=hs;by_cases hx:xs=[]
 .subst hx;have hi:H.get i=none:=hi;refine⟨⟨ρ,⟨aN.T,HY aN.H (cw.refl _) (fun _=>rfl) hj hij hm (fun y hy=> ?_) (fun b A h=>⟨(aN.H.fz b A h).1,fun k kk c _ g1 g2=>(aN.H.fz b A h).2 k kk c g1 g2⟩),aN.G⟩,hnone,hfz,hkp.re (cw.refl _) (aE _) (fun _ hh=>se (fun _=>rfl) hj hh) fun _ _ h=> .inl h⟩,hb,hd⟩;rcases hy.jl with⟨_,a,rfl⟩|⟨b,c,kc,_,_,_,rfl⟩
  .exact .eV fun e=>by cases e
  .exact .eV fun e=>by cases e
 .obtain⟨x0,l0,rfl⟩:=List.exists_cons_of_ne_nil hx;have hi:H.get i=some (.own e2 t (x0::l0)):=hi;generalize hxs:x0::l0=xs at*;obtain⟨b,c,o,hib,_,_,hB⟩:=aN.H.blk i _ hi;obtain⟨zs,dD,z2,z3,z4,z5,Pc⟩:=qU aN.H hi hib;have hnf:ρ.fz b=none:=by
   cases hz:ρ.fz b with
   |none=>rfl
   |some A=>
    have:=(aN.H.fz b A hz).2 i _ c hi hib;cases this
  have hle:cw ρ ⟨ρ.at',fun q=>if q=b then some zs else ρ.fz q⟩:=⟨fun _ _ h=>h,fun q A h=>by
   show(if q=b then some zs else ρ.fz q)=some A;by_cases hq:q=b
   .subst hq;rw [hnf]at h;cases h
   .rw [if_neg hq];exact h⟩
  refine⟨⟨⟨ρ.at',fun q=>if q=b then some zs else ρ.fz q⟩,⟨aN.T.mono hle,HY aN.H hle (fun _=>rfl) hj hij hm (fun y hy=> ?_) (fun q A h=> ?_),aN.G.mono hle⟩,hnone,fun q A h=> ?_,hkp.re hle (aE _) (fun _ hh=>se (fun _=>rfl) hj hh) fun q A h=>by
   have h:(if q=b then some zs else ρ.fz q)=some A:=h;by_cases hq:q=b
   .exact .inr ⟨i,_,c,hi,rfl,hq ▸ hib⟩
   .rw [if_neg hq]at h;exact .inl h⟩,hb,hd⟩
  .rcases hy.jl with⟨h0,_⟩|⟨b',c',kc,g1,_,g3,rfl⟩
   .exact absurd (List.length_eq_zero_iff.1 h0) hx
   .rw [hib]at g1;cases g1;refine .bk (A:=zs) (b:=b) (off:=0*t.size) (by show(if b=b then some zs else _)=_;rw [if_pos rfl]) (by rw [Nat.zero_mul,aw];exact z4) rfl ?_ g3 (fun e=>by cases e);rw [Nat.zero_mul,List.drop_zero];exact z2.mono hle
  .have h:(if q=b then some zs else ρ.fz q)=some A:=h;by_cases hq:q=b
   .subst hq;rw [if_pos rfl]at h;cases h;exact⟨⟨_,_,dD⟩,fun k kk c' hne g1 g2=>absurd (aN.H.inj k i kk _ q c' c g1 hi g2 hib) hne⟩
   .rw [if_neg hq]at h;exact⟨(aN.H.fz q A h).1,fun k kk c _ g1 g2=>(aN.H.fz q A h).2 k kk c g1 g2⟩
  .have h:(if q=b then some zs else ρ.fz q)=some A:=h;by_cases hq:q=b
   .subst hq;exact .inr (hB rfl)
   .rw [if_neg hq]at h;exact hfz q A h
theorem Sat.tB {i s:Nat} {e2:TypeId} {t:au} {xs:List t.den} {cap:aS} (hs':T.get s=some (.bN e2 t i 0 xs.length cap)) (hi:H.get i=bM e2 t xs) (hs:mq X P w0 F n T H a w):mq X P w0 F n (T.set s (some (.bk false t xs))) (H.drop i) a w:=by
 obtain⟨⟨ρ,aN,hnone,hfz,hkp⟩,hb,hd⟩:=hs;have QX:∀{ρ':Env},cw ρ ρ'->(∀i,ρ' i=ρ i)->(∀b A,ρ'.fz b=some A->(∃e fr,w.heap[b]? =some (.cells A e fr))/\∀k kk c,k≠i->H.get k=some kk->ρ k=some (b,c)->kk.eF=true)->aX P w0.heap.size ρ' (H.drop i) w:=fun {ρ'} hl ha hf=>by
  have key:∀k kk,(H.drop i).get k=some kk->k≠i/\H.get k=some kk:=fun k kk h=>by
   rw [ai.oG]at h;split at h
   .cases h
   .rename_i h2;exact⟨fun h=>h2 h.symm,h⟩
  refine⟨fun k kk h=> ?_,fun i1 i2 k1 k2 b c1 c2 g1 g2 g3 g4=> ?_,fun k kk h=>aN.H.lt k kk (key k kk h).2,aN.H.base,fun b A h=>⟨(hf b A h).1,fun k kk c g1 g2=> ?_⟩⟩
  .obtain⟨b,c,o,e1,e2,e3,bP⟩:=aN.H.blk k kk (key k kk h).2;exact⟨b,c,o,by rw [ha];exact e1,e2,e3.mono hl,bP⟩
  .rw [ha]at g3 g4;exact aN.H.inj _ _ _ _ _ _ _ (key _ _ g1).2 (key _ _ g2).2 g3 g4
  .rw [ha]at g2;exact(hf b A h).2 k kk c (key k kk g1).1 (key k kk g1).2 g2
 have qi:∀{ρ':Env},cw ρ ρ'->(∀y,Den ρ (.bN e2 t i 0 xs.length cap) y->Den ρ' (.bk false t xs) y)->jE ρ' (T.set s (some (.bk false t xs))) n a.tmps:=fun {ρ'} hl hv=>⟨aN.T.size,fun k=>by
  rw [av.fQ];have hk:=aN.T.get k;by_cases hks:s=k
  .subst hks;rw [if_pos rfl];rw [hs']at hk;exact hv _ hk
  .rw [if_neg hks];exact hk.mono hl⟩
 by_cases hx:xs=[]
 .subst hx;refine⟨⟨ρ,⟨qi (cw.refl _) fun y hy=> ?_,QX (cw.refl _) (fun _=>rfl) (fun b A h=>⟨(aN.H.fz b A h).1,fun k kk c _ g1 g2=>(aN.H.fz b A h).2 k kk c g1 g2⟩),aN.G⟩,hnone,hfz,hkp.re (cw.refl _) (aE _) (fun _ hh=>QW (fun _=>rfl) hh) fun _ _ h=> .inl h⟩,hb,hd⟩;rcases hy.jl with⟨_,a,rfl⟩|⟨b,c,kc,_,_,_,rfl⟩
  .exact .eV fun e=>by cases e
  .exact .eV fun e=>by cases e
 .obtain⟨x0,l0,rfl⟩:=List.exists_cons_of_ne_nil hx;have hi:H.get i=some (.own e2 t (x0::l0)):=hi;generalize hxs:x0::l0=xs at*;obtain⟨b,c,o,hib,_,_,hB⟩:=aN.H.blk i _ hi;obtain⟨zs,dD,z2,z3,z4,z5,Pc⟩:=qU aN.H hi hib;have hnf:ρ.fz b=none:=by
   cases hz:ρ.fz b with
   |none=>rfl
   |some A=>
    have:=(aN.H.fz b A hz).2 i _ c hi hib;cases this
  have hle:cw ρ ⟨ρ.at',fun q=>if q=b then some zs else ρ.fz q⟩:=⟨fun _ _ h=>h,fun q A h=>by
   show(if q=b then some zs else ρ.fz q)=some A;by_cases hq:q=b
   .subst hq;rw [hnf]at h;cases h
   .rw [if_neg hq];exact h⟩
  refine⟨⟨⟨ρ.at',fun q=>if q=b then some zs else ρ.fz q⟩,⟨qi hle fun y hy=> ?_,QX hle (fun _=>rfl) (fun q A h=> ?_),aN.G.mono hle⟩,hnone,fun q A h=> ?_,hkp.re hle (aE _) (fun _ hh=>QW (fun _=>rfl) hh) fun q A h=>by
   have h:(if q=b then some zs else ρ.fz q)=some A:=h;by_cases hq:q=b
   .exact .inr ⟨i,_,c,hi,rfl,hq ▸ hib⟩
   .rw [if_neg hq]at h;exact .inl h⟩,hb,hd⟩
  .rcases hy.jl with⟨h0,_⟩|⟨b',c',kc,g1,_,g3,rfl⟩
   .exact absurd (List.length_eq_zero_iff.1 h0) hx
   .rw [hib]at g1;cases g1;refine .bk (A:=zs) (b:=b) (off:=0*t.size) (by show(if b=b then some zs else _)=_;rw [if_pos rfl]) (by rw [Nat.zero_mul,aw];exact z4) rfl ?_ g3 (fun e=>by cases e);rw [Nat.zero_mul,List.drop_zero];exact z2.mono hle
  .have h:(if q=b then some zs else ρ.fz q)=some A:=h;by_cases hq:q=b
   .subst hq;rw [if_pos rfl]at h;cases h;exact⟨⟨_,_,dD⟩,fun k kk c' hne g1 g2=>absurd (aN.H.inj k i kk _ q c' c g1 hi g2 hib) hne⟩
   .rw [if_neg hq]at h;exact⟨(aN.H.fz q A h).1,fun k kk c _ g1 g2=>(aN.H.fz q A h).2 k kk c g1 g2⟩
  .have h:(if q=b then some zs else ρ.fz q)=some A:=h;by_cases hq:q=b
   .subst hq;exact .inr (hB rfl)
   .rw [if_neg hq]at h;exact hfz q A h
theorem aR.tB {Q:Exit->av aa->ai->Prop} {l:List Code} (hl:l≠[]) {i s:Nat} {e2:TypeId} {t:au} {xs:List t.den} {cap:aS} (hs':T.get s=some (.bN e2 t i 0 xs.length cap)) (hi:H.get i=bM e2 t xs)
  (hg:a8 X P w0 F n l (T.set s (some (.bk false t xs))) (H.drop i) Q):a8 X P w0 F n l T H Q:=by
 cases l with
 |nil=>exact absurd rfl hl
 |cons c l=>exact fun a w hs k=>hg a w (Sat.tB hs' hi hs) k
theorem Goal.freeze {Q:Exit->av aa->ai->Prop} {c:Code} {i j m:Nat} {e e2:TypeId} {cs:List aa} {x f r:Bool} {t:au} {xs:List t.den} {cap:aS} (hj:H.get j=some (.cells e cs x f r)) (hm:cs[m]? =some (.bN e2 t i 0 xs.length cap)) (hi:H.get i=bM e2 t xs) (hij:i≠j)
  (hg:eI X P w0 F n c T ((H.drop i).set j (.cells e (cs.set m (.bk false t xs)) x f r)) Q):eI X P w0 F n c T H Q:=fun a w hs k=>hg a w (Sat.freeze hj hm hi hij hs) k
theorem aR.freeze {Q:Exit->av aa->ai->Prop} {l:List Code} (hl:l≠[]) {i j m:Nat} {e e2:TypeId} {cs:List aa} {x f r:Bool} {t:au} {xs:List t.den} {cap:aS} (hj:H.get j=some (.cells e cs x f r)) (hm:cs[m]? =some (.bN e2 t i 0 xs.length cap)) (hi:H.get i=bM e2 t xs) (hij:i≠j)
  (hg:a8 X P w0 F n l T ((H.drop i).set j (.cells e (cs.set m (.bk false t xs)) x f r)) Q):a8 X P w0 F n l T H Q:=by
 cases l with
 |nil=>exact absurd rfl hl
 |cons c l=>exact Goal.freeze hj hm hi hij hg
theorem aR.ng {Q:Exit->av aa->ai->Prop} {l:List Code} (hl:l≠[]) {σ:Ren} {s:bC} (h:fit P σ n T H s) (hg:a8 X P w0 F n l s.T s.H Q) (hp:pinned σ s.H.next X.pins=true:=by rfl):a8 X P w0 F n l T H Q:=by
 cases l with
 |nil=>exact absurd rfl hl
 |cons c l=>exact Goal.ng h hg hp
end
end Go.Proofs.YtibikmmdbdlafaaGreatDoor
/- Numbers as lists of digits to some base, the least significant one first: plain facts. -/
namespace Go.Proofs.YtibikmmdbdlafaaGreatDoor
def vl (b:Int):List Int->Int
 |[]=>0
 |x::r=>x+b*vl b r
def aP (b:Int) (l:List Int):Prop:=∀x∈l,0<=x/\x<b
theorem aP.nil {b:Int}:aP b []:=fun x h=>by cases h
theorem aP.cons {b x:Int} {l:List Int} (h:0<=x/\x<b) (hl:aP b l):aP b (x::l):=fun y hy=>by
 rcases dV.1 hy with rfl |hy
 .exact h
 .exact hl y hy
theorem aP.tail {b x:Int} {l:List Int} (h:aP b (x::l)):aP b l:=fun y hy=>h y (k6 _ hy)
theorem aP.head {b x:Int} {l:List Int} (h:aP b (x::l)):0<=x/\x<b:=h x k7
theorem aP.app {b:Int} {l m:List Int} (h:aP b l) (g:aP b m):aP b (l++m):=fun y hy=>(List.mem_append.1 hy).elim (h y) (g y)
theorem aP.left {b:Int} {l m:List Int} (h:aP b (l++m)):aP b l:=fun y hy=>h y (List.mem_append_left _ hy)
theorem aP.right {b:Int} {l m:List Int} (h:aP b (l++m)):aP b m:=fun y hy=>h y (List.mem_append_right _ hy)
theorem aP.take {b:Int} {l:List Int} (h:aP b l) (k:Nat):aP b (l.take k):=fun y hy=>h y (List.mem_of_mem_take hy)
theorem aP.drop {b:Int} {l:List Int} (h:aP b l) (k:Nat):aP b (l.drop k):=fun y hy=>h y (List.mem_of_mem_drop hy)
theorem aP.set {b:Int} {l:List Int} (h:aP b l) {k:Nat} {x:Int} (hx:0<=x/\x<b):aP b (l.set k x):=fun y hy=>by
 rcases List.mem_or_eq_of_mem_set hy with hy|rfl
 .exact h y hy
 .exact hx
theorem aP.at' {b:Int} {l:List Int} (h:aP b l) {k:Nat} (hk:k<l.length):0<=l.getD k 0/\l.getD k 0<b:=by
 have:l.getD k 0=l[k]:=by simp [ao,hk]
 rw [this];exact h _ (List.getElem_mem _)
theorem aP.get {b:Int} (hb:0<b) {l:List Int} (h:aP b l) (k:Nat):0<=l.getD k 0/\l.getD k 0<b:=by
 by_cases hk:k<l.length
 .exact h.at' hk
 .rw [ao,List.getElem?_eq_none (by omega)];exact⟨Int.le_refl _,hb⟩
theorem aP.rep {b:Int} (hb:0<b) (n:Nat):aP b (List.replicate n 0):=fun y hy=>by
 rw [(List.mem_replicate.1 hy).2];exact⟨Int.le_refl _,hb⟩
theorem abr {a b:Int} (ha:0<=a) (hb:0<=b):0<=a*b:=Int.mul_nonneg ha hb
theorem bc {b:Int} (hb:0<b):∀n:Nat,0<b^n
 |0=>by simp
 |n+1=>by rw [Int.pow_succ];exact Int.mul_pos (bc hb n) hb
theorem fK {b:Int} (hb:0<b):∀{l:List Int},aP b l->0<=vl b l
 |[],_=>Int.le_refl _
 |x::r,h=>by
  have h1:=h.head;have h2:=Int.mul_nonneg (ck hb) (fK hb h.tail);show 0<=x+b*vl b r;omega
theorem fC {b:Int} (hb:0<b):∀{l:List Int},aP b l->vl b l<b^l.length
 |[],_=>by simp [vl]
 |x::r,h=>by
  have h1:=h.head;have h2:=fC hb h.tail;have h3:b*vl b r<=b*(b^r.length-1):=dU (by omega) (ck hb);have h4:b*(b^r.length-1)=b*b^r.length-b:=by rw [Int.mul_sub,Int.mul_one]
  have h5:b^(x::r).length=b*b^r.length:=by rw [List.length_cons,Int.pow_succ,Int.mul_comm]
  rw [h5];show x+b*vl b r<_;omega
theorem EL (b:Int):∀(l m:List Int),vl b (l++m)=vl b l+b^l.length*vl b m
 |[],m=>by simp [vl]
 |x::r,m=>by
  show x+b*vl b (r++m)=x+b*vl b r+b^(r.length+1)*vl b m;rw [EL b r m,Int.mul_add,Int.pow_succ,Int.mul_comm (b^r.length) b,Int.mul_assoc,Int.add_assoc]
theorem rj (b x:Int):vl b [x]=x:=by simp [vl]
theorem xK (b:Int) (l:List Int) (x:Int):vl b (l++[x])=vl b l+b^l.length*x:=by rw [EL,rj]
theorem Cn (b:Int):∀n:Nat,vl b (List.replicate n 0)=0
 |0=>rfl
 |n+1=>by rw [List.replicate_succ];show 0+b*vl b (List.replicate n 0)=0;rw [Cn b n];simp
theorem tC {l:List Int} {k:Nat} (h:k<l.length):l.getD k 0=l[k]:=by simp [ao,h]
theorem QY {l:List Int} {k:Nat} (h:k<l.length):l.take (k+1)=l.take k++[l.getD k 0]:=by rw [tC h];simp
theorem lC {b:Int} {l:List Int} {k:Nat} (h:k<l.length):vl b (l.take (k+1))=vl b (l.take k)+b^k*l.getD k 0:=by
 rw [QY h,xK,dK,Nat.min_eq_left (by omega)]
theorem kJ {b:Int} (l:List Int) (k:Nat):vl b (l.take (k+1))=vl b (l.take k)+b^k*l.getD k 0:=by
 by_cases h:k<l.length
 .exact lC h
 .have e:l.getD k 0=0:=by rw [ao,List.getElem?_eq_none (by omega)];rfl
  rw [e,ef (by omega),ef (by omega)];simp
theorem rq (b:Int) (l:List Int) (k:Nat) (h:k<=l.length):vl b l=vl b (l.take k)+b^k*vl b (l.drop k):=by
 have:=EL b (l.take k) (l.drop k);rw [List.take_append_drop,dK,Nat.min_eq_left h]at this;exact this
theorem qj (b:Int):∀(l:List Int) (k:Nat) (x:Int),k<l.length->vl b (l.set k x)=vl b l+b^k*(x-l.getD k 0)
 |[],k,_,h=>absurd h (Nat.not_lt_zero _)
 |y::r,0,x,_=>by
  show x+b*vl b r=y+b*vl b r+b^0*(x-(y::r).getD 0 0);simp;omega
 |y::r,k+1,x,h=>by
  show y+b*vl b (r.set k x)=y+b*vl b r+b^(k+1)*(x-(y::r).getD (k+1) 0);have e:(y::r).getD (k+1) 0=r.getD k 0:=by simp
  rw [qj b r k x (by simpa using h),e,Int.mul_add,Int.pow_succ,Int.mul_comm (b^k) b,Int.mul_assoc,Int.add_assoc]
def eX (l:List Int):Prop:=∀k,l.length=k+1->l.getD k 0≠0
def eJ (l:List Int):Nat->List Int
 |0=>[]
 |k+1=>if l.getD k 0=0 then eJ l k else l.take (k+1)
theorem Co (l:List Int):∀k,k<=l.length->∃m,m<=k/\eJ l k=l.take m/\(∀j,m<=j->j<k->l.getD j 0=0)/\(∀j,m=j+1->l.getD j 0≠0)
 |0,_=>⟨0,aE _,by simp [eJ],fun j _ h=>by omega,fun j h=>by omega⟩
 |k+1,hk=>by
  unfold eJ;by_cases h:l.getD k 0=0
  .rw [if_pos h];obtain⟨m,h1,h2,h3,h4⟩:=Co l k (by omega);refine⟨m,by omega,h2,fun j g1 g2=> ?_,h4⟩;by_cases e:j=k
   .rw [e];exact h
   .exact h3 j g1 (by omega)
  .rw [if_neg h];exact⟨k+1,aE _,rfl,fun j g1 g2=>by omega,fun j e=>by
    obtain rfl:j=k:=by omega
    exact h⟩
theorem JX {b:Int} (l:List Int):∀k,k<=l.length->vl b (eJ l k)=vl b (l.take k)
 |0,_=>by simp [eJ]
 |k+1,hk=>by
  unfold eJ;by_cases h:l.getD k 0=0
  .rw [if_pos h,JX l k (by omega),lC (by omega),h];simp
  .rw [if_neg h]
theorem rn (l:List Int) (k:Nat) (hk:k<=l.length):eX (eJ l k):=by
 obtain⟨m,h1,h2,_,h4⟩:=Co l k hk;rw [h2];intro j hj;rw [dK,Nat.min_eq_left (by omega)]at hj;have:=h4 j hj;rwa [ao,List.getElem?_take,if_pos (by omega),<-ao]
theorem QZ {b:Int} {l:List Int} (h:aP b l) (k:Nat) (hk:k<=l.length):aP b (eJ l k):=by
 obtain⟨m,_,h2,_⟩:=Co l k hk;rw [h2];exact h.take _
theorem Q0 {l:List Int} (h:eX l):eJ l l.length=l:=by
 cases hl:l.length with
 |zero=>rw [List.eq_nil_of_length_eq_zero hl];rfl
 |succ k=>
  unfold eJ;rw [if_neg (h k hl)];exact ef (by omega)
theorem xL {b:Int} (hb:0<b) {l:List Int} (h:aP b l) (ht:eX l) {k:Nat} (hl:l.length=k+1):b^k<=vl b l:=by
 have h1:=lC (b:=b) (l:=l) (k:=k) (by omega);rw [ef (by omega)]at h1;have h2:=fK hb (h.take k);have h3:=h.at' (k:=k) (by omega);have h4:=ht k hl;have h5:b^k*1<=b^k*l.getD k 0:=dU (by omega) (ck (bc hb k));omega
theorem iG {b:Int} (hb:1<=b) {m n:Nat} (h:m<=n):b^m<=b^n:=by
 obtain⟨d,rfl⟩:=Nat.exists_eq_add_of_le h;rw [Int.pow_add];have h1:=bc (show 0<b by omega) m;have h2:=bc (show 0<b by omega) d;have:=dU (show 1<=b^d by omega) (ck h1);omega
theorem vk {b:Int} (hb:1<b) {l m:List Int} (h:aP b l) (g:aP b m) (ht:eX m) (hl:l.length<m.length):vl b l<vl b m:=by
 obtain⟨k,hk⟩:∃k,m.length=k+1:=⟨m.length-1,by omega⟩;have h1:=fC (show 0<b by omega) h;have h2:=xL (show 0<b by omega) g ht hk;have h3:=iG (show 1<=b by omega) (show l.length<=k by omega);omega
theorem EM {b:Int} (hb:1<b) {l m:List Int} (h:aP b l) (g:aP b m) (hl:l.length=m.length) {k:Nat} (hk:k<l.length) (hlt:l.getD k 0<m.getD k 0) (heq:∀j,k<j->j<l.length->l.getD j 0=m.getD j 0):vl b l<vl b m:=by
 have hb0:0<b:=by omega
 have hd:l.drop (k+1)=m.drop (k+1):=by
  refine List.ext_getElem (by simp [hl]) fun i h1 h2=> ?_
  rw [List.getElem_drop,List.getElem_drop,<-tC,<-tC];exact heq _ (by omega) (by simp at h1;omega)
 rw [rq b l (k+1) (by omega),rq b m (k+1) (by omega),hd,lC hk,lC (by omega)];have h1:=fC hb0 (h.take k);rw [dK,Nat.min_eq_left (by omega)]at h1;have h2:=fK hb0 (g.take k);have h3:b^k*(l.getD k 0+1)<=b^k*m.getD k 0:=dU (by omega) (ck (bc hb0 k));rw [Int.mul_add,Int.mul_one]at h3;omega
theorem JY {b:Int} (hb:1<b):∀{l m:List Int},aP b l->aP b m->l.length=m.length->vl b l=vl b m->l=m
 |[],[],_,_,_,_=>rfl
 |[],_::_,_,_,h,_=>by cases h
 |_::_,[],_,_,h,_=>by cases h
 |x::l,y::m,h,g,hl,e=>by
  have e:x+b*vl b l=y+b*vl b m:=e;have h1:=h.head;have g1:=g.head;have hx:x=y:=by
   have a1:(x+b*vl b l)%b=x:=by rw [Int.add_mul_emod_self_left];exact Int.emod_eq_of_lt h1.1 h1.2
   have a2:(y+b*vl b m)%b=y:=by rw [Int.add_mul_emod_self_left];exact Int.emod_eq_of_lt g1.1 g1.2
   rw [<-a1,<-a2,e]
  subst hx;have e2:b*vl b l=b*vl b m:=by omega
  have e3:=Int.eq_of_mul_eq_mul_left (by omega) e2;rw [JY hb h.tail g.tail (by simpa using hl) e3]
theorem Q1 {b:Int} (hb:1<b) {l m:List Int} (h:aP b l) (g:aP b m) (hl:eX l) (hm:eX m) (e:vl b l=vl b m):l=m:=by
 rcases Nat.lt_trichotomy l.length m.length with h1|h1|h1
 .have:=vk hb h g hm h1;omega
 .exact JY hb h g h1 e
 .have:=vk hb g h hl h1;omega
theorem rp {b:Int} (hb:1<b) {l:List Int} (h:aP b l) (ht:eX l):vl b l=0↔l=[]:=by
 constructor
 .intro e;exact Q1 hb h .nil ht (fun k hk=>by cases hk) (by rw [e];rfl)
 .rintro rfl;rfl
theorem eX.nil:eX []:=fun k h=>by cases h
section
variable {b:Int}
structure zU (b v1 v2 v' aG u1 u2 u' s:Int):Prop where
 b2:2<=b
 s1:1<=s
 v1:1<=v1/\v1<b
 v2:0<=v2/\v2<b
 v':0<=v'/\v'<s
 aG:0<=aG/\aG<b
 u1:0<=u1/\u1<b
 u2:0<=u2/\u2<b
 u':0<=u'/\u'<s
variable {v1 v2 v' aG u1 u2 u' s:Int}
def gj (b v1 v2 v' s:Int):Int:=(v1*b+v2)*s+v'
def ni (b aG u1 u2 u' s:Int):Int:=((aG*b+u1)*b+u2)*s+u'
theorem Q2 {a c x:Int} (h:a*x<c*x) (hx:0<x):a<c:=Int.lt_of_mul_lt_mul_right h (ck hx)
theorem Q3 (p:zU b v1 v2 v' aG u1 u2 u' s) {t q:Int} (ht:0<=t) (hq:q*gj b v1 v2 v' s<=ni b aG u1 u2 u' s) (h:(aG*b+u1-t*v1)*b+u2<t*v2):q<t:=by
 have h1:(aG*b+u1)*b+u2+1<=t*(v1*b+v2):=by
  have e1:(aG*b+u1-t*v1)*b=(aG*b+u1)*b-t*v1*b:=Int.sub_mul _ _ _;have e2:t*(v1*b+v2)=t*v1*b+t*v2:=by rw [Int.mul_add,Int.mul_assoc]
  rw [e1]at h;rw [e2];omega
 have h2:=ar h1 (show 0<=s by have:=p.s1;omega);have e3:((aG*b+u1)*b+u2+1)*s=((aG*b+u1)*b+u2)*s+s:=by rw [Int.add_mul _ 1,Int.one_mul]
 rw [e3]at h2;have h3:t*(v1*b+v2)*s<=t*gj b v1 v2 v' s:=by
  rw [Int.mul_assoc];exact dU (by unfold gj;have:=p.v';omega) ht
 have h4:ni b aG u1 u2 u' s<t*gj b v1 v2 v' s:=by unfold ni;have:=p.u';omega
 have h5:q*gj b v1 v2 v' s<t*gj b v1 v2 v' s:=by omega
 refine Q2 h5 ?_;have:=p.v1;have h6:0<v1*b+v2:=by
  have:=Int.mul_pos (show 0<v1 by omega) (show 0<b by have:=p.b2;omega);have:=p.v2;omega
 have h7:=Int.mul_pos h6 (show 0<s by have:=p.s1;omega);unfold gj;have:=p.v';omega
theorem JZ (p:zU b v1 v2 v' aG u1 u2 u' s) {t:Int} (ht:0<=t/\t<b) (h:t*v2<=(aG*b+u1-t*v1)*b+u2):(t-1)*gj b v1 v2 v' s<=ni b aG u1 u2 u' s:=by
 have e1:(aG*b+u1-t*v1)*b=(aG*b+u1)*b-t*v1*b:=Int.sub_mul _ _ _;have e2:t*(v1*b+v2)=t*v1*b+t*v2:=by rw [Int.mul_add,Int.mul_assoc]
 have h1:t*(v1*b+v2)<=(aG*b+u1)*b+u2:=by rw [e2];rw [e1]at h;omega
 have h2:=ar h1 (show 0<=s by have:=p.s1;omega);have h3:t*v'<=(b-1)*s:=by
  have a:=ar (show t<=b-1 by omega) p.v'.1;have c:=dU (show v'<=s by have:=p.v';omega) (show 0<=b-1 by have:=p.b2;omega);omega
 have h4:b*s<=gj b v1 v2 v' s:=by
  have a:=ar p.v1.1 (show 0<=b by have:=p.b2;omega);rw [Int.one_mul]at a;have c:=ar (show b<=v1*b+v2 by have:=p.v2;omega) (show 0<=s by have:=p.s1;omega);unfold gj;have:=p.v';omega
 have e3:(t-1)*gj b v1 v2 v' s=t*gj b v1 v2 v' s-gj b v1 v2 v' s:=by rw [Int.sub_mul,Int.one_mul]
 have bP:t*gj b v1 v2 v' s=t*(v1*b+v2)*s+t*v':=by unfold gj;rw [Int.mul_add,Int.mul_assoc]
 have jt:(b-1)*s=b*s-s:=by rw [Int.sub_mul,Int.one_mul]
 rw [e3,bP];unfold ni;have:=p.u';have:=p.s1;omega
theorem Q4 (p:zU b v1 v2 v' aG u1 u2 u' s) {t:Int} (ht:0<=t/\t<b) (h:b<=aG*b+u1-t*v1):t*v2<=(aG*b+u1-t*v1)*b+u2:=by
 have h1:t*v2<=b*b:=by
  have a:=ar (show t<=b by omega) p.v2.1;have c:=dU (show v2<=b by have:=p.v2;omega) (show 0<=b by have:=p.b2;omega);omega
 have h2:=ar h (show 0<=b by have:=p.b2;omega);have:=p.u2;omega
theorem Q5 (p:zU b v1 v2 v' aG u1 u2 u' s) {q:Int} (jO:0<=q) (hq:q*gj b v1 v2 v' s<=ni b aG u1 u2 u' s):q*v1<=aG*b+u1:=by
 refine Int.not_lt.1 fun hlt=> ?_
 have hb:=p.b2;have h1:aG*b+u1+1<=q*v1:=hlt;have h2:=ar h1 (show 0<=b by omega);have e1:(aG*b+u1+1)*b=(aG*b+u1)*b+b:=by rw [Int.add_mul _ 1,Int.one_mul]
 rw [e1]at h2;have h3:=ar (show(aG*b+u1)*b+u2+1<=q*v1*b by have:=p.u2;omega) (show 0<=s by have:=p.s1;omega);have e2:((aG*b+u1)*b+u2+1)*s=((aG*b+u1)*b+u2)*s+s:=by rw [Int.add_mul _ 1,Int.one_mul]
 rw [e2]at h3;have h4:q*v1*b*s<=q*gj b v1 v2 v' s:=by
  rw [Int.mul_assoc,Int.mul_assoc];refine dU ?_ jO;rw [<-Int.mul_assoc];unfold gj;have a:v1*b*s<=(v1*b+v2)*s:=ar (by have:=p.v2;omega) (by have:=p.s1;omega);have:=p.v';omega
 unfold ni at hq;have:=p.u';omega
end
end Go.Proofs.YtibikmmdbdlafaaGreatDoor
/- Numbers as lists of digits: the list of a number; sums and differences digit by digit. -/
namespace Go.Proofs.YtibikmmdbdlafaaGreatDoor
theorem eX.cons {x:Int} {l:List Int} (h:eX l) (hx:l=[]->x≠0):eX (x::l):=fun k hk=>by
 cases l with
 |nil=>
  simp at hk;subst hk;exact hx rfl
 |cons y r=>
  cases k with
  |zero=>simp at hk
  |succ k=>
   have:=h k (by simpa using hk);simpa using this
theorem Q6 {b:Int} (hb:1<b):∀n:Nat,∃l,aP b l/\eX l/\vl b l=(n:Int):=fun n=>by
 induction n using Nat.strongRecOn with
 |_ n ih=>
  by_cases h0:n=0
  .subst h0;exact⟨[],aP.nil,eX.nil,rfl⟩
  .have hlt:((n:Int)/b).toNat<n:=by
    have h1:(n:Int)/b<n:=Int.ediv_lt_of_lt_mul (by omega) (by
     have:(n:Int)*1<n*b:=Int.mul_lt_mul_of_pos_left hb (by omega);omega)
    have h2:0<=(n:Int)/b:=Int.ediv_nonneg (by omega) (by omega);omega
   obtain⟨l,h1,h2,h3⟩:=ih _ hlt;have h4:0<=(n:Int)/b:=Int.ediv_nonneg (by omega) (by omega);rw [Int.toNat_of_nonneg h4]at h3;have h5:=c6 (n:Int) (show b≠0 by omega);have h6:=cS (n:Int) (show 0<b by omega);have h7:=Int.emod_add_mul_ediv (n:Int) b;refine⟨(n:Int)%b::l,aP.cons ⟨h5,h6⟩ h1,eX.cons h2 fun e hz=> ?_, ?_⟩
   .subst e;have h3:(0:Int)=(n:Int)/b:=h3;rw [hz,<-h3]at h7;simp at h7;omega
   .show(n:Int)%b+b*vl b l=n;rw [h3];exact h7
noncomputable def cM (b z:Int):List Int:=if h:1<b/\0<=z then Classical.choose (Q6 h.1 z.toNat)else []
theorem d8 {b z:Int} (hb:1<b) (hz:0<=z):aP b (cM b z)/\eX (cM b z)/\vl b (cM b z)=z:=by
 unfold cM;rw [dif_pos ⟨hb,hz⟩];obtain⟨h1,h2,h3⟩:=Classical.choose_spec (Q6 hb z.toNat);exact⟨h1,h2,by rw [h3];omega⟩
theorem d9 {b z:Int} {l:List Int} (hb:1<b) (h1:aP b l) (h2:eX l) (h3:vl b l=z):l=cM b z:=by
 have hz:0<=z:=by rw [<-h3];exact fK (by omega) h1
 obtain⟨g1,g2,g3⟩:=d8 hb hz;exact Q1 hb h1 g1 h2 g2 (by rw [h3,g3])
theorem zV {l:List Int} {i:Nat} {d:Int}:(l.set i d).take i=l.take i:=by
 refine List.ext_getElem? fun j=> ?_
 rw [List.getElem?_take,List.getElem?_take];split
 .rw [List.getElem?_set_ne (by omega)]
 .rfl
theorem vn {l:List Int} {i:Nat} {d:Int} (h:i<l.length):(l.set i d).getD i 0=d:=by
 rw [ao,List.getElem?_set_self h];rfl
theorem xM {b:Int} {l:List Int} {i:Nat} {d:Int} (h:i<l.length):vl b ((l.set i d).take (i+1))=vl b (l.take i)+b^i*d:=by
 rw [kJ,zV,vn h]
theorem abt {b:Int} (hb:0<b) {l:List Int} (h:aP b l) (k:Nat):vl b (l.take k)<=vl b l:=by
 by_cases hk:k<=l.length
 .rw [rq b l k hk];have:=abr (ck (bc hb k)) (fK hb (h.drop k));omega
 .rw [ef (by omega)];exact Int.le_refl _
theorem Cp {b:Int} (hb:0<b) {l:List Int} (h:aP b l) {k:Nat} (hlt:vl b l<b^k):vl b (l.take k)=vl b l:=by
 by_cases hk:k<=l.length
 .have hs:=rq b l k hk;have h1:=fK hb (h.drop k);have h2:=fK hb (h.take k);have hz:vl b (l.drop k)=0:=by
   by_cases hz:vl b (l.drop k)=0
   .exact hz
   .have h3:b^k*1<=b^k*vl b (l.drop k):=dU (by omega) (ck (bc hb k));omega
  rw [hz]at hs;omega
 .rw [ef (by omega)]
theorem J0 {P b s c' a e c X Y O:Int} (h:s+b*c'=a+e+c) (hi:O+P*c=X+Y):O+P*s+P*b*c'=X+P*a+(Y+P*e):=by
 have h1:P*(s+b*c')=P*(a+e+c):=by rw [h]
 rw [Int.mul_add,Int.mul_add,Int.mul_add,<-Int.mul_assoc]at h1;omega
theorem Q7 {P b s c' a e c X Y O:Int} (h:s-b*c'=a-e-c) (hi:O-P*c=X-Y):O+P*s-P*b*c'=X+P*a-(Y+P*e):=by
 have h1:P*(s-b*c')=P*(a-e-c):=by rw [h]
 rw [Int.mul_sub,Int.mul_sub,Int.mul_sub,<-Int.mul_assoc]at h1;omega
def fx (b:Int):Nat->Int->List Int
 |0,_=>[]
 |m+1,z=>z%b::fx b m (z/b)
theorem xN (b:Int):∀(m:Nat) (z:Int),(fx b m z).length=m
 |0,_=>rfl
 |m+1,z=>by rw [fx,List.length_cons,xN b m]
theorem Cq {b:Int} (hb:0<b):∀(m:Nat) (z:Int),aP b (fx b m z)
 |0,_=> .nil
 |m+1,z=> .cons ⟨c6 _ (by omega),cS _ hb⟩ (Cq hb m _)
theorem Cr {b:Int} (hb:0<b):∀(m:Nat) (z:Int),0<=z->z<b^m->vl b (fx b m z)=z
 |0,z,h0,h1=>by simp at h1;simp [fx,vl];omega
 |m+1,z,h0,h1=>by
  have h2:z/b<b^m:=Int.ediv_lt_of_lt_mul hb (by rw [Int.pow_succ]at h1;exact h1);have h3:=Cr hb m (z/b) (Int.ediv_nonneg h0 (ck hb)) h2;show z%b+b*vl b (fx b m (z/b))=z;rw [h3];exact Int.emod_add_mul_ediv z b
theorem J1 {b:Int} (hb:1<b) {l:List Int} (h:aP b l):l=fx b l.length (vl b l):=by
 have hb0:0<b:=by omega
 exact JY hb h (Cq hb0 _ _) (xN b _ _).symm (Cr hb0 _ _ (fK hb0 h) (fC hb0 h)).symm
theorem J2 {b:Int} {u v:List Int} {n:Nat} (hb:2<=b) (hu:aP b u) (hv:aP b v) (bE:u.length=n+3) (lv:v.length=n+2) (h1:1<=v.getD (n+1) 0):
  zU b (v.getD (n+1) 0) (v.getD n 0) (vl b (v.take n)) (u.getD (n+2) 0) (u.getD (n+1) 0) (u.getD n 0) (vl b (u.take n)) (b^n):=by
 have hb0:0<b:=by omega
 have hp:=bc hb0 n;have l1:=fC hb0 (hv.take n);have l2:=fC hb0 (hu.take n);rw [dK,Nat.min_eq_left (by omega)]at l1 l2;exact⟨hb,hp,⟨h1,(hv.get hb0 _).2⟩,hv.get hb0 _,⟨fK hb0 (hv.take n),l1⟩,hu.get hb0 _,hu.get hb0 _,hu.get hb0 _,⟨fK hb0 (hu.take n),l2⟩⟩
theorem w7 {b:Int} {v:List Int} {n:Nat} (lv:v.length=n+2):gj b (v.getD (n+1) 0) (v.getD n 0) (vl b (v.take n)) (b^n)=vl b v:=by
 have h1:=lC (b:=b) (l:=v) (k:=n+1) (by omega);have h2:=lC (b:=b) (l:=v) (k:=n) (by omega);rw [ef (by omega)]at h1;rw [h1,h2];unfold gj;rw [Int.add_mul,Int.pow_succ,Int.mul_comm (v.getD (n+1) 0) b,Int.mul_assoc,Int.mul_comm (v.getD (n+1) 0),Int.mul_comm (v.getD n 0),<-Int.mul_assoc,Int.mul_comm b];omega
theorem J3 {b:Int} {u:List Int} {n:Nat} (bE:u.length=n+3):ni b (u.getD (n+2) 0) (u.getD (n+1) 0) (u.getD n 0) (vl b (u.take n)) (b^n)=vl b u:=by
 have h0:=lC (b:=b) (l:=u) (k:=n+2) (by omega);have h1:=lC (b:=b) (l:=u) (k:=n+1) (by omega);have h2:=lC (b:=b) (l:=u) (k:=n) (by omega);rw [ef (by omega)]at h0;rw [h0,h1,h2];unfold ni;simp only [Int.pow_succ];generalize u.getD (n+2) 0=x;generalize u.getD (n+1) 0=y;generalize u.getD n 0=z;generalize b^n=P;clear h0 h1 h2 bE;generalize vl b (u.take n)=V;grind
theorem xO {U V t:Int} (hV:0<V) (h1:0<=U-t*V) (h2:U-t*V<V):U/V=t/\U%V=U-t*V:=by
 have h3:U=(U-t*V)+t*V:=by omega
 have hq:U/V=t:=by
  rw [h3,Int.add_mul_ediv_right _ _ (by omega),Int.ediv_eq_zero_of_lt h1 h2];omega
 refine⟨hq, ?_⟩;have:=Int.emod_add_mul_ediv U V;rw [hq,Int.mul_comm]at this;omega
theorem abu {B P lo c' c t v u u' ru bo X O W:Int} (h1:c'*B+lo=t*v+c) (h2:u'-B*ru=u-lo-bo) (hi:O-P*bo=X-t*W+P*c):
  O+P*u'-P*B*ru=X+P*u-t*(W+P*v)+P*B*c':=by
 grind
end Go.Proofs.YtibikmmdbdlafaaGreatDoor
namespace Go.Proofs.YtibikmmdbdlafaaGreatDoor.Sv
open Go.RowKit
variable [Ground]
noncomputable section
def xP (ty:au) (v:aa) (H:ai):aA (Option (aa×ai)):=match ty,v with
 | .list false t, .bN e u i k len _=>(match decide (u=t)with
   |true=> .must (Nat.beq len 0||bt e t (H.get i) (k+len-1)) (.ret (some (.bk false t (((bI t (H.get i)).drop k).take len),H.drop i)))
   |false=> .ret none)
 | .list false t, .slice i off n _=>(match H.get i with
   |some (.cells _ cs _ false false)=>(match t.qL n (cut cs off (n*t.size))with
    |some ds=> .must (Nat.ble (off+n*t.size) cs.length) (.ret (some (.bk false t ds,H.drop i)))
    |none=> .ret none)
   |_=> .ret none)
 |_,v=> .ret (some (v,H))
def ry:List au->List aa->ai->aA (Option (List aa×ai))
 |t::ts,v::vs,H=>(xP t v H).bind fun r=>match r with
  |some (v1,H1)=>(ry ts vs H1).bind fun r2=>match r2 with
   |some (oW,H2)=> .ret (some (v1::oW,H2))
   |none=> .ret none
  |none=> .ret none
 |_,vs,H=> .ret (some (vs,H))
def EN (c:bn) (args:List aa) (H:ai):aA aI:=(ry c.ps args H).bind fun r=>match r with
 |some (args1,H1)=>xE c args1 H1
 |none=> .ret .no
def nZ (l:List bn) (bl:bF):bF:=fun f args H=>match l with
 |[]=>bl f args H
 |c::l=>match Nat.beq f c.f with |true=>EN c args H|false=>nZ l bl f args H
section
variable {P:Program} {B:Nat} {ρ:Env} {H:ai} {w:World}
theorem EO (hH:aX P B ρ H w) {i b c:Nat} {k:bf} {zs:Array Value} {e:TypeId} {fr:Nat×Nat} (hi:H.get i=some k) (hro:k.eF=false) (hr:ρ i=some (b,c)) (hz:w.heap[b]? =some (.cells zs e fr)):
  ∃cK:Env,cK.fz b=some zs/\(∀j,cK j=ρ j)/\cw ρ cK/\aX P B cK (H.drop i) w/\bL ρ H w cK (H.drop i) w:=by
 have hnf:ρ.fz b=none:=by
  cases oI:ρ.fz b with
  |none=>rfl
  |some A=>
   have:=(hH.fz b A oI).2 i k c hi hr;rw [hro]at this;cases this
 have hle:cw ρ ⟨ρ.at',fun q=>if q=b then some zs else ρ.fz q⟩:=⟨fun _ _ h=>h,fun q A h=>by
  show(if q=b then some zs else ρ.fz q)=some A;by_cases hq:q=b
  .subst hq;rw [hnf]at h;cases h
  .rw [if_neg hq];exact h⟩
 have key:∀j kk,(H.drop i).get j=some kk->j≠i/\H.get j=some kk:=fun j kk h=>by
  rw [ai.oG]at h;split at h
  .cases h
  .rename_i h2;exact⟨fun h=>h2 h.symm,h⟩
 refine⟨⟨ρ.at',fun q=>if q=b then some zs else ρ.fz q⟩,if_pos rfl,fun _=>rfl,hle,⟨fun j kk h=> ?_,fun i1 i2 k1 k2 bb c1 c2 g1 g2 g3 g4=>hH.inj i1 i2 k1 k2 bb c1 c2 (key _ _ g1).2 (key _ _ g2).2 g3 g4,fun j kk h=>hH.lt j kk (key j kk h).2,hH.base,fun bb A h=> ?_⟩,
  ⟨hle,fun _ _=>rfl,aE _,aE _,rfl,rfl,rfl,fun _ _ _=>rfl,fun q _ ⟨j,kk,b9,h1,h2,h3⟩=>⟨j,kk,b9,(key j kk h1).2,h2,h3⟩,fun q _ ⟨j,kk,b9,h1,h3⟩=>⟨j,kk,b9,(key j kk h1).2,h3⟩,fun bb A h=> ?_⟩⟩
 .obtain⟨bj,b9,o,e1,e2,e3,bP⟩:=hH.blk j kk (key j kk h).2;exact⟨bj,b9,o,e1,e2,e3.mono hle,bP⟩
 .have h:(if bb=b then some zs else ρ.fz bb)=some A:=h;by_cases hq:bb=b
  .subst hq;rw [if_pos rfl]at h;cases h;exact⟨⟨_,_,hz⟩,fun j kk c' g1 g2=>absurd (hH.inj j i kk k bb c' c (key j kk g1).2 hi g2 hr) (key j kk g1).1⟩
  .rw [if_neg hq]at h;exact⟨(hH.fz bb A h).1,fun j kk c' g1 g2=>(hH.fz bb A h).2 j kk c' (key j kk g1).2 g2⟩
 .have h:(if bb=b then some zs else ρ.fz bb)=some A:=h;by_cases hq:bb=b
  .subst hq;exact .inr (.inr ⟨i,k,c,hi,hro,hr⟩)
  .rw [if_neg hq]at h;exact .inl h
theorem abv (hH:aX P B ρ H w) {ty:au} {v v1:aa} {H1:ai} {x:Value} (h:(xP ty v H).gr=some (some (v1,H1))) (hd:Den ρ v x):∃cK:Env,cw ρ cK/\aX P B cK H1 w/\bL ρ H w cK H1 w/\Den cK v1 x:=by
 unfold xP at h;split at h
 .rename_i t e u i k len cap;split at h
  .rename_i hu;have hu:=ap hu;subst hu;cases hm:(Nat.beq len 0||bt e u (H.get i) (k+len-1))with
   |false=>rw [hm]at h;cases h
   |true=>
    rw [hm]at h;cases h;rcases hd.jl with⟨rfl,a,rfl⟩|⟨b,c,kc,g1,g2,g3,rfl⟩
    .rw [List.take_zero];by_cases hg:∃kk,H.get i=some kk/\kk.eF=false/\∃b c zs e fr,ρ i=some (b,c)/\w.heap[b]? =some (.cells zs e fr)
     .obtain⟨kk,q1,aO,b,c,zs,e',fr,bZ,ei⟩:=hg;obtain⟨cK,_,_,r1,r2,r3⟩:=EO hH q1 aO bZ ei;exact⟨cK,r1,r2,r3, .eV fun e=>by cases e⟩
     . -- the block is given up without being frozen
       have key:∀j kk,(H.drop i).get j=some kk->j≠i/\H.get j=some kk:=fun j kk h=>by
        rw [ai.oG]at h;split at h
        .cases h
        .rename_i h2;exact⟨fun h=>h2 h.symm,h⟩
       exact⟨ρ,cw.refl _,⟨fun j kk h=>hH.blk j kk (key j kk h).2,fun i1 i2 k1 k2 bb c1 c2 g1 g2 g3 g4=>hH.inj i1 i2 k1 k2 bb c1 c2 (key _ _ g1).2 (key _ _ g2).2 g3 g4,fun j kk h=>hH.lt j kk (key j kk h).2,hH.base,fun bb A h=>⟨(hH.fz bb A h).1,fun j kk c' g1 g2=>(hH.fz bb A h).2 j kk c' (key j kk g1).2 g2⟩⟩,
        ⟨cw.refl _,fun _ _=>rfl,aE _,aE _,rfl,rfl,rfl,fun _ _ _=>rfl,fun q _ ⟨j,kk,b9,h1,h2,h3⟩=>⟨j,kk,b9,(key j kk h1).2,h2,h3⟩,fun q _ ⟨j,kk,b9,h1,h3⟩=>⟨j,kk,b9,(key j kk h1).2,h3⟩,fun bb A h=> .inl h⟩, .eV fun e=>by cases e⟩
    .by_cases hl:len=0
     .subst hl;rw [List.take_zero];by_cases hg:∃kk,H.get i=some kk/\kk.eF=false/\∃b c zs e fr,ρ i=some (b,c)/\w.heap[b]? =some (.cells zs e fr)
      .obtain⟨kk,q1,aO,b,c,zs,e',fr,bZ,ei⟩:=hg;obtain⟨cK,_,_,r1,r2,r3⟩:=EO hH q1 aO bZ ei;exact⟨cK,r1,r2,r3, .eV fun e=>by cases e⟩
      .have key:∀j kk,(H.drop i).get j=some kk->j≠i/\H.get j=some kk:=fun j kk h=>by
        rw [ai.oG]at h;split at h
        .cases h
        .rename_i h2;exact⟨fun h=>h2 h.symm,h⟩
       exact⟨ρ,cw.refl _,⟨fun j kk h=>hH.blk j kk (key j kk h).2,fun i1 i2 k1 k2 bb c1 c2 g1 g2 g3 g4=>hH.inj i1 i2 k1 k2 bb c1 c2 (key _ _ g1).2 (key _ _ g2).2 g3 g4,fun j kk h=>hH.lt j kk (key j kk h).2,hH.base,fun bb A h=>⟨(hH.fz bb A h).1,fun j kk c' g1 g2=>(hH.fz bb A h).2 j kk c' (key j kk g1).2 g2⟩⟩,
        ⟨cw.refl _,fun _ _=>rfl,aE _,aE _,rfl,rfl,rfl,fun _ _ _=>rfl,fun q _ ⟨j,kk,b9,h1,h2,h3⟩=>⟨j,kk,b9,(key j kk h1).2,h2,h3⟩,fun q _ ⟨j,kk,b9,h1,h3⟩=>⟨j,kk,b9,(key j kk h1).2,h3⟩,fun bb A h=> .inl h⟩, .eV fun e=>by cases e⟩
     .rw [Bool.or_eq_true]at hm;have hm:=hm.resolve_left fun e=>hl (ac e)
      obtain⟨b1,b2⟩:=uM hm;obtain⟨zs,q1,aO,_⟩:=qU hH b1 g1;obtain⟨cK,f1,_,r1,r2,r3⟩:=EO hH b1 rfl g1 q1;refine⟨cK,r1,r2,r3, ?_⟩;generalize bI u (H.get i)=xs at b1 b2 aO ⊢;have hle2:k+len<=xs.length:=by omega
      have e1:(xs.drop k).take len=(xs.take (k+len)).drop k:=by rw [List.take_drop]
      have gw:=BA (off:=0) (A:=zs.toList) (l:=k) (h:=k+len) (by simpa using aO) (by omega) hle2;rw [aw,<-e1]at gw;have hn:((xs.drop k).take len).length=len:=by simp;omega
      have gy:=Den.bk (ρ:=cK) (z:=false) (t:=u) (xs:=(xs.drop k).take len) (b:=b) (off:=k*u.size) (k:=kc) (A:=zs) f1 (by
       have e3:(u.flat xs).length<=zs.toList.length:=by
        have:=aO.length;simp at this ⊢;omega
       rw [u.iP]at e3 ⊢;rw [hn,<-Nat.add_mul];have:=cX (Nat.mul_le_mul_right u.size hle2) e3;simpa using this) rfl (gw.mono r1) (by omega) (fun e=>by cases e)
      rwa [hn]at gy
  .cases h
 .rename_i t i off n cap;split at h
  .rename_i e cs x hg;split at h
   .rename_i ds hrd;cases hm:Nat.ble (off+n*t.size) cs.length with
    |false=>rw [hm]at h;cases h
    |true=>
     rw [hm]at h;cases h;have hle:=bR hm;obtain⟨b,c,k,g1,_,g3,rfl⟩:=hd.gY;obtain⟨zs,w6,q1,_,bZ,_,_,qa⟩:=l6 hH hg g1;obtain⟨cK,f1,_,r1,r2,r3⟩:=EO hH hg rfl g1 q1;refine⟨cK,r1,r2,r3, ?_⟩;have hcut:=(bZ.drop off).take (n*t.size);obtain⟨mz,hn⟩:=au.Bw hrd hcut;subst hn;have hfl:=t.iP ds;have e2:((zs.toList.take cs.length).drop off).take (ds.length*t.size)=(zs.toList.drop off).take (t.flat ds).length:=by
      rw [hfl,List.drop_take,List.take_take,Nat.min_eq_left (by omega)]
     rw [e2]at mz;exact .bk f1 (by rw [hfl];omega) rfl (mz.mono r1) g3 fun e=>by cases e
   .cases h
  .cases h
 .cases h;exact⟨ρ,cw.refl _,hH,bL.refl _ _ _,hd⟩
theorem Q8:∀{ts:List au} {vs oW:List aa} {ρ:Env} {H H1:ai} {xs:List Value},aX P B ρ H w->(ry ts vs H).gr=some (some (oW,H1))->aF ρ vs xs->∃cK:Env,cw ρ cK/\aX P B cK H1 w/\bL ρ H w cK H1 w/\aF cK oW xs
 |[],vs,oW,ρ,H,H1,xs,hH,h,hd=>by
  cases h;exact⟨ρ,cw.refl _,hH,bL.refl _ _ _,hd⟩
 |t::ts,[],oW,ρ,H,H1,xs,hH,h,hd=>by
  cases h;exact⟨ρ,cw.refl _,hH,bL.refl _ _ _,hd⟩
 |t::ts,v::vs,oW,ρ,H,H1,_,hH,h, .cons d1 d2=>by
  unfold ry at h;rw [aA.p6]at h;cases h1:(xP t v H).gr with
  |none=>rw [h1]at h;cases h
  |some r=>
   rw [h1]at h;cases r with
   |none=>cases h
   |some r=>
    obtain⟨v1,H2⟩:=r;simp only [Option.bind_some]at h;rw [aA.p6]at h;cases h2:(ry ts vs H2).gr with
    |none=>rw [h2]at h;cases h
    |some r2=>
     rw [h2]at h;cases r2 with
     |none=>cases h
     |some r2=>
      obtain⟨abw,H3⟩:=r2;cases h;obtain⟨cK,l1,a1,s1,e1⟩:=abv hH h1 d1;obtain⟨dW,l2,a2,s2,e2⟩:=Q8 a1 h2 (d2.mono l1);exact⟨dW,l1.trans l2,a2,s1.trans s2, .cons (e1.mono l2) e2⟩
theorem abx {ty:au} {v v1:aa} {H1:ai} (h:(xP ty v H).gr=some (some (v1,H1))):H1.next=H.next:=by
 unfold xP at h;split at h
 .split at h
  .rename_i e u i k len _ _ _;cases hm:(Nat.beq len 0||bt e _ (H.get i) (k+len-1))with
   |false=>rw [hm]at h;cases h
   |true=>rw [hm]at h;cases h;rfl
  .cases h
 .split at h
  .split at h
   .unfold aA.gr at h;generalize Nat.ble _ _=bb at h;cases bb with
    |false=>cases h
    |true=>cases h;rfl
   .cases h
  .cases h
 .cases h;rfl
theorem qn:∀{ts:List au} {vs oW:List aa} {H H1:ai},(ry ts vs H).gr=some (some (oW,H1))->H1.next=H.next
 |[],vs,oW,H,H1,h=>by cases h;rfl
 |t::ts,[],oW,H,H1,h=>by cases h;rfl
 |t::ts,v::vs,oW,H,H1,h=>by
  unfold ry at h;rw [aA.p6]at h;cases h1:(xP t v H).gr with
  |none=>rw [h1]at h;cases h
  |some r=>
   rw [h1]at h;cases r with
   |none=>cases h
   |some r=>
    obtain⟨v1,H2⟩:=r;simp only [Option.bind_some]at h;rw [aA.p6]at h;cases h2:(ry ts vs H2).gr with
    |none=>rw [h2]at h;cases h
    |some r2=>
     rw [h2]at h;cases r2 with
     |none=>cases h
     |some r2=>
      obtain⟨abw,H3⟩:=r2;cases h;rw [qn h2,abx h1]
theorem vx {c:bn} {args:List aa} {v:aa} {H':ai} (h:(EN c args H).gr=some (.ok v H')):∃args1,(ry c.ps args H).gr=some (some (args1,H'))/\(xE c args1 H').gr=some (.ok v H'):=by
 unfold EN at h;rw [aA.p6]at h;cases h1:(ry c.ps args H).gr with
 |none=>rw [h1]at h;cases h
 |some r=>
  rw [h1]at h;cases r with
  |none=>cases h
  |some r=>
   obtain⟨a1,H1⟩:=r;have h:(xE c a1 H1).gr=some (.ok v H'):=h;have e:=Jw h;subst e;exact⟨a1,rfl,h⟩
theorem J4 {bl:bF} {f:FuncId} {args:List aa} {v:aa} {H':ai}:∀{l:List bn},(nZ l bl f args H).gr=some (.ok v H')->(∃c∈l,c.f=f/\(EN c args H).gr=some (.ok v H'))\/(bl f args H).gr=some (.ok v H')
 |[],h=> .inr h
 |c::l,h=>by
  unfold nZ at h;cases hb:Nat.beq f c.f with
  |true=>simp only [hb]at h;exact .inl ⟨c,k7,(ac hb).symm,h⟩
  |false=>
   simp only [hb]at h;rcases J4 h with⟨c',h1,h2⟩|h1
   .exact .inl ⟨c',k6 _ h1,h2⟩
   .exact .inr h1
theorem tD {l:List bn} {bl:bF} (hl:∀c∈l,c.Ok P) (hS:bB P (bD bl)):bB P (bD (nZ l bl)) where
 mono f args H v H' h:=by
  rcases J4 (q8 h)with⟨c,_,_,h3⟩|h3
  .obtain⟨a1,g1,_⟩:=vx h3;rw [qn g1];exact aE _
  .exact hS.mono f args H v H' (by unfold bD;rw [h3];rfl)
 ct f args H v H' h B ρ xs w m hH cn hd hf:=by
  rcases J4 (q8 h)with⟨c,h1,rfl,h3⟩|h3
  .obtain⟨a1,g1,g2⟩:=vx h3;obtain⟨cK,l1,a2,s1,e1⟩:=Q8 hH g1 hd;refine(QD (hl c h1) g2 m a2 (cn.mono l1) e1).mono ?_;rintro e w' ⟨x,ρ',rfl,q1,aO,bZ⟩;exact⟨x,ρ',rfl,q1,aO,s1.trans bZ⟩
  .exact hS.ct f args H v H' (by unfold bD;rw [h3];rfl) B ρ xs w m hH cn hd hf
end
end
end Go.Proofs.YtibikmmdbdlafaaGreatDoor.Sv
