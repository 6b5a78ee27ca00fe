import Derived.Test.YtibikmmdbdlafaaGreatDoorZcSvTy
import Derived.IntWalk
import Derived.ChangeKeysEq
import Derived.Laws.Slices
set_option linter.defProp false
set_option linter.unusedSimpArgs false
namespace Go.Proofs.YtibikmmdbdlafaaGreatDoor.Sv
open Go.RowKit
def tS:Next->Value->Prop
 | .value v,x=>x=v
 | .skip,x=>x=undef
 |_,_=>False
def cR (P:Program) (B:Nat) (ρ:Env) (H:ai) (w:World) (r:Result Next):aL->Prop
 | .no=>True
 | .ok v H'=>Fr ρ H.next H'.next->∃ρ' x w' eM,r= .ok eM w'/\tS eM x/\Den ρ' v x/\aZ P B ρ' H' w'/\bQ ρ H w ρ' H' w'
 | .enter f args H'=>H'=H/\∃xs:List Value,r= .ok (.enter f xs.toArray) w/\aG ρ args xs
 | .round i args H'=>H'=H/\∃(b c:Nat) (xs:List Value),ρ i=some (b,c)/\r=(Instr.yield b xs.toArray).run P w/\aG ρ args xs
def n4 {P:Program} {α:Type}:∀(s:Sem α) {a:α} (w:World),bm P s=some a->s.run P w= .ok a w
 | .pure a,_,w,h=>by simp [bm]at h;subst h;rfl
 | .program k,_,w,h=>by
   have:=n4 (k P) w (by simpa [bm]using h);simpa [Sem.run]using this
 | .mark m k,_,w,h=>by
   have:=n4 k w (by simpa [bm]using h);simpa [Sem.run]using this
 | .load ..,_,_,h=>by simp [bm]at h
 | .store ..,_,_,h=>by simp [bm]at h
 | .new ..,_,_,h=>by simp [bm]at h
 | .shape ..,_,_,h=>by simp [bm]at h
 | .freeze ..,_,_,h=>by simp [bm]at h
 | .frozen ..,_,_,h=>by simp [bm]at h
 | .getObj ..,_,_,h=>by simp [bm]at h
 | .setObj ..,_,_,h=>by simp [bm]at h
 | .choose ..,_,_,h=>by simp [bm]at h
 | .sys ..,_,_,h=>by simp [bm]at h
 | .halt ..,_,_,h=>by simp [bm]at h
section
variable {P:Program} {B:Nat} {ρ:Env} {H:ai} {w:World} {r:Result Next}
def mz (hH:aZ P B ρ H w) {x:Option aa} (h:∀v,x=some v->∃eM y,r= .ok eM w/\tS eM y/\Den ρ v y):cR P B ρ H w r (ag H x):=by
 cases x with
 |none=>trivial
 |some v=>
  obtain⟨eM,y,h1,h2,h3⟩:=h v rfl;exact fun _=>⟨ρ,y,w,eM,h1,h2,h3,hH,bQ.refl _ _ _⟩
def fV (hH:aZ P B ρ H w) {v:aa} {y:Value} (h:r= .ok (.value y) w) (hd:Den ρ v y):cR P B ρ H w r (.ok v H):=
 fun _=>⟨ρ,y,w, .value y,h,rfl,hd,hH,bQ.refl _ _ _⟩
def Cx {v:aa} {i off:Nat} (h:iJ v= .mk i off):v= .ptr i off:=by
 cases v<;>first |(cases h;rfl)|(simp [iJ]at h)
def ZU {v:aa} {i off len:Nat} {cap:aX} (h:xJ v= .mk i off len cap):v= .slice i off len cap:=by
 cases v<;>first |(cases h;rfl)|(simp [xJ]at h)
def QC {v:aa} {cs:List aa} (h:rL v=some cs):v= .agg cs:=by
 cases v<;>first |(cases h;rfl)|(simp [rL]at h)
def ZV {v:aa} {cs:List aa} (h:zS v=some cs):v= .tuple cs:=by
 cases v<;>first |(cases h;rfl)|(simp [zS]at h)
def ZW {v:Value} {b:Bool} (h:IZ v= .mk b):v= .bool b:=by
 cases v<;>first |(cases h;rfl)|(simp [IZ]at h)
def E1 {v:aa} {b:Bool} (h:gK v= .mk b):v= .raw (.bool b):=by
 cases v<;>first |(rw [ZW h])|(simp [gK]at h)
def ZX {v:Value} {k:IntKind} {n:Int} (h:IY v= .int k n):v= .int k n:=by
 cases v<;>first |(cases h;rfl)|(simp [IY]at h)
def Af {v:aa} {k:IntKind} {n:Int} (h:iI v= .int k n):v= .raw (.int k n):=by
 cases v<;>first |(rw [ZX h])|(simp [iI]at h)
def Js {n:Int} {m:Nat} (h:vG n= .mk m):n=m:=by
 cases n<;>first |(cases h;rfl)|(simp [vG]at h)
def QD {v:aa} {m:Nat} (h:nW v= .mk m):∃k,v= .raw (.int k m):=by
 unfold nW at h;cases hw:iI v with
 |no=>rw [hw]at h;cases h
 |int k n=>
  rw [hw]at h;have:=Js h;subst this;exact⟨k,Af hw⟩
def Cy {v:aa} {m:Nat} (h:mh v=some m):∃k,v= .raw (.int k m):=by
 unfold mh at h;cases hw:nW v with
 |no=>rw [hw]at h;cases h
 |mk n=>rw [hw]at h;cases h;exact QD hw
def Fd {b:Option bl} {e:TypeId} {cs:List aa} {x f r:Bool} (h:tD b= .mk e cs x f r):b=some (.cells e cs x f r):=by
 cases b with
 |none=>cases h
 |some b=>cases b<;>first |(cases h;rfl)|(simp [tD]at h)
def xX {t:TypeId} {n:Nat} (h:ey P t=some n):∃i,P.info? t=some i/\i.size=n:=by
 simpa [ey,am]using h
def Jt {t:TypeId} {z:Value} (h:nk P t=some z):∃i,P.info? t=some i/\i.zero=some z:=by
 simpa [nk,dO]using h
def xY {t e:TypeId} (h:il P t=some e):P.underlying t=some (.slice e):=by
 unfold il at h;split at h
 .rename_i e' he;cases h;exact he
 .cases h
section
variable {t:TypeId}
def jZ {n:Nat} (h:ey P t=some n) (w:World):(sizeOf t).run P w= .ok n w:=by
 obtain⟨i,hi,rfl⟩:=xX h;simp [sizeOf,typeInfo,hi]
def E2 {z:Value} (h:nk P t=some z) (w:World):(zeroValue t).run P w= .ok z w:=by
 obtain⟨i,hi,hz⟩:=Jt h;simp [zeroValue,typeInfo,hi,hz]
def dB {d:TypeDesc} (h:P.underlying t=some d) (w:World):(underlying t).run P w= .ok d w:=by
 simp [underlying,h]
def E3 {b:Bool} (h:Cb P t=some b) (w:World):(isAgg t).run P w= .ok b w:=by
 simp only [Cb,am]at h;obtain⟨d,hd,rfl⟩:=h;unfold isAgg;simp only [Sem.run_bind,dB hd,Result.andThen_ok];cases d<;>rfl
def QE (h:lv P t= .one):Cb P t=some false:=by
 unfold lv at h;split at h<;>first |assumption|(cases h)
def QF {n:Nat} (h:lv P t= .agg n):Cb P t=some true/\ey P t=some n:=by
 unfold lv at h;split at h
 .rename_i h1 h2;cases h;exact⟨h1,h2⟩
 .cases h
 .cases h
def QG {n s:Nat} (h:nV P t= .arr n s):∃e,P.underlying t=some (.array n e)/\ey P e=some s:=by
 unfold nV at h;split at h
 .rename_i n' e he;split at h
  .rename_i s' hs;cases h;exact⟨e,he,hs⟩
  .cases h
 .split at h<;>cases h
 .cases h
def QH {s:Nat} (h:nV P t= .sl s):∃e,P.underlying t=some (.slice e)/\ey P e=some s:=by
 unfold nV at h;split at h
 .split at h<;>cases h
 .rename_i e he;split at h
  .rename_i s' hs;cases h;exact⟨e,he,hs⟩
  .cases h
 .cases h
end
def Ju {s:TypeId} {f off n:Nat} {t:TypeId} (h:fv P s f= .mk off n t):∃fs fd,P.underlying s=some (.struct fs)/\fs[f]? =some fd/\fd.offset=off/\fd.type=t/\ey P t=some n:=by
 unfold fv at h;split at h
 .rename_i fs hs;split at h
  .rename_i fd hf;split at h
   .rename_i n' hn;cases h;exact⟨fs,fd,hs,hf,rfl,rfl,hn⟩
   .cases h
  .cases h
 .cases h
def qu:Op->Bool
 | .select .. =>false
 |_=>true
def execOp_congr {e e':Operand->Value} {o:Oper} (hs:qu o.op=true) (h:∀x∈o.op.operands.toList,e x=e' x):execOp e o=execOp e' o:=by
 obtain⟨dst,op,type,pos,after,guard⟩:=o;cases op with
 |call c=>
  obtain⟨callee,args,argTypes⟩:=c;have ha:args.map e=args.map e':=by
   apply Array.map_congr_left;intro x hx;exact h x (by simp [Op.operands,Call.operands,hx])
  cases callee with
  |value f=>
   have hf:=h f (by simp [Op.operands,Call.operands]);simp [execOp,resolve,ha,hf]
  |invoke f m=>
   have hf:=h f (by simp [Op.operands,Call.operands]);simp [execOp,resolve,ha,hf]
  |builtin b=>simp [execOp,resolve,ha]
 |go c=>
  obtain⟨callee,args,argTypes⟩:=c;have ha:args.map e=args.map e':=by
   apply Array.map_congr_left;intro x hx;exact h x (by simp [Op.operands,Call.operands,hx])
  cases callee with
  |value f=>
   have hf:=h f (by simp [Op.operands,Call.operands]);simp [execOp,resolve,ha,hf]
  |invoke f m=>
   have hf:=h f (by simp [Op.operands,Call.operands]);simp [execOp,resolve,ha,hf]
  |builtin b=>simp [execOp,resolve,ha]
 |defer c=>
  obtain⟨callee,args,argTypes⟩:=c;have ha:args.map e=args.map e':=by
   apply Array.map_congr_left;intro x hx;exact h x (by simp [Op.operands,Call.operands,hx])
  cases callee with
  |value f=>
   have hf:=h f (by simp [Op.operands,Call.operands]);simp [execOp,resolve,ha,hf]
  |invoke f m=>
   have hf:=h f (by simp [Op.operands,Call.operands]);simp [execOp,resolve,ha,hf]
  |builtin b=>simp [execOp,resolve,ha]
 |build t ps=>
  have ha:(ps.map fun(i,x)=>(i,e x))=ps.map fun(i,x)=>(i,e' x):=by
   apply Array.map_congr_left;intro x hx;have:=h x.2 (by simp only [Op.operands];exact List.mem_map_of_mem (Array.mem_toList_iff.2 hx));simp [this]
  simp [execOp,ha]
 |buildSlice t l ps=>
  have ha:(ps.map fun(i,x)=>(i,e x))=ps.map fun(i,x)=>(i,e' x):=by
   apply Array.map_congr_left;intro x hx;have:=h x.2 (by simp only [Op.operands];exact List.mem_map_of_mem (Array.mem_toList_iff.2 hx));simp [this]
  simp [execOp,ha]
 |makeFunc fn f c=>
  have h1:f.map e=f.map e':=Array.map_congr_left fun x hx=>h x (by simp [Op.operands,hx])
  have h2:c.map e=c.map e':=Array.map_congr_left fun x hx=>h x (by simp [Op.operands,hx])
  simp [execOp,h1,h2]
 |makeMap t r=>cases r<;>simp_all [Op.operands,execOp]
 |slice t x l hi m=>cases l<;>cases hi<;>cases m<;>simp_all [Op.operands,execOp]
 |select cs b=>cases hs
 |_=>simp_all [Op.operands,execOp]
def ZY {ev:dP} {e:Operand->Value} (he:∀x,Den ρ (ev x) (e x)) {x:Operand} (h:(ev x).fA.isSome=true):m6 ev x=e x:=by
 obtain⟨v,hv⟩:=Option.isSome_iff_exists.1 h;rw [m6,hv,(he x).fA hv];rfl
def vO {o:Oper} {ev:dP} {e:Operand->Value} (he:∀x,Den ρ (ev x) (e x)) (hs:qu o.op=true) {v:aa} (h:gen P o ev=some v) (w:World):
  ∃eM y,(execOp e o).run P w= .ok eM w/\tS eM y/\Den ρ v y:=by
 unfold gen at h;cases hb:(o.op.operands.toList.all fun x=>(ev x).fA.isSome)with
 |false=>rw [hb]at h;cases h
 |true=>
  rw [hb]at h;have hc:execOp (m6 ev) o=execOp e o:=execOp_congr hs fun x hx=>ZY he (List.all_eq_true.1 hb x hx)
  simp only [cond_true,hc]at h;split at h
  .rename_i y hy;cases h;exact⟨_,y,n4 _ w hy,rfl, .raw y⟩
  .rename_i hy;cases h;exact⟨_,undef,n4 _ w hy,rfl, .raw undef⟩
  .cases h
def vP {o:Oper} {ev:dP} {e:Operand->Value} (hH:aZ P B ρ H w) (he:∀x,Den ρ (ev x) (e x)) (hs:qu o.op=true):cR P B ρ H w ((execOp e o).run P w) (ag H (gen P o ev)):=
 mz hH fun _ h=>vO he hs h w
variable {o:Oper} {ev:dP} {e:Operand->Value}
section
variable (hH:aZ P B ρ H w) (he:∀x,Den ρ (ev x) (e x))
def ZZ {x:Operand} (ho:o.op= .move x):cR P B ρ H w ((execOp e o).run P w) (m7 x P o ev H):=
 fV hH (y:=e x) (by simp [execOp,ho]) (he x)
def Z0 {x:Operand} (ho:o.op= .assign x):cR P B ρ H w ((execOp e o).run P w) (m7 x P o ev H):=
 fV hH (y:=e x) (by simp [execOp,ho]) (he x)
def Z1 {c a b:Operand} (ho:o.op= .pick c a b):cR P B ρ H w ((execOp e o).run P w) (nX c a b P o ev H):=by
 unfold nX;cases hb:gK (ev c)with
 |no=>trivial
 |mk k=>
  have hc:=he c;rw [E1 hb]at hc;have hc:=hc.cg;cases k
  .exact fV hH (y:=e b) (by simp [execOp,ho,hc,asBool]) (he b)
  .exact fV hH (y:=e a) (by simp [execOp,ho,hc,asBool]) (he a)
def Z2 {x:Operand} (ho:o.op= .nilCheck x):cR P B ρ H w ((execOp e o).run P w) (qi x P o ev H):=by
 unfold qi;have hx:=he x;cases hp:iJ (ev x)with
 |mk i off=>
  rw [Cx hp]at hx;obtain⟨b,c,h1,h2⟩:=hx.kN;exact fV hH (y:=e x) (by simp [execOp,ho,h2]) hx
 |no=>
  refine mz hH fun v hv=> ?_
  unfold I7 at hv;split at hv
  .rename_i f a b hx';cases hv;rw [hx']at hx;obtain⟨xs,ys,h1,h2,h3⟩:=hx.Ct;exact⟨_,e x,by simp [execOp,ho,h3];rfl,by rw [h3];rfl,hx⟩
  .rename_i i hx';cases hv;rw [hx']at hx;obtain⟨b,c,h1,h2⟩:=hx.Jm;exact⟨_,e x,by simp [execOp,ho,h2];rfl,by rw [h2];rfl,hx⟩
  .rename_i t xs k off hx';cases hv;rw [hx']at hx;obtain⟨b,o',A,_,_,_,_,h2⟩:=hx.Ae;exact⟨_,e x,by simp [execOp,ho,h2];rfl,by rw [h2];rfl,hx⟩
  .rename_i e' t i k off hx';cases hv;rw [hx']at hx;obtain⟨b,c,_,h2⟩:=hx.xV;exact⟨_,e x,by simp [execOp,ho,h2];rfl,by rw [h2];rfl,hx⟩
  .exact vO he (by simp [ho,qu]) hv w
def Z3 {fn:Fn} {a c:Array Operand} (ho:o.op= .makeFunc fn a c):cR P B ρ H w ((execOp e o).run P w) (Ci fn a c P o ev H):=by
 have hl:∀l:List Operand,aG ρ (l.map ev) (l.map e):=fun l=>by
  induction l with
  |nil=>exact .nil
  |cons x l ih=>exact .cons (he x) ih
 have h:=Den.func (fn:=fn) (hl a.toList) (hl c.toList);have e1:(a.toList.map e).toArray=a.map e:=by apply Array.ext';simp
 have e2:(c.toList.map e).toArray=c.map e:=by apply Array.ext';simp
 rw [e1,e2]at h;exact fV hH (by simp [execOp,ho,Instr.makeFunc]) h
def Z4 {t:TypeId} {x:Operand} (ho:o.op= .makeInterface t x):cR P B ρ H w ((execOp e o).run P w) (Ch t x P o ev H):=by
 refine mz hH fun v hv=> ?_
 unfold Qp at hv;split at hv
 .cases hv
 .cases hv
 .rename_i d hd hn;cases hv;refine⟨.value (.iface t (e x)), .iface t (e x), ?_,rfl, .iface (he x)⟩;simp only [execOp,ho,Instr.makeInterface,Sem.run_bind,dB hn,Result.andThen_ok];cases d<;>first |rfl |exact absurd rfl (hd _)
end
def j0 (b off n:Nat):(⟨b,off,none⟩:Addr).add n=⟨b,off+n,none⟩:=by
 unfold Addr.add;split
 .rename_i e;subst e;rfl
 .rfl
def QI {s t:TypeId} {x:Operand} {f gJ n b O:Nat} (ho:o.op= .fieldAddr s x f) (hf:fv P s f= .mk gJ n t) (hb:Nat.ble 1 n=true) (hx:e x= .pointer (some ⟨b,O,none⟩)):
  (execOp e o).run P w= .ok (.value (.pointer (some ⟨b,O+gJ,none⟩))) w:=by
 obtain⟨fs,fd,g1,g2,g3,g4,g5⟩:=Ju hf;have hn:n≠0:=by have:=bT hb;omega
 subst g3;subst g4;simp [execOp,ho,Instr.fieldAt,dB g1,g2,hx,Instr.sureAddr,fieldPlace,jZ g5,hn,j0]
def Z5 (hH:aZ P B ρ H w) {s t:TypeId} {x:Operand} {f gJ n:Nat} {v:aa} (ho:o.op= .fieldAddr s x f) (hf:fv P s f= .mk gJ n t) (hx:Den ρ v (e x)):cR P B ρ H w ((execOp e o).run P w) (li gJ n v H):=by
 unfold li;split
 .rename_i u xs k off;cases hb:Nat.ble 1 n with
  |false=>trivial
  |true=>
   obtain⟨b,o',A,h1,h2,h3,h4,h5⟩:=hx.Ae;refine fV hH (QI ho hf hb h5) ?_;rw [show o'+(k*u.size+off)+gJ=o'+(k*u.size+(off+gJ)) by omega];exact .fy h1 h2 rfl h3 h4
 .rename_i e' u i k off;cases hb:Nat.ble 1 n with
  |false=>trivial
  |true=>
   obtain⟨b,c,h1,h5⟩:=hx.xV;refine fV hH (QI ho hf hb h5) ?_;rw [Nat.add_assoc];exact .dL h1
 .trivial
def Z6 (hH:aZ P B ρ H w) (he:∀x,Den ρ (ev x) (e x)) {s:TypeId} {x:Operand} {f:Nat} (ho:o.op= .fieldAddr s x f):cR P B ρ H w ((execOp e o).run P w) (qj s x f P o ev H):=by
 unfold qj;cases hf:fv P s f with
 |no=>trivial
 |mk gJ n t=>
  cases hp:iJ (ev x)with
  |no=>exact Z5 hH ho hf (he x)
  |mk i off=>
   cases hb:Nat.ble 1 n with
   |false=>simp only [hb];trivial
   |true=>
    simp only [hb];have hx:=he x;rw [Cx hp]at hx;obtain⟨b,c,h1,h2⟩:=hx.kN;obtain⟨fs,fd,g1,g2,g3,g4,g5⟩:=Ju hf;have hn:n≠0:=by have:=bT hb;omega
    have ha:(⟨b,off,none⟩:Addr).add gJ=⟨b,off+gJ,none⟩:=by
     unfold Addr.add;split
     .rename_i e;subst e;rfl
     .rfl
    refine fV hH (y:= .pointer (some ⟨b,off+gJ,none⟩)) ?_ (.ptr h1);subst g3;subst g4;simp [execOp,ho,Instr.fieldAt,dB g1,g2,h2,Instr.sureAddr,fieldPlace,jZ g5,hn,ha]
def QJ {t:TypeId} {x ix:Operand} {k n s b O:Nat} {eL:IntKind} (ho:o.op= .indexAddr t x ix) (iL:e ix= .int eL k) (ht:nV P t= .arr n s) (hx:e x= .pointer (some ⟨b,O,none⟩)) (hlt:k<n):
  (execOp e o).run P w= .ok (.value (.pointer (some ⟨b,O+k*s,none⟩))) w:=by
 obtain⟨el,g1,g2⟩:=QG ht;simp [execOp,ho,Instr.indexAt,iL,asIntOf,dB g1,hx,Instr.sureAddr,jZ g2,hlt,j0]
def QK {t:TypeId} {x ix:Operand} {k s len kk b O:Nat} {eL:IntKind} (ho:o.op= .indexAddr t x ix) (iL:e ix= .int eL k) (ht:nV P t= .sl s) (hx:e x= .slice (some ⟨b,O,none⟩) len kk) (hlt:k<len):
  (execOp e o).run P w= .ok (.value (.pointer (some ⟨b,O+k*s,none⟩))) w:=by
 obtain⟨el,g1,g2⟩:=QH ht;simp [execOp,ho,Instr.indexAt,iL,asIntOf,dB g1,hx,jZ g2,hlt,j0]
section
variable (hH:aZ P B ρ H w) {t:TypeId} {x ix:Operand}
def Z7 {k n s:Nat} {eL:IntKind} {v:aa} (ho:o.op= .indexAddr t x ix) (iL:e ix= .int eL k) (ht:nV P t= .arr n s) (hx:Den ρ v (e x)):cR P B ρ H w ((execOp e o).run P w) (vE k n s v H):=by
 unfold vE;split
 .rename_i u xs k0 off;cases hb:Nat.ble (k+1) n with
  |false=>trivial
  |true=>
   obtain⟨b,o',A,h1,h2,h3,h4,h5⟩:=hx.Ae;refine fV hH (QJ ho iL ht h5 (bT hb)) ?_;rw [show o'+(k0*u.size+off)+k*s=o'+(k0*u.size+(off+k*s)) by omega];exact .fy h1 h2 rfl h3 h4
 .rename_i e' u i k0 off;cases hb:Nat.ble (k+1) n with
  |false=>trivial
  |true=>
   obtain⟨b,c,h1,h5⟩:=hx.xV;refine fV hH (QJ ho iL ht h5 (bT hb)) ?_;rw [Nat.add_assoc];exact .dL h1
 .trivial
def Z8 {k s:Nat} {eL:IntKind} {v:aa} (ho:o.op= .indexAddr t x ix) (iL:e ix= .int eL k) (ht:nV P t= .sl s) (hx:Den ρ v (e x)):cR P B ρ H w ((execOp e o).run P w) (rK k s v H):=by
 unfold rK;split
 .rename_i z u xs;cases hb:(Nat.beq u.size s&&Nat.ble (k+1) xs.length)with
  |false=>trivial
  |true=>
   rw [ae]at hb;obtain⟨hs,hb⟩:=hb;have hs:=ac hs;have hb:k<xs.length:=bT hb;subst hs;rcases hx.tR with⟨rfl,_⟩|⟨b,off,kk,A,h1,h2,h3,h4,h5,_⟩
   .simp at hb
   .refine fV hH (QK ho iL ht h5 hb) ?_;rw [show off+k*u.size=off+(k*u.size+0) by omega];exact .fy h1 h2 rfl h3 hb
 .rename_i e' u i k0 len cap;cases hb:(Nat.beq u.size s&&Nat.ble (k+1) len)with
  |false=>trivial
  |true=>
   rw [ae]at hb;obtain⟨hs,hb⟩:=hb;have hs:=ac hs;have hb:k<len:=bT hb;subst hs;rcases hx.jx with⟨rfl,_⟩|⟨b,c,kc,h1,_,_,h5⟩
   .omega
   .refine fV hH (QK ho iL ht h5 hb) ?_;rw [show k0*u.size+k*u.size=(k0+k)*u.size+0 by rw [Nat.add_mul];rfl];exact .dL h1
 .trivial
end
def Z9 (hH:aZ P B ρ H w) (he:∀x,Den ρ (ev x) (e x)) {t:TypeId} {x ix:Operand} (ho:o.op= .indexAddr t x ix):cR P B ρ H w ((execOp e o).run P w) (nt t x ix P o ev H):=by
 unfold nt;cases hk:nW (ev ix)with
 |no=>trivial
 |mk k=>
  obtain⟨eL,hk'⟩:=QD hk;have iL:=he ix;rw [hk']at iL;have iL:=iL.cg;have hx:=he x;cases ht:nV P t with
  |no=>trivial
  |arr n s=>
   cases hp:iJ (ev x)with
   |no=>exact Z7 hH ho iL ht hx
   |mk i off=>
    cases hb:Nat.ble (Nat.succ k) n with
    |false=>simp only [hb];trivial
    |true=>
     simp only [hb];have hb:=bT hb;rw [Cx hp]at hx;obtain⟨b,c,h1,h2⟩:=hx.kN;obtain⟨el,g1,g2⟩:=QG ht;refine fV hH (y:= .pointer (some ⟨b,off+k*s,none⟩)) ?_ (.ptr h1);have hlt:k<n:=hb;simp [execOp,ho,Instr.indexAt,iL,asIntOf,dB g1,h2,Instr.sureAddr,jZ g2,hlt,j0]
  |sl s=>
   cases hp:xJ (ev x)with
   |no=>exact Z8 hH ho iL ht hx
   |mk i off len cap=>
    cases hb:Nat.ble (Nat.succ k) len with
    |false=>simp only [hb];trivial
    |true=>
     simp only [hb];have hb:=bT hb;rw [ZU hp]at hx;obtain⟨b,c,kk,h1,_,_,h2⟩:=hx.ig;obtain⟨el,g1,g2⟩:=QH ht;refine fV hH (y:= .pointer (some ⟨b,off+k*s,none⟩)) ?_ (.ptr h1);have hlt:k<len:=hb;simp [execOp,ho,Instr.indexAt,iL,asIntOf,dB g1,h2,jZ g2,hlt,j0]
def QL {t:TypeId} {cs:List aa} {off:Nat} {v:aa} (h:apart P t cs off=some v) {xs:List Value} (hd:aG ρ cs xs) (w:World):∃y,(part t xs.toArray off).run P w= .ok y w/\Den ρ v y:=by
 unfold apart at h;cases hl:lv P t with
 |no=>rw [hl]at h;cases h
 |one=>
  rw [hl]at h;simp only [Ab]at h;obtain⟨y,h1,h2⟩:=hd.get h;refine⟨y, ?_,h2⟩;simp [part,E3 (QE hl),h1]
 |agg n=>
  rw [hl]at h;cases h;refine⟨.agg ((xs.drop off).take n).toArray, ?_, .agg ((hd.drop off).take n)⟩;obtain⟨h1,h2⟩:=QF hl;have e1:((xs.drop off).take n).toArray=xs.toArray.extract off (off+n):=by apply Array.ext';simp
  rw [e1];simp [part,E3 h1,jZ h2]
section
variable (hH:aZ P B ρ H w) (he:∀x,Den ρ (ev x) (e x))
def aaa {t:TypeId} {x:Operand} {f:Nat} (ho:o.op= .field t x f):cR P B ρ H w ((execOp e o).run P w) (ql t x f P o ev H):=by
 unfold ql;cases ha:rL (ev x)with
 |none=>exact vP hH he (by simp [ho,qu])
 |some cs=>
  have hx:=he x;rw [QC ha]at hx;obtain⟨xs,h1,h2⟩:=hx.tP;cases hf:fv P t f with
  |no=>trivial
  |mk gJ n ft=>
   refine mz hH fun v hv=> ?_
   obtain⟨fs,fd,g1,g2,g3,g4,g5⟩:=Ju hf;subst g3;subst g4;obtain⟨y,k1,k2⟩:=QL hv h1 w;exact⟨.value y,y,by simp [execOp,ho,Instr.field,dB g1,g2,h2,asAgg,k1],rfl,k2⟩
def aab {t:TypeId} {x ix:Operand} (ho:o.op= .index t x ix):cR P B ρ H w ((execOp e o).run P w) (mm t x ix P o ev H):=by
 unfold mm;cases ha:rL (ev x)with
 |none=>exact vP hH he (by simp [ho,qu])
 |some cs=>
  have hx:=he x;rw [QC ha]at hx;obtain⟨xs,h1,h2⟩:=hx.tP;refine mz hH fun v hv=> ?_
  unfold Qq at hv;split at hv
  .rename_i n el hu;simp only [dO]at hv;obtain⟨k,hk,s,hs,hv⟩:=hv;obtain⟨eL,hk'⟩:=Cy hk;have iL:=he ix;rw [hk']at iL;have iL:=iL.cg;cases hb:Nat.ble (k+1) n with
   |false=>rw [hb]at hv;cases hv
   |true=>
    rw [hb]at hv;have hb:=bT hb;obtain⟨y,k1,k2⟩:=QL hv h1 w;have hlt:k<n:=hb;exact⟨.value y,y,by simp [execOp,ho,Instr.index,iL,asIntOf,dB hu,h2,hlt,jZ hs,k1],rfl,k2⟩
  .cases hv
def As {x:Operand} {i:Nat} (ho:o.op= .extract x i):cR P B ρ H w ((execOp e o).run P w) (qm x i P o ev H):=by
 unfold qm;cases ha:zS (ev x)with
 |none=>exact vP hH he (by simp [ho,qu])
 |some cs=>
  have hx:=he x;rw [ZV ha]at hx;obtain⟨xs,h1,h2⟩:=hx.Cu;refine mz hH fun v hv=> ?_
  rw [Ab]at hv;obtain⟨y,k1,k2⟩:=h1.get hv;exact⟨.value y,y,by simp [execOp,ho,Instr.extract,h2,k1],rfl,k2⟩
end
end
section
variable {P:Program} {B:Nat} {ρ:Env} {H:ai} {w:World} {o:Oper} {ev:dP} {e:Operand->Value}
def tT {a b:Nat} (h:a≠b):Nat.beq a b=false:=by
 cases hb:Nat.beq a b with
 |false=>rfl
 |true=>exact absurd (ac hb) h
def aac (op:BinOp) (t:TypeId) (x y:Operand) (a b:Value) (h1:∀cs ds,a= .agg cs->b= .agg ds->False) (h2:a= .nilIface->b= .nilIface->False) (w:World):(eqGuard op t x y a b).run P w= .ok () w:=by
 unfold eqGuard;cases op<;>first |rfl |(cases a<;>first |rfl |(cases b<;>first |rfl |exact(h1 _ _ rfl rfl).elim|exact(h2 rfl rfl).elim))
def kp {op:BinOp} {t ah:TypeId} {x y:Operand} (ho:o.op= .binOp op t x y ah) {a b:Value} (ha:e x=a) (hb:e y=b) (h1:∀cs ds,a= .agg cs->b= .agg ds->False) (h2:a= .nilIface->b= .nilIface->False)
  {v:Value} (h:(binOp op t a b).run P w= .ok v w):(execOp e o).run P w= .ok (.value v) w:=by
 subst ha;subst hb;simp [execOp,ho,aac op t x y _ _ h1 h2,h]
def ns {n:Nat} {v:aa} (h:small n=some v):n<9223372036854775808/\v= .raw (.int .i64 n):=by
 unfold small at h;cases hb:Nat.ble (Nat.succ n) 9223372036854775808 with
 |false=>rw [hb]at h;cases h
 |true=>rw [hb]at h;cases h;exact⟨bT hb,rfl⟩
def QM {k:IntKind} (h:Cg k=true):k= .i64:=by cases k<;>first |rfl |cases h
def aad {op:BinOp} {m n:Nat} {v:aa} (h:zY op m n=some v) (t:TypeId) (w:World):∃y,v= .raw y/\(binOp op t (.int .i64 m) (.int .i64 n)).run P w= .ok y w:=by
 have hb:∀b:Bool,∀y,(some (aa.raw (.bool b))=some y)->y= .raw (.bool b):=fun b y h=>by cases h;rfl
 cases op
 case add=>
  obtain⟨h1,rfl⟩:=ns h;refine⟨_,rfl, ?_⟩;have e:IntKind.i64.wrap ((m:Int)+n)=((Nat.add m n:Nat):Int):=by
   rw [IntWalk.i64_in _ (by have:Nat.add m n=m+n:=rfl;omega)];rfl
  simp [binOp,Op.intArith,e]
 case sub=>
  have hs:zY .sub m n= @Bool.rec (fun _=>Option aa) none (small (Nat.sub m n)) (Nat.ble n m):=rfl;rw [hs]at h;cases hb:Nat.ble n m with
  |false=>rw [hb]at h;cases h
  |true=>
   rw [hb]at h;have hle:=bT hb;obtain⟨h1,rfl⟩:=ns h;refine⟨_,rfl, ?_⟩;have e1:Nat.sub m n=m-n:=rfl;have e:IntKind.i64.wrap ((m:Int)-n)=((Nat.sub m n:Nat):Int):=by
    rw [IntWalk.i64_in _ ω];omega
   simp [binOp,Op.intArith,e]
 case eql=>
  refine⟨_,hb _ _ h, ?_⟩;simp only [binOp,Op.intCmp,ne_eq,not_true_eq_false,if_false,Sem.run_pure];congr 2;by_cases hmn:m=n
  .subst hmn;simp
  .rw [tT hmn];simp;omega
 case neq=>
  refine⟨_,hb _ _ h, ?_⟩;simp only [binOp,Op.intCmp,ne_eq,not_true_eq_false,if_false,Sem.run_pure];congr 2;by_cases hmn:m=n
  .subst hmn;simp
  .rw [tT hmn];simp [bne];omega
 case lss=>
  refine⟨_,hb _ _ h, ?_⟩;simp only [binOp,Op.intCmp,ne_eq,not_true_eq_false,if_false,Sem.run_pure];congr 2;by_cases hmn:m<n
  .rw [fF hmn];simpa using hmn
  .rw [show Nat.ble (Nat.succ m) n=false from Bool.eq_false_iff.2 fun hh=>hmn (bT hh)];simpa using hmn
 case leq=>
  refine⟨_,hb _ _ h, ?_⟩;simp only [binOp,Op.intCmp,ne_eq,not_true_eq_false,if_false,Sem.run_pure];congr 2;by_cases hmn:m<=n
  .rw [fF hmn];simpa using hmn
  .rw [show Nat.ble m n=false from Bool.eq_false_iff.2 fun hh=>hmn (bT hh)];simpa using hmn
 case gtr=>
  refine⟨_,hb _ _ h, ?_⟩;simp only [binOp,Op.intCmp,ne_eq,not_true_eq_false,if_false,Sem.run_pure];congr 2;by_cases hmn:n<m
  .rw [fF hmn];simpa using hmn
  .rw [show Nat.ble (Nat.succ n) m=false from Bool.eq_false_iff.2 fun hh=>hmn (bT hh)];simpa using hmn
 case geq=>
  refine⟨_,hb _ _ h, ?_⟩;simp only [binOp,Op.intCmp,ne_eq,not_true_eq_false,if_false,Sem.run_pure];congr 2;by_cases hmn:n<=m
  .rw [fF hmn];simpa using hmn
  .rw [show Nat.ble n m=false from Bool.eq_false_iff.2 fun hh=>hmn (bT hh)];simpa using hmn
 all_goals (exact absurd (show(none:Option aa)=some v from h) τ)
def aae {op:BinOp} {k:IntKind} {a b:Int} {v:Value} (h:tF P op k a b=some v) (t:TypeId) (w:World):(binOp op t (.int k a) (.int k b)).run P w= .ok v w:=by
 unfold tF at h;cases op<;>first
  |(have:=n4 _ w h;simpa [binOp]using this)
  |cases h
def aaf {t:TypeId} {x y:aa} {b:Bool} (h:I2 P t x y=some b):∃i off off' el n,x= .ptr i off/\y= .ptr i off'/\P.underlying t=some (.pointer el)/\ey P el=some (n+1)/\b=Nat.beq off off':=by
 unfold I2 at h;split at h
 .rename_i i off j off';split at h
  .rename_i el hu;split at h
   .rename_i n hn;cases hij:Nat.beq i j with
    |false=>rw [hij]at h;cases h
    |true=>
     rw [hij]at h;cases h;have:=ac hij;subst this;exact⟨i,off,off',el,n,rfl,rfl,hu,hn,rfl⟩
   .cases h
  .cases h
 .cases h
def aag (b off off':Nat):((⟨b,off,none⟩:Addr)==⟨b,off',none⟩)=Nat.beq off off':=by
 by_cases h:off=off'
 .subst h;rw [beq_self_eq_true];exact(Nat.beq_refl off).symm
 .rw [tT h];exact beq_false_of_ne fun hh=>h (by cases hh;rfl)
section
variable {t el:TypeId} {n:Nat} (hu:P.underlying t=some (.pointer el))
def aah (hs:ey P el=some (n+1)) (b off off':Nat) (w:World) (d:Nat):
  (Op.equalIn (d+1) t (.pointer (some ⟨b,off,none⟩)) (.pointer (some ⟨b,off',none⟩))).run P w= .ok (Nat.beq off off') w:=by
 simp only [Op.equalIn,Sem.run_bind,dB hu,Result.andThen_ok,jZ hs];rw [if_pos ω];unfold sameAddr;simp only [beq_self_eq_true,if_true,aag];rfl
def aai (hs:ey P el=some (n+1)) (b off off':Nat) (w:World):
  (Op.equal t (.pointer (some ⟨b,off,none⟩)) (.pointer (some ⟨b,off',none⟩))).run P w= .ok (Nat.beq off off') w:=aah hu hs b off off' w 9999
end
def aaj {t:TypeId} {i off:Nat} (h:mg P t (.ptr i off)=true):∃el,P.underlying t=some (.pointer el):=by
 simp only [mg]at h;split at h
 .exact⟨_, ‹_›⟩
 .cases h
def aak {t:TypeId} {i off len:Nat} {cap:aX} (h:mg P t (.slice i off len cap)=true):∃el,P.underlying t=some (.slice el):=by
 simp only [mg]at h;split at h
 .exact⟨_, ‹_›⟩
 .cases h
def aal {t:TypeId} {f:Fn} {a b:List aa} (h:mg P t (.func f a b)=true):∃x y z,P.underlying t=some (.func x y z):=by
 simp only [mg]at h;split at h
 .exact⟨_,_,_, ‹_›⟩
 .cases h
def aam {t u:TypeId} {v:aa} (h:mg P t (.iface u v)=true):∃ms,P.underlying t=some (.interface ms):=by
 simp only [mg]at h;split at h
 .exact⟨_, ‹_›⟩
 .cases h
def aan {t:TypeId} {i:Nat} (h:mg P t (.map i)=true):∃k v,P.underlying t=some (.map k v):=by
 simp only [mg]at h;split at h
 .exact⟨_,_, ‹_›⟩
 .cases h
def Value.gF:Value->Bool
 | .pointer _| .slice .. | .func .. | .nilFunc| .iface .. | .map _=>true
 |_=>false
section
variable {t:TypeId} {a b:Value} (h:Value.gF a=true\/Value.gF b=true)
def NO:binOp .eql t a b=(do pure (.bool (<-Op.equal t a b))):=by
 cases a<;>first |rfl |(cases b<;>first |rfl |(rcases h with h|h<;>cases h))
def aao:binOp .neq t a b=(do pure (.bool (!(<-Op.equal t a b)))):=by
 cases a<;>first |rfl |(cases b<;>first |rfl |(rcases h with h|h<;>cases h))
end
def QN {t:TypeId} {x y:aa} (hf:mg P t x=true) (hk:sameKind x y=true) {a b:Value} (ha:Den ρ x a) (hb:Den ρ y b) (w:World) (d:Nat):
  (Op.equalIn (d+1) t a b).run P w= .ok false w/\(Op.equalIn (d+1) t b a).run P w= .ok false w/\Value.gF a=true/\a≠ .nilIface:=by
 unfold sameKind at hk;split at hk
 .obtain⟨el,hu⟩:=aaj hf;obtain⟨b',c,_,rfl⟩:=ha.kN;have:=hb.cg;subst this;simp [Op.equalIn,dB hu,Value.gF]
 .obtain⟨el,hu⟩:=aak hf;obtain⟨b',c,k,_,_,_,rfl⟩:=ha.ig;have:=hb.cg;subst this;simp [Op.equalIn,dB hu,Value.gF]
 .obtain⟨_,_,_,hu⟩:=aal hf;obtain⟨xs,ys,_,_,rfl⟩:=ha.Ct;have:=hb.cg;subst this;simp [Op.equalIn,dB hu,Value.gF]
 .obtain⟨_,hu⟩:=aam hf;obtain⟨y,_,rfl⟩:=ha.Qw;have:=hb.cg;subst this;simp [Op.equalIn,dB hu,Value.gF]
 .obtain⟨_,_,hu⟩:=aan hf;obtain⟨b',c,_,rfl⟩:=ha.vK;have:=hb.cg;subst this;simp [Op.equalIn,dB hu,Value.gF]
 .cases hk
def QO {v:aa} {p:Int×Int} (h:ES v=some p) {z:Value} (hz:Den ρ v z):z= .agg #[.int .i64 p.1, .int .i64 p.2]:=by
 unfold ES at h;split at h
 .cases h;obtain⟨xs,h1,rfl⟩:=hz.tP;cases h1 with
  |cons h1 h2=>
   cases h2 with
   |cons h2 h3=>
    cases h3;rw [h1.cg,h2.cg]
 .cases h
def QS {t:TypeId} {x y:aa} {b:Bool} (h:ET P t x y=some b) {j3 kP:Value} (hx:Den ρ x j3) (hy:Den ρ y kP) (w:World) (d:Nat):P.plainKey t=true/\(Op.equalIn (d+1) t j3 kP).run P w= .ok b w:=by
 unfold ET at h;split at h
 .split at h
  .rename_i hu;cases hc:P.plainKey t with
   |false=>rw [hc]at h;cases h
   |true=>rw [hc]at h;cases h;rw [hx.cg,hy.cg];exact⟨rfl,run_equalIn_int w d t .i64 .i64 _ _ hu⟩
  .cases h
 .split at h
  .rename_i hu;cases hc:P.plainKey t with
   |false=>rw [hc]at h;cases h
   |true=>rw [hc]at h;cases h;rw [hx.cg,hy.cg];exact⟨rfl,run_equalIn_string w d t _ _ hu⟩
  .cases h
 .cases h
def At {a b:aa} {z:Value} (h:Den ρ (.agg [a,b]) z):∃x y,z= .agg #[x,y]/\Den ρ a x/\Den ρ b y:=by
 obtain⟨xs,h1,rfl⟩:=h.tP;cases h1 with
 |cons h1 h2=>
  cases h2 with
  |cons h2 h3=>
   cases h3;exact⟨_,_,rfl,h1,h2⟩
section
variable {t:TypeId} {x y:aa} {b:Bool}
def aap (h:I8 P t x y=some b) {j3 kP:Value} (hx:Den ρ x j3) (hy:Den ρ y kP) (w:World):
  (∃xs,j3= .agg xs)/\(∃ys,kP= .agg ys)/\P.eqGuardType P.depth t=false/\(Op.equal t j3 kP).run P w= .ok b w:=by
 unfold I8 at h;split at h
 .rename_i a1 b1 c1 d1;split at h
  .rename_i fs hu;split at h
   .rename_i f g aaq;cases hc:(f.name != "_" &&(g.name != "_" &&(Nat.beq f.offset 0&&(Nat.beq g.offset 1&&(!P.eqGuardType P.depth t&& !P.stoodInHeld t)))))with
    |false=>rw [hc]at h;cases h
    |true=>
     rw [hc]at h;simp only [ae,Bool.not_eq_true',gC]at hc;obtain⟨n1,n2,o1,o2,e1,e2⟩:=hc;have o1:=ac o1;have o2:=ac o2;simp only [cond_true]at h;split at h
     .rename_i p q hp hq;cases h;obtain⟨x0,x1,rfl,k0,k1⟩:=At hx;obtain⟨y0,y1,rfl,l0,l1⟩:=At hy;obtain⟨c3,vQ⟩:=QS hp k0 l0 w 9998;obtain⟨c4,E4⟩:=QS hq k1 l1 w 9998;refine⟨⟨_,rfl⟩,⟨_,rfl⟩,e1, ?_⟩;have hfo:P.fieldsOf t=fs:=by unfold Program.fieldsOf;rw [hu]
      have h:=run_equalIn_struct w 9999 t #[x0,x1] #[y0,y1] (by rw [hfo];exact hu) e2;have h2:(Op.equal t (.agg #[x0,x1]) (.agg #[y0,y1])).run P w=_:=h;rw [h2,hfo,aaq];have gm:(part f.type #[x0,x1] f.offset).run P w= .ok x0 w:=run_part_plain w c3 (by rw [o1];rfl);have p1:(part g.type #[x0,x1] g.offset).run P w= .ok x1 w:=run_part_plain w c4 (by rw [o2];rfl);have q0:(part f.type #[y0,y1] f.offset).run P w= .ok y0 w:=run_part_plain w c3 (by rw [o1];rfl);have q1:(part g.type #[y0,y1] g.offset).run P w= .ok y1 w:=run_part_plain w c4 (by rw [o2];rfl);cases p<;>cases q<;>simp [Op.eqFields,n1,n2,Sem.run_bind,gm,p1,q0,q1,vQ,E4]
     .cases h
   .cases h
  .cases h
 .cases h
def aar (h:I9 P t x y=some b) {j3 kP:Value} (hx:Den ρ x j3) (hy:Den ρ y kP) (w:World):
  (∃xs,j3= .agg xs)/\(∃ys,kP= .agg ys)/\P.eqGuardType P.depth t=false/\(Op.equal t j3 kP).run P w= .ok b w:=by
 unfold I9 at h;split at h
 .rename_i p q hp hq;split at h
  .rename_i n e hu;split at h
   .rename_i hi;cases hc:(Nat.beq n 2&&(!P.eqGuardType P.depth t&&(P.plainKey e&&(Nat.beq (P.cellsOf e) 1&&(P.info? e).isSome))))with
    |false=>rw [hc]at h;cases h
    |true=>
     rw [hc]at h;cases h;simp only [ae,Bool.not_eq_true']at hc;obtain⟨c1,c2,c3,c4,c5⟩:=hc;have hn:n=2:=ac c1;subst hn;have hc1:=ac c4;obtain⟨i0,tU⟩:=Option.isSome_iff_exists.1 c5;rw [QO hp hx,QO hq hy];refine⟨⟨_,rfl⟩,⟨_,rfl⟩,c2, ?_⟩;have h:=run_equalIn_array (w:=w) 9999 #[.int .i64 p.1, .int .i64 p.2] #[.int .i64 q.1, .int .i64 q.2] hu tU;have h2:(Op.equal t (.agg #[.int .i64 p.1, .int .i64 p.2]) (.agg #[.int .i64 q.1, .int .i64 q.2])).run P w=_:=h;rw [h2,hc1];have hr:List.range 2=[0,1]:=rfl;rw [hr];have gm:(part e #[.int .i64 p.1, .int .i64 p.2] (0*1)).run P w= .ok (.int .i64 p.1) w:=run_part_plain w c3 rfl;have p1:(part e #[.int .i64 p.1, .int .i64 p.2] (1*1)).run P w= .ok (.int .i64 p.2) w:=run_part_plain w c3 rfl;have q0:(part e #[.int .i64 q.1, .int .i64 q.2] (0*1)).run P w= .ok (.int .i64 q.1) w:=run_part_plain w c3 rfl;have q1:(part e #[.int .i64 q.1, .int .i64 q.2] (1*1)).run P w= .ok (.int .i64 q.2) w:=run_part_plain w c3 rfl;have vQ:(Op.equalIn 9999 e (.int .i64 p.1) (.int .i64 q.1)).run P w= .ok (p.1==q.1) w:=run_equalIn_int w 9998 e .i64 .i64 p.1 q.1 hi;have E4:(Op.equalIn 9999 e (.int .i64 p.2) (.int .i64 q.2)).run P w= .ok (p.2==q.2) w:=run_equalIn_int w 9998 e .i64 .i64 p.2 q.2 hi;cases h1:(p.1==q.1)<;>cases h3:(p.2==q.2)<;>rw [h1]at vQ<;>rw [h3]at E4<;>simp [Op.eqItems,Sem.run_bind,gm,p1,q0,q1,vQ,E4]
   .cases h
  .cases h
 .cases h
def aas (h:Ja P t x y=some b) {j3 kP:Value} (hx:Den ρ x j3) (hy:Den ρ y kP) (w:World):
  (∃xs,j3= .agg xs)/\(∃ys,kP= .agg ys)/\P.eqGuardType P.depth t=false/\(Op.equal t j3 kP).run P w= .ok b w:=by
 unfold Ja at h;split at h
 .rename_i c hs;cases h;exact aap hs hx hy w
 .exact aar h hx hy w
end
def aat {v:aa} {b:Bool} (h:Jb v=some b) {z:Value} (hz:Den ρ v z):∃a n k,z= .slice a n k/\(b=true->a=none/\n=0/\k=0)/\(b=false->∃q,a=some q):=by
 unfold Jb at h;split at h
 .cases h;cases hz with
  |bn h1 h2 h3 h4 h5 h6=>exact⟨_,_,_,rfl,fun hb=>absurd (List.isEmpty_iff.1 hb) (h6 rfl),fun _=>⟨_,rfl⟩⟩
  |fc h1=>exact⟨_,_,_,rfl,fun _=>⟨(h1 rfl).1,rfl,(h1 rfl).2⟩,fun hb=>by cases hb⟩
 .cases h
def GT {v:aa} (h:EU v=true) {z:Value} (hz:Den ρ v z):z= .slice none 0 0:=by
 unfold EU at h;split at h
 .exact hz.cg
 .cases h
def aau {t:TypeId} {x y:aa} {b:Bool} (h:Jc P t x y=some b) {j3 kP:Value} (hx:Den ρ x j3) (hy:Den ρ y kP) (w:World) (d:Nat):
  (Op.equalIn (d+1) t j3 kP).run P w= .ok b w/\Value.gF j3=true/\(∃a n k,j3= .slice a n k):=by
 unfold Jc at h;split at h
 .rename_i b' hb;split at h
  .rename_i el hu;cases hn:EU y with
   |false=>rw [hn]at h;cases h
   |true=>
    rw [hn]at h;cases h;have:=GT hn hy;subst this;obtain⟨a,n,k,rfl,h1,h2⟩:=aat hb hx;cases b with
    |true=>
     obtain⟨rfl,rfl,rfl⟩:=h1 rfl;refine⟨?_, ?_,_,_,_,rfl⟩
     .simp [Op.equalIn,dB hu]
     .simp [Value.gF]
    |false=>
     obtain⟨q,rfl⟩:=h2 rfl;refine⟨?_, ?_,_,_,_,rfl⟩
     .simp [Op.equalIn,dB hu]
     .simp [Value.gF]
  .cases h
 .cases h
section
variable {t ah:TypeId} {x y:Operand} {want:Bool}
def aav (ho:o.op= .binOp (if want then .eql else .neq) t x y ah) {xs ys:Array Value} (hx:e x= .agg xs) (hy:e y= .agg ys) (hg:P.eqGuardType P.depth t=false) {b:Bool} (hb:(Op.equal t (.agg xs) (.agg ys)).run P w= .ok b w):
  (execOp e o).run P w= .ok (.value (.bool (b==want))) w:=by
 have hgd:∀op,(eqGuard op t x y (.agg xs) (.agg ys)).run P w= .ok () w:=fun op=>run_eqGuard_agg w op t x y xs ys hg
 cases want
 .have e1:binOp .neq t (.agg xs) (.agg ys)=(do pure (.bool (!(<-Op.equal t (.agg xs) (.agg ys))))):=rfl;have h1:(binOp .neq t (.agg xs) (.agg ys)).run P w= .ok (.bool (!b)) w:=by
   rw [e1];simp only [Sem.run_bind,hb,Result.andThen_ok,Sem.run_pure]
  have ho:o.op= .binOp .neq t x y ah:=ho;simp [execOp,ho,hx,hy,hgd,h1]
 .have e1:binOp .eql t (.agg xs) (.agg ys)=(do pure (.bool (<-Op.equal t (.agg xs) (.agg ys)))):=rfl;have h1:(binOp .eql t (.agg xs) (.agg ys)).run P w= .ok (.bool b) w:=by
   rw [e1];simp only [Sem.run_bind,hb,Result.andThen_ok,Sem.run_pure]
  have ho:o.op= .binOp .eql t x y ah:=ho;simp [execOp,ho,hx,hy,hgd,h1]
def QT (he:∀x,Den ρ (ev x) (e x)) (ho:o.op= .binOp (if want then .eql else .neq) t x y ah) {v:aa} (h:Cf P o ev t want (ev x) (ev y)=some v) (w:World):
  ∃eM z,(execOp e o).run P w= .ok eM w/\tS eM z/\Den ρ v z:=by
 unfold Cf at h;have hx:=he x;have hy:=he y
 -- what == comes to, and both operations out of it
 have main:∀r:Bool,(Op.equal t (e x) (e y)).run P w= .ok r w->(Value.gF (e x)=true\/Value.gF (e y)=true)->(∀cs ds,e x= .agg cs->e y= .agg ds->False)->(e x= .nilIface->e y= .nilIface->False)->v= .raw (.bool (r==want))->
   ∃eM z,(execOp e o).run P w= .ok eM w/\tS eM z/\Den ρ v z:=fun r hr QU h1 h2 hv=>by
  refine⟨.value (.bool (r==want)), .bool (r==want), ?_,rfl,by rw [hv];exact .raw _⟩;refine kp ho rfl rfl h1 h2 ?_;cases want
  .simp only [Bool.false_eq_true,if_false,aao QU,Sem.run_bind,hr,Result.andThen_ok,Sem.run_pure];cases r<;>rfl
  .simp only [if_true,NO QU,Sem.run_bind,hr,Result.andThen_ok,Sem.run_pure];cases r<;>rfl
 split at h
 .rename_i b hb;cases h;obtain⟨g1,g2,a,n,k,g3⟩:=aau hb hx hy w 9999;exact main b g1 (.inl g2) (fun cs ds hc=>by rw [g3]at hc;cases hc) (fun hc=>by rw [g3]at hc;cases hc) rfl
 split at h
 .rename_i b hb;cases h;obtain⟨⟨xs,q1⟩,⟨ys,aQ⟩,b7,ez⟩:=aas hb hx hy w;rw [q1,aQ]at ez;exact⟨_,_,aav ho q1 aQ b7 ez,rfl, .raw _⟩
 split at h
 .rename_i b hb;obtain⟨i,off,off',el,n,h1,h2,h3,h4,h5⟩:=aaf hb;rw [h1]at hx;rw [h2]at hy;obtain⟨bb,c,g1,g2⟩:=hx.kN;obtain⟨atS,c',g3,g4⟩:=hy.kN;rw [g1]at g3;cases g3;cases h;refine main b ?_ (.inl (by rw [g2];rfl)) (fun cs ds hc=>by rw [g2]at hc;cases hc) (fun hc=>by rw [g2]at hc;cases hc) rfl;rw [g2,g4,h5];exact aai h3 h4 bb off off' w
 .cases hf:mg P t (ev x)&&sameKind (ev x) (ev y)with
  |true=>
   rw [hf]at h;cases h;rw [ae]at hf;obtain⟨g1,g2,g3,g4⟩:=QN hf.1 hf.2 hx hy w 9999;exact main false g1 (.inl g3) (fun cs ds hc=>by rw [hc]at g3;cases g3) (fun hc=>(g4 hc).elim) (by cases want<;>rfl)
  |false=>
   rw [hf]at h;cases Cz:mg P t (ev y)&&sameKind (ev y) (ev x)with
   |true=>
    rw [Cz]at h;cases h;rw [ae]at Cz;obtain⟨g1,g2,g3,g4⟩:=QN Cz.1 Cz.2 hy hx w 9999;exact main false g2 (.inr g3) (fun cs ds _ hc=>by rw [hc]at g3;cases g3) (fun _ hc=>(g4 hc).elim) (by cases want<;>rfl)
   |false=>
    rw [Cz]at h;exact vO he (by rw [ho];rfl) h w
end
def xZ {op:BinOp} {k k':IntKind} {a b:Int} {v:aa} (h:ju op k k' a b=some v):∃m n:Nat,k= .i64/\k'= .i64/\a=m/\b=n/\zY op m n=some v:=by
 unfold ju at h;cases ha:vG a with
 |no=>rw [ha]at h;cases h
 |mk m=>
  rw [ha]at h;cases hb:vG b with
  |no=>rw [hb]at h;cases h
  |mk n=>
   rw [hb]at h;cases h1:Cg k with
   |false=>rw [h1]at h;cases h
   |true=>
    rw [h1]at h;cases h2:Cg k' with
    |false=>rw [h2]at h;cases h
    |true=>
     rw [h2]at h;exact⟨m,n,QM h1,QM h2,Js ha,Js hb,h⟩
def aaw (hH:aZ P B ρ H w) (he:∀x,Den ρ (ev x) (e x)) {op:BinOp} {t ah:TypeId} {x y:Operand} (ho:o.op= .binOp op t x y ah):cR P B ρ H w ((execOp e o).run P w) (iZ op t x y ah P o ev H):=by
 have hp:qu o.op=true:=by rw [ho];rfl
 unfold iZ;cases hx:iI (ev x)with
 |no=>
  refine mz hH fun v hv=> ?_
  unfold xN at hv;split at hv
  .exact QT (want:=true) he ho hv w
  .exact QT (want:=false) he ho hv w
  .exact vO he hp hv w
 |int k a=>
  cases hy:iI (ev y)with
  |no=>exact vP hH he hp
  |int k' b=>
   have ex:e x= .int k a:=by have:=he x;rw [Af hx]at this;exact this.cg
   have Ag:e y= .int k' b:=by have:=he y;rw [Af hy]at this;exact this.cg
   cases hf:ju op k k' a b with
   |some v=>
    obtain⟨m,n,rfl,rfl,rfl,rfl,h5⟩:=xZ hf;obtain⟨z,rfl,hz⟩:=aad h5 t w;simp only [hf];exact fV hH (kp ho ex Ag (fun _ _ hc=>by cases hc) (fun hc=>by cases hc) hz) (.raw z)
   |none=>
    simp only [hf];refine mz hH fun v hv=> ?_
    unfold oS at hv;cases hk:k==k' with
    |false=>rw [hk]at hv;exact vO he hp hv w
    |true=>
     rw [hk]at hv;have hkk:k=k':=by simpa using hk
     subst hkk;simp only [cond_true]at hv;split at hv
     .rename_i z hz;cases hv;exact⟨.value z,z,kp ho ex Ag (fun _ _ hc=>by cases hc) (fun hc=>by cases hc) (aae hz t w),rfl, .raw z⟩
     .exact vO he hp hv w
end
section
variable {P:Program} {B:Nat} {ρ:Env} {H:ai} {w:World} {o:Oper} {ev:dP} {e:Operand->Value}
def fg {r:Result Next} {v:aa} {y:Value} (h:r= .ok (.value y) w) (hd:Den ρ v y):∃eM z,r= .ok eM w/\tS eM z/\Den ρ v z:=⟨.value y,y,h,rfl,hd⟩
def x4 {he:∀x,Den ρ (ev x) (e x)} {q:Option Operand} {d n:Nat} (h:nm (q.map ev) d=some n):(q=none/\n=d)\/∃k,q.map e=some (.int k n):=by
 cases q with
 |none=>left;simp [nm]at h;exact⟨rfl,h.symm⟩
 |some x=>
  right;obtain⟨k,hk⟩:=Cy (v:=ev x) h;have:=he x;rw [hk]at this;exact⟨k,by simp [this.cg]⟩
def aax {k:IntKind} {i y:Nat} (h:i<=y) (code:BoundsCode) (w:World):(Instr.sliceBound (.int k i) y code).run P w= .ok i w:=by
 have:=run_sliceBound (P:=P) (w:=w) k (i:Int) y code ω ω;simpa using this
def E5 (QV:Bool) {len cap l h m:Nat} {lo hi mx:Option Value} (hl:(lo=none/\l=0)\/∃k,lo=some (.int k l)) (hh:(hi=none/\h=len)\/∃k,hi=some (.int k h))
  (hm:(mx=none/\m=cap)\/∃k,mx=some (.int k m)) (hx:mx=none\/hi≠none) (h1:l<=h) (h2:h<=m) (h3:m<=cap) (w:World):(Instr.sliceBounds QV len cap lo hi mx).run P w= .ok (l,h,m) w:=by
 rcases hl with⟨rfl,rfl⟩|⟨kl,rfl⟩<;>rcases hh with⟨rfl,rfl⟩|⟨kh,rfl⟩<;>rcases hm with⟨rfl,rfl⟩|⟨km,rfl⟩<;>
  first
   |(simp [Instr.sliceBounds,aax,h1,h2,h3];done)
   |(rcases hx with hx|hx<;>first |cases hx|exact absurd rfl hx)
def av.aay {t:av} (xs:List t.den) (h:Nat) (hh:h<=xs.length):t.flat (xs.take h)=(t.flat xs).take (h*t.size):=by
 have e:(t.flat xs).take (h*t.size)=(t.flat (xs.take h)++t.flat (xs.drop h)).take (h*t.size):=by rw [<-av.Cv,List.take_append_drop]
 have hl:(t.flat (xs.take h)).length=h*t.size:=by rw [t.jb,ek,Nat.min_eq_left hh]
 rw [e,List.take_append,eH (Nat.le_of_eq hl),hl,Nat.sub_self];simp
def av.aaz {t:av} (xs:List t.den) (h:Nat) (hh:h<=xs.length):t.flat (xs.drop h)=(t.flat xs).drop (h*t.size):=by
 have e:(t.flat xs).drop (h*t.size)=(t.flat (xs.take h)++t.flat (xs.drop h)).drop (h*t.size):=by rw [<-av.Cv,List.take_append_drop]
 have hl:(t.flat (xs.take h)).length=h*t.size:=by rw [t.jb,ek,Nat.min_eq_left hh]
 rw [e,List.drop_append,List.drop_eq_nil_of_le (Nat.le_of_eq hl),hl,Nat.sub_self];simp
def av.aaA {t:av} (xs:List t.den) (l h:Nat) (h1:l<=h) (h2:h<=xs.length):t.flat ((xs.take h).drop l)=((t.flat xs).take (h*t.size)).drop (l*t.size):=by
 rw [av.aaz _ _ (by rw [ek];omega),av.aay _ _ h2]
def lA {ρ:Env} {t:av} {xs:List t.den} {A:List Value} {off l h:Nat} (hd:aG ρ (t.flat xs) ((A.drop off).take (t.flat xs).length)) (h1:l<=h) (h2:h<=xs.length):
  aG ρ (t.flat ((xs.take h).drop l)) ((A.drop (off+l*t.size)).take (t.flat ((xs.take h).drop l)).length):=by
 have e1:(t.flat ((xs.take h).drop l)).length=h*t.size-l*t.size:=by
  rw [t.jb,mb,ek,Nat.min_eq_left h2,Nat.sub_mul]
 have hle:h*t.size<=xs.length*t.size:=Nat.mul_le_mul_right _ h2;have:=(hd.take (h*t.size)).drop (l*t.size);rw [e1,av.aaA xs l h h1 h2];have e2:(((A.drop off).take (t.flat xs).length).take (h*t.size)).drop (l*t.size)=(A.drop (off+l*t.size)).take (h*t.size-l*t.size):=by
  rw [List.take_take,Nat.min_eq_left (by rw [t.jb];exact hle),List.drop_take,List.drop_drop]
 rwa [e2]at this
def E6 {t el:TypeId} {x:Operand} {lo hi mx:Option Operand} (he:∀x,Den ρ (ev x) (e x)) (ho:o.op= .slice t x lo hi mx) (hu:P.underlying t=some (.slice el)) {len kk l h s:Nat} {a:Option Addr}
  (hx:e x= .slice a len kk) (hmx:mx=none) (hs:ey P el=some s) (hh:nm (hi.map ev) len=some h) (hl:nm (lo.map ev) 0=some l) (h1:l<=h) (h2:h<=kk):
  (execOp e o).run P w= .ok (.value (.slice (if kk=l then a else a.map (·.add (l*s))) (h-l) (kk-l))) w:=by
 have Ah:=x4 (he:=he) hh;have hl':=x4 (he:=he) hl;subst hmx;have hr:=E5 (P:=P) true (len:=len) (cap:=kk) (lo:=lo.map e) (hi:=hi.map e) (mx:=none) (l:=l) (h:=h) (m:=kk)
  (by rcases hl' with⟨rfl,h⟩|h; ·exact .inl ⟨rfl,h⟩
      .exact .inr h) (by rcases Ah with⟨rfl,h⟩|h; ·exact .inl ⟨rfl,h⟩
                         .exact .inr h) (.inl ⟨rfl,rfl⟩) (.inl rfl) h1 h2 (aI _) w
 simp only [execOp,ho,Instr.sliceAt,Sem.run_bind,dB hu,Result.andThen_ok,hx,Instr.slice,Option.map_none,hr,jZ hs,Sem.run_pure]
def QW {el:TypeId} {s n:Nat} {lo hi mx:Option aa} {k:Nat->Nat->aa} {v:aa} (h:zV P el s n lo hi mx k=some v):ey P el=some s/\∃h l,nm hi n=some h/\nm lo 0=some l/\mx=none/\l<=h/\h<=n/\v=k l h:=by
 unfold zV at h;simp only [dO]at h;obtain⟨s',hs,h',hh,l,hl,h⟩:=h;cases hb:(mx.isNone&&Nat.beq s s'&&Nat.ble l h'&&Nat.ble h' n)with
 |false=>rw [hb]at h;cases h
 |true=>
  rw [hb]at h;cases h;simp only [ae]at hb;obtain⟨⟨⟨b1,b2⟩,b3⟩,b4⟩:=hb;have b2:=ac b2;subst b2;exact⟨hs,h',l,hh,hl,by simpa using b1,bT b3,bT b4,rfl⟩
def aaB (hH:aZ P B ρ H w) (he:∀x,Den ρ (ev x) (e x)) {t:TypeId} {x:Operand} {lo hi mx:Option Operand} (ho:o.op= .slice t x lo hi mx):cR P B ρ H w ((execOp e o).run P w) (oT t x lo hi mx P o ev H):=by
 refine mz hH fun v hv=> ?_
 have hx:=he x;unfold Cj at hv;split at hv
 .exact vO he (by rw [ho];rfl) hv w
 .rename_i x' atT;unfold Cd at hv;split at hv
  .rename_i n el i off hu gx;rw [gx]at hx;obtain⟨b,c,g1,g2⟩:=hx.kN;simp only [dO]at hv;obtain⟨s,hs,m,hm,h,hh,l,hl,hv⟩:=hv;cases hb:(Nat.ble l h&&Nat.ble h m&&Nat.ble m n&&((mx.map ev).isNone||(hi.map ev).isSome))with
   |false=>rw [hb]at hv;cases hv
   |true=>
    rw [hb]at hv;simp only [ae,Bool.or_eq_true]at hb;obtain⟨⟨⟨b1,b2⟩,b3⟩,b4⟩:=hb;have b1:=bT b1;have b2:=bT b2;have b3:=bT b3;cases hv;have n5:mx.map e=none\/hi.map e≠none:=by
     rcases b4 with b4|b4
     .left;cases mx<;>simp_all
     .right;cases hi<;>simp_all
    have hm':=x4 (he:=he) hm;have Ah:=x4 (he:=he) hh;have hl':=x4 (he:=he) hl;have hr:=E5 (P:=P) false (len:=n) (cap:=n) (lo:=lo.map e) (hi:=hi.map e) (mx:=mx.map e) (l:=l) (h:=h) (m:=m)
     (by rcases hl' with⟨rfl,h⟩|h; ·exact .inl ⟨rfl,h⟩
         .exact .inr h) (by rcases Ah with⟨rfl,h⟩|h; ·exact .inl ⟨rfl,h⟩
                            .exact .inr h) (by rcases hm' with⟨rfl,h⟩|h; ·exact .inl ⟨rfl,h⟩
                                               .exact .inr h) n5 b1 b2 b3 w
    have lI:Den ρ (aa.slice i (cond (Nat.beq m l) off (off+l*s)) (h-l) (.known (m-l))) (.slice (some ⟨b,cond (Nat.beq m l) off (off+l*s),none⟩) (h-l) (m-l)):= .slice g1 rfl ω;refine fg ?_ lI;simp only [execOp,ho,Instr.sliceAt,Sem.run_bind,dB hu,Result.andThen_ok,g2,Instr.sureAddr,Sem.run_pure,hr,jZ hs];congr 4;by_cases hml:m=l
    .subst hml;simp
    .rw [tT hml,if_neg hml,j0];rfl
  .rename_i el i off len cap hu gx;rw [gx]at hx;obtain⟨b,c,kk,g1,gc,gl,g2⟩:=hx.ig;simp only [dO]at hv;obtain⟨s,hs,h,hh,l,hl,hv⟩:=hv;have Ah:=x4 (he:=he) hh;have hl':=x4 (he:=he) hl;have main:∀(off':Nat) (cap':aX),mx=none->l<=h->h<=kk->v= .slice i off' (h-l) cap'->Ac cap' c (kk-l)->(if kk=l then off=off' else off+l*s=off')->∃eM z,(execOp e o).run P w= .ok eM w/\tS eM z/\Den ρ v z:=by
    intro off' cap' hmx h1 h2 aaC hc hoff;subst hmx;subst aaC;have hr:=E5 (P:=P) true (len:=len) (cap:=kk) (lo:=lo.map e) (hi:=hi.map e) (mx:=none) (l:=l) (h:=h) (m:=kk)
     (by rcases hl' with⟨rfl,h⟩|h; ·exact .inl ⟨rfl,h⟩
         .exact .inr h) (by rcases Ah with⟨rfl,h⟩|h; ·exact .inl ⟨rfl,h⟩
                            .exact .inr h) (.inl ⟨rfl,rfl⟩) (.inl rfl) h1 h2 (aI _) w
    refine fg ?_ (.slice (off:=off') g1 hc (show h-l<=kk-l by omega));simp only [execOp,ho,Instr.sliceAt,Sem.run_bind,dB hu,Result.andThen_ok,g2,Instr.slice,Option.map_none,hr,jZ hs,Sem.run_pure];congr 3;by_cases qv:kk=l
    .rw [if_pos qv]at hoff ⊢;rw [hoff]
    .rw [if_neg qv]at hoff ⊢;simp [j0,hoff]
   have other:mx=none->((cond (Nat.ble l h&&Nat.ble h len) (cond (Nat.beq l 0) (some (aa.slice i off h cap)) (cond (Nat.ble (l+1) len) (some (aa.slice i (off+l*s) (h-l) .any)) none)) none)=some v)->∃eM z,(execOp e o).run P w= .ok eM w/\tS eM z/\Den ρ v z:=by
    intro vR hv;cases hb:(Nat.ble l h&&Nat.ble h len)with
    |false=>rw [hb]at hv;cases hv
    |true=>
     rw [hb]at hv;rw [ae]at hb;have b1:=bT hb.1;have b2:=bT hb.2;simp only [cond_true]at hv;cases hz:Nat.beq l 0 with
     |true=>
      have o6:=ac hz;rw [hz]at hv;subst o6;cases hv;exact main off cap vR b1 ω rfl gc τ
     |false=>
      rw [hz]at hv;simp only [cond_false]at hv;cases hq:Nat.ble (l+1) len with
      |false=>rw [hq]at hv;cases hv
      |true=>
       rw [hq]at hv;have hq:=bT hq;cases hv;refine main _ .any vR b1 ω rfl trivial ?_;rw [if_neg ω]
   cases mx with
   |some E7=>
    simp only [Option.map_some,dO]at hv;obtain⟨m,hm,hv⟩:=hv;obtain⟨km,hkm⟩:=Cy (v:=ev E7) hm;have QX:=he E7;rw [hkm]at QX;cases hb:(Nat.ble l h&&Nat.ble h m&&Nat.ble m (Qm cap len)&&(hi.map ev).isSome)with
    |false=>rw [hb]at hv;cases hv
    |true=>
     rw [hb]at hv;simp only [ae]at hb;obtain⟨⟨⟨b1,b2⟩,b3⟩,b4⟩:=hb;have b1:=bT b1;have b2:=bT b2;have b3:=bT b3;have b3:m<=kk:=by
      cases cap with
      |known n0=>
       have hkk:kk=n0:=gc;subst hkk;exact b3
      |full=>exact dh b3 gl
      |any=>exact dh b3 gl
     cases hv;have n5:(some E7).map e=none\/hi.map e≠none:=by right;cases hi<;>simp_all
     have hr:=E5 (P:=P) true (len:=len) (cap:=kk) (lo:=lo.map e) (hi:=hi.map e) (mx:=(some E7).map e) (l:=l) (h:=h) (m:=m)
      (by rcases hl' with⟨rfl,h⟩|h; ·exact .inl ⟨rfl,h⟩
          .exact .inr h) (by rcases Ah with⟨rfl,h⟩|h; ·exact .inl ⟨rfl,h⟩
                             .exact .inr h) (.inr ⟨km,by simp [QX.cg]⟩) n5 b1 b2 b3 w
     refine fg ?_ (.slice (off:=cond (Nat.beq m l) off (off+l*s)) g1 rfl (show h-l<=m-l by omega));simp only [execOp,ho,Instr.sliceAt,Sem.run_bind,dB hu,Result.andThen_ok,g2,Instr.slice,hr,jZ hs,Sem.run_pure];congr 3;by_cases qv:m=l
     .subst qv;simp
     .rw [if_neg qv,tT qv];simp [j0]
   |none=>
    cases cap with
    |known n0=>
     have hkk:kk=n0:=gc;subst hkk;simp only [Option.map_none]at hv;cases hb:(Nat.ble l h&&Nat.ble h kk)with
     |false=>rw [hb]at hv;cases hv
     |true=>
      rw [hb]at hv;rw [ae]at hb;have b1:=bT hb.1;have b2:=bT hb.2;cases hv;refine main _ _ rfl b1 b2 rfl rfl ?_;by_cases qv:kk=l
      .subst qv;simp
      .rw [if_neg qv,tT qv];rfl
    |full=>exact other rfl hv
    |any=>exact other rfl hv
  .rename_i el z u xs hu gx;rw [gx]at hx;obtain⟨hs,h,l,hh,hl,hmx,b1,b2,rfl⟩:=QW hv;have vR:mx=none:=by cases mx<;>simp_all
   rcases hx.tR with⟨rfl,a,k,n5,_⟩|⟨b,off,k,A,g1,g2,g3,g4,n5,_⟩
   .have hl0:l=0:=by simp at b2;omega
    have hh0:h=0:=by simp at b2;omega
    subst hl0;subst hh0;exact fg (E6 he ho hu n5 vR hs hh hl b1 τ) (.fc fun e=>by cases e)
   .have hr:=E6 (w:=w) he ho hu n5 vR hs hh hl b1 (dh b2 g4);cases hlt:Nat.ble (l+1) h with
    |true=>
     have hlt:=bT hlt;rw [if_neg (show¬k=l by omega)]at hr;refine fg hr ?_;simp only [Option.map_some,j0,cond_true];have hn:((xs.take h).drop l).length=h-l:=by simp;omega
     rw [<-hn];refine .bn g1 ?_ rfl (lA g3 b1 b2) (by rw [hn];omega) (fun e=>by cases e);rw [u.jb,hn];rw [u.jb]at g2;have:(h-l)*u.size+l*u.size<=xs.length*u.size:=by rw [<-Nat.add_mul];exact Nat.mul_le_mul_right _ ω
     omega
    |false=>
     have:¬l+1<=h:=fun hh=>by rw [fF hh]at hlt;cases hlt
     obtain rfl:l=h:=by omega
     refine fg hr ?_;rw [Nat.sub_self];exact .fc fun e=>by cases e
  .rename_i el e' u i k0 len cap hu gx;rw [gx]at hx;obtain⟨hs,h,l,hh,hl,hmx,b1,b2,rfl⟩:=QW hv;have vR:mx=none:=by cases mx<;>simp_all
   rcases hx.jx with⟨rfl,a,n5⟩|⟨b,c,kc,g1,g2,g3,n5⟩
   .have hl0:l=0:=by omega
    have hh0:h=0:=by omega
    subst hl0;subst hh0;refine fg (E6 he ho hu n5 vR hs hh hl b1 τ) ?_;exact .qt
   .have hr:=E6 (w:=w) he ho hu n5 vR hs hh hl b1 (dh b2 g3);cases h0:Nat.beq l 0 with
    |true=>
     have h0:=ac h0;subst h0;refine fg hr ?_;simp only [cond_true,Nat.sub_zero,Nat.zero_mul,Option.map_some,j0,Nat.add_zero,ite_self];exact .bR g1 g2 ω
    |false=>
     cases hlt:Nat.ble (l+1) h with
     |true=>
      have hlt:=bT hlt;rw [if_neg (show¬kc=l by omega)]at hr;refine fg hr ?_;simp only [Option.map_some,j0,cond_true,cond_false];rw [<-Nat.add_mul];exact .bR g1 trivial ω
     |false=>
      have:¬l+1<=h:=fun hh=>by rw [fF hh]at hlt;cases hlt
      obtain rfl:l=h:=by omega
      refine fg hr ?_;rw [Nat.sub_self];exact .fc fun e=>by cases e
  .cases hv
end
end Go.Proofs.YtibikmmdbdlafaaGreatDoor.Sv
