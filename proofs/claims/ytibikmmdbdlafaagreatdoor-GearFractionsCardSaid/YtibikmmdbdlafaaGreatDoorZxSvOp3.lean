/- The runner over an abstract memory: operations that neither read nor write it. -/
import Derived.Test.YtibikmmdbdlafaaGreatDoorZxSvTy
import Derived.IntWalk
import Derived.ChangeKeysEq
import Derived.Laws.StructEq
import Derived.Laws.Slices
set_option linter.unusedSimpArgs false
namespace Go.Proofs.YtibikmmdbdlafaaGreatDoor.Sv
open Go.RowKit
def sR:Next->Value->Prop
 | .value v,x=>x=v
 | .skip,x=>x=undef
 |_,_=>False
def cN (P:Program) (B:Nat) (ρ:Env) (H:ai) (w:World) (r:Result Next):aI->Prop
 | .no=>True
 | .ok v H'=>Fr ρ H.next H'.next->∃ρ' x w' eC,r= .ok eC w'/\sR eC x/\Den ρ' v x/\aX P B ρ' H' w'/\bL ρ H w ρ' H' w'
 | .enter f args H'=>H'=H/\∃xs:List Value,r= .ok (.enter f xs.toArray) w/\aF ρ args xs
 | .round i args H'=>H'=H/\∃(b c:Nat) (xs:List Value),ρ i=some (b,c)/\r=(Instr.yield b xs.toArray).run P w/\aF ρ args xs
theorem nL {P:Program} {α:Type}:∀(s:Sem α) {a:α} (w:World),di P s=some a->s.run P w= .ok a w
 | .pure a,_,w,h=>by simp [di]at h;subst h;rfl
 | .program k,_,w,h=>by
   have:=nL (k P) w (by simpa [di]using h);simpa [Sem.run]using this
 | .mark m k,_,w,h=>by
   have:=nL k w (by simpa [di]using h);simpa [Sem.run]using this
 | .load ..,_,_,h=>by simp [di]at h
 | .store ..,_,_,h=>by simp [di]at h
 | .new ..,_,_,h=>by simp [di]at h
 | .shape ..,_,_,h=>by simp [di]at h
 | .freeze ..,_,_,h=>by simp [di]at h
 | .frozen ..,_,_,h=>by simp [di]at h
 | .getObj ..,_,_,h=>by simp [di]at h
 | .setObj ..,_,_,h=>by simp [di]at h
 | .choose ..,_,_,h=>by simp [di]at h
 | .sys ..,_,_,h=>by simp [di]at h
 | .halt ..,_,_,h=>by simp [di]at h
section
variable {P:Program} {B:Nat} {ρ:Env} {H:ai} {w:World} {r:Result Next}
theorem l5 (hH:aX P B ρ H w) {x:Option aa} (h:∀v,x=some v->∃eC y,r= .ok eC w/\sR eC y/\Den ρ v y):cN P B ρ H w r (ag H x):=by
 cases x with
 |none=>trivial
 |some v=>
  obtain⟨eC,y,h1,h2,h3⟩:=h v rfl;exact fun _=>⟨ρ,y,w,eC,h1,h2,h3,hH,bL.refl _ _ _⟩
theorem fH (hH:aX P B ρ H w) {v:aa} {y:Value} (h:r= .ok (.value y) w) (hd:Den ρ v y):cN P B ρ H w r (.ok v H):=
 fun _=>⟨ρ,y,w, .value y,h,rfl,hd,hH,bL.refl _ _ _⟩
theorem nf {v:aa} {i off:Nat} (h:iB v= .mk i off):v= .ptr i off:=by
 cases v<;>first |(cases h;rfl)|(simp [iB]at h)
theorem Xr {v:aa} {i off len:Nat} {cap:aS} (h:wI v= .mk i off len cap):v= .slice i off len cap:=by
 cases v<;>first |(cases h;rfl)|(simp [wI]at h)
theorem Ow {v:aa} {cs:List aa} (h:qK v=some cs):v= .agg cs:=by
 cases v<;>first |(cases h;rfl)|(simp [qK]at h)
theorem Xt {v:aa} {cs:List aa} (h:yO v=some cs):v= .tuple cs:=by
 cases v<;>first |(cases h;rfl)|(simp [yO]at h)
theorem Xu {v:Value} {b:Bool} (h:He v= .mk b):v= .bool b:=by
 cases v<;>first |(cases h;rfl)|(simp [He]at h)
theorem DI {v:aa} {b:Bool} (h:gq v= .mk b):v= .raw (.bool b):=by
 cases v<;>first |(rw [Xu h])|(simp [gq]at h)
theorem Xv {v:Value} {k:IntKind} {n:Int} (h:G9 v= .int k n):v= .int k n:=by
 cases v<;>first |(cases h;rfl)|(simp [G9]at h)
theorem zc {v:aa} {k:IntKind} {n:Int} (h:iA v= .int k n):v= .raw (.int k n):=by
 cases v<;>first |(rw [Xv h])|(simp [iA]at h)
theorem wx {n:Int} {m:Nat} (h:uF n= .mk m):n=m:=by
 cases n<;>first |(cases h;rfl)|(simp [uF]at h)
theorem Ox {v:aa} {m:Nat} (h:nH v= .mk m):∃k,v= .raw (.int k m):=by
 unfold nH at h;cases hw:iA v with
 |no=>rw [hw]at h;cases h
 |int k n=>
  rw [hw]at h;have:=wx h;subst this;exact⟨k,zc hw⟩
theorem By {v:aa} {m:Nat} (h:mn v=some m):∃k,v= .raw (.int k m):=by
 unfold mn at h;cases hw:nH v with
 |no=>rw [hw]at h;cases h
 |mk n=>rw [hw]at h;cases h;exact Ox hw
theorem Do {b:Option bf} {e:TypeId} {cs:List aa} {x f r:Bool} (h:sC b= .mk e cs x f r):b=some (.cells e cs x f r):=by
 cases b with
 |none=>cases h
 |some b=>cases b<;>first |(cases h;rfl)|(simp [sC]at h)
theorem fg {t:TypeId} {n:Nat} (h:cp P t=some n):∃i,P.info? t=some i/\i.size=n:=by
 simpa [cp,am]using h
theorem mw {t:TypeId} {z:Value} (h:mR P t=some z):∃i,P.info? t=some i/\i.zero=some z:=by
 simpa [mR,dG]using h
theorem wW {t e:TypeId} (h:k8 P t=some e):P.underlying t=some (.slice e):=by
 unfold k8 at h;split at h
 .rename_i e' he;cases h;exact he
 .cases h
theorem jF {t:TypeId} {n:Nat} (h:cp P t=some n) (w:World):(sizeOf t).run P w= .ok n w:=by
 obtain⟨i,hi,rfl⟩:=fg h;simp [sizeOf,typeInfo,hi]
theorem lA {t:TypeId} {z:Value} (h:mR P t=some z) (w:World):(zeroValue t).run P w= .ok z w:=by
 obtain⟨i,hi,hz⟩:=mw h;simp [zeroValue,typeInfo,hi,hz]
theorem bi {t:TypeId} {d:TypeDesc} (h:P.underlying t=some d) (w:World):(underlying t).run P w= .ok d w:=by
 simp [underlying,h]
theorem DJ {t:TypeId} {b:Bool} (h:Bc P t=some b) (w:World):(isAgg t).run P w= .ok b w:=by
 simp only [Bc,am]at h;obtain⟨d,hd,rfl⟩:=h;unfold isAgg;simp only [Sem.run_bind,bi hd,Result.andThen_ok];cases d<;>rfl
theorem Oy {t:TypeId} (h:lv P t= .one):Bc P t=some false:=by
 unfold lv at h;split at h<;>first |assumption|(cases h)
theorem Oz {t:TypeId} {n:Nat} (h:lv P t= .agg n):Bc P t=some true/\cp P t=some n:=by
 unfold lv at h;split at h
 .rename_i h1 h2;cases h;exact⟨h1,h2⟩
 .cases h
 .cases h
theorem OA {t:TypeId} {n s:Nat} (h:nG P t= .arr n s):∃e,P.underlying t=some (.array n e)/\cp P e=some s:=by
 unfold nG at h;split at h
 .rename_i n' e he;split at h
  .rename_i s' hs;cases h;exact⟨e,he,hs⟩
  .cases h
 .split at h<;>cases h
 .cases h
theorem OB {t:TypeId} {s:Nat} (h:nG P t= .sl s):∃e,P.underlying t=some (.slice e)/\cp P e=some s:=by
 unfold nG at h;split at h
 .split at h<;>cases h
 .rename_i e he;split at h
  .rename_i s' hs;cases h;exact⟨e,he,hs⟩
  .cases h
 .cases h
theorem HJ {s:TypeId} {f off n:Nat} {t:TypeId} (h:fv P s f= .mk off n t):∃fs fd,P.underlying s=some (.struct fs)/\fs[f]? =some fd/\fd.offset=off/\fd.type=t/\cp P t=some n:=by
 unfold fv at h;split at h
 .rename_i fs hs;split at h
  .rename_i fd hf;split at h
   .rename_i n' hn;cases h;exact⟨fs,fd,hs,hf,rfl,rfl,hn⟩
   .cases h
  .cases h
 .cases h
def pS:Op->Bool
 | .select .. =>false
 |_=>true
theorem execOp_congr {e e':Operand->Value} {o:Oper} (hs:pS o.op=true) (h:∀x∈o.op.operands.toList,e x=e' x):execOp e o=execOp e' o:=by
 obtain⟨dst,op,type,pos,after,guard⟩:=o;cases op with
 |call c=>
  obtain⟨callee,args,argTypes⟩:=c;have ha:args.map e=args.map e':=by
   apply Array.map_congr_left;intro x hx;exact h x (by simp [Op.operands,Call.operands,hx])
  cases callee with
  |value f=>
   have hf:=h f (by simp [Op.operands,Call.operands]);simp [execOp,resolve,ha,hf]
  |invoke f m=>
   have hf:=h f (by simp [Op.operands,Call.operands]);simp [execOp,resolve,ha,hf]
  |builtin b=>simp [execOp,resolve,ha]
 |go c=>
  obtain⟨callee,args,argTypes⟩:=c;have ha:args.map e=args.map e':=by
   apply Array.map_congr_left;intro x hx;exact h x (by simp [Op.operands,Call.operands,hx])
  cases callee with
  |value f=>
   have hf:=h f (by simp [Op.operands,Call.operands]);simp [execOp,resolve,ha,hf]
  |invoke f m=>
   have hf:=h f (by simp [Op.operands,Call.operands]);simp [execOp,resolve,ha,hf]
  |builtin b=>simp [execOp,resolve,ha]
 |defer c=>
  obtain⟨callee,args,argTypes⟩:=c;have ha:args.map e=args.map e':=by
   apply Array.map_congr_left;intro x hx;exact h x (by simp [Op.operands,Call.operands,hx])
  cases callee with
  |value f=>
   have hf:=h f (by simp [Op.operands,Call.operands]);simp [execOp,resolve,ha,hf]
  |invoke f m=>
   have hf:=h f (by simp [Op.operands,Call.operands]);simp [execOp,resolve,ha,hf]
  |builtin b=>simp [execOp,resolve,ha]
 |build t ps=>
  have ha:(ps.map fun(i,x)=>(i,e x))=ps.map fun(i,x)=>(i,e' x):=by
   apply Array.map_congr_left;intro x hx;have:=h x.2 (by simp only [Op.operands];exact List.mem_map_of_mem (Array.mem_toList_iff.2 hx));simp [this]
  simp [execOp,ha]
 |buildSlice t l ps=>
  have ha:(ps.map fun(i,x)=>(i,e x))=ps.map fun(i,x)=>(i,e' x):=by
   apply Array.map_congr_left;intro x hx;have:=h x.2 (by simp only [Op.operands];exact List.mem_map_of_mem (Array.mem_toList_iff.2 hx));simp [this]
  simp [execOp,ha]
 |makeFunc fn f c=>
  have h1:f.map e=f.map e':=Array.map_congr_left fun x hx=>h x (by simp [Op.operands,hx])
  have h2:c.map e=c.map e':=Array.map_congr_left fun x hx=>h x (by simp [Op.operands,hx])
  simp [execOp,h1,h2]
 |makeMap t r=>cases r<;>simp_all [Op.operands,execOp]
 |slice t x l hi m=>cases l<;>cases hi<;>cases m<;>simp_all [Op.operands,execOp]
 |select cs b=>cases hs
 |_=>simp_all [Op.operands,execOp]
theorem Xw {ev:dH} {e:Operand->Value} (he:∀x,Den ρ (ev x) (e x)) {x:Operand} (h:(ev x).e9.isSome=true):mc ev x=e x:=by
 obtain⟨v,hv⟩:=Option.isSome_iff_exists.1 h;rw [mc,hv,(he x).e9 hv];rfl
theorem kp {o:Oper} {ev:dH} {e:Operand->Value} (he:∀x,Den ρ (ev x) (e x)) (hs:pS o.op=true) {v:aa} (h:gen P o ev=some v) (w:World):
  ∃eC y,(execOp e o).run P w= .ok eC w/\sR eC y/\Den ρ v y:=by
 unfold gen at h;cases hb:(o.op.operands.toList.all fun x=>(ev x).e9.isSome)with
 |false=>rw [hb]at h;cases h
 |true=>
  rw [hb]at h;have hc:execOp (mc ev) o=execOp e o:=execOp_congr hs fun x hx=>Xw he (List.all_eq_true.1 hb x hx)
  simp only [cond_true,hc]at h;split at h
  .rename_i y hy;cases h;exact⟨_,y,nL _ w hy,rfl, .raw y⟩
  .rename_i hy;cases h;exact⟨_,undef,nL _ w hy,rfl, .raw undef⟩
  .cases h
theorem f8 {o:Oper} {ev:dH} {e:Operand->Value} (hH:aX P B ρ H w) (he:∀x,Den ρ (ev x) (e x)) (hs:pS o.op=true):cN P B ρ H w ((execOp e o).run P w) (ag H (gen P o ev)):=
 l5 hH fun _ h=>kp he hs h w
variable {o:Oper} {ev:dH} {e:Operand->Value}
theorem HI (hH:aX P B ρ H w) (he:∀x,Den ρ (ev x) (e x)) {x:Operand} (ho:o.op= .move x):cN P B ρ H w ((execOp e o).run P w) (md x P o ev H):=
 fH hH (y:=e x) (by simp [execOp,ho]) (he x)
theorem Xx (hH:aX P B ρ H w) (he:∀x,Den ρ (ev x) (e x)) {x:Operand} (ho:o.op= .assign x):cN P B ρ H w ((execOp e o).run P w) (md x P o ev H):=
 fH hH (y:=e x) (by simp [execOp,ho]) (he x)
theorem Xy (hH:aX P B ρ H w) (he:∀x,Den ρ (ev x) (e x)) {c a b:Operand} (ho:o.op= .pick c a b):cN P B ρ H w ((execOp e o).run P w) (nI c a b P o ev H):=by
 unfold nI;cases hb:gq (ev c)with
 |no=>trivial
 |mk k=>
  have hc:=he c;rw [DI hb]at hc;have hc:=hc.b7;cases k
  .exact fH hH (y:=e b) (by simp [execOp,ho,hc,asBool]) (he b)
  .exact fH hH (y:=e a) (by simp [execOp,ho,hc,asBool]) (he a)
theorem Xz (hH:aX P B ρ H w) (he:∀x,Den ρ (ev x) (e x)) {x:Operand} (ho:o.op= .nilCheck x):cN P B ρ H w ((execOp e o).run P w) (pJ x P o ev H):=by
 unfold pJ;have hx:=he x;cases hp:iB (ev x)with
 |mk i off=>
  rw [nf hp]at hx;obtain⟨b,c,h1,h2⟩:=hx.kz;exact fH hH (y:=e x) (by simp [execOp,ho,h2]) hx
 |no=>
  refine l5 hH fun v hv=> ?_
  unfold Ho at hv;split at hv
  .rename_i f a b hx';cases hv;rw [hx']at hx;obtain⟨xs,ys,h1,h2,h3⟩:=hx.Bt;exact⟨_,e x,by simp [execOp,ho,h3];rfl,by rw [h3];rfl,hx⟩
  .rename_i i hx';cases hv;rw [hx']at hx;obtain⟨b,c,h1,h2⟩:=hx.HB;exact⟨_,e x,by simp [execOp,ho,h2];rfl,by rw [h2];rfl,hx⟩
  .rename_i t xs k off hx';cases hv;rw [hx']at hx;obtain⟨b,o',A,_,_,_,_,h2⟩:=hx.zb;exact⟨_,e x,by simp [execOp,ho,h2];rfl,by rw [h2];rfl,hx⟩
  .rename_i e' t i k off hx';cases hv;rw [hx']at hx;obtain⟨b,c,_,h2⟩:=hx.wT;exact⟨_,e x,by simp [execOp,ho,h2];rfl,by rw [h2];rfl,hx⟩
  .exact kp he (by simp [ho,pS]) hv w
theorem XA (hH:aX P B ρ H w) (he:∀x,Den ρ (ev x) (e x)) {fn:Fn} {a c:Array Operand} (ho:o.op= .makeFunc fn a c):cN P B ρ H w ((execOp e o).run P w) (Bk fn a c P o ev H):=by
 have hl:∀l:List Operand,aF ρ (l.map ev) (l.map e):=fun l=>by
  induction l with
  |nil=>exact .nil
  |cons x l ih=>exact .cons (he x) ih
 have h:=Den.func (fn:=fn) (hl a.toList) (hl c.toList);have e1:(a.toList.map e).toArray=a.map e:=by apply Array.ext';simp
 have e2:(c.toList.map e).toArray=c.map e:=by apply Array.ext';simp
 rw [e1,e2]at h;exact fH hH (by simp [execOp,ho,Instr.makeFunc]) h
theorem XB (hH:aX P B ρ H w) (he:∀x,Den ρ (ev x) (e x)) {t:TypeId} {x:Operand} (ho:o.op= .makeInterface t x):cN P B ρ H w ((execOp e o).run P w) (Bj t x P o ev H):=by
 refine l5 hH fun v hv=> ?_
 unfold Oe at hv;split at hv
 .cases hv
 .cases hv
 .rename_i d hd hn;cases hv;refine⟨.value (.iface t (e x)), .iface t (e x), ?_,rfl, .iface (he x)⟩;simp only [execOp,ho,Instr.makeInterface,Sem.run_bind,bi hn,Result.andThen_ok];cases d<;>first |rfl |exact absurd rfl (hd _)
theorem jG (b off n:Nat):(⟨b,off,none⟩:Addr).add n=⟨b,off+n,none⟩:=by
 unfold Addr.add;split
 .rename_i e;subst e;rfl
 .rfl
theorem OC {s t:TypeId} {x:Operand} {f gp n b O:Nat} (ho:o.op= .fieldAddr s x f) (hf:fv P s f= .mk gp n t) (hb:Nat.ble 1 n=true) (hx:e x= .pointer (some ⟨b,O,none⟩)):
  (execOp e o).run P w= .ok (.value (.pointer (some ⟨b,O+gp,none⟩))) w:=by
 obtain⟨fs,fd,g1,g2,g3,g4,g5⟩:=HJ hf;have hn:n≠0:=by have:=bR hb;omega
 subst g3;subst g4;simp [execOp,ho,Instr.fieldAt,bi g1,g2,hx,Instr.sureAddr,fieldPlace,jF g5,hn,jG]
theorem XC (hH:aX P B ρ H w) {s t:TypeId} {x:Operand} {f gp n:Nat} {v:aa} (ho:o.op= .fieldAddr s x f) (hf:fv P s f= .mk gp n t) (hx:Den ρ v (e x)):cN P B ρ H w ((execOp e o).run P w) (kd gp n v H):=by
 unfold kd;split
 .rename_i u xs k off;cases hb:Nat.ble 1 n with
  |false=>trivial
  |true=>
   obtain⟨b,o',A,h1,h2,h3,h4,h5⟩:=hx.zb;refine fH hH (OC ho hf hb h5) ?_;rw [show o'+(k*u.size+off)+gp=o'+(k*u.size+(off+gp)) by omega];exact .e8 h1 h2 rfl h3 h4
 .rename_i e' u i k off;cases hb:Nat.ble 1 n with
  |false=>trivial
  |true=>
   obtain⟨b,c,h1,h5⟩:=hx.wT;refine fH hH (OC ho hf hb h5) ?_;rw [Nat.add_assoc];exact .dy h1
 .trivial
theorem XD (hH:aX P B ρ H w) (he:∀x,Den ρ (ev x) (e x)) {s:TypeId} {x:Operand} {f:Nat} (ho:o.op= .fieldAddr s x f):cN P B ρ H w ((execOp e o).run P w) (pK s x f P o ev H):=by
 unfold pK;cases hf:fv P s f with
 |no=>trivial
 |mk gp n t=>
  cases hp:iB (ev x)with
  |no=>exact XC hH ho hf (he x)
  |mk i off=>
   cases hb:Nat.ble 1 n with
   |false=>simp only [hb];trivial
   |true=>
    simp only [hb];have hx:=he x;rw [nf hp]at hx;obtain⟨b,c,h1,h2⟩:=hx.kz;obtain⟨fs,fd,g1,g2,g3,g4,g5⟩:=HJ hf;have hn:n≠0:=by have:=bR hb;omega
    have ha:(⟨b,off,none⟩:Addr).add gp=⟨b,off+gp,none⟩:=by
     unfold Addr.add;split
     .rename_i e;subst e;rfl
     .rfl
    refine fH hH (y:= .pointer (some ⟨b,off+gp,none⟩)) ?_ (.ptr h1);subst g3;subst g4;simp [execOp,ho,Instr.fieldAt,bi g1,g2,h2,Instr.sureAddr,fieldPlace,jF g5,hn,ha]
theorem OD {t:TypeId} {x ix:Operand} {k n s b O:Nat} {eB:IntKind} (ho:o.op= .indexAddr t x ix) (iD:e ix= .int eB k) (ht:nG P t= .arr n s) (hx:e x= .pointer (some ⟨b,O,none⟩)) (hlt:k<n):
  (execOp e o).run P w= .ok (.value (.pointer (some ⟨b,O+k*s,none⟩))) w:=by
 obtain⟨el,g1,g2⟩:=OA ht;simp [execOp,ho,Instr.indexAt,iD,asIntOf,bi g1,hx,Instr.sureAddr,jF g2,hlt,jG]
theorem OE {t:TypeId} {x ix:Operand} {k s len kk b O:Nat} {eB:IntKind} (ho:o.op= .indexAddr t x ix) (iD:e ix= .int eB k) (ht:nG P t= .sl s) (hx:e x= .slice (some ⟨b,O,none⟩) len kk) (hlt:k<len):
  (execOp e o).run P w= .ok (.value (.pointer (some ⟨b,O+k*s,none⟩))) w:=by
 obtain⟨el,g1,g2⟩:=OB ht;simp [execOp,ho,Instr.indexAt,iD,asIntOf,bi g1,hx,jF g2,hlt,jG]
theorem LE (hH:aX P B ρ H w) {t:TypeId} {x ix:Operand} {k n s:Nat} {eB:IntKind} {v:aa} (ho:o.op= .indexAddr t x ix) (iD:e ix= .int eB k) (ht:nG P t= .arr n s) (hx:Den ρ v (e x)):cN P B ρ H w ((execOp e o).run P w) (uD k n s v H):=by
 unfold uD;split
 .rename_i u xs k0 off;cases hb:Nat.ble (k+1) n with
  |false=>trivial
  |true=>
   obtain⟨b,o',A,h1,h2,h3,h4,h5⟩:=hx.zb;refine fH hH (OD ho iD ht h5 (bR hb)) ?_;rw [show o'+(k0*u.size+off)+k*s=o'+(k0*u.size+(off+k*s)) by omega];exact .e8 h1 h2 rfl h3 h4
 .rename_i e' u i k0 off;cases hb:Nat.ble (k+1) n with
  |false=>trivial
  |true=>
   obtain⟨b,c,h1,h5⟩:=hx.wT;refine fH hH (OD ho iD ht h5 (bR hb)) ?_;rw [Nat.add_assoc];exact .dy h1
 .trivial
theorem XE (hH:aX P B ρ H w) {t:TypeId} {x ix:Operand} {k s:Nat} {eB:IntKind} {v:aa} (ho:o.op= .indexAddr t x ix) (iD:e ix= .int eB k) (ht:nG P t= .sl s) (hx:Den ρ v (e x)):cN P B ρ H w ((execOp e o).run P w) (t8 k s v H):=by
 unfold t8;split
 .rename_i z u xs;cases hb:(Nat.beq u.size s&&Nat.ble (k+1) xs.length)with
  |false=>trivial
  |true=>
   rw [ae]at hb;obtain⟨hs,hb⟩:=hb;have hs:=ac hs;have hb:k<xs.length:=bR hb;subst hs;rcases hx.sQ with⟨rfl,_⟩|⟨b,off,kk,A,h1,h2,h3,h4,h5,_⟩
   .simp at hb
   .refine fH hH (OE ho iD ht h5 hb) ?_;rw [show off+k*u.size=off+(k*u.size+0) by omega];exact .e8 h1 h2 rfl h3 hb
 .rename_i e' u i k0 len cap;cases hb:(Nat.beq u.size s&&Nat.ble (k+1) len)with
  |false=>trivial
  |true=>
   rw [ae]at hb;obtain⟨hs,hb⟩:=hb;have hs:=ac hs;have hb:k<len:=bR hb;subst hs;rcases hx.jl with⟨rfl,_⟩|⟨b,c,kc,h1,_,_,h5⟩
   .omega
   .refine fH hH (OE ho iD ht h5 hb) ?_;rw [show k0*u.size+k*u.size=(k0+k)*u.size+0 by rw [Nat.add_mul];rfl];exact .dy h1
 .trivial
theorem ub (hH:aX P B ρ H w) (he:∀x,Den ρ (ev x) (e x)) {t:TypeId} {x ix:Operand} (ho:o.op= .indexAddr t x ix):cN P B ρ H w ((execOp e o).run P w) (mT t x ix P o ev H):=by
 unfold mT;cases hk:nH (ev ix)with
 |no=>trivial
 |mk k=>
  obtain⟨eB,hk'⟩:=Ox hk;have iD:=he ix;rw [hk']at iD;have iD:=iD.b7;have hx:=he x;cases ht:nG P t with
  |no=>trivial
  |arr n s=>
   cases hp:iB (ev x)with
   |no=>exact LE hH ho iD ht hx
   |mk i off=>
    cases hb:Nat.ble (Nat.succ k) n with
    |false=>simp only [hb];trivial
    |true=>
     simp only [hb];have hb:=bR hb;rw [nf hp]at hx;obtain⟨b,c,h1,h2⟩:=hx.kz;obtain⟨el,g1,g2⟩:=OA ht;refine fH hH (y:= .pointer (some ⟨b,off+k*s,none⟩)) ?_ (.ptr h1);have hlt:k<n:=hb;simp [execOp,ho,Instr.indexAt,iD,asIntOf,bi g1,h2,Instr.sureAddr,jF g2,hlt,jG]
  |sl s=>
   cases hp:wI (ev x)with
   |no=>exact XE hH ho iD ht hx
   |mk i off len cap=>
    cases hb:Nat.ble (Nat.succ k) len with
    |false=>simp only [hb];trivial
    |true=>
     simp only [hb];have hb:=bR hb;rw [Xr hp]at hx;obtain⟨b,c,kk,h1,_,_,h2⟩:=hx.gY;obtain⟨el,g1,g2⟩:=OB ht;refine fH hH (y:= .pointer (some ⟨b,off+k*s,none⟩)) ?_ (.ptr h1);have hlt:k<len:=hb;simp [execOp,ho,Instr.indexAt,iD,asIntOf,bi g1,h2,jF g2,hlt,jG]
theorem OG {t:TypeId} {cs:List aa} {off:Nat} {v:aa} (h:apart P t cs off=some v) {xs:List Value} (hd:aF ρ cs xs) (w:World):∃y,(part t xs.toArray off).run P w= .ok y w/\Den ρ v y:=by
 unfold apart at h;cases hl:lv P t with
 |no=>rw [hl]at h;cases h
 |one=>
  rw [hl]at h;simp only [y8]at h;obtain⟨y,h1,h2⟩:=hd.get h;refine⟨y, ?_,h2⟩;simp [part,DJ (Oy hl),h1]
 |agg n=>
  rw [hl]at h;cases h;refine⟨.agg ((xs.drop off).take n).toArray, ?_, .agg ((hd.drop off).take n)⟩;obtain⟨h1,h2⟩:=Oz hl;have e1:((xs.drop off).take n).toArray=xs.toArray.extract off (off+n):=by apply Array.ext';simp
  rw [e1];simp [part,DJ h1,jF h2]
theorem XF (hH:aX P B ρ H w) (he:∀x,Den ρ (ev x) (e x)) {t:TypeId} {x:Operand} {f:Nat} (ho:o.op= .field t x f):cN P B ρ H w ((execOp e o).run P w) (pL t x f P o ev H):=by
 unfold pL;cases ha:qK (ev x)with
 |none=>exact f8 hH he (by simp [ho,pS])
 |some cs=>
  have hx:=he x;rw [Ow ha]at hx;obtain⟨xs,h1,h2⟩:=hx.sO;cases hf:fv P t f with
  |no=>trivial
  |mk gp n ft=>
   refine l5 hH fun v hv=> ?_
   obtain⟨fs,fd,g1,g2,g3,g4,g5⟩:=HJ hf;subst g3;subst g4;obtain⟨y,k1,k2⟩:=OG hv h1 w;exact⟨.value y,y,by simp [execOp,ho,Instr.field,bi g1,g2,h2,asAgg,k1],rfl,k2⟩
theorem XG (hH:aX P B ρ H w) (he:∀x,Den ρ (ev x) (e x)) {t:TypeId} {x ix:Operand} (ho:o.op= .index t x ix):cN P B ρ H w ((execOp e o).run P w) (lX t x ix P o ev H):=by
 unfold lX;cases ha:qK (ev x)with
 |none=>exact f8 hH he (by simp [ho,pS])
 |some cs=>
  have hx:=he x;rw [Ow ha]at hx;obtain⟨xs,h1,h2⟩:=hx.sO;refine l5 hH fun v hv=> ?_
  unfold Of at hv;split at hv
  .rename_i n el hu;simp only [dG]at hv;obtain⟨k,hk,s,hs,hv⟩:=hv;obtain⟨eB,hk'⟩:=By hk;have iD:=he ix;rw [hk']at iD;have iD:=iD.b7;cases hb:Nat.ble (k+1) n with
   |false=>rw [hb]at hv;cases hv
   |true=>
    rw [hb]at hv;have hb:=bR hb;obtain⟨y,k1,k2⟩:=OG hv h1 w;have hlt:k<n:=hb;exact⟨.value y,y,by simp [execOp,ho,Instr.index,iD,asIntOf,bi hu,h2,hlt,jF hs,k1],rfl,k2⟩
  .cases hv
theorem XH (hH:aX P B ρ H w) (he:∀x,Den ρ (ev x) (e x)) {x:Operand} {i:Nat} (ho:o.op= .extract x i):cN P B ρ H w ((execOp e o).run P w) (pM x i P o ev H):=by
 unfold pM;cases ha:yO (ev x)with
 |none=>exact f8 hH he (by simp [ho,pS])
 |some cs=>
  have hx:=he x;rw [Xt ha]at hx;obtain⟨xs,h1,h2⟩:=hx.Bu;refine l5 hH fun v hv=> ?_
  rw [y8]at hv;obtain⟨y,k1,k2⟩:=h1.get hv;exact⟨.value y,y,by simp [execOp,ho,Instr.extract,h2,k1],rfl,k2⟩
end
end Go.Proofs.YtibikmmdbdlafaaGreatDoor.Sv
/- The runner over an abstract memory: binary operations, slicing, structs built. -/
namespace Go.Proofs.YtibikmmdbdlafaaGreatDoor.Sv
open Go.RowKit
section
variable {P:Program} {B:Nat} {ρ:Env} {H:ai} {w:World} {o:Oper} {ev:dH} {e:Operand->Value}
theorem sS {a b:Nat} (h:a≠b):Nat.beq a b=false:=by
 cases hb:Nat.beq a b with
 |false=>rfl
 |true=>exact absurd (ac hb) h
theorem XI (op:BinOp) (t:TypeId) (x y:Operand) (a b:Value) (h1:∀cs ds,a= .agg cs->b= .agg ds->False) (h2:a= .nilIface->b= .nilIface->False) (w:World):(eqGuard op t x y a b).run P w= .ok () w:=by
 unfold eqGuard;cases op<;>first |rfl |(cases a<;>first |rfl |(cases b<;>first |rfl |exact(h1 _ _ rfl rfl).elim|exact(h2 rfl rfl).elim))
theorem HK {op:BinOp} {t ah:TypeId} {x y:Operand} (ho:o.op= .binOp op t x y ah) {a b:Value} (ha:e x=a) (hb:e y=b) (h1:∀cs ds,a= .agg cs->b= .agg ds->False) (h2:a= .nilIface->b= .nilIface->False)
  {v:Value} (h:(binOp op t a b).run P w= .ok v w):(execOp e o).run P w= .ok (.value v) w:=by
 subst ha;subst hb;simp [execOp,ho,XI op t x y _ _ h1 h2,h]
theorem HL {n:Nat} {v:aa} (h:small n=some v):n<9223372036854775808/\v= .raw (.int .i64 n):=by
 unfold small at h;cases hb:Nat.ble (Nat.succ n) 9223372036854775808 with
 |false=>rw [hb]at h;cases h
 |true=>rw [hb]at h;cases h;exact⟨bR hb,rfl⟩
theorem OH {k:IntKind} (h:Bi k=true):k= .i64:=by cases k<;>first |rfl |cases h
theorem XJ {op:BinOp} {m n:Nat} {v:aa} (h:yY op m n=some v) (t:TypeId) (w:World):∃y,v= .raw y/\(binOp op t (.int .i64 m) (.int .i64 n)).run P w= .ok y w:=by
 have hb:∀b:Bool,∀y,(some (aa.raw (.bool b))=some y)->y= .raw (.bool b):=fun b y h=>by cases h;rfl
 cases op
 case add=>
  obtain⟨h1,rfl⟩:=HL h;refine⟨_,rfl, ?_⟩;have e:IntKind.i64.wrap ((m:Int)+n)=((Nat.add m n:Nat):Int):=by
   rw [IntWalk.i64_in _ (by have:Nat.add m n=m+n:=rfl;omega)];rfl
  simp [binOp,Op.intArith,e]
 case sub=>
  have hs:yY .sub m n= @Bool.rec (fun _=>Option aa) none (small (Nat.sub m n)) (Nat.ble n m):=rfl;rw [hs]at h;cases hb:Nat.ble n m with
  |false=>rw [hb]at h;cases h
  |true=>
   rw [hb]at h;have hle:=bR hb;obtain⟨h1,rfl⟩:=HL h;refine⟨_,rfl, ?_⟩;have e1:Nat.sub m n=m-n:=rfl;have e:IntKind.i64.wrap ((m:Int)-n)=((Nat.sub m n:Nat):Int):=by
    rw [IntWalk.i64_in _ (by omega)];omega
   simp [binOp,Op.intArith,e]
 case eql=>
  refine⟨_,hb _ _ h, ?_⟩;simp only [binOp,Op.intCmp,ne_eq,not_true_eq_false,if_false,Sem.run_pure];congr 2;by_cases hmn:m=n
  .subst hmn;simp
  .rw [sS hmn];simp;omega
 case neq=>
  refine⟨_,hb _ _ h, ?_⟩;simp only [binOp,Op.intCmp,ne_eq,not_true_eq_false,if_false,Sem.run_pure];congr 2;by_cases hmn:m=n
  .subst hmn;simp
  .rw [sS hmn];simp [bne];omega
 case lss=>
  refine⟨_,hb _ _ h, ?_⟩;simp only [binOp,Op.intCmp,ne_eq,not_true_eq_false,if_false,Sem.run_pure];congr 2;by_cases hmn:m<n
  .rw [fo hmn];simpa using hmn
  .rw [show Nat.ble (Nat.succ m) n=false from Bool.eq_false_iff.2 fun hh=>hmn (bR hh)];simpa using hmn
 case leq=>
  refine⟨_,hb _ _ h, ?_⟩;simp only [binOp,Op.intCmp,ne_eq,not_true_eq_false,if_false,Sem.run_pure];congr 2;by_cases hmn:m<=n
  .rw [fo hmn];simpa using hmn
  .rw [show Nat.ble m n=false from Bool.eq_false_iff.2 fun hh=>hmn (bR hh)];simpa using hmn
 case gtr=>
  refine⟨_,hb _ _ h, ?_⟩;simp only [binOp,Op.intCmp,ne_eq,not_true_eq_false,if_false,Sem.run_pure];congr 2;by_cases hmn:n<m
  .rw [fo hmn];simpa using hmn
  .rw [show Nat.ble (Nat.succ n) m=false from Bool.eq_false_iff.2 fun hh=>hmn (bR hh)];simpa using hmn
 case geq=>
  refine⟨_,hb _ _ h, ?_⟩;simp only [binOp,Op.intCmp,ne_eq,not_true_eq_false,if_false,Sem.run_pure];congr 2;by_cases hmn:n<=m
  .rw [fo hmn];simpa using hmn
  .rw [show Nat.ble n m=false from Bool.eq_false_iff.2 fun hh=>hmn (bR hh)];simpa using hmn
 all_goals (exact absurd (show(none:Option aa)=some v from h) (by simp))
theorem XK {op:BinOp} {k:IntKind} {a b:Int} {v:Value} (h:sG P op k a b=some v) (t:TypeId) (w:World):(binOp op t (.int k a) (.int k b)).run P w= .ok v w:=by
 unfold sG at h;cases op<;>first
  |(have:=nL _ w h;simpa [binOp]using this)
  |cases h
theorem XL {t:TypeId} {x y:aa} {b:Bool} (h:Hh P t x y=some b):∃i off off' el n,x= .ptr i off/\y= .ptr i off'/\P.underlying t=some (.pointer el)/\cp P el=some (n+1)/\b=Nat.beq off off':=by
 unfold Hh at h;split at h
 .rename_i i off j off';split at h
  .rename_i el hu;split at h
   .rename_i n hn;cases hij:Nat.beq i j with
    |false=>rw [hij]at h;cases h
    |true=>
     rw [hij]at h;cases h;have:=ac hij;subst this;exact⟨i,off,off',el,n,rfl,rfl,hu,hn,rfl⟩
   .cases h
  .cases h
 .cases h
theorem XM (b off off':Nat):((⟨b,off,none⟩:Addr)==⟨b,off',none⟩)=Nat.beq off off':=by
 by_cases h:off=off'
 .subst h;rw [beq_self_eq_true];exact(Nat.beq_refl off).symm
 .rw [sS h];exact beq_false_of_ne fun hh=>h (by cases hh;rfl)
theorem XN {t el:TypeId} {n:Nat} (hu:P.underlying t=some (.pointer el)) (hs:cp P el=some (n+1)) (b off off':Nat) (w:World) (d:Nat):
  (Op.equalIn (d+1) t (.pointer (some ⟨b,off,none⟩)) (.pointer (some ⟨b,off',none⟩))).run P w= .ok (Nat.beq off off') w:=by
 simp only [Op.equalIn,Sem.run_bind,bi hu,Result.andThen_ok,jF hs];rw [if_pos (by omega)];unfold sameAddr;simp only [beq_self_eq_true,if_true,XM];rfl
theorem XO {t el:TypeId} {n:Nat} (hu:P.underlying t=some (.pointer el)) (hs:cp P el=some (n+1)) (b off off':Nat) (w:World):
  (Op.equal t (.pointer (some ⟨b,off,none⟩)) (.pointer (some ⟨b,off',none⟩))).run P w= .ok (Nat.beq off off') w:=XN hu hs b off off' w 9999
theorem XP {t:TypeId} {i off:Nat} (h:lU P t (.ptr i off)=true):∃el,P.underlying t=some (.pointer el):=by
 simp only [lU]at h;split at h
 .exact⟨_, ‹_›⟩
 .cases h
theorem XQ {t:TypeId} {i off len:Nat} {cap:aS} (h:lU P t (.slice i off len cap)=true):∃el,P.underlying t=some (.slice el):=by
 simp only [lU]at h;split at h
 .exact⟨_, ‹_›⟩
 .cases h
theorem XR {t:TypeId} {f:Fn} {a b:List aa} (h:lU P t (.func f a b)=true):∃x y z,P.underlying t=some (.func x y z):=by
 simp only [lU]at h;split at h
 .exact⟨_,_,_, ‹_›⟩
 .cases h
theorem XS {t u:TypeId} {v:aa} (h:lU P t (.iface u v)=true):∃ms,P.underlying t=some (.interface ms):=by
 simp only [lU]at h;split at h
 .exact⟨_, ‹_›⟩
 .cases h
theorem XT {t:TypeId} {i:Nat} (h:lU P t (.map i)=true):∃k v,P.underlying t=some (.map k v):=by
 simp only [lU]at h;split at h
 .exact⟨_,_, ‹_›⟩
 .cases h
def Value.gh:Value->Bool
 | .pointer _| .slice .. | .func .. | .nilFunc| .iface .. | .map _=>true
 |_=>false
theorem XU {t:TypeId} {a b:Value} (h:Value.gh a=true\/Value.gh b=true):binOp .eql t a b=(do pure (.bool (<-Op.equal t a b))):=by
 cases a<;>first |rfl |(cases b<;>first |rfl |(rcases h with h|h<;>cases h))
theorem XV {t:TypeId} {a b:Value} (h:Value.gh a=true\/Value.gh b=true):binOp .neq t a b=(do pure (.bool (!(<-Op.equal t a b)))):=by
 cases a<;>first |rfl |(cases b<;>first |rfl |(rcases h with h|h<;>cases h))
theorem OI {t:TypeId} {x y:aa} (hf:lU P t x=true) (hk:sameKind x y=true) {a b:Value} (ha:Den ρ x a) (hb:Den ρ y b) (w:World) (d:Nat):
  (Op.equalIn (d+1) t a b).run P w= .ok false w/\(Op.equalIn (d+1) t b a).run P w= .ok false w/\Value.gh a=true/\a≠ .nilIface:=by
 unfold sameKind at hk;split at hk
 .obtain⟨el,hu⟩:=XP hf;obtain⟨b',c,_,rfl⟩:=ha.kz;have:=hb.b7;subst this;simp [Op.equalIn,bi hu,Value.gh]
 .obtain⟨el,hu⟩:=XQ hf;obtain⟨b',c,k,_,_,_,rfl⟩:=ha.gY;have:=hb.b7;subst this;simp [Op.equalIn,bi hu,Value.gh]
 .obtain⟨_,_,_,hu⟩:=XR hf;obtain⟨xs,ys,_,_,rfl⟩:=ha.Bt;have:=hb.b7;subst this;simp [Op.equalIn,bi hu,Value.gh]
 .obtain⟨_,hu⟩:=XS hf;obtain⟨y,_,rfl⟩:=ha.On;have:=hb.b7;subst this;simp [Op.equalIn,bi hu,Value.gh]
 .obtain⟨_,_,hu⟩:=XT hf;obtain⟨b',c,_,rfl⟩:=ha.uJ;have:=hb.b7;subst this;simp [Op.equalIn,bi hu,Value.gh]
 .cases hk
theorem OJ {v:aa} {p:Int×Int} (h:DB v=some p) {z:Value} (hz:Den ρ v z):z= .agg #[.int .i64 p.1, .int .i64 p.2]:=by
 unfold DB at h;split at h
 .cases h;obtain⟨xs,h1,rfl⟩:=hz.sO;cases h1 with
  |cons h1 h2=>
   cases h2 with
   |cons h2 h3=>
    cases h3;rw [h1.b7,h2.b7]
 .cases h
theorem OK {t:TypeId} {x y:aa} {b:Bool} (h:wl P t x y=some b) {jH kB:Value} (hx:Den ρ x jH) (hy:Den ρ y kB) (w:World) (d:Nat):P.plainKey t=true/\(Op.equalIn (d+1) t jH kB).run P w= .ok b w:=by
 unfold wl at h;split at h
 .split at h
  .rename_i hu;cases hc:P.plainKey t with
   |false=>rw [hc]at h;cases h
   |true=>rw [hc]at h;cases h;rw [hx.b7,hy.b7];exact⟨rfl,run_equalIn_int w d t .i64 .i64 _ _ hu⟩
  .cases h
 .split at h
  .rename_i hu;cases hc:P.plainKey t with
   |false=>rw [hc]at h;cases h
   |true=>rw [hc]at h;cases h;rw [hx.b7,hy.b7];exact⟨rfl,run_equalIn_string w d t _ _ hu⟩
  .cases h
 .cases h
theorem OL {a b:aa} {z:Value} (h:Den ρ (.agg [a,b]) z):∃x y,z= .agg #[x,y]/\Den ρ a x/\Den ρ b y:=by
 obtain⟨xs,h1,rfl⟩:=h.sO;cases h1 with
 |cons h1 h2=>
  cases h2 with
  |cons h2 h3=>
   cases h3;exact⟨_,_,rfl,h1,h2⟩
theorem XW {t:TypeId} {x y:aa} {b:Bool} (h:Hp P t x y=some b) {jH kB:Value} (hx:Den ρ x jH) (hy:Den ρ y kB) (w:World):
  (∃xs,jH= .agg xs)/\(∃ys,kB= .agg ys)/\P.eqGuardType P.depth t=false/\(Op.equal t jH kB).run P w= .ok b w:=by
 unfold Hp at h;split at h
 .rename_i a1 b1 c1 d1;split at h
  .rename_i fs hu;split at h
   .rename_i f g XX;cases hc:(f.name != "_" &&(g.name != "_" &&(Nat.beq f.offset 0&&(Nat.beq g.offset 1&&(!P.eqGuardType P.depth t&& !P.stoodInHeld t)))))with
    |false=>rw [hc]at h;cases h
    |true=>
     rw [hc]at h;simp only [ae,Bool.not_eq_true',gJ]at hc;obtain⟨n1,n2,o1,o2,e1,e2⟩:=hc;have o1:=ac o1;have o2:=ac o2;simp only [cond_true]at h;split at h
     .rename_i p q hp hq;cases h;obtain⟨x0,x1,rfl,k0,k1⟩:=OL hx;obtain⟨y0,y1,rfl,l0,l1⟩:=OL hy;obtain⟨c3,DK⟩:=OK hp k0 l0 w 9998;obtain⟨c4,DL⟩:=OK hq k1 l1 w 9998;refine⟨⟨_,rfl⟩,⟨_,rfl⟩,e1, ?_⟩;have hfo:P.fieldsOf t=fs:=by unfold Program.fieldsOf;rw [hu]
      have h:=run_equalIn_struct w 9999 t #[x0,x1] #[y0,y1] (by rw [hfo];exact hu) e2;have h2:(Op.equal t (.agg #[x0,x1]) (.agg #[y0,y1])).run P w=_:=h;rw [h2,hfo,XX];have gi:(part f.type #[x0,x1] f.offset).run P w= .ok x0 w:=run_part_plain w c3 (by rw [o1];rfl);have p1:(part g.type #[x0,x1] g.offset).run P w= .ok x1 w:=run_part_plain w c4 (by rw [o2];rfl);have q0:(part f.type #[y0,y1] f.offset).run P w= .ok y0 w:=run_part_plain w c3 (by rw [o1];rfl);have q1:(part g.type #[y0,y1] g.offset).run P w= .ok y1 w:=run_part_plain w c4 (by rw [o2];rfl);cases p<;>cases q<;>simp [Op.eqFields,n1,n2,Sem.run_bind,gi,p1,q0,q1,DK,DL]
     .cases h
   .cases h
  .cases h
 .cases h
theorem XY {t:TypeId} {x y:aa} {b:Bool} (h:Hq P t x y=some b) {jH kB:Value} (hx:Den ρ x jH) (hy:Den ρ y kB) (w:World):
  (∃xs,jH= .agg xs)/\(∃ys,kB= .agg ys)/\P.eqGuardType P.depth t=false/\(Op.equal t jH kB).run P w= .ok b w:=by
 unfold Hq at h;split at h
 .rename_i p q hp hq;split at h
  .rename_i n e hu;split at h
   .rename_i hi;cases hc:(Nat.beq n 2&&(!P.eqGuardType P.depth t&&(P.plainKey e&&(Nat.beq (P.cellsOf e) 1&&(P.info? e).isSome))))with
    |false=>rw [hc]at h;cases h
    |true=>
     rw [hc]at h;cases h;simp only [ae,Bool.not_eq_true']at hc;obtain⟨c1,c2,c3,c4,c5⟩:=hc;have hn:n=2:=ac c1;subst hn;have hc1:=ac c4;obtain⟨i0,sU⟩:=Option.isSome_iff_exists.1 c5;rw [OJ hp hx,OJ hq hy];refine⟨⟨_,rfl⟩,⟨_,rfl⟩,c2, ?_⟩;have h:=run_equalIn_array (w:=w) 9999 #[.int .i64 p.1, .int .i64 p.2] #[.int .i64 q.1, .int .i64 q.2] hu sU;have h2:(Op.equal t (.agg #[.int .i64 p.1, .int .i64 p.2]) (.agg #[.int .i64 q.1, .int .i64 q.2])).run P w=_:=h;rw [h2,hc1];have hr:List.range 2=[0,1]:=rfl;rw [hr];have gi:(part e #[.int .i64 p.1, .int .i64 p.2] (0*1)).run P w= .ok (.int .i64 p.1) w:=run_part_plain w c3 rfl;have p1:(part e #[.int .i64 p.1, .int .i64 p.2] (1*1)).run P w= .ok (.int .i64 p.2) w:=run_part_plain w c3 rfl;have q0:(part e #[.int .i64 q.1, .int .i64 q.2] (0*1)).run P w= .ok (.int .i64 q.1) w:=run_part_plain w c3 rfl;have q1:(part e #[.int .i64 q.1, .int .i64 q.2] (1*1)).run P w= .ok (.int .i64 q.2) w:=run_part_plain w c3 rfl;have DK:(Op.equalIn 9999 e (.int .i64 p.1) (.int .i64 q.1)).run P w= .ok (p.1==q.1) w:=run_equalIn_int w 9998 e .i64 .i64 p.1 q.1 hi;have DL:(Op.equalIn 9999 e (.int .i64 p.2) (.int .i64 q.2)).run P w= .ok (p.2==q.2) w:=run_equalIn_int w 9998 e .i64 .i64 p.2 q.2 hi;cases h1:(p.1==q.1)<;>cases h3:(p.2==q.2)<;>rw [h1]at DK<;>rw [h3]at DL<;>simp [Op.eqItems,Sem.run_bind,gi,p1,q0,q1,DK,DL]
   .cases h
  .cases h
 .cases h
theorem XZ {t:TypeId} {x y:aa} {b:Bool} (h:Hr P t x y=some b) {jH kB:Value} (hx:Den ρ x jH) (hy:Den ρ y kB) (w:World):
  (∃xs,jH= .agg xs)/\(∃ys,kB= .agg ys)/\P.eqGuardType P.depth t=false/\(Op.equal t jH kB).run P w= .ok b w:=by
 unfold Hr at h;split at h
 .rename_i c hs;cases h;exact XW hs hx hy w
 .exact XY h hx hy w
theorem X0 {v:aa} {b:Bool} (h:Hs v=some b) {z:Value} (hz:Den ρ v z):∃a n k,z= .slice a n k/\(b=true->a=none/\n=0/\k=0)/\(b=false->∃q,a=some q):=by
 unfold Hs at h;split at h
 .cases h;cases hz with
  |bk h1 h2 h3 h4 h5 h6=>exact⟨_,_,_,rfl,fun hb=>absurd (List.isEmpty_iff.1 hb) (h6 rfl),fun _=>⟨_,rfl⟩⟩
  |eV h1=>exact⟨_,_,_,rfl,fun _=>⟨(h1 rfl).1,rfl,(h1 rfl).2⟩,fun hb=>by cases hb⟩
 .cases h
theorem X1 {v:aa} (h:DC v=true) {z:Value} (hz:Den ρ v z):z= .slice none 0 0:=by
 unfold DC at h;split at h
 .exact hz.b7
 .cases h
theorem X2 {t:TypeId} {x y:aa} {b:Bool} (h:Ht P t x y=some b) {jH kB:Value} (hx:Den ρ x jH) (hy:Den ρ y kB) (w:World) (d:Nat):
  (Op.equalIn (d+1) t jH kB).run P w= .ok b w/\Value.gh jH=true/\(∃a n k,jH= .slice a n k):=by
 unfold Ht at h;split at h
 .rename_i b' hb;split at h
  .rename_i el hu;cases hn:DC y with
   |false=>rw [hn]at h;cases h
   |true=>
    rw [hn]at h;cases h;have:=X1 hn hy;subst this;obtain⟨a,n,k,rfl,h1,h2⟩:=X0 hb hx;cases b with
    |true=>
     obtain⟨rfl,rfl,rfl⟩:=h1 rfl;refine⟨?_, ?_,_,_,_,rfl⟩
     .simp [Op.equalIn,bi hu]
     .simp [Value.gh]
    |false=>
     obtain⟨q,rfl⟩:=h2 rfl;refine⟨?_, ?_,_,_,_,rfl⟩
     .simp [Op.equalIn,bi hu]
     .simp [Value.gh]
  .cases h
 .cases h
theorem X3 {t ah:TypeId} {x y:Operand} {want:Bool} (ho:o.op= .binOp (if want then .eql else .neq) t x y ah) {xs ys:Array Value} (hx:e x= .agg xs) (hy:e y= .agg ys) (hg:P.eqGuardType P.depth t=false) {b:Bool} (hb:(Op.equal t (.agg xs) (.agg ys)).run P w= .ok b w):
  (execOp e o).run P w= .ok (.value (.bool (b==want))) w:=by
 have hgd:∀op,(eqGuard op t x y (.agg xs) (.agg ys)).run P w= .ok () w:=fun op=>run_eqGuard_agg w op t x y xs ys hg
 cases want
 .have e1:binOp .neq t (.agg xs) (.agg ys)=(do pure (.bool (!(<-Op.equal t (.agg xs) (.agg ys))))):=rfl;have h1:(binOp .neq t (.agg xs) (.agg ys)).run P w= .ok (.bool (!b)) w:=by
   rw [e1];simp only [Sem.run_bind,hb,Result.andThen_ok,Sem.run_pure]
  have ho:o.op= .binOp .neq t x y ah:=ho;simp [execOp,ho,hx,hy,hgd,h1]
 .have e1:binOp .eql t (.agg xs) (.agg ys)=(do pure (.bool (<-Op.equal t (.agg xs) (.agg ys)))):=rfl;have h1:(binOp .eql t (.agg xs) (.agg ys)).run P w= .ok (.bool b) w:=by
   rw [e1];simp only [Sem.run_bind,hb,Result.andThen_ok,Sem.run_pure]
  have ho:o.op= .binOp .eql t x y ah:=ho;simp [execOp,ho,hx,hy,hgd,h1]
theorem OM {t ah:TypeId} {x y:Operand} {want:Bool} (he:∀x,Den ρ (ev x) (e x)) (ho:o.op= .binOp (if want then .eql else .neq) t x y ah) {v:aa} (h:Bh P o ev t want (ev x) (ev y)=some v) (w:World):
  ∃eC z,(execOp e o).run P w= .ok eC w/\sR eC z/\Den ρ v z:=by
 unfold Bh at h;have hx:=he x;have hy:=he y
 -- what == comes to, and both operations out of it
 have main:∀r:Bool,(Op.equal t (e x) (e y)).run P w= .ok r w->(Value.gh (e x)=true\/Value.gh (e y)=true)->(∀cs ds,e x= .agg cs->e y= .agg ds->False)->(e x= .nilIface->e y= .nilIface->False)->v= .raw (.bool (r==want))->
   ∃eC z,(execOp e o).run P w= .ok eC w/\sR eC z/\Den ρ v z:=fun r hr OO h1 h2 hv=>by
  refine⟨.value (.bool (r==want)), .bool (r==want), ?_,rfl,by rw [hv];exact .raw _⟩;refine HK ho rfl rfl h1 h2 ?_;cases want
  .simp only [Bool.false_eq_true,if_false,XV OO,Sem.run_bind,hr,Result.andThen_ok,Sem.run_pure];cases r<;>rfl
  .simp only [if_true,XU OO,Sem.run_bind,hr,Result.andThen_ok,Sem.run_pure];cases r<;>rfl
 split at h
 .rename_i b hb;cases h;obtain⟨g1,g2,a,n,k,g3⟩:=X2 hb hx hy w 9999;exact main b g1 (.inl g2) (fun cs ds hc=>by rw [g3]at hc;cases hc) (fun hc=>by rw [g3]at hc;cases hc) rfl
 split at h
 .rename_i b hb;cases h;obtain⟨⟨xs,q1⟩,⟨ys,aO⟩,bZ,ei⟩:=XZ hb hx hy w;rw [q1,aO]at ei;exact⟨_,_,X3 ho q1 aO bZ ei,rfl, .raw _⟩
 split at h
 .rename_i b hb;obtain⟨i,off,off',el,n,h1,h2,h3,h4,h5⟩:=XL hb;rw [h1]at hx;rw [h2]at hy;obtain⟨bb,c,g1,g2⟩:=hx.kz;obtain⟨aqp,c',g3,g4⟩:=hy.kz;rw [g1]at g3;cases g3;cases h;refine main b ?_ (.inl (by rw [g2];rfl)) (fun cs ds hc=>by rw [g2]at hc;cases hc) (fun hc=>by rw [g2]at hc;cases hc) rfl;rw [g2,g4,h5];exact XO h3 h4 bb off off' w
 .cases hf:lU P t (ev x)&&sameKind (ev x) (ev y)with
  |true=>
   rw [hf]at h;cases h;rw [ae]at hf;obtain⟨g1,g2,g3,g4⟩:=OI hf.1 hf.2 hx hy w 9999;exact main false g1 (.inl g3) (fun cs ds hc=>by rw [hc]at g3;cases g3) (fun hc=>(g4 hc).elim) (by cases want<;>rfl)
  |false=>
   rw [hf]at h;cases Bz:lU P t (ev y)&&sameKind (ev y) (ev x)with
   |true=>
    rw [Bz]at h;cases h;rw [ae]at Bz;obtain⟨g1,g2,g3,g4⟩:=OI Bz.1 Bz.2 hy hx w 9999;exact main false g2 (.inr g3) (fun cs ds _ hc=>by rw [hc]at g3;cases g3) (fun _ hc=>(g4 hc).elim) (by cases want<;>rfl)
   |false=>
    rw [Bz]at h;exact kp he (by rw [ho];rfl) h w
theorem wX {op:BinOp} {k k':IntKind} {a b:Int} {v:aa} (h:ji op k k' a b=some v):∃m n:Nat,k= .i64/\k'= .i64/\a=m/\b=n/\yY op m n=some v:=by
 unfold ji at h;cases ha:uF a with
 |no=>rw [ha]at h;cases h
 |mk m=>
  rw [ha]at h;cases hb:uF b with
  |no=>rw [hb]at h;cases h
  |mk n=>
   rw [hb]at h;cases h1:Bi k with
   |false=>rw [h1]at h;cases h
   |true=>
    rw [h1]at h;cases h2:Bi k' with
    |false=>rw [h2]at h;cases h
    |true=>
     rw [h2]at h;exact⟨m,n,OH h1,OH h2,wx ha,wx hb,h⟩
theorem X4 (hH:aX P B ρ H w) (he:∀x,Den ρ (ev x) (e x)) {op:BinOp} {t ah:TypeId} {x y:Operand} (ho:o.op= .binOp op t x y ah):cN P B ρ H w ((execOp e o).run P w) (iM op t x y ah P o ev H):=by
 have hp:pS o.op=true:=by rw [ho];rfl
 unfold iM;cases hx:iA (ev x)with
 |no=>
  refine l5 hH fun v hv=> ?_
  unfold wM at hv;split at hv
  .exact OM (want:=true) he ho hv w
  .exact OM (want:=false) he ho hv w
  .exact kp he hp hv w
 |int k a=>
  cases hy:iA (ev y)with
  |no=>exact f8 hH he hp
  |int k' b=>
   have ex:e x= .int k a:=by have:=he x;rw [zc hx]at this;exact this.b7
   have ze:e y= .int k' b:=by have:=he y;rw [zc hy]at this;exact this.b7
   cases hf:ji op k k' a b with
   |some v=>
    obtain⟨m,n,rfl,rfl,rfl,rfl,h5⟩:=wX hf;obtain⟨z,rfl,hz⟩:=XJ h5 t w;simp only [hf];exact fH hH (HK ho ex ze (fun _ _ hc=>by cases hc) (fun hc=>by cases hc) hz) (.raw z)
   |none=>
    simp only [hf];refine l5 hH fun v hv=> ?_
    unfold oy at hv;cases hk:k==k' with
    |false=>rw [hk]at hv;exact kp he hp hv w
    |true=>
     rw [hk]at hv;have hkk:k=k':=by simpa using hk
     subst hkk;simp only [cond_true]at hv;split at hv
     .rename_i z hz;cases hv;exact⟨.value z,z,HK ho ex ze (fun _ _ hc=>by cases hc) (fun hc=>by cases hc) (XK hz t w),rfl, .raw z⟩
     .exact kp he hp hv w
end
end Go.Proofs.YtibikmmdbdlafaaGreatDoor.Sv
/- The runner over an abstract memory: slicing, structs and arrays built. -/
namespace Go.Proofs.YtibikmmdbdlafaaGreatDoor.Sv
open Go.RowKit
section
variable {P:Program} {B:Nat} {ρ:Env} {H:ai} {w:World} {o:Oper} {ev:dH} {e:Operand->Value}
theorem k9 {r:Result Next} {v:aa} {y:Value} (h:r= .ok (.value y) w) (hd:Den ρ v y):∃eC z,r= .ok eC w/\sR eC z/\Den ρ v z:=⟨.value y,y,h,rfl,hd⟩
theorem wY {he:∀x,Den ρ (ev x) (e x)} {q:Option Operand} {d n:Nat} (h:lV (q.map ev) d=some n):(q=none/\n=d)\/∃k,q.map e=some (.int k n):=by
 cases q with
 |none=>left;simp [lV]at h;exact⟨rfl,h.symm⟩
 |some x=>
  right;obtain⟨k,hk⟩:=By (v:=ev x) h;have:=he x;rw [hk]at this;exact⟨k,by simp [this.b7]⟩
theorem X5 {k:IntKind} {i y:Nat} (h:i<=y) (code:BoundsCode) (w:World):(Instr.sliceBound (.int k i) y code).run P w= .ok i w:=by
 have:=run_sliceBound (P:=P) (w:=w) k (i:Int) y code (by omega) (by omega);simpa using this
theorem DM (OP:Bool) {len cap l h m:Nat} {lo hi mx:Option Value} (hl:(lo=none/\l=0)\/∃k,lo=some (.int k l)) (hh:(hi=none/\h=len)\/∃k,hi=some (.int k h))
  (hm:(mx=none/\m=cap)\/∃k,mx=some (.int k m)) (hx:mx=none\/hi≠none) (h1:l<=h) (h2:h<=m) (h3:m<=cap) (w:World):(Instr.sliceBounds OP len cap lo hi mx).run P w= .ok (l,h,m) w:=by
 rcases hl with⟨rfl,rfl⟩|⟨kl,rfl⟩<;>rcases hh with⟨rfl,rfl⟩|⟨kh,rfl⟩<;>rcases hm with⟨rfl,rfl⟩|⟨km,rfl⟩<;>
  first
   |(simp [Instr.sliceBounds,X5,h1,h2,h3];done)
   |(rcases hx with hx|hx<;>first |cases hx|exact absurd rfl hx)
theorem au.X6 {t:au} (xs:List t.den) (h:Nat) (hh:h<=xs.length):t.flat (xs.take h)=(t.flat xs).take (h*t.size):=by
 have e:(t.flat xs).take (h*t.size)=(t.flat (xs.take h)++t.flat (xs.drop h)).take (h*t.size):=by rw [<-au.Bv,List.take_append_drop]
 have hl:(t.flat (xs.take h)).length=h*t.size:=by rw [t.iP,dK,Nat.min_eq_left hh]
 rw [e,List.take_append,ef (Nat.le_of_eq hl),hl,Nat.sub_self];simp
theorem au.X7 {t:au} (xs:List t.den) (h:Nat) (hh:h<=xs.length):t.flat (xs.drop h)=(t.flat xs).drop (h*t.size):=by
 have e:(t.flat xs).drop (h*t.size)=(t.flat (xs.take h)++t.flat (xs.drop h)).drop (h*t.size):=by rw [<-au.Bv,List.take_append_drop]
 have hl:(t.flat (xs.take h)).length=h*t.size:=by rw [t.iP,dK,Nat.min_eq_left hh]
 rw [e,List.drop_append,List.drop_eq_nil_of_le (Nat.le_of_eq hl),hl,Nat.sub_self];simp
theorem au.X8 {t:au} (xs:List t.den) (l h:Nat) (h1:l<=h) (h2:h<=xs.length):t.flat ((xs.take h).drop l)=((t.flat xs).take (h*t.size)).drop (l*t.size):=by
 rw [au.X7 _ _ (by rw [dK];omega),au.X6 _ _ h2]
theorem BA {ρ:Env} {t:au} {xs:List t.den} {A:List Value} {off l h:Nat} (hd:aF ρ (t.flat xs) ((A.drop off).take (t.flat xs).length)) (h1:l<=h) (h2:h<=xs.length):
  aF ρ (t.flat ((xs.take h).drop l)) ((A.drop (off+l*t.size)).take (t.flat ((xs.take h).drop l)).length):=by
 have e1:(t.flat ((xs.take h).drop l)).length=h*t.size-l*t.size:=by
  rw [t.iP,mQ,dK,Nat.min_eq_left h2,Nat.sub_mul]
 have hle:h*t.size<=xs.length*t.size:=Nat.mul_le_mul_right _ h2;have:=(hd.take (h*t.size)).drop (l*t.size);rw [e1,au.X8 xs l h h1 h2];have e2:(((A.drop off).take (t.flat xs).length).take (h*t.size)).drop (l*t.size)=(A.drop (off+l*t.size)).take (h*t.size-l*t.size):=by
  rw [List.take_take,Nat.min_eq_left (by rw [t.iP];exact hle),List.drop_take,List.drop_drop]
 rwa [e2]at this
theorem DN {t el:TypeId} {x:Operand} {lo hi mx:Option Operand} (he:∀x,Den ρ (ev x) (e x)) (ho:o.op= .slice t x lo hi mx) (hu:P.underlying t=some (.slice el)) {len kk l h s:Nat} {a:Option Addr}
  (hx:e x= .slice a len kk) (hmx:mx=none) (hs:cp P el=some s) (hh:lV (hi.map ev) len=some h) (hl:lV (lo.map ev) 0=some l) (h1:l<=h) (h2:h<=kk):
  (execOp e o).run P w= .ok (.value (.slice (if kk=l then a else a.map (·.add (l*s))) (h-l) (kk-l))) w:=by
 have zf:=wY (he:=he) hh;have hl':=wY (he:=he) hl;subst hmx;have hr:=DM (P:=P) true (len:=len) (cap:=kk) (lo:=lo.map e) (hi:=hi.map e) (mx:=none) (l:=l) (h:=h) (m:=kk)
  (by rcases hl' with⟨rfl,h⟩|h; ·exact .inl ⟨rfl,h⟩
      .exact .inr h) (by rcases zf with⟨rfl,h⟩|h; ·exact .inl ⟨rfl,h⟩
                         .exact .inr h) (.inl ⟨rfl,rfl⟩) (.inl rfl) h1 h2 (aE _) w
 simp only [execOp,ho,Instr.sliceAt,Sem.run_bind,bi hu,Result.andThen_ok,hx,Instr.slice,Option.map_none,hr,jF hs,Sem.run_pure]
theorem OQ {el:TypeId} {s n:Nat} {lo hi mx:Option aa} {k:Nat->Nat->aa} {v:aa} (h:yU P el s n lo hi mx k=some v):cp P el=some s/\∃h l,lV hi n=some h/\lV lo 0=some l/\mx=none/\l<=h/\h<=n/\v=k l h:=by
 unfold yU at h;simp only [dG]at h;obtain⟨s',hs,h',hh,l,hl,h⟩:=h;cases hb:(mx.isNone&&Nat.beq s s'&&Nat.ble l h'&&Nat.ble h' n)with
 |false=>rw [hb]at h;cases h
 |true=>
  rw [hb]at h;cases h;simp only [ae]at hb;obtain⟨⟨⟨b1,b2⟩,b3⟩,b4⟩:=hb;have b2:=ac b2;subst b2;exact⟨hs,h',l,hh,hl,by simpa using b1,bR b3,bR b4,rfl⟩
theorem X9 (hH:aX P B ρ H w) (he:∀x,Den ρ (ev x) (e x)) {t:TypeId} {x:Operand} {lo hi mx:Option Operand} (ho:o.op= .slice t x lo hi mx):cN P B ρ H w ((execOp e o).run P w) (oz t x lo hi mx P o ev H):=by
 refine l5 hH fun v hv=> ?_
 have hx:=he x;unfold Bl at hv;split at hv
 .exact kp he (by rw [ho];rfl) hv w
 .rename_i x' aqq;unfold Be at hv;split at hv
  .rename_i n el i off hu fV;rw [fV]at hx;obtain⟨b,c,g1,g2⟩:=hx.kz;simp only [dG]at hv;obtain⟨s,hs,m,hm,h,hh,l,hl,hv⟩:=hv;cases hb:(Nat.ble l h&&Nat.ble h m&&Nat.ble m n&&((mx.map ev).isNone||(hi.map ev).isSome))with
   |false=>rw [hb]at hv;cases hv
   |true=>
    rw [hb]at hv;simp only [ae,Bool.or_eq_true]at hb;obtain⟨⟨⟨b1,b2⟩,b3⟩,b4⟩:=hb;have b1:=bR b1;have b2:=bR b2;have b3:=bR b3;cases hv;have nM:mx.map e=none\/hi.map e≠none:=by
     rcases b4 with b4|b4
     .left;cases mx<;>simp_all
     .right;cases hi<;>simp_all
    have hm':=wY (he:=he) hm;have zf:=wY (he:=he) hh;have hl':=wY (he:=he) hl;have hr:=DM (P:=P) false (len:=n) (cap:=n) (lo:=lo.map e) (hi:=hi.map e) (mx:=mx.map e) (l:=l) (h:=h) (m:=m)
     (by rcases hl' with⟨rfl,h⟩|h; ·exact .inl ⟨rfl,h⟩
         .exact .inr h) (by rcases zf with⟨rfl,h⟩|h; ·exact .inl ⟨rfl,h⟩
                            .exact .inr h) (by rcases hm' with⟨rfl,h⟩|h; ·exact .inl ⟨rfl,h⟩
                                               .exact .inr h) nM b1 b2 b3 w
    have ld:Den ρ (aa.slice i (cond (Nat.beq m l) off (off+l*s)) (h-l) (.known (m-l))) (.slice (some ⟨b,cond (Nat.beq m l) off (off+l*s),none⟩) (h-l) (m-l)):= .slice g1 rfl (by omega);refine k9 ?_ ld;simp only [execOp,ho,Instr.sliceAt,Sem.run_bind,bi hu,Result.andThen_ok,g2,Instr.sureAddr,Sem.run_pure,hr,jF hs];congr 4;by_cases hml:m=l
    .subst hml;simp
    .rw [sS hml,if_neg hml,jG];rfl
  .rename_i el i off len cap hu fV;rw [fV]at hx;obtain⟨b,c,kk,g1,gc,gl,g2⟩:=hx.gY;simp only [dG]at hv;obtain⟨s,hs,h,hh,l,hl,hv⟩:=hv;have zf:=wY (he:=he) hh;have hl':=wY (he:=he) hl;have main:∀(off':Nat) (cap':aS),mx=none->l<=h->h<=kk->v= .slice i off' (h-l) cap'->y9 cap' c (kk-l)->(if kk=l then off=off' else off+l*s=off')->∃eC z,(execOp e o).run P w= .ok eC w/\sR eC z/\Den ρ v z:=by
    intro off' cap' hmx h1 h2 Ya hc hoff;subst hmx;subst Ya;have hr:=DM (P:=P) true (len:=len) (cap:=kk) (lo:=lo.map e) (hi:=hi.map e) (mx:=none) (l:=l) (h:=h) (m:=kk)
     (by rcases hl' with⟨rfl,h⟩|h; ·exact .inl ⟨rfl,h⟩
         .exact .inr h) (by rcases zf with⟨rfl,h⟩|h; ·exact .inl ⟨rfl,h⟩
                            .exact .inr h) (.inl ⟨rfl,rfl⟩) (.inl rfl) h1 h2 (aE _) w
    refine k9 ?_ (.slice (off:=off') g1 hc (show h-l<=kk-l by omega));simp only [execOp,ho,Instr.sliceAt,Sem.run_bind,bi hu,Result.andThen_ok,g2,Instr.slice,Option.map_none,hr,jF hs,Sem.run_pure];congr 3;by_cases pT:kk=l
    .rw [if_pos pT]at hoff ⊢;rw [hoff]
    .rw [if_neg pT]at hoff ⊢;simp [jG,hoff]
   have other:mx=none->((cond (Nat.ble l h&&Nat.ble h len) (cond (Nat.beq l 0) (some (aa.slice i off h cap)) (cond (Nat.ble (l+1) len) (some (aa.slice i (off+l*s) (h-l) .any)) none)) none)=some v)->∃eC z,(execOp e o).run P w= .ok eC w/\sR eC z/\Den ρ v z:=by
    intro uN hv;cases hb:(Nat.ble l h&&Nat.ble h len)with
    |false=>rw [hb]at hv;cases hv
    |true=>
     rw [hb]at hv;rw [ae]at hb;have b1:=bR hb.1;have b2:=bR hb.2;simp only [cond_true]at hv;cases hz:Nat.beq l 0 with
     |true=>
      have oI:=ac hz;rw [hz]at hv;subst oI;cases hv;exact main off cap uN b1 (by omega) rfl gc (by simp)
     |false=>
      rw [hz]at hv;simp only [cond_false]at hv;cases hq:Nat.ble (l+1) len with
      |false=>rw [hq]at hv;cases hv
      |true=>
       rw [hq]at hv;have hq:=bR hq;cases hv;refine main _ .any uN b1 (by omega) rfl trivial ?_;rw [if_neg (by omega)]
   cases mx with
   |some DO=>
    simp only [Option.map_some,dG]at hv;obtain⟨m,hm,hv⟩:=hv;obtain⟨km,hkm⟩:=By (v:=ev DO) hm;have OS:=he DO;rw [hkm]at OS;cases hb:(Nat.ble l h&&Nat.ble h m&&Nat.ble m (Ob cap len)&&(hi.map ev).isSome)with
    |false=>rw [hb]at hv;cases hv
    |true=>
     rw [hb]at hv;simp only [ae]at hb;obtain⟨⟨⟨b1,b2⟩,b3⟩,b4⟩:=hb;have b1:=bR b1;have b2:=bR b2;have b3:=bR b3;have b3:m<=kk:=by
      cases cap with
      |known n0=>
       have hkk:kk=n0:=gc;subst hkk;exact b3
      |full=>exact cX b3 gl
      |any=>exact cX b3 gl
     cases hv;have nM:(some DO).map e=none\/hi.map e≠none:=by right;cases hi<;>simp_all
     have hr:=DM (P:=P) true (len:=len) (cap:=kk) (lo:=lo.map e) (hi:=hi.map e) (mx:=(some DO).map e) (l:=l) (h:=h) (m:=m)
      (by rcases hl' with⟨rfl,h⟩|h; ·exact .inl ⟨rfl,h⟩
          .exact .inr h) (by rcases zf with⟨rfl,h⟩|h; ·exact .inl ⟨rfl,h⟩
                             .exact .inr h) (.inr ⟨km,by simp [OS.b7]⟩) nM b1 b2 b3 w
     refine k9 ?_ (.slice (off:=cond (Nat.beq m l) off (off+l*s)) g1 rfl (show h-l<=m-l by omega));simp only [execOp,ho,Instr.sliceAt,Sem.run_bind,bi hu,Result.andThen_ok,g2,Instr.slice,hr,jF hs,Sem.run_pure];congr 3;by_cases pT:m=l
     .subst pT;simp
     .rw [if_neg pT,sS pT];simp [jG]
   |none=>
    cases cap with
    |known n0=>
     have hkk:kk=n0:=gc;subst hkk;simp only [Option.map_none]at hv;cases hb:(Nat.ble l h&&Nat.ble h kk)with
     |false=>rw [hb]at hv;cases hv
     |true=>
      rw [hb]at hv;rw [ae]at hb;have b1:=bR hb.1;have b2:=bR hb.2;cases hv;refine main _ _ rfl b1 b2 rfl rfl ?_;by_cases pT:kk=l
      .subst pT;simp
      .rw [if_neg pT,sS pT];rfl
    |full=>exact other rfl hv
    |any=>exact other rfl hv
  .rename_i el z u xs hu fV;rw [fV]at hx;obtain⟨hs,h,l,hh,hl,hmx,b1,b2,rfl⟩:=OQ hv;have uN:mx=none:=by cases mx<;>simp_all
   rcases hx.sQ with⟨rfl,a,k,nM,_⟩|⟨b,off,k,A,g1,g2,g3,g4,nM,_⟩
   .have hl0:l=0:=by simp at b2;omega
    have hh0:h=0:=by simp at b2;omega
    subst hl0;subst hh0;exact k9 (DN he ho hu nM uN hs hh hl b1 (by simp)) (.eV fun e=>by cases e)
   .have hr:=DN (w:=w) he ho hu nM uN hs hh hl b1 (cX b2 g4);cases hlt:Nat.ble (l+1) h with
    |true=>
     have hlt:=bR hlt;rw [if_neg (show¬k=l by omega)]at hr;refine k9 hr ?_;simp only [Option.map_some,jG,cond_true];have hn:((xs.take h).drop l).length=h-l:=by simp;omega
     rw [<-hn];refine .bk g1 ?_ rfl (BA g3 b1 b2) (by rw [hn];omega) (fun e=>by cases e);rw [u.iP,hn];rw [u.iP]at g2;have:(h-l)*u.size+l*u.size<=xs.length*u.size:=by rw [<-Nat.add_mul];exact Nat.mul_le_mul_right _ (by omega)
     omega
    |false=>
     have:¬l+1<=h:=fun hh=>by rw [fo hh]at hlt;cases hlt
     obtain rfl:l=h:=by omega
     refine k9 hr ?_;rw [Nat.sub_self];exact .eV fun e=>by cases e
  .rename_i el e' u i k0 len cap hu fV;rw [fV]at hx;obtain⟨hs,h,l,hh,hl,hmx,b1,b2,rfl⟩:=OQ hv;have uN:mx=none:=by cases mx<;>simp_all
   rcases hx.jl with⟨rfl,a,nM⟩|⟨b,c,kc,g1,g2,g3,nM⟩
   .have hl0:l=0:=by omega
    have hh0:h=0:=by omega
    subst hl0;subst hh0;refine k9 (DN he ho hu nM uN hs hh hl b1 (by simp)) ?_;exact .pR
   .have hr:=DN (w:=w) he ho hu nM uN hs hh hl b1 (cX b2 g3);cases h0:Nat.beq l 0 with
    |true=>
     have h0:=ac h0;subst h0;refine k9 hr ?_;simp only [cond_true,Nat.sub_zero,Nat.zero_mul,Option.map_some,jG,Nat.add_zero,ite_self];exact .bN g1 g2 (by omega)
    |false=>
     cases hlt:Nat.ble (l+1) h with
     |true=>
      have hlt:=bR hlt;rw [if_neg (show¬kc=l by omega)]at hr;refine k9 hr ?_;simp only [Option.map_some,jG,cond_true,cond_false];rw [<-Nat.add_mul];exact .bN g1 trivial (by omega)
     |false=>
      have:¬l+1<=h:=fun hh=>by rw [fo hh]at hlt;cases hlt
      obtain rfl:l=h:=by omega
      refine k9 hr ?_;rw [Nat.sub_self];exact .eV fun e=>by cases e
  .cases hv
end
end Go.Proofs.YtibikmmdbdlafaaGreatDoor.Sv
