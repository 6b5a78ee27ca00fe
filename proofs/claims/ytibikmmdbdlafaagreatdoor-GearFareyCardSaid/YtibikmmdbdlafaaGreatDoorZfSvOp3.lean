import Derived.Test.YtibikmmdbdlafaaGreatDoorZfSvTy
import Derived.IntWalk
import Derived.ChangeKeysEq
import Derived.Laws.Slices
set_option linter.defProp false
set_option linter.unusedSimpArgs false
namespace Go.Proofs.YtibikmmdbdlafaaGreatDoor.Sv
open Go.RowKit
def tG:Next->Value->Prop
 | .value v,x=>x=v
 | .skip,x=>x=undef
 |_,_=>False
def cN (P:Program) (B:Nat) (ρ:Env) (H:ai) (w:World) (r:Result Next):aM->Prop
 | .no=>True
 | .ok v H'=>Fr ρ H.next H'.next->∃ρ' x w' eH,r= .ok eH w'/\tG eH x/\Den ρ' v x/\bh P B ρ' H' w'/\bS ρ H w ρ' H' w'
 | .enter f args H'=>H'=H/\∃xs:List Value,r= .ok (.enter f xs.toArray) w/\aH ρ args xs
 | .round i args H'=>H'=H/\∃(b c:Nat) (xs:List Value),ρ i=some (b,c)/\r=(Instr.yield b xs.toArray).run P w/\aH ρ args xs
def nV {P:Program} {α:Type}:∀(s:Sem α) {a:α} (w:World),dm P s=some a->s.run P w= .ok a w
 | .pure a,_,w,h=>by simp [dm]at h;subst h;rfl
 | .program k,_,w,h=>by
   have:=nV (k P) w (by simpa [dm]using h);simpa [Sem.run]using this
 | .mark m k,_,w,h=>by
   have:=nV k w (by simpa [dm]using h);simpa [Sem.run]using this
 | .load ..,_,_,h=>by simp [dm]at h
 | .store ..,_,_,h=>by simp [dm]at h
 | .new ..,_,_,h=>by simp [dm]at h
 | .shape ..,_,_,h=>by simp [dm]at h
 | .freeze ..,_,_,h=>by simp [dm]at h
 | .frozen ..,_,_,h=>by simp [dm]at h
 | .getObj ..,_,_,h=>by simp [dm]at h
 | .setObj ..,_,_,h=>by simp [dm]at h
 | .choose ..,_,_,h=>by simp [dm]at h
 | .sys ..,_,_,h=>by simp [dm]at h
 | .halt ..,_,_,h=>by simp [dm]at h
section
variable {P:Program} {B:Nat} {ρ:Env} {H:ai} {w:World} {r:Result Next}
def l8 (hH:bh P B ρ H w) {x:Option af} (h:∀v,x=some v->∃eH y,r= .ok eH w/\tG eH y/\Den ρ v y):cN P B ρ H w r (ag H x):=by
 cases x with
 |none=>trivial
 |some v=>
  obtain⟨eH,y,h1,h2,h3⟩:=h v rfl;exact fun _=>⟨ρ,y,w,eH,h1,h2,h3,hH,bS.refl _ _ _⟩
def fQ (hH:bh P B ρ H w) {v:af} {y:Value} (h:r= .ok (.value y) w) (hd:Den ρ v y):cN P B ρ H w r (.ok v H):=
 fun _=>⟨ρ,y,w, .value y,h,rfl,hd,hH,bS.refl _ _ _⟩
def B9 {v:af} {i off:Nat} (h:iH v= .mk i off):v= .ptr i off:=by
 cases v<;>first |(cases h;rfl)|(simp [iH]at h)
def ZE {v:af} {i off len:Nat} {cap:aZ} (h:xd v= .mk i off len cap):v= .slice i off len cap:=by
 cases v<;>first |(cases h;rfl)|(simp [xd]at h)
def wp {v:af} {cs:List af} (h:rD v=some cs):v= .agg cs:=by
 cases v<;>first |(cases h;rfl)|(simp [rD]at h)
def ZF {v:af} {cs:List af} (h:zl v=some cs):v= .tuple cs:=by
 cases v<;>first |(cases h;rfl)|(simp [zl]at h)
def ZG {v:Value} {b:Bool} (h:IP v= .mk b):v= .bool b:=by
 cases v<;>first |(cases h;rfl)|(simp [IP]at h)
def EG {v:af} {b:Bool} (h:gI v= .mk b):v= .raw (.bool b):=by
 cases v<;>first |(rw [ZG h])|(simp [gI]at h)
def ZH {v:Value} {k:IntKind} {n:Int} (h:IM v= .int k n):v= .int k n:=by
 cases v<;>first |(cases h;rfl)|(simp [IM]at h)
def zK {v:af} {k:IntKind} {n:Int} (h:iG v= .int k n):v= .raw (.int k n):=by
 cases v<;>first |(rw [ZH h])|(simp [iG]at h)
def Jm {n:Int} {m:Nat} (h:u9 n= .mk m):n=m:=by
 cases n<;>first |(cases h;rfl)|(simp [u9]at h)
def Qu {v:af} {m:Nat} (h:nS v= .mk m):∃k,v= .raw (.int k m):=by
 unfold nS at h;cases hw:iG v with
 |no=>rw [hw]at h;cases h
 |int k n=>
  rw [hw]at h;have:=Jm h;subst this;exact⟨k,zK hw⟩
def Ca {v:af} {m:Nat} (h:nn v=some m):∃k,v= .raw (.int k m):=by
 unfold nn at h;cases hw:nS v with
 |no=>rw [hw]at h;cases h
 |mk n=>rw [hw]at h;cases h;exact Qu hw
def Qv {b:Option bq} {e:TypeId} {cs:List af} {x f r:Bool} (h:s9 b= .mk e cs x f r):b=some (.cells e cs x f r):=by
 cases b with
 |none=>cases h
 |some b=>cases b<;>first |(cases h;rfl)|(simp [s9]at h)
def xx {t:TypeId} {n:Nat} (h:en P t=some n):∃i,P.info? t=some i/\i.size=n:=by
 simpa [en,am]using h
def Jn {t:TypeId} {z:Value} (h:mT P t=some z):∃i,P.info? t=some i/\i.zero=some z:=by
 simpa [mT,dH]using h
def xy {t e:TypeId} (h:ik P t=some e):P.underlying t=some (.slice e):=by
 unfold ik at h;split at h
 .rename_i e' he;cases h;exact he
 .cases h
section
variable {t:TypeId}
def jT {n:Nat} (h:en P t=some n) (w:World):(sizeOf t).run P w= .ok n w:=by
 obtain⟨i,hi,rfl⟩:=xx h;simp [sizeOf,typeInfo,hi]
def EH {z:Value} (h:mT P t=some z) (w:World):(zeroValue t).run P w= .ok z w:=by
 obtain⟨i,hi,hz⟩:=Jn h;simp [zeroValue,typeInfo,hi,hz]
def dw {d:TypeDesc} (h:P.underlying t=some d) (w:World):(underlying t).run P w= .ok d w:=by
 simp [underlying,h]
def EI {b:Bool} (h:BN P t=some b) (w:World):(isAgg t).run P w= .ok b w:=by
 simp only [BN,am]at h;obtain⟨d,hd,rfl⟩:=h;unfold isAgg;simp only [Sem.run_bind,dw hd,Result.andThen_ok];cases d<;>rfl
def Qw (h:lv P t= .one):BN P t=some false:=by
 unfold lv at h;split at h<;>first |assumption|(cases h)
def Qx {n:Nat} (h:lv P t= .agg n):BN P t=some true/\en P t=some n:=by
 unfold lv at h;split at h
 .rename_i h1 h2;cases h;exact⟨h1,h2⟩
 .cases h
 .cases h
def Qy {n s:Nat} (h:nR P t= .arr n s):∃e,P.underlying t=some (.array n e)/\en P e=some s:=by
 unfold nR at h;split at h
 .rename_i n' e he;split at h
  .rename_i s' hs;cases h;exact⟨e,he,hs⟩
  .cases h
 .split at h<;>cases h
 .cases h
def Qz {s:Nat} (h:nR P t= .sl s):∃e,P.underlying t=some (.slice e)/\en P e=some s:=by
 unfold nR at h;split at h
 .split at h<;>cases h
 .rename_i e he;split at h
  .rename_i s' hs;cases h;exact⟨e,he,hs⟩
  .cases h
 .cases h
end
def Jo {s:TypeId} {f off n:Nat} {t:TypeId} (h:fv P s f= .mk off n t):∃fs fd,P.underlying s=some (.struct fs)/\fs[f]? =some fd/\fd.offset=off/\fd.type=t/\en P t=some n:=by
 unfold fv at h;split at h
 .rename_i fs hs;split at h
  .rename_i fd hf;split at h
   .rename_i n' hn;cases h;exact⟨fs,fd,hs,hf,rfl,rfl,hn⟩
   .cases h
  .cases h
 .cases h
def qj:Op->Bool
 | .select .. =>false
 |_=>true
def execOp_congr {e e':Operand->Value} {o:Oper} (hs:qj o.op=true) (h:∀x∈o.op.operands.toList,e x=e' x):execOp e o=execOp e' o:=by
 obtain⟨dst,op,type,pos,after,guard⟩:=o;cases op with
 |call c=>
  obtain⟨callee,args,argTypes⟩:=c;have ha:args.map e=args.map e':=by
   apply Array.map_congr_left;intro x hx;exact h x (by simp [Op.operands,Call.operands,hx])
  cases callee with
  |value f=>
   have hf:=h f (by simp [Op.operands,Call.operands]);simp [execOp,resolve,ha,hf]
  |invoke f m=>
   have hf:=h f (by simp [Op.operands,Call.operands]);simp [execOp,resolve,ha,hf]
  |builtin b=>simp [execOp,resolve,ha]
 |go c=>
  obtain⟨callee,args,argTypes⟩:=c;have ha:args.map e=args.map e':=by
   apply Array.map_congr_left;intro x hx;exact h x (by simp [Op.operands,Call.operands,hx])
  cases callee with
  |value f=>
   have hf:=h f (by simp [Op.operands,Call.operands]);simp [execOp,resolve,ha,hf]
  |invoke f m=>
   have hf:=h f (by simp [Op.operands,Call.operands]);simp [execOp,resolve,ha,hf]
  |builtin b=>simp [execOp,resolve,ha]
 |defer c=>
  obtain⟨callee,args,argTypes⟩:=c;have ha:args.map e=args.map e':=by
   apply Array.map_congr_left;intro x hx;exact h x (by simp [Op.operands,Call.operands,hx])
  cases callee with
  |value f=>
   have hf:=h f (by simp [Op.operands,Call.operands]);simp [execOp,resolve,ha,hf]
  |invoke f m=>
   have hf:=h f (by simp [Op.operands,Call.operands]);simp [execOp,resolve,ha,hf]
  |builtin b=>simp [execOp,resolve,ha]
 |build t ps=>
  have ha:(ps.map fun(i,x)=>(i,e x))=ps.map fun(i,x)=>(i,e' x):=by
   apply Array.map_congr_left;intro x hx;have:=h x.2 (by simp only [Op.operands];exact List.mem_map_of_mem (Array.mem_toList_iff.2 hx));simp [this]
  simp [execOp,ha]
 |buildSlice t l ps=>
  have ha:(ps.map fun(i,x)=>(i,e x))=ps.map fun(i,x)=>(i,e' x):=by
   apply Array.map_congr_left;intro x hx;have:=h x.2 (by simp only [Op.operands];exact List.mem_map_of_mem (Array.mem_toList_iff.2 hx));simp [this]
  simp [execOp,ha]
 |makeFunc fn f c=>
  have h1:f.map e=f.map e':=Array.map_congr_left fun x hx=>h x (by simp [Op.operands,hx])
  have h2:c.map e=c.map e':=Array.map_congr_left fun x hx=>h x (by simp [Op.operands,hx])
  simp [execOp,h1,h2]
 |makeMap t r=>cases r<;>simp_all [Op.operands,execOp]
 |slice t x l hi m=>cases l<;>cases hi<;>cases m<;>simp_all [Op.operands,execOp]
 |select cs b=>cases hs
 |_=>simp_all [Op.operands,execOp]
def ZI {ev:dJ} {e:Operand->Value} (he:∀x,Den ρ (ev x) (e x)) {x:Operand} (h:(ev x).fh.isSome=true):m9 ev x=e x:=by
 obtain⟨v,hv⟩:=Option.isSome_iff_exists.1 h;rw [m9,hv,(he x).fh hv];rfl
def vp {o:Oper} {ev:dJ} {e:Operand->Value} (he:∀x,Den ρ (ev x) (e x)) (hs:qj o.op=true) {v:af} (h:gen P o ev=some v) (w:World):
  ∃eH y,(execOp e o).run P w= .ok eH w/\tG eH y/\Den ρ v y:=by
 unfold gen at h;cases hb:(o.op.operands.toList.all fun x=>(ev x).fh.isSome)with
 |false=>rw [hb]at h;cases h
 |true=>
  rw [hb]at h;have hc:execOp (m9 ev) o=execOp e o:=execOp_congr hs fun x hx=>ZI he (List.all_eq_true.1 hb x hx)
  simp only [cond_true,hc]at h;split at h
  .rename_i y hy;cases h;exact⟨_,y,nV _ w hy,rfl, .raw y⟩
  .rename_i hy;cases h;exact⟨_,undef,nV _ w hy,rfl, .raw undef⟩
  .cases h
def vq {o:Oper} {ev:dJ} {e:Operand->Value} (hH:bh P B ρ H w) (he:∀x,Den ρ (ev x) (e x)) (hs:qj o.op=true):cN P B ρ H w ((execOp e o).run P w) (ag H (gen P o ev)):=
 l8 hH fun _ h=>vp he hs h w
variable {o:Oper} {ev:dJ} {e:Operand->Value}
section
variable (hH:bh P B ρ H w) (he:∀x,Den ρ (ev x) (e x))
def ZJ {x:Operand} (ho:o.op= .move x):cN P B ρ H w ((execOp e o).run P w) (rH x P o ev H):=
 fQ hH (y:=e x) (by simp [execOp,ho]) (he x)
def ZK {x:Operand} (ho:o.op= .assign x):cN P B ρ H w ((execOp e o).run P w) (rH x P o ev H):=
 fQ hH (y:=e x) (by simp [execOp,ho]) (he x)
def ZL {c a b:Operand} (ho:o.op= .pick c a b):cN P B ρ H w ((execOp e o).run P w) (nT c a b P o ev H):=by
 unfold nT;cases hb:gI (ev c)with
 |no=>trivial
 |mk k=>
  have hc:=he c;rw [EG hb]at hc;have hc:=hc.cc;cases k
  .exact fQ hH (y:=e b) (by simp [execOp,ho,hc,asBool]) (he b)
  .exact fQ hH (y:=e a) (by simp [execOp,ho,hc,asBool]) (he a)
def ZM {x:Operand} (ho:o.op= .nilCheck x):cN P B ρ H w ((execOp e o).run P w) (tz x P o ev H):=by
 unfold tz;have hx:=he x;cases hp:iH (ev x)with
 |mk i off=>
  rw [B9 hp]at hx;obtain⟨b,c,h1,h2⟩:=hx.kH;exact fQ hH (y:=e x) (by simp [execOp,ho,h2]) hx
 |no=>
  refine l8 hH fun v hv=> ?_
  unfold I0 at hv;split at hv
  .rename_i f a b hx';cases hv;rw [hx']at hx;obtain⟨xs,ys,h1,h2,h3⟩:=hx.B5;exact⟨_,e x,by simp [execOp,ho,h3];rfl,by rw [h3];rfl,hx⟩
  .rename_i i hx';cases hv;rw [hx']at hx;obtain⟨b,c,h1,h2⟩:=hx.Jh;exact⟨_,e x,by simp [execOp,ho,h2];rfl,by rw [h2];rfl,hx⟩
  .rename_i t xs k off hx';cases hv;rw [hx']at hx;obtain⟨b,o',A,_,_,_,_,h2⟩:=hx.zJ;exact⟨_,e x,by simp [execOp,ho,h2];rfl,by rw [h2];rfl,hx⟩
  .rename_i e' t i k off hx';cases hv;rw [hx']at hx;obtain⟨b,c,_,h2⟩:=hx.xw;exact⟨_,e x,by simp [execOp,ho,h2];rfl,by rw [h2];rfl,hx⟩
  .exact vp he (by simp [ho,qj]) hv w
def ZN {fn:Fn} {a c:Array Operand} (ho:o.op= .makeFunc fn a c):cN P B ρ H w ((execOp e o).run P w) (BU fn a c P o ev H):=by
 have hl:∀l:List Operand,aH ρ (l.map ev) (l.map e):=fun l=>by
  induction l with
  |nil=>exact .nil
  |cons x l ih=>exact .cons (he x) ih
 have h:=Den.func (fn:=fn) (hl a.toList) (hl c.toList);have e1:(a.toList.map e).toArray=a.map e:=by apply Array.ext';simp
 have e2:(c.toList.map e).toArray=c.map e:=by apply Array.ext';simp
 rw [e1,e2]at h;exact fQ hH (by simp [execOp,ho,Instr.makeFunc]) h
def ZO {t:TypeId} {x:Operand} (ho:o.op= .makeInterface t x):cN P B ρ H w ((execOp e o).run P w) (BS t x P o ev H):=by
 refine l8 hH fun v hv=> ?_
 unfold Qg at hv;split at hv
 .cases hv
 .cases hv
 .rename_i d hd hn;cases hv;refine⟨.value (.iface t (e x)), .iface t (e x), ?_,rfl, .iface (he x)⟩;simp only [execOp,ho,Instr.makeInterface,Sem.run_bind,dw hn,Result.andThen_ok];cases d<;>first |rfl |exact absurd rfl (hd _)
end
def jU (b off n:Nat):(⟨b,off,none⟩:Addr).add n=⟨b,off+n,none⟩:=by
 unfold Addr.add;split
 .rename_i e;subst e;rfl
 .rfl
def QA {s t:TypeId} {x:Operand} {f gH n b O:Nat} (ho:o.op= .fieldAddr s x f) (hf:fv P s f= .mk gH n t) (hb:Nat.ble 1 n=true) (hx:e x= .pointer (some ⟨b,O,none⟩)):
  (execOp e o).run P w= .ok (.value (.pointer (some ⟨b,O+gH,none⟩))) w:=by
 obtain⟨fs,fd,g1,g2,g3,g4,g5⟩:=Jo hf;have hn:n≠0:=by have:=bU hb;omega
 subst g3;subst g4;simp [execOp,ho,Instr.fieldAt,dw g1,g2,hx,Instr.sureAddr,fieldPlace,jT g5,hn,jU]
def ZP (hH:bh P B ρ H w) {s t:TypeId} {x:Operand} {f gH n:Nat} {v:af} (ho:o.op= .fieldAddr s x f) (hf:fv P s f= .mk gH n t) (hx:Den ρ v (e x)):cN P B ρ H w ((execOp e o).run P w) (lr gH n v H):=by
 unfold lr;split
 .rename_i u xs k off;cases hb:Nat.ble 1 n with
  |false=>trivial
  |true=>
   obtain⟨b,o',A,h1,h2,h3,h4,h5⟩:=hx.zJ;refine fQ hH (QA ho hf hb h5) ?_;rw [show o'+(k*u.size+off)+gH=o'+(k*u.size+(off+gH)) by omega];exact .ff h1 h2 rfl h3 h4
 .rename_i e' u i k off;cases hb:Nat.ble 1 n with
  |false=>trivial
  |true=>
   obtain⟨b,c,h1,h5⟩:=hx.xw;refine fQ hH (QA ho hf hb h5) ?_;rw [Nat.add_assoc];exact .dA h1
 .trivial
def ZQ (hH:bh P B ρ H w) (he:∀x,Den ρ (ev x) (e x)) {s:TypeId} {x:Operand} {f:Nat} (ho:o.op= .fieldAddr s x f):cN P B ρ H w ((execOp e o).run P w) (p9 s x f P o ev H):=by
 unfold p9;cases hf:fv P s f with
 |no=>trivial
 |mk gH n t=>
  cases hp:iH (ev x)with
  |no=>exact ZP hH ho hf (he x)
  |mk i off=>
   cases hb:Nat.ble 1 n with
   |false=>simp only [hb];trivial
   |true=>
    simp only [hb];have hx:=he x;rw [B9 hp]at hx;obtain⟨b,c,h1,h2⟩:=hx.kH;obtain⟨fs,fd,g1,g2,g3,g4,g5⟩:=Jo hf;have hn:n≠0:=by have:=bU hb;omega
    have ha:(⟨b,off,none⟩:Addr).add gH=⟨b,off+gH,none⟩:=by
     unfold Addr.add;split
     .rename_i e;subst e;rfl
     .rfl
    refine fQ hH (y:= .pointer (some ⟨b,off+gH,none⟩)) ?_ (.ptr h1);subst g3;subst g4;simp [execOp,ho,Instr.fieldAt,dw g1,g2,h2,Instr.sureAddr,fieldPlace,jT g5,hn,ha]
def QB {t:TypeId} {x ix:Operand} {k n s b O:Nat} {eG:IntKind} (ho:o.op= .indexAddr t x ix) (iJ:e ix= .int eG k) (ht:nR P t= .arr n s) (hx:e x= .pointer (some ⟨b,O,none⟩)) (hlt:k<n):
  (execOp e o).run P w= .ok (.value (.pointer (some ⟨b,O+k*s,none⟩))) w:=by
 obtain⟨el,g1,g2⟩:=Qy ht;simp [execOp,ho,Instr.indexAt,iJ,asIntOf,dw g1,hx,Instr.sureAddr,jT g2,hlt,jU]
def QC {t:TypeId} {x ix:Operand} {k s len kk b O:Nat} {eG:IntKind} (ho:o.op= .indexAddr t x ix) (iJ:e ix= .int eG k) (ht:nR P t= .sl s) (hx:e x= .slice (some ⟨b,O,none⟩) len kk) (hlt:k<len):
  (execOp e o).run P w= .ok (.value (.pointer (some ⟨b,O+k*s,none⟩))) w:=by
 obtain⟨el,g1,g2⟩:=Qz ht;simp [execOp,ho,Instr.indexAt,iJ,asIntOf,dw g1,hx,jT g2,hlt,jU]
section
variable (hH:bh P B ρ H w) {t:TypeId} {x ix:Operand}
def ZR {k n s:Nat} {eG:IntKind} {v:af} (ho:o.op= .indexAddr t x ix) (iJ:e ix= .int eG k) (ht:nR P t= .arr n s) (hx:Den ρ v (e x)):cN P B ρ H w ((execOp e o).run P w) (u6 k n s v H):=by
 unfold u6;split
 .rename_i u xs k0 off;cases hb:Nat.ble (k+1) n with
  |false=>trivial
  |true=>
   obtain⟨b,o',A,h1,h2,h3,h4,h5⟩:=hx.zJ;refine fQ hH (QB ho iJ ht h5 (bU hb)) ?_;rw [show o'+(k0*u.size+off)+k*s=o'+(k0*u.size+(off+k*s)) by omega];exact .ff h1 h2 rfl h3 h4
 .rename_i e' u i k0 off;cases hb:Nat.ble (k+1) n with
  |false=>trivial
  |true=>
   obtain⟨b,c,h1,h5⟩:=hx.xw;refine fQ hH (QB ho iJ ht h5 (bU hb)) ?_;rw [Nat.add_assoc];exact .dA h1
 .trivial
def ZS {k s:Nat} {eG:IntKind} {v:af} (ho:o.op= .indexAddr t x ix) (iJ:e ix= .int eG k) (ht:nR P t= .sl s) (hx:Den ρ v (e x)):cN P B ρ H w ((execOp e o).run P w) (rC k s v H):=by
 unfold rC;split
 .rename_i z u xs;cases hb:(Nat.beq u.size s&&Nat.ble (k+1) xs.length)with
  |false=>trivial
  |true=>
   rw [ae]at hb;obtain⟨hs,hb⟩:=hb;have hs:=ac hs;have hb:k<xs.length:=bU hb;subst hs;rcases hx.tF with⟨rfl,_⟩|⟨b,off,kk,A,h1,h2,h3,h4,h5,_⟩
   .simp at hb
   .refine fQ hH (QC ho iJ ht h5 hb) ?_;rw [show off+k*u.size=off+(k*u.size+0) by omega];exact .ff h1 h2 rfl h3 hb
 .rename_i e' u i k0 len cap;cases hb:(Nat.beq u.size s&&Nat.ble (k+1) len)with
  |false=>trivial
  |true=>
   rw [ae]at hb;obtain⟨hs,hb⟩:=hb;have hs:=ac hs;have hb:k<len:=bU hb;subst hs;rcases hx.jt with⟨rfl,_⟩|⟨b,c,kc,h1,_,_,h5⟩
   .omega
   .refine fQ hH (QC ho iJ ht h5 hb) ?_;rw [show k0*u.size+k*u.size=(k0+k)*u.size+0 by rw [Nat.add_mul];rfl];exact .dA h1
 .trivial
end
def ZT (hH:bh P B ρ H w) (he:∀x,Den ρ (ev x) (e x)) {t:TypeId} {x ix:Operand} (ho:o.op= .indexAddr t x ix):cN P B ρ H w ((execOp e o).run P w) (mV t x ix P o ev H):=by
 unfold mV;cases hk:nS (ev ix)with
 |no=>trivial
 |mk k=>
  obtain⟨eG,hk'⟩:=Qu hk;have iJ:=he ix;rw [hk']at iJ;have iJ:=iJ.cc;have hx:=he x;cases ht:nR P t with
  |no=>trivial
  |arr n s=>
   cases hp:iH (ev x)with
   |no=>exact ZR hH ho iJ ht hx
   |mk i off=>
    cases hb:Nat.ble (Nat.succ k) n with
    |false=>simp only [hb];trivial
    |true=>
     simp only [hb];have hb:=bU hb;rw [B9 hp]at hx;obtain⟨b,c,h1,h2⟩:=hx.kH;obtain⟨el,g1,g2⟩:=Qy ht;refine fQ hH (y:= .pointer (some ⟨b,off+k*s,none⟩)) ?_ (.ptr h1);have hlt:k<n:=hb;simp [execOp,ho,Instr.indexAt,iJ,asIntOf,dw g1,h2,Instr.sureAddr,jT g2,hlt,jU]
  |sl s=>
   cases hp:xd (ev x)with
   |no=>exact ZS hH ho iJ ht hx
   |mk i off len cap=>
    cases hb:Nat.ble (Nat.succ k) len with
    |false=>simp only [hb];trivial
    |true=>
     simp only [hb];have hb:=bU hb;rw [ZE hp]at hx;obtain⟨b,c,kk,h1,_,_,h2⟩:=hx.ij;obtain⟨el,g1,g2⟩:=Qz ht;refine fQ hH (y:= .pointer (some ⟨b,off+k*s,none⟩)) ?_ (.ptr h1);have hlt:k<len:=hb;simp [execOp,ho,Instr.indexAt,iJ,asIntOf,dw g1,h2,jT g2,hlt,jU]
def QD {t:TypeId} {cs:List af} {off:Nat} {v:af} (h:apart P t cs off=some v) {xs:List Value} (hd:aH ρ cs xs) (w:World):∃y,(part t xs.toArray off).run P w= .ok y w/\Den ρ v y:=by
 unfold apart at h;cases hl:lv P t with
 |no=>rw [hl]at h;cases h
 |one=>
  rw [hl]at h;simp only [zG]at h;obtain⟨y,h1,h2⟩:=hd.get h;refine⟨y, ?_,h2⟩;simp [part,EI (Qw hl),h1]
 |agg n=>
  rw [hl]at h;cases h;refine⟨.agg ((xs.drop off).take n).toArray, ?_, .agg ((hd.drop off).take n)⟩;obtain⟨h1,h2⟩:=Qx hl;have e1:((xs.drop off).take n).toArray=xs.toArray.extract off (off+n):=by apply Array.ext';simp
  rw [e1];simp [part,EI h1,jT h2]
section
variable (hH:bh P B ρ H w) (he:∀x,Den ρ (ev x) (e x))
def ZU {t:TypeId} {x:Operand} {f:Nat} (ho:o.op= .field t x f):cN P B ρ H w ((execOp e o).run P w) (qa t x f P o ev H):=by
 unfold qa;cases ha:rD (ev x)with
 |none=>exact vq hH he (by simp [ho,qj])
 |some cs=>
  have hx:=he x;rw [wp ha]at hx;obtain⟨xs,h1,h2⟩:=hx.tD;cases hf:fv P t f with
  |no=>trivial
  |mk gH n ft=>
   refine l8 hH fun v hv=> ?_
   obtain⟨fs,fd,g1,g2,g3,g4,g5⟩:=Jo hf;subst g3;subst g4;obtain⟨y,k1,k2⟩:=QD hv h1 w;exact⟨.value y,y,by simp [execOp,ho,Instr.field,dw g1,g2,h2,asAgg,k1],rfl,k2⟩
def ZV {t:TypeId} {x ix:Operand} (ho:o.op= .index t x ix):cN P B ρ H w ((execOp e o).run P w) (l5 t x ix P o ev H):=by
 unfold l5;cases ha:rD (ev x)with
 |none=>exact vq hH he (by simp [ho,qj])
 |some cs=>
  have hx:=he x;rw [wp ha]at hx;obtain⟨xs,h1,h2⟩:=hx.tD;refine l8 hH fun v hv=> ?_
  unfold Qh at hv;split at hv
  .rename_i n el hu;simp only [dH]at hv;obtain⟨k,hk,s,hs,hv⟩:=hv;obtain⟨eG,hk'⟩:=Ca hk;have iJ:=he ix;rw [hk']at iJ;have iJ:=iJ.cc;cases hb:Nat.ble (k+1) n with
   |false=>rw [hb]at hv;cases hv
   |true=>
    rw [hb]at hv;have hb:=bU hb;obtain⟨y,k1,k2⟩:=QD hv h1 w;have hlt:k<n:=hb;exact⟨.value y,y,by simp [execOp,ho,Instr.index,iJ,asIntOf,dw hu,h2,hlt,jT hs,k1],rfl,k2⟩
  .cases hv
def ZW {x:Operand} {i:Nat} (ho:o.op= .extract x i):cN P B ρ H w ((execOp e o).run P w) (qb x i P o ev H):=by
 unfold qb;cases ha:zl (ev x)with
 |none=>exact vq hH he (by simp [ho,qj])
 |some cs=>
  have hx:=he x;rw [ZF ha]at hx;obtain⟨xs,h1,h2⟩:=hx.B6;refine l8 hH fun v hv=> ?_
  rw [zG]at hv;obtain⟨y,k1,k2⟩:=h1.get hv;exact⟨.value y,y,by simp [execOp,ho,Instr.extract,h2,k1],rfl,k2⟩
end
end
section
variable {P:Program} {B:Nat} {ρ:Env} {H:ai} {w:World} {o:Oper} {ev:dJ} {e:Operand->Value}
def tH {a b:Nat} (h:a≠b):Nat.beq a b=false:=by
 cases hb:Nat.beq a b with
 |false=>rfl
 |true=>exact absurd (ac hb) h
def ZX (op:BinOp) (t:TypeId) (x y:Operand) (a b:Value) (h1:∀cs ds,a= .agg cs->b= .agg ds->False) (h2:a= .nilIface->b= .nilIface->False) (w:World):(eqGuard op t x y a b).run P w= .ok () w:=by
 unfold eqGuard;cases op<;>first |rfl |(cases a<;>first |rfl |(cases b<;>first |rfl |exact(h1 _ _ rfl rfl).elim|exact(h2 rfl rfl).elim))
def Jp {op:BinOp} {t ah:TypeId} {x y:Operand} (ho:o.op= .binOp op t x y ah) {a b:Value} (ha:e x=a) (hb:e y=b) (h1:∀cs ds,a= .agg cs->b= .agg ds->False) (h2:a= .nilIface->b= .nilIface->False)
  {v:Value} (h:(binOp op t a b).run P w= .ok v w):(execOp e o).run P w= .ok (.value v) w:=by
 subst ha;subst hb;simp [execOp,ho,ZX op t x y _ _ h1 h2,h]
def Jq {n:Nat} {v:af} (h:small n=some v):n<9223372036854775808/\v= .raw (.int .i64 n):=by
 unfold small at h;cases hb:Nat.ble (Nat.succ n) 9223372036854775808 with
 |false=>rw [hb]at h;cases h
 |true=>rw [hb]at h;cases h;exact⟨bU hb,rfl⟩
def QE {k:IntKind} (h:BR k=true):k= .i64:=by cases k<;>first |rfl |cases h
def ZY {op:BinOp} {m n:Nat} {v:af} (h:zz op m n=some v) (t:TypeId) (w:World):∃y,v= .raw y/\(binOp op t (.int .i64 m) (.int .i64 n)).run P w= .ok y w:=by
 have hb:∀b:Bool,∀y,(some (af.raw (.bool b))=some y)->y= .raw (.bool b):=fun b y h=>by cases h;rfl
 cases op
 case add=>
  obtain⟨h1,rfl⟩:=Jq h;refine⟨_,rfl, ?_⟩;have e:IntKind.i64.wrap ((m:Int)+n)=((Nat.add m n:Nat):Int):=by
   rw [IntWalk.i64_in _ (by have:Nat.add m n=m+n:=rfl;omega)];rfl
  simp [binOp,Op.intArith,e]
 case sub=>
  have hs:zz .sub m n= @Bool.rec (fun _=>Option af) none (small (Nat.sub m n)) (Nat.ble n m):=rfl;rw [hs]at h;cases hb:Nat.ble n m with
  |false=>rw [hb]at h;cases h
  |true=>
   rw [hb]at h;have hle:=bU hb;obtain⟨h1,rfl⟩:=Jq h;refine⟨_,rfl, ?_⟩;have e1:Nat.sub m n=m-n:=rfl;have e:IntKind.i64.wrap ((m:Int)-n)=((Nat.sub m n:Nat):Int):=by
    rw [IntWalk.i64_in _ ω];omega
   simp [binOp,Op.intArith,e]
 case eql=>
  refine⟨_,hb _ _ h, ?_⟩;simp only [binOp,Op.intCmp,ne_eq,not_true_eq_false,if_false,Sem.run_pure];congr 2;by_cases hmn:m=n
  .subst hmn;simp
  .rw [tH hmn];simp;omega
 case neq=>
  refine⟨_,hb _ _ h, ?_⟩;simp only [binOp,Op.intCmp,ne_eq,not_true_eq_false,if_false,Sem.run_pure];congr 2;by_cases hmn:m=n
  .subst hmn;simp
  .rw [tH hmn];simp [bne];omega
 case lss=>
  refine⟨_,hb _ _ h, ?_⟩;simp only [binOp,Op.intCmp,ne_eq,not_true_eq_false,if_false,Sem.run_pure];congr 2;by_cases hmn:m<n
  .rw [fA hmn];simpa using hmn
  .rw [show Nat.ble (Nat.succ m) n=false from Bool.eq_false_iff.2 fun hh=>hmn (bU hh)];simpa using hmn
 case leq=>
  refine⟨_,hb _ _ h, ?_⟩;simp only [binOp,Op.intCmp,ne_eq,not_true_eq_false,if_false,Sem.run_pure];congr 2;by_cases hmn:m<=n
  .rw [fA hmn];simpa using hmn
  .rw [show Nat.ble m n=false from Bool.eq_false_iff.2 fun hh=>hmn (bU hh)];simpa using hmn
 case gtr=>
  refine⟨_,hb _ _ h, ?_⟩;simp only [binOp,Op.intCmp,ne_eq,not_true_eq_false,if_false,Sem.run_pure];congr 2;by_cases hmn:n<m
  .rw [fA hmn];simpa using hmn
  .rw [show Nat.ble (Nat.succ n) m=false from Bool.eq_false_iff.2 fun hh=>hmn (bU hh)];simpa using hmn
 case geq=>
  refine⟨_,hb _ _ h, ?_⟩;simp only [binOp,Op.intCmp,ne_eq,not_true_eq_false,if_false,Sem.run_pure];congr 2;by_cases hmn:n<=m
  .rw [fA hmn];simpa using hmn
  .rw [show Nat.ble n m=false from Bool.eq_false_iff.2 fun hh=>hmn (bU hh)];simpa using hmn
 all_goals (exact absurd (show(none:Option af)=some v from h) τ)
def ZZ {op:BinOp} {k:IntKind} {a b:Int} {v:Value} (h:tj P op k a b=some v) (t:TypeId) (w:World):(binOp op t (.int k a) (.int k b)).run P w= .ok v w:=by
 unfold tj at h;cases op<;>first
  |(have:=nV _ w h;simpa [binOp]using this)
  |cases h
def Cb {t:TypeId} {x y:af} {b:Bool} (h:IV P t x y=some b):∃i off off' el n,x= .ptr i off/\y= .ptr i off'/\P.underlying t=some (.pointer el)/\en P el=some (n+1)/\b=Nat.beq off off':=by
 unfold IV at h;split at h
 .rename_i i off j off';split at h
  .rename_i el hu;split at h
   .rename_i n hn;cases hij:Nat.beq i j with
    |false=>rw [hij]at h;cases h
    |true=>
     rw [hij]at h;cases h;have:=ac hij;subst this;exact⟨i,off,off',el,n,rfl,rfl,hu,hn,rfl⟩
   .cases h
  .cases h
 .cases h
def Z0 (b off off':Nat):((⟨b,off,none⟩:Addr)==⟨b,off',none⟩)=Nat.beq off off':=by
 by_cases h:off=off'
 .subst h;rw [beq_self_eq_true];exact(Nat.beq_refl off).symm
 .rw [tH h];exact beq_false_of_ne fun hh=>h (by cases hh;rfl)
section
variable {t el:TypeId} {n:Nat} (hu:P.underlying t=some (.pointer el))
def Z1 (hs:en P el=some (n+1)) (b off off':Nat) (w:World) (d:Nat):
  (Op.equalIn (d+1) t (.pointer (some ⟨b,off,none⟩)) (.pointer (some ⟨b,off',none⟩))).run P w= .ok (Nat.beq off off') w:=by
 simp only [Op.equalIn,Sem.run_bind,dw hu,Result.andThen_ok,jT hs];rw [if_pos ω];unfold sameAddr;simp only [beq_self_eq_true,if_true,Z0];rfl
def Z2 (hs:en P el=some (n+1)) (b off off':Nat) (w:World):
  (Op.equal t (.pointer (some ⟨b,off,none⟩)) (.pointer (some ⟨b,off',none⟩))).run P w= .ok (Nat.beq off off') w:=Z1 hu hs b off off' w 9999
end
def Z3 {t:TypeId} {i off:Nat} (h:lX P t (.ptr i off)=true):∃el,P.underlying t=some (.pointer el):=by
 simp only [lX]at h;split at h
 .exact⟨_, ‹_›⟩
 .cases h
def CM {t:TypeId} {i off len:Nat} {cap:aZ} (h:lX P t (.slice i off len cap)=true):∃el,P.underlying t=some (.slice el):=by
 simp only [lX]at h;split at h
 .exact⟨_, ‹_›⟩
 .cases h
def Z4 {t:TypeId} {f:Fn} {a b:List af} (h:lX P t (.func f a b)=true):∃x y z,P.underlying t=some (.func x y z):=by
 simp only [lX]at h;split at h
 .exact⟨_,_,_, ‹_›⟩
 .cases h
def Z5 {t u:TypeId} {v:af} (h:lX P t (.iface u v)=true):∃ms,P.underlying t=some (.interface ms):=by
 simp only [lX]at h;split at h
 .exact⟨_, ‹_›⟩
 .cases h
def Z6 {t:TypeId} {i:Nat} (h:lX P t (.map i)=true):∃k v,P.underlying t=some (.map k v):=by
 simp only [lX]at h;split at h
 .exact⟨_,_, ‹_›⟩
 .cases h
def Value.gB:Value->Bool
 | .pointer _| .slice .. | .func .. | .nilFunc| .iface .. | .map _=>true
 |_=>false
section
variable {t:TypeId} {a b:Value} (h:Value.gB a=true\/Value.gB b=true)
def Z7:binOp .eql t a b=(do pure (.bool (<-Op.equal t a b))):=by
 cases a<;>first |rfl |(cases b<;>first |rfl |(rcases h with h|h<;>cases h))
def NO:binOp .neq t a b=(do pure (.bool (!(<-Op.equal t a b)))):=by
 cases a<;>first |rfl |(cases b<;>first |rfl |(rcases h with h|h<;>cases h))
end
def QF {t:TypeId} {x y:af} (hf:lX P t x=true) (hk:sameKind x y=true) {a b:Value} (ha:Den ρ x a) (hb:Den ρ y b) (w:World) (d:Nat):
  (Op.equalIn (d+1) t a b).run P w= .ok false w/\(Op.equalIn (d+1) t b a).run P w= .ok false w/\Value.gB a=true/\a≠ .nilIface:=by
 unfold sameKind at hk;split at hk
 .obtain⟨el,hu⟩:=Z3 hf;obtain⟨b',c,_,rfl⟩:=ha.kH;have:=hb.cc;subst this;simp [Op.equalIn,dw hu,Value.gB]
 .obtain⟨el,hu⟩:=CM hf;obtain⟨b',c,k,_,_,_,rfl⟩:=ha.ij;have:=hb.cc;subst this;simp [Op.equalIn,dw hu,Value.gB]
 .obtain⟨_,_,_,hu⟩:=Z4 hf;obtain⟨xs,ys,_,_,rfl⟩:=ha.B5;have:=hb.cc;subst this;simp [Op.equalIn,dw hu,Value.gB]
 .obtain⟨_,hu⟩:=Z5 hf;obtain⟨y,_,rfl⟩:=ha.Qo;have:=hb.cc;subst this;simp [Op.equalIn,dw hu,Value.gB]
 .obtain⟨_,_,hu⟩:=Z6 hf;obtain⟨b',c,_,rfl⟩:=ha.vk;have:=hb.cc;subst this;simp [Op.equalIn,dw hu,Value.gB]
 .cases hk
def QG {v:af} {p:Int×Int} (h:Ey v=some p) {z:Value} (hz:Den ρ v z):z= .agg #[.int .i64 p.1, .int .i64 p.2]:=by
 unfold Ey at h;split at h
 .cases h;obtain⟨xs,h1,rfl⟩:=hz.tD;cases h1 with
  |cons h1 h2=>
   cases h2 with
   |cons h2 h3=>
    cases h3;rw [h1.cc,h2.cc]
 .cases h
def QH {t:TypeId} {x y:af} {b:Bool} (h:Ez P t x y=some b) {jV kJ:Value} (hx:Den ρ x jV) (hy:Den ρ y kJ) (w:World) (d:Nat):P.plainKey t=true/\(Op.equalIn (d+1) t jV kJ).run P w= .ok b w:=by
 unfold Ez at h;split at h
 .split at h
  .rename_i hu;cases hc:P.plainKey t with
   |false=>rw [hc]at h;cases h
   |true=>rw [hc]at h;cases h;rw [hx.cc,hy.cc];exact⟨rfl,run_equalIn_int w d t .i64 .i64 _ _ hu⟩
  .cases h
 .split at h
  .rename_i hu;cases hc:P.plainKey t with
   |false=>rw [hc]at h;cases h
   |true=>rw [hc]at h;cases h;rw [hx.cc,hy.cc];exact⟨rfl,run_equalIn_string w d t _ _ hu⟩
  .cases h
 .cases h
def QI {a b:af} {z:Value} (h:Den ρ (.agg [a,b]) z):∃x y,z= .agg #[x,y]/\Den ρ a x/\Den ρ b y:=by
 obtain⟨xs,h1,rfl⟩:=h.tD;cases h1 with
 |cons h1 h2=>
  cases h2 with
  |cons h2 h3=>
   cases h3;exact⟨_,_,rfl,h1,h2⟩
section
variable {t:TypeId} {x y:af} {b:Bool}
def Z8 (h:I1 P t x y=some b) {jV kJ:Value} (hx:Den ρ x jV) (hy:Den ρ y kJ) (w:World):
  (∃xs,jV= .agg xs)/\(∃ys,kJ= .agg ys)/\P.eqGuardType P.depth t=false/\(Op.equal t jV kJ).run P w= .ok b w:=by
 unfold I1 at h;split at h
 .rename_i a1 b1 c1 d1;split at h
  .rename_i fs hu;split at h
   .rename_i f g Z9;cases hc:(f.name != "_" &&(g.name != "_" &&(Nat.beq f.offset 0&&(Nat.beq g.offset 1&&(!P.eqGuardType P.depth t&& !P.stoodInHeld t)))))with
    |false=>rw [hc]at h;cases h
    |true=>
     rw [hc]at h;simp only [ae,Bool.not_eq_true',gz]at hc;obtain⟨n1,n2,o1,o2,e1,e2⟩:=hc;have o1:=ac o1;have o2:=ac o2;simp only [cond_true]at h;split at h
     .rename_i p q hp hq;cases h;obtain⟨x0,x1,rfl,k0,k1⟩:=QI hx;obtain⟨y0,y1,rfl,l0,l1⟩:=QI hy;obtain⟨c3,tI⟩:=QH hp k0 l0 w 9998;obtain⟨c4,zL⟩:=QH hq k1 l1 w 9998;refine⟨⟨_,rfl⟩,⟨_,rfl⟩,e1, ?_⟩;have hfo:P.fieldsOf t=fs:=by unfold Program.fieldsOf;rw [hu]
      have h:=run_equalIn_struct w 9999 t #[x0,x1] #[y0,y1] (by rw [hfo];exact hu) e2;have h2:(Op.equal t (.agg #[x0,x1]) (.agg #[y0,y1])).run P w=_:=h;rw [h2,hfo,Z9];have fZ:(part f.type #[x0,x1] f.offset).run P w= .ok x0 w:=run_part_plain w c3 (by rw [o1];rfl);have p1:(part g.type #[x0,x1] g.offset).run P w= .ok x1 w:=run_part_plain w c4 (by rw [o2];rfl);have q0:(part f.type #[y0,y1] f.offset).run P w= .ok y0 w:=run_part_plain w c3 (by rw [o1];rfl);have q1:(part g.type #[y0,y1] g.offset).run P w= .ok y1 w:=run_part_plain w c4 (by rw [o2];rfl);cases p<;>cases q<;>simp [Op.eqFields,n1,n2,Sem.run_bind,fZ,p1,q0,q1,tI,zL]
     .cases h
   .cases h
  .cases h
 .cases h
def aaa (h:I2 P t x y=some b) {jV kJ:Value} (hx:Den ρ x jV) (hy:Den ρ y kJ) (w:World):
  (∃xs,jV= .agg xs)/\(∃ys,kJ= .agg ys)/\P.eqGuardType P.depth t=false/\(Op.equal t jV kJ).run P w= .ok b w:=by
 unfold I2 at h;split at h
 .rename_i p q hp hq;split at h
  .rename_i n e hu;split at h
   .rename_i hi;cases hc:(Nat.beq n 2&&(!P.eqGuardType P.depth t&&(P.plainKey e&&(Nat.beq (P.cellsOf e) 1&&(P.info? e).isSome))))with
    |false=>rw [hc]at h;cases h
    |true=>
     rw [hc]at h;cases h;simp only [ae,Bool.not_eq_true']at hc;obtain⟨c1,c2,c3,c4,c5⟩:=hc;have hn:n=2:=ac c1;subst hn;have hc1:=ac c4;obtain⟨i0,tJ⟩:=Option.isSome_iff_exists.1 c5;rw [QG hp hx,QG hq hy];refine⟨⟨_,rfl⟩,⟨_,rfl⟩,c2, ?_⟩;have h:=run_equalIn_array (w:=w) 9999 #[.int .i64 p.1, .int .i64 p.2] #[.int .i64 q.1, .int .i64 q.2] hu tJ;have h2:(Op.equal t (.agg #[.int .i64 p.1, .int .i64 p.2]) (.agg #[.int .i64 q.1, .int .i64 q.2])).run P w=_:=h;rw [h2,hc1];have hr:List.range 2=[0,1]:=rfl;rw [hr];have fZ:(part e #[.int .i64 p.1, .int .i64 p.2] (0*1)).run P w= .ok (.int .i64 p.1) w:=run_part_plain w c3 rfl;have p1:(part e #[.int .i64 p.1, .int .i64 p.2] (1*1)).run P w= .ok (.int .i64 p.2) w:=run_part_plain w c3 rfl;have q0:(part e #[.int .i64 q.1, .int .i64 q.2] (0*1)).run P w= .ok (.int .i64 q.1) w:=run_part_plain w c3 rfl;have q1:(part e #[.int .i64 q.1, .int .i64 q.2] (1*1)).run P w= .ok (.int .i64 q.2) w:=run_part_plain w c3 rfl;have tI:(Op.equalIn 9999 e (.int .i64 p.1) (.int .i64 q.1)).run P w= .ok (p.1==q.1) w:=run_equalIn_int w 9998 e .i64 .i64 p.1 q.1 hi;have zL:(Op.equalIn 9999 e (.int .i64 p.2) (.int .i64 q.2)).run P w= .ok (p.2==q.2) w:=run_equalIn_int w 9998 e .i64 .i64 p.2 q.2 hi;cases h1:(p.1==q.1)<;>cases h3:(p.2==q.2)<;>rw [h1]at tI<;>rw [h3]at zL<;>simp [Op.eqItems,Sem.run_bind,fZ,p1,q0,q1,tI,zL]
   .cases h
  .cases h
 .cases h
def aab (h:I3 P t x y=some b) {jV kJ:Value} (hx:Den ρ x jV) (hy:Den ρ y kJ) (w:World):
  (∃xs,jV= .agg xs)/\(∃ys,kJ= .agg ys)/\P.eqGuardType P.depth t=false/\(Op.equal t jV kJ).run P w= .ok b w:=by
 unfold I3 at h;split at h
 .rename_i c hs;cases h;exact Z8 hs hx hy w
 .exact aaa h hx hy w
end
def aac {v:af} {b:Bool} (h:I4 v=some b) {z:Value} (hz:Den ρ v z):∃a n k,z= .slice a n k/\(b=true->a=none/\n=0/\k=0)/\(b=false->∃q,a=some q):=by
 unfold I4 at h;split at h
 .cases h;cases hz with
  |bt h1 h2 h3 h4 h5 h6=>exact⟨_,_,_,rfl,fun hb=>absurd (List.isEmpty_iff.1 hb) (h6 rfl),fun _=>⟨_,rfl⟩⟩
  |e6 h1=>exact⟨_,_,_,rfl,fun _=>⟨(h1 rfl).1,rfl,(h1 rfl).2⟩,fun hb=>by cases hb⟩
 .cases h
def aad {v:af} (h:EA v=true) {z:Value} (hz:Den ρ v z):z= .slice none 0 0:=by
 unfold EA at h;split at h
 .exact hz.cc
 .cases h
def GE {t:TypeId} {x y:af} {b:Bool} (h:I5 P t x y=some b) {jV kJ:Value} (hx:Den ρ x jV) (hy:Den ρ y kJ) (w:World) (d:Nat):
  (Op.equalIn (d+1) t jV kJ).run P w= .ok b w/\Value.gB jV=true/\(∃a n k,jV= .slice a n k):=by
 unfold I5 at h;split at h
 .rename_i b' hb;split at h
  .rename_i el hu;cases hn:EA y with
   |false=>rw [hn]at h;cases h
   |true=>
    rw [hn]at h;cases h;have:=aad hn hy;subst this;obtain⟨a,n,k,rfl,h1,h2⟩:=aac hb hx;cases b with
    |true=>
     obtain⟨rfl,rfl,rfl⟩:=h1 rfl;refine⟨?_, ?_,_,_,_,rfl⟩
     .simp [Op.equalIn,dw hu]
     .simp [Value.gB]
    |false=>
     obtain⟨q,rfl⟩:=h2 rfl;refine⟨?_, ?_,_,_,_,rfl⟩
     .simp [Op.equalIn,dw hu]
     .simp [Value.gB]
  .cases h
 .cases h
section
variable {t ah:TypeId} {x y:Operand} {want:Bool}
def aae (ho:o.op= .binOp (if want then .eql else .neq) t x y ah) {xs ys:Array Value} (hx:e x= .agg xs) (hy:e y= .agg ys) (hg:P.eqGuardType P.depth t=false) {b:Bool} (hb:(Op.equal t (.agg xs) (.agg ys)).run P w= .ok b w):
  (execOp e o).run P w= .ok (.value (.bool (b==want))) w:=by
 have hgd:∀op,(eqGuard op t x y (.agg xs) (.agg ys)).run P w= .ok () w:=fun op=>run_eqGuard_agg w op t x y xs ys hg
 cases want
 .have e1:binOp .neq t (.agg xs) (.agg ys)=(do pure (.bool (!(<-Op.equal t (.agg xs) (.agg ys))))):=rfl;have h1:(binOp .neq t (.agg xs) (.agg ys)).run P w= .ok (.bool (!b)) w:=by
   rw [e1];simp only [Sem.run_bind,hb,Result.andThen_ok,Sem.run_pure]
  have ho:o.op= .binOp .neq t x y ah:=ho;simp [execOp,ho,hx,hy,hgd,h1]
 .have e1:binOp .eql t (.agg xs) (.agg ys)=(do pure (.bool (<-Op.equal t (.agg xs) (.agg ys)))):=rfl;have h1:(binOp .eql t (.agg xs) (.agg ys)).run P w= .ok (.bool b) w:=by
   rw [e1];simp only [Sem.run_bind,hb,Result.andThen_ok,Sem.run_pure]
  have ho:o.op= .binOp .eql t x y ah:=ho;simp [execOp,ho,hx,hy,hgd,h1]
def QJ (he:∀x,Den ρ (ev x) (e x)) (ho:o.op= .binOp (if want then .eql else .neq) t x y ah) {v:af} (h:BQ P o ev t want (ev x) (ev y)=some v) (w:World):
  ∃eH z,(execOp e o).run P w= .ok eH w/\tG eH z/\Den ρ v z:=by
 unfold BQ at h;have hx:=he x;have hy:=he y
 -- what == comes to, and both operations out of it
 have main:∀r:Bool,(Op.equal t (e x) (e y)).run P w= .ok r w->(Value.gB (e x)=true\/Value.gB (e y)=true)->(∀cs ds,e x= .agg cs->e y= .agg ds->False)->(e x= .nilIface->e y= .nilIface->False)->v= .raw (.bool (r==want))->
   ∃eH z,(execOp e o).run P w= .ok eH w/\tG eH z/\Den ρ v z:=fun r hr QK h1 h2 hv=>by
  refine⟨.value (.bool (r==want)), .bool (r==want), ?_,rfl,by rw [hv];exact .raw _⟩;refine Jp ho rfl rfl h1 h2 ?_;cases want
  .simp only [Bool.false_eq_true,if_false,NO QK,Sem.run_bind,hr,Result.andThen_ok,Sem.run_pure];cases r<;>rfl
  .simp only [if_true,Z7 QK,Sem.run_bind,hr,Result.andThen_ok,Sem.run_pure];cases r<;>rfl
 split at h
 .rename_i b hb;cases h;obtain⟨g1,g2,a,n,k,g3⟩:=GE hb hx hy w 9999;exact main b g1 (.inl g2) (fun cs ds hc=>by rw [g3]at hc;cases hc) (fun hc=>by rw [g3]at hc;cases hc) rfl
 split at h
 .rename_i b hb;cases h;obtain⟨⟨xs,q1⟩,⟨ys,aQ⟩,b8,eo⟩:=aab hb hx hy w;rw [q1,aQ]at eo;exact⟨_,_,aae ho q1 aQ b8 eo,rfl, .raw _⟩
 split at h
 .rename_i b hb;obtain⟨i,off,off',el,n,h1,h2,h3,h4,h5⟩:=Cb hb;rw [h1]at hx;rw [h2]at hy;obtain⟨bb,c,g1,g2⟩:=hx.kH;obtain⟨atV,c',g3,g4⟩:=hy.kH;rw [g1]at g3;cases g3;cases h;refine main b ?_ (.inl (by rw [g2];rfl)) (fun cs ds hc=>by rw [g2]at hc;cases hc) (fun hc=>by rw [g2]at hc;cases hc) rfl;rw [g2,g4,h5];exact Z2 h3 h4 bb off off' w
 .cases hf:lX P t (ev x)&&sameKind (ev x) (ev y)with
  |true=>
   rw [hf]at h;cases h;rw [ae]at hf;obtain⟨g1,g2,g3,g4⟩:=QF hf.1 hf.2 hx hy w 9999;exact main false g1 (.inl g3) (fun cs ds hc=>by rw [hc]at g3;cases g3) (fun hc=>(g4 hc).elim) (by cases want<;>rfl)
  |false=>
   rw [hf]at h;cases Cc:lX P t (ev y)&&sameKind (ev y) (ev x)with
   |true=>
    rw [Cc]at h;cases h;rw [ae]at Cc;obtain⟨g1,g2,g3,g4⟩:=QF Cc.1 Cc.2 hy hx w 9999;exact main false g2 (.inr g3) (fun cs ds _ hc=>by rw [hc]at g3;cases g3) (fun _ hc=>(g4 hc).elim) (by cases want<;>rfl)
   |false=>
    rw [Cc]at h;exact vp he (by rw [ho];rfl) h w
end
def xz {op:BinOp} {k k':IntKind} {a b:Int} {v:af} (h:jr op k k' a b=some v):∃m n:Nat,k= .i64/\k'= .i64/\a=m/\b=n/\zz op m n=some v:=by
 unfold jr at h;cases ha:u9 a with
 |no=>rw [ha]at h;cases h
 |mk m=>
  rw [ha]at h;cases hb:u9 b with
  |no=>rw [hb]at h;cases h
  |mk n=>
   rw [hb]at h;cases h1:BR k with
   |false=>rw [h1]at h;cases h
   |true=>
    rw [h1]at h;cases h2:BR k' with
    |false=>rw [h2]at h;cases h
    |true=>
     rw [h2]at h;exact⟨m,n,QE h1,QE h2,Jm ha,Jm hb,h⟩
def aaf (hH:bh P B ρ H w) (he:∀x,Den ρ (ev x) (e x)) {op:BinOp} {t ah:TypeId} {x y:Operand} (ho:o.op= .binOp op t x y ah):cN P B ρ H w ((execOp e o).run P w) (iU op t x y ah P o ev H):=by
 have hp:qj o.op=true:=by rw [ho];rfl
 unfold iU;cases hx:iG (ev x)with
 |no=>
  refine l8 hH fun v hv=> ?_
  unfold xj at hv;split at hv
  .exact QJ (want:=true) he ho hv w
  .exact QJ (want:=false) he ho hv w
  .exact vp he hp hv w
 |int k a=>
  cases hy:iG (ev y)with
  |no=>exact vq hH he hp
  |int k' b=>
   have ex:e x= .int k a:=by have:=he x;rw [zK hx]at this;exact this.cc
   have zM:e y= .int k' b:=by have:=he y;rw [zK hy]at this;exact this.cc
   cases hf:jr op k k' a b with
   |some v=>
    obtain⟨m,n,rfl,rfl,rfl,rfl,h5⟩:=xz hf;obtain⟨z,rfl,hz⟩:=ZY h5 t w;simp only [hf];exact fQ hH (Jp ho ex zM (fun _ _ hc=>by cases hc) (fun hc=>by cases hc) hz) (.raw z)
   |none=>
    simp only [hf];refine l8 hH fun v hv=> ?_
    unfold oT at hv;cases hk:k==k' with
    |false=>rw [hk]at hv;exact vp he hp hv w
    |true=>
     rw [hk]at hv;have hkk:k=k':=by simpa using hk
     subst hkk;simp only [cond_true]at hv;split at hv
     .rename_i z hz;cases hv;exact⟨.value z,z,Jp ho ex zM (fun _ _ hc=>by cases hc) (fun hc=>by cases hc) (ZZ hz t w),rfl, .raw z⟩
     .exact vp he hp hv w
end
section
variable {P:Program} {B:Nat} {ρ:Env} {H:ai} {w:World} {o:Oper} {ev:dJ} {e:Operand->Value}
def lz {r:Result Next} {v:af} {y:Value} (h:r= .ok (.value y) w) (hd:Den ρ v y):∃eH z,r= .ok eH w/\tG eH z/\Den ρ v z:=⟨.value y,y,h,rfl,hd⟩
def xA {he:∀x,Den ρ (ev x) (e x)} {q:Option Operand} {d n:Nat} (h:np (q.map ev) d=some n):(q=none/\n=d)\/∃k,q.map e=some (.int k n):=by
 cases q with
 |none=>left;simp [np]at h;exact⟨rfl,h.symm⟩
 |some x=>
  right;obtain⟨k,hk⟩:=Ca (v:=ev x) h;have:=he x;rw [hk]at this;exact⟨k,by simp [this.cc]⟩
def aag {k:IntKind} {i y:Nat} (h:i<=y) (code:BoundsCode) (w:World):(Instr.sliceBound (.int k i) y code).run P w= .ok i w:=by
 have:=run_sliceBound (P:=P) (w:=w) k (i:Int) y code ω ω;simpa using this
def EJ (QL:Bool) {len cap l h m:Nat} {lo hi mx:Option Value} (hl:(lo=none/\l=0)\/∃k,lo=some (.int k l)) (hh:(hi=none/\h=len)\/∃k,hi=some (.int k h))
  (hm:(mx=none/\m=cap)\/∃k,mx=some (.int k m)) (hx:mx=none\/hi≠none) (h1:l<=h) (h2:h<=m) (h3:m<=cap) (w:World):(Instr.sliceBounds QL len cap lo hi mx).run P w= .ok (l,h,m) w:=by
 rcases hl with⟨rfl,rfl⟩|⟨kl,rfl⟩<;>rcases hh with⟨rfl,rfl⟩|⟨kh,rfl⟩<;>rcases hm with⟨rfl,rfl⟩|⟨km,rfl⟩<;>
  first
   |(simp [Instr.sliceBounds,aag,h1,h2,h3];done)
   |(rcases hx with hx|hx<;>first |cases hx|exact absurd rfl hx)
def av.aah {t:av} (xs:List t.den) (h:Nat) (hh:h<=xs.length):t.flat (xs.take h)=(t.flat xs).take (h*t.size):=by
 have e:(t.flat xs).take (h*t.size)=(t.flat (xs.take h)++t.flat (xs.drop h)).take (h*t.size):=by rw [<-av.B7,List.take_append_drop]
 have hl:(t.flat (xs.take h)).length=h*t.size:=by rw [t.iW,eE,Nat.min_eq_left hh]
 rw [e,List.take_append,eT (Nat.le_of_eq hl),hl,Nat.sub_self];simp
def av.aai {t:av} (xs:List t.den) (h:Nat) (hh:h<=xs.length):t.flat (xs.drop h)=(t.flat xs).drop (h*t.size):=by
 have e:(t.flat xs).drop (h*t.size)=(t.flat (xs.take h)++t.flat (xs.drop h)).drop (h*t.size):=by rw [<-av.B7,List.take_append_drop]
 have hl:(t.flat (xs.take h)).length=h*t.size:=by rw [t.iW,eE,Nat.min_eq_left hh]
 rw [e,List.drop_append,List.drop_eq_nil_of_le (Nat.le_of_eq hl),hl,Nat.sub_self];simp
def av.aaj {t:av} (xs:List t.den) (l h:Nat) (h1:l<=h) (h2:h<=xs.length):t.flat ((xs.take h).drop l)=((t.flat xs).take (h*t.size)).drop (l*t.size):=by
 rw [av.aai _ _ (by rw [eE];omega),av.aah _ _ h2]
def Cd {ρ:Env} {t:av} {xs:List t.den} {A:List Value} {off l h:Nat} (hd:aH ρ (t.flat xs) ((A.drop off).take (t.flat xs).length)) (h1:l<=h) (h2:h<=xs.length):
  aH ρ (t.flat ((xs.take h).drop l)) ((A.drop (off+l*t.size)).take (t.flat ((xs.take h).drop l)).length):=by
 have e1:(t.flat ((xs.take h).drop l)).length=h*t.size-l*t.size:=by
  rw [t.iW,nQ,eE,Nat.min_eq_left h2,Nat.sub_mul]
 have hle:h*t.size<=xs.length*t.size:=Nat.mul_le_mul_right _ h2;have:=(hd.take (h*t.size)).drop (l*t.size);rw [e1,av.aaj xs l h h1 h2];have e2:(((A.drop off).take (t.flat xs).length).take (h*t.size)).drop (l*t.size)=(A.drop (off+l*t.size)).take (h*t.size-l*t.size):=by
  rw [List.take_take,Nat.min_eq_left (by rw [t.iW];exact hle),List.drop_take,List.drop_drop]
 rwa [e2]at this
def EK {t el:TypeId} {x:Operand} {lo hi mx:Option Operand} (he:∀x,Den ρ (ev x) (e x)) (ho:o.op= .slice t x lo hi mx) (hu:P.underlying t=some (.slice el)) {len kk l h s:Nat} {a:Option Addr}
  (hx:e x= .slice a len kk) (hmx:mx=none) (hs:en P el=some s) (hh:np (hi.map ev) len=some h) (hl:np (lo.map ev) 0=some l) (h1:l<=h) (h2:h<=kk):
  (execOp e o).run P w= .ok (.value (.slice (if kk=l then a else a.map (·.add (l*s))) (h-l) (kk-l))) w:=by
 have zN:=xA (he:=he) hh;have hl':=xA (he:=he) hl;subst hmx;have hr:=EJ (P:=P) true (len:=len) (cap:=kk) (lo:=lo.map e) (hi:=hi.map e) (mx:=none) (l:=l) (h:=h) (m:=kk)
  (by rcases hl' with⟨rfl,h⟩|h; ·exact .inl ⟨rfl,h⟩
      .exact .inr h) (by rcases zN with⟨rfl,h⟩|h; ·exact .inl ⟨rfl,h⟩
                         .exact .inr h) (.inl ⟨rfl,rfl⟩) (.inl rfl) h1 h2 (aJ _) w
 simp only [execOp,ho,Instr.sliceAt,Sem.run_bind,dw hu,Result.andThen_ok,hx,Instr.slice,Option.map_none,hr,jT hs,Sem.run_pure]
def QM {el:TypeId} {s n:Nat} {lo hi mx:Option af} {k:Nat->Nat->af} {v:af} (h:zu P el s n lo hi mx k=some v):en P el=some s/\∃h l,np hi n=some h/\np lo 0=some l/\mx=none/\l<=h/\h<=n/\v=k l h:=by
 unfold zu at h;simp only [dH]at h;obtain⟨s',hs,h',hh,l,hl,h⟩:=h;cases hb:(mx.isNone&&Nat.beq s s'&&Nat.ble l h'&&Nat.ble h' n)with
 |false=>rw [hb]at h;cases h
 |true=>
  rw [hb]at h;cases h;simp only [ae]at hb;obtain⟨⟨⟨b1,b2⟩,b3⟩,b4⟩:=hb;have b2:=ac b2;subst b2;exact⟨hs,h',l,hh,hl,by simpa using b1,bU b3,bU b4,rfl⟩
def aak (hH:bh P B ρ H w) (he:∀x,Den ρ (ev x) (e x)) {t:TypeId} {x:Operand} {lo hi mx:Option Operand} (ho:o.op= .slice t x lo hi mx):cN P B ρ H w ((execOp e o).run P w) (ib t x lo hi mx P o ev H):=by
 refine l8 hH fun v hv=> ?_
 have hx:=he x;unfold BV at hv;split at hv
 .exact vp he (by rw [ho];rfl) hv w
 .rename_i x' atW;unfold BP at hv;split at hv
  .rename_i n el i off hu gq;rw [gq]at hx;obtain⟨b,c,g1,g2⟩:=hx.kH;simp only [dH]at hv;obtain⟨s,hs,m,hm,h,hh,l,hl,hv⟩:=hv;cases hb:(Nat.ble l h&&Nat.ble h m&&Nat.ble m n&&((mx.map ev).isNone||(hi.map ev).isSome))with
   |false=>rw [hb]at hv;cases hv
   |true=>
    rw [hb]at hv;simp only [ae,Bool.or_eq_true]at hb;obtain⟨⟨⟨b1,b2⟩,b3⟩,b4⟩:=hb;have b1:=bU b1;have b2:=bU b2;have b3:=bU b3;cases hv;have nW:mx.map e=none\/hi.map e≠none:=by
     rcases b4 with b4|b4
     .left;cases mx<;>simp_all
     .right;cases hi<;>simp_all
    have hm':=xA (he:=he) hm;have zN:=xA (he:=he) hh;have hl':=xA (he:=he) hl;have hr:=EJ (P:=P) false (len:=n) (cap:=n) (lo:=lo.map e) (hi:=hi.map e) (mx:=mx.map e) (l:=l) (h:=h) (m:=m)
     (by rcases hl' with⟨rfl,h⟩|h; ·exact .inl ⟨rfl,h⟩
         .exact .inr h) (by rcases zN with⟨rfl,h⟩|h; ·exact .inl ⟨rfl,h⟩
                            .exact .inr h) (by rcases hm' with⟨rfl,h⟩|h; ·exact .inl ⟨rfl,h⟩
                                               .exact .inr h) nW b1 b2 b3 w
    have lB:Den ρ (af.slice i (cond (Nat.beq m l) off (off+l*s)) (h-l) (.known (m-l))) (.slice (some ⟨b,cond (Nat.beq m l) off (off+l*s),none⟩) (h-l) (m-l)):= .slice g1 rfl ω;refine lz ?_ lB;simp only [execOp,ho,Instr.sliceAt,Sem.run_bind,dw hu,Result.andThen_ok,g2,Instr.sureAddr,Sem.run_pure,hr,jT hs];congr 4;by_cases hml:m=l
    .subst hml;simp
    .rw [tH hml,if_neg hml,jU];rfl
  .rename_i el i off len cap hu gq;rw [gq]at hx;obtain⟨b,c,kk,g1,gc,gl,g2⟩:=hx.ij;simp only [dH]at hv;obtain⟨s,hs,h,hh,l,hl,hv⟩:=hv;have zN:=xA (he:=he) hh;have hl':=xA (he:=he) hl;have main:∀(off':Nat) (cap':aZ),mx=none->l<=h->h<=kk->v= .slice i off' (h-l) cap'->zH cap' c (kk-l)->(if kk=l then off=off' else off+l*s=off')->∃eH z,(execOp e o).run P w= .ok eH w/\tG eH z/\Den ρ v z:=by
    intro off' cap' hmx h1 h2 aal hc hoff;subst hmx;subst aal;have hr:=EJ (P:=P) true (len:=len) (cap:=kk) (lo:=lo.map e) (hi:=hi.map e) (mx:=none) (l:=l) (h:=h) (m:=kk)
     (by rcases hl' with⟨rfl,h⟩|h; ·exact .inl ⟨rfl,h⟩
         .exact .inr h) (by rcases zN with⟨rfl,h⟩|h; ·exact .inl ⟨rfl,h⟩
                            .exact .inr h) (.inl ⟨rfl,rfl⟩) (.inl rfl) h1 h2 (aJ _) w
    refine lz ?_ (.slice (off:=off') g1 hc (show h-l<=kk-l by omega));simp only [execOp,ho,Instr.sliceAt,Sem.run_bind,dw hu,Result.andThen_ok,g2,Instr.slice,Option.map_none,hr,jT hs,Sem.run_pure];congr 3;by_cases ql:kk=l
    .rw [if_pos ql]at hoff ⊢;rw [hoff]
    .rw [if_neg ql]at hoff ⊢;simp [jU,hoff]
   have other:mx=none->((cond (Nat.ble l h&&Nat.ble h len) (cond (Nat.beq l 0) (some (af.slice i off h cap)) (cond (Nat.ble (l+1) len) (some (af.slice i (off+l*s) (h-l) .any)) none)) none)=some v)->∃eH z,(execOp e o).run P w= .ok eH w/\tG eH z/\Den ρ v z:=by
    intro vr hv;cases hb:(Nat.ble l h&&Nat.ble h len)with
    |false=>rw [hb]at hv;cases hv
    |true=>
     rw [hb]at hv;rw [ae]at hb;have b1:=bU hb.1;have b2:=bU hb.2;simp only [cond_true]at hv;cases hz:Nat.beq l 0 with
     |true=>
      have o6:=ac hz;rw [hz]at hv;subst o6;cases hv;exact main off cap vr b1 ω rfl gc τ
     |false=>
      rw [hz]at hv;simp only [cond_false]at hv;cases hq:Nat.ble (l+1) len with
      |false=>rw [hq]at hv;cases hv
      |true=>
       rw [hq]at hv;have hq:=bU hq;cases hv;refine main _ .any vr b1 ω rfl trivial ?_;rw [if_neg ω]
   cases mx with
   |some EL=>
    simp only [Option.map_some,dH]at hv;obtain⟨m,hm,hv⟩:=hv;obtain⟨km,hkm⟩:=Ca (v:=ev EL) hm;have QN:=he EL;rw [hkm]at QN;cases hb:(Nat.ble l h&&Nat.ble h m&&Nat.ble m (Qd cap len)&&(hi.map ev).isSome)with
    |false=>rw [hb]at hv;cases hv
    |true=>
     rw [hb]at hv;simp only [ae]at hb;obtain⟨⟨⟨b1,b2⟩,b3⟩,b4⟩:=hb;have b1:=bU b1;have b2:=bU b2;have b3:=bU b3;have b3:m<=kk:=by
      cases cap with
      |known n0=>
       have hkk:kk=n0:=gc;subst hkk;exact b3
      |full=>exact c6 b3 gl
      |any=>exact c6 b3 gl
     cases hv;have nW:(some EL).map e=none\/hi.map e≠none:=by right;cases hi<;>simp_all
     have hr:=EJ (P:=P) true (len:=len) (cap:=kk) (lo:=lo.map e) (hi:=hi.map e) (mx:=(some EL).map e) (l:=l) (h:=h) (m:=m)
      (by rcases hl' with⟨rfl,h⟩|h; ·exact .inl ⟨rfl,h⟩
          .exact .inr h) (by rcases zN with⟨rfl,h⟩|h; ·exact .inl ⟨rfl,h⟩
                             .exact .inr h) (.inr ⟨km,by simp [QN.cc]⟩) nW b1 b2 b3 w
     refine lz ?_ (.slice (off:=cond (Nat.beq m l) off (off+l*s)) g1 rfl (show h-l<=m-l by omega));simp only [execOp,ho,Instr.sliceAt,Sem.run_bind,dw hu,Result.andThen_ok,g2,Instr.slice,hr,jT hs,Sem.run_pure];congr 3;by_cases ql:m=l
     .subst ql;simp
     .rw [if_neg ql,tH ql];simp [jU]
   |none=>
    cases cap with
    |known n0=>
     have hkk:kk=n0:=gc;subst hkk;simp only [Option.map_none]at hv;cases hb:(Nat.ble l h&&Nat.ble h kk)with
     |false=>rw [hb]at hv;cases hv
     |true=>
      rw [hb]at hv;rw [ae]at hb;have b1:=bU hb.1;have b2:=bU hb.2;cases hv;refine main _ _ rfl b1 b2 rfl rfl ?_;by_cases ql:kk=l
      .subst ql;simp
      .rw [if_neg ql,tH ql];rfl
    |full=>exact other rfl hv
    |any=>exact other rfl hv
  .rename_i el z u xs hu gq;rw [gq]at hx;obtain⟨hs,h,l,hh,hl,hmx,b1,b2,rfl⟩:=QM hv;have vr:mx=none:=by cases mx<;>simp_all
   rcases hx.tF with⟨rfl,a,k,nW,_⟩|⟨b,off,k,A,g1,g2,g3,g4,nW,_⟩
   .have hl0:l=0:=by simp at b2;omega
    have hh0:h=0:=by simp at b2;omega
    subst hl0;subst hh0;exact lz (EK he ho hu nW vr hs hh hl b1 τ) (.e6 fun e=>by cases e)
   .have hr:=EK (w:=w) he ho hu nW vr hs hh hl b1 (c6 b2 g4);cases hlt:Nat.ble (l+1) h with
    |true=>
     have hlt:=bU hlt;rw [if_neg (show¬k=l by omega)]at hr;refine lz hr ?_;simp only [Option.map_some,jU,cond_true];have hn:((xs.take h).drop l).length=h-l:=by simp;omega
     rw [<-hn];refine .bt g1 ?_ rfl (Cd g3 b1 b2) (by rw [hn];omega) (fun e=>by cases e);rw [u.iW,hn];rw [u.iW]at g2;have:(h-l)*u.size+l*u.size<=xs.length*u.size:=by rw [<-Nat.add_mul];exact Nat.mul_le_mul_right _ ω
     omega
    |false=>
     have:¬l+1<=h:=fun hh=>by rw [fA hh]at hlt;cases hlt
     obtain rfl:l=h:=by omega
     refine lz hr ?_;rw [Nat.sub_self];exact .e6 fun e=>by cases e
  .rename_i el e' u i k0 len cap hu gq;rw [gq]at hx;obtain⟨hs,h,l,hh,hl,hmx,b1,b2,rfl⟩:=QM hv;have vr:mx=none:=by cases mx<;>simp_all
   rcases hx.jt with⟨rfl,a,nW⟩|⟨b,c,kc,g1,g2,g3,nW⟩
   .have hl0:l=0:=by omega
    have hh0:h=0:=by omega
    subst hl0;subst hh0;refine lz (EK he ho hu nW vr hs hh hl b1 τ) ?_;exact .qi
   .have hr:=EK (w:=w) he ho hu nW vr hs hh hl b1 (c6 b2 g3);cases h0:Nat.beq l 0 with
    |true=>
     have h0:=ac h0;subst h0;refine lz hr ?_;simp only [cond_true,Nat.sub_zero,Nat.zero_mul,Option.map_some,jU,Nat.add_zero,ite_self];exact .bT g1 g2 ω
    |false=>
     cases hlt:Nat.ble (l+1) h with
     |true=>
      have hlt:=bU hlt;rw [if_neg (show¬kc=l by omega)]at hr;refine lz hr ?_;simp only [Option.map_some,jU,cond_true,cond_false];rw [<-Nat.add_mul];exact .bT g1 trivial ω
     |false=>
      have:¬l+1<=h:=fun hh=>by rw [fA hh]at hlt;cases hlt
      obtain rfl:l=h:=by omega
      refine lz hr ?_;rw [Nat.sub_self];exact .e6 fun e=>by cases e
  .cases hv
end
end Go.Proofs.YtibikmmdbdlafaaGreatDoor.Sv
