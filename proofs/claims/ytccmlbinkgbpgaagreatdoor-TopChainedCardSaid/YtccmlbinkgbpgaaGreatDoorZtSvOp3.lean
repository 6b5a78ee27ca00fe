/- The runner over an abstract memory: operations that neither read nor write it. -/
import Derived.Test.YtccmlbinkgbpgaaGreatDoorZtSvTy
import Derived.IntWalk
import Derived.ChangeKeysEq
import Derived.Laws.StructEq
import Derived.Laws.Slices
namespace Go.Proofs.YtccmlbinkgbpgaaGreatDoor.Sv
open Go.RowKit
def Nx:Next→Value→Prop
 | .value v,x=>x=v
 | .skip,x=>x=undef
 |_,_=>False
def OpOk (P:Program) (B:Nat) (ρ:Env) (H:AHeap) (w:World) (r:Result Next):VR→Prop
 | .no=>True
 | .ok v H'=>Fr ρ H.next H'.next→∃ρ' x w' nx,r= .ok nx w'∧Nx nx x∧Den ρ' v x∧HDen P B ρ' H' w'∧Stp ρ H w ρ' H' w'
 | .enter f args H'=>H'=H∧∃xs:List Value,r= .ok (.enter f xs.toArray) w∧Dens ρ args xs
 | .round i args H'=>H'=H∧∃(b c:Nat) (xs:List Value),ρ i=some (b,c)∧r=(Instr.yield b xs.toArray).run P w∧Dens ρ args xs
theorem runPure_run {P:Program} {α:Type}:∀(s:Sem α) {a:α} (w:World),runPure P s=some a→s.run P w= .ok a w
 | .pure a,_,w,h=>by simp [runPure]at h;subst h;rfl
 | .program k,_,w,h=>by
   have:=runPure_run (k P) w (by simpa [runPure]using h)
   simpa [Sem.run]using this
 | .mark m k,_,w,h=>by
   have:=runPure_run k w (by simpa [runPure]using h)
   simpa [Sem.run]using this
 | .load ..,_,_,h=>by simp [runPure]at h
 | .store ..,_,_,h=>by simp [runPure]at h
 | .new ..,_,_,h=>by simp [runPure]at h
 | .shape ..,_,_,h=>by simp [runPure]at h
 | .freeze ..,_,_,h=>by simp [runPure]at h
 | .frozen ..,_,_,h=>by simp [runPure]at h
 | .getObj ..,_,_,h=>by simp [runPure]at h
 | .setObj ..,_,_,h=>by simp [runPure]at h
 | .choose ..,_,_,h=>by simp [runPure]at h
 | .sys ..,_,_,h=>by simp [runPure]at h
 | .halt ..,_,_,h=>by simp [runPure]at h
section
variable {P:Program} {B:Nat} {ρ:Env} {H:AHeap} {w:World} {r:Result Next}
theorem ok_pure (hH:HDen P B ρ H w) {x:Option AV} (h:∀v,x=some v→∃nx y,r= .ok nx w∧Nx nx y∧Den ρ v y):OpOk P B ρ H w r (vr H x):=by
 cases x with
 |none=>trivial
 |some v=>
  obtain⟨nx,y,h1,h2,h3⟩:=h v rfl
  exact fun _=>⟨ρ,y,w,nx,h1,h2,h3,hH,Stp.refl _ _ _⟩
theorem ok_val (hH:HDen P B ρ H w) {v:AV} {y:Value} (h:r= .ok (.value y) w) (hd:Den ρ v y):OpOk P B ρ H w r (.ok v H):=
 fun _=>⟨ρ,y,w, .value y,h,rfl,hd,hH,Stp.refl _ _ _⟩
theorem ptrV_mk {v:AV} {i off:Nat} (h:ptrV v= .mk i off):v= .ptr i off:=by
 cases v<;>first |(cases h;rfl)|(simp [ptrV]at h)
theorem sliceV_mk {v:AV} {i off len:Nat} {cap:Cap} (h:sliceV v= .mk i off len cap):v= .slice i off len cap:=by
 cases v<;>first |(cases h;rfl)|(simp [sliceV]at h)
theorem aggV_some {v:AV} {cs:List AV} (h:aggV v=some cs):v= .agg cs:=by
 cases v<;>first |(cases h;rfl)|(simp [aggV]at h)
theorem tupV_some {v:AV} {cs:List AV} (h:tupV v=some cs):v= .tuple cs:=by
 cases v<;>first |(cases h;rfl)|(simp [tupV]at h)
theorem bV_mk {v:Value} {b:Bool} (h:bV v= .mk b):v= .bool b:=by
 cases v<;>first |(cases h;rfl)|(simp [bV]at h)
theorem boolV_mk {v:AV} {b:Bool} (h:boolV v= .mk b):v= .raw (.bool b):=by
 cases v<;>first |(rw [bV_mk h])|(simp [boolV]at h)
theorem wV_int {v:Value} {k:IntKind} {n:Int} (h:wV v= .int k n):v= .int k n:=by
 cases v<;>first |(cases h;rfl)|(simp [wV]at h)
theorem avW_int {v:AV} {k:IntKind} {n:Int} (h:avW v= .int k n):v= .raw (.int k n):=by
 cases v<;>first |(rw [wV_int h])|(simp [avW]at h)
theorem intN_mk {n:Int} {m:Nat} (h:intN n= .mk m):n=m:=by
 cases n<;>first |(cases h;rfl)|(simp [intN]at h)
theorem natV_mk {v:AV} {m:Nat} (h:natV v= .mk m):∃k,v= .raw (.int k m):=by
 unfold natV at h
 cases hw:avW v with
 |no=>rw [hw]at h;cases h
 |int k n=>
  rw [hw]at h
  have:=intN_mk h
  subst this
  exact⟨k,avW_int hw⟩
theorem natO_some {v:AV} {m:Nat} (h:natO v=some m):∃k,v= .raw (.int k m):=by
 unfold natO at h
 cases hw:natV v with
 |no=>rw [hw]at h;cases h
 |mk n=>rw [hw]at h;cases h;exact natV_mk hw
theorem blkV_mk {b:Option ABlk} {e:TypeId} {cs:List AV} {x f r:Bool} (h:blkV b= .mk e cs x f r):b=some (.cells e cs x f r):=by
 cases b with
 |none=>cases h
 |some b=>cases b<;>first |(cases h;rfl)|(simp [blkV]at h)
theorem sizeB_some {t:TypeId} {n:Nat} (h:sizeB P t=some n):∃i,P.info? t=some i∧i.size=n:=by
 simpa [sizeB,Option.map_eq_some_iff]using h
theorem zeroB_some {t:TypeId} {z:Value} (h:zeroB P t=some z):∃i,P.info? t=some i∧i.zero=some z:=by
 simpa [zeroB,Option.bind_eq_some_iff]using h
theorem elemB_some {t e:TypeId} (h:elemB P t=some e):P.underlying t=some (.slice e):=by
 unfold elemB at h
 split at h
 ·rename_i e' he;cases h;exact he
 ·cases h
theorem run_sizeB {t:TypeId} {n:Nat} (h:sizeB P t=some n) (w:World):(sizeOf t).run P w= .ok n w:=by
 obtain⟨i,hi,rfl⟩:=sizeB_some h
 simp [sizeOf,typeInfo,hi]
theorem run_zeroB {t:TypeId} {z:Value} (h:zeroB P t=some z) (w:World):(zeroValue t).run P w= .ok z w:=by
 obtain⟨i,hi,hz⟩:=zeroB_some h
 simp [zeroValue,typeInfo,hi,hz]
theorem run_und {t:TypeId} {d:TypeDesc} (h:P.underlying t=some d) (w:World):(underlying t).run P w= .ok d w:=by
 simp [underlying,h]
theorem run_isAggB {t:TypeId} {b:Bool} (h:isAggB P t=some b) (w:World):(isAgg t).run P w= .ok b w:=by
 simp only [isAggB,Option.map_eq_some_iff]at h
 obtain⟨d,hd,rfl⟩:=h
 unfold isAgg
 simp only [Sem.run_bind,run_und hd,Result.andThen_ok]
 cases d<;>rfl
theorem lv_one {t:TypeId} (h:lv P t= .one):isAggB P t=some false:=by
 unfold lv at h
 split at h<;>first |assumption|(cases h)
theorem lv_agg {t:TypeId} {n:Nat} (h:lv P t= .agg n):isAggB P t=some true∧sizeB P t=some n:=by
 unfold lv at h
 split at h
 ·rename_i h1 h2;cases h;exact⟨h1,h2⟩
 ·cases h
 ·cases h
theorem tv_arr {t:TypeId} {n s:Nat} (h:tv P t= .arr n s):∃e,P.underlying t=some (.array n e)∧sizeB P e=some s:=by
 unfold tv at h
 split at h
 ·rename_i n' e he
  split at h
  ·rename_i s' hs;cases h;exact⟨e,he,hs⟩
  ·cases h
 ·split at h<;>cases h
 ·cases h
theorem tv_sl {t:TypeId} {s:Nat} (h:tv P t= .sl s):∃e,P.underlying t=some (.slice e)∧sizeB P e=some s:=by
 unfold tv at h
 split at h
 ·split at h<;>cases h
 ·rename_i e he
  split at h
  ·rename_i s' hs;cases h;exact⟨e,he,hs⟩
  ·cases h
 ·cases h
theorem fv_mk {s:TypeId} {f off n:Nat} {t:TypeId} (h:fv P s f= .mk off n t):∃fs fd,P.underlying s=some (.struct fs)∧fs[f]? =some fd∧fd.offset=off∧fd.type=t∧sizeB P t=some n:=by
 unfold fv at h
 split at h
 ·rename_i fs hs
  split at h
  ·rename_i fd hf
   split at h
   ·rename_i n' hn;cases h;exact⟨fs,fd,hs,hf,rfl,rfl,hn⟩
   ·cases h
  ·cases h
 ·cases h
def plainOp:Op→Bool
 | .select .. =>false
 |_=>true
theorem execOp_congr {e e':Operand→Value} {o:Oper} (hs:plainOp o.op=true) (h:∀x∈o.op.operands.toList,e x=e' x):execOp e o=execOp e' o:=by
 obtain⟨dst,op,type,pos,after,guard⟩:=o
 cases op with
 |call c=>
  obtain⟨callee,args,argTypes⟩:=c
  have ha:args.map e=args.map e':=by
   apply Array.map_congr_left
   intro x hx
   exact h x (by simp [Op.operands,Call.operands,hx])
  cases callee with
  |value f=>
   have hf:=h f (by simp [Op.operands,Call.operands])
   simp [execOp,resolve,ha,hf]
  |invoke f m=>
   have hf:=h f (by simp [Op.operands,Call.operands])
   simp [execOp,resolve,ha,hf]
  |builtin b=>simp [execOp,resolve,ha]
 |go c=>
  obtain⟨callee,args,argTypes⟩:=c
  have ha:args.map e=args.map e':=by
   apply Array.map_congr_left
   intro x hx
   exact h x (by simp [Op.operands,Call.operands,hx])
  cases callee with
  |value f=>
   have hf:=h f (by simp [Op.operands,Call.operands])
   simp [execOp,resolve,ha,hf]
  |invoke f m=>
   have hf:=h f (by simp [Op.operands,Call.operands])
   simp [execOp,resolve,ha,hf]
  |builtin b=>simp [execOp,resolve,ha]
 |defer c=>
  obtain⟨callee,args,argTypes⟩:=c
  have ha:args.map e=args.map e':=by
   apply Array.map_congr_left
   intro x hx
   exact h x (by simp [Op.operands,Call.operands,hx])
  cases callee with
  |value f=>
   have hf:=h f (by simp [Op.operands,Call.operands])
   simp [execOp,resolve,ha,hf]
  |invoke f m=>
   have hf:=h f (by simp [Op.operands,Call.operands])
   simp [execOp,resolve,ha,hf]
  |builtin b=>simp [execOp,resolve,ha]
 |build t ps=>
  have ha:(ps.map fun(i,x)=>(i,e x))=ps.map fun(i,x)=>(i,e' x):=by
   apply Array.map_congr_left
   intro x hx
   have:=h x.2 (by simp only [Op.operands];exact List.mem_map_of_mem (Array.mem_toList_iff.2 hx))
   simp [this]
  simp [execOp,ha]
 |buildSlice t l ps=>
  have ha:(ps.map fun(i,x)=>(i,e x))=ps.map fun(i,x)=>(i,e' x):=by
   apply Array.map_congr_left
   intro x hx
   have:=h x.2 (by simp only [Op.operands];exact List.mem_map_of_mem (Array.mem_toList_iff.2 hx))
   simp [this]
  simp [execOp,ha]
 |makeFunc fn f c=>
  have h1:f.map e=f.map e':=Array.map_congr_left fun x hx=>h x (by simp [Op.operands,hx])
  have h2:c.map e=c.map e':=Array.map_congr_left fun x hx=>h x (by simp [Op.operands,hx])
  simp [execOp,h1,h2]
 |makeMap t r=>cases r<;>simp_all [Op.operands,execOp]
 |slice t x l hi m=>cases l<;>cases hi<;>cases m<;>simp_all [Op.operands,execOp]
 |select cs b=>cases hs
 |_=>simp_all [Op.operands,execOp]
theorem evRaw_eq {ev:Ev} {e:Operand→Value} (he:∀x,Den ρ (ev x) (e x)) {x:Operand} (h:(ev x).toRaw.isSome=true):evRaw ev x=e x:=by
 obtain⟨v,hv⟩:=Option.isSome_iff_exists.1 h
 rw [evRaw,hv,(he x).toRaw hv];rfl
theorem gen_ok {o:Oper} {ev:Ev} {e:Operand→Value} (he:∀x,Den ρ (ev x) (e x)) (hs:plainOp o.op=true) {v:AV} (h:gen P o ev=some v) (w:World):
  ∃nx y,(execOp e o).run P w= .ok nx w∧Nx nx y∧Den ρ v y:=by
 unfold gen at h
 cases hb:(o.op.operands.toList.all fun x=>(ev x).toRaw.isSome)with
 |false=>rw [hb]at h;cases h
 |true=>
  rw [hb]at h
  have hc:execOp (evRaw ev) o=execOp e o:=execOp_congr hs fun x hx=>evRaw_eq he (List.all_eq_true.1 hb x hx)
  simp only [cond_true,hc]at h
  split at h
  ·rename_i y hy;cases h;exact⟨_,y,runPure_run _ w hy,rfl, .raw y⟩
  ·rename_i hy;cases h;exact⟨_,undef,runPure_run _ w hy,rfl, .raw undef⟩
  ·cases h
theorem gen_pure {o:Oper} {ev:Ev} {e:Operand→Value} (hH:HDen P B ρ H w) (he:∀x,Den ρ (ev x) (e x)) (hs:plainOp o.op=true):OpOk P B ρ H w ((execOp e o).run P w) (vr H (gen P o ev)):=
 ok_pure hH fun _ h=>gen_ok he hs h w
variable {o:Oper} {ev:Ev} {e:Operand→Value}
theorem hMove_ok (hH:HDen P B ρ H w) (he:∀x,Den ρ (ev x) (e x)) {x:Operand} (ho:o.op= .move x):OpOk P B ρ H w ((execOp e o).run P w) (hMove x P o ev H):=
 ok_val hH (y:=e x) (by simp [execOp,ho]) (he x)
theorem hAssign_ok (hH:HDen P B ρ H w) (he:∀x,Den ρ (ev x) (e x)) {x:Operand} (ho:o.op= .assign x):OpOk P B ρ H w ((execOp e o).run P w) (hMove x P o ev H):=
 ok_val hH (y:=e x) (by simp [execOp,ho]) (he x)
theorem hPick_ok (hH:HDen P B ρ H w) (he:∀x,Den ρ (ev x) (e x)) {c a b:Operand} (ho:o.op= .pick c a b):OpOk P B ρ H w ((execOp e o).run P w) (hPick c a b P o ev H):=by
 unfold hPick
 cases hb:boolV (ev c)with
 |no=>trivial
 |mk k=>
  have hc:=he c
  rw [boolV_mk hb]at hc
  have hc:=hc.raw_eq
  cases k
  ·exact ok_val hH (y:=e b) (by simp [execOp,ho,hc,asBool]) (he b)
  ·exact ok_val hH (y:=e a) (by simp [execOp,ho,hc,asBool]) (he a)
theorem hNil_ok (hH:HDen P B ρ H w) (he:∀x,Den ρ (ev x) (e x)) {x:Operand} (ho:o.op= .nilCheck x):OpOk P B ρ H w ((execOp e o).run P w) (hNil x P o ev H):=by
 unfold hNil
 have hx:=he x
 cases hp:ptrV (ev x)with
 |mk i off=>
  rw [ptrV_mk hp]at hx
  obtain⟨b,c,h1,h2⟩:=hx.ptr_inv
  exact ok_val hH (y:=e x) (by simp [execOp,ho,h2]) hx
 |no=>
  refine ok_pure hH fun v hv=> ?_
  unfold pNil at hv
  split at hv
  ·rename_i f a b hx'
   cases hv
   rw [hx']at hx
   obtain⟨xs,ys,h1,h2,h3⟩:=hx.func_inv
   exact⟨_,e x,by simp [execOp,ho,h3];rfl,by rw [h3];rfl,hx⟩
  ·rename_i i hx'
   cases hv
   rw [hx']at hx
   obtain⟨b,c,h1,h2⟩:=hx.yield_inv
   exact⟨_,e x,by simp [execOp,ho,h2];rfl,by rw [h2];rfl,hx⟩
  ·rename_i t xs k off hx'
   cases hv
   rw [hx']at hx
   obtain⟨b,o',A,_,_,_,_,h2⟩:=hx.lptr_inv
   exact⟨_,e x,by simp [execOp,ho,h2];rfl,by rw [h2];rfl,hx⟩
  ·rename_i e' t i k off hx'
   cases hv
   rw [hx']at hx
   obtain⟨b,c,_,h2⟩:=hx.optr_inv
   exact⟨_,e x,by simp [execOp,ho,h2];rfl,by rw [h2];rfl,hx⟩
  ·exact gen_ok he (by simp [ho,plainOp]) hv w
theorem hFunc_ok (hH:HDen P B ρ H w) (he:∀x,Den ρ (ev x) (e x)) {fn:Fn} {a c:Array Operand} (ho:o.op= .makeFunc fn a c):OpOk P B ρ H w ((execOp e o).run P w) (hFunc fn a c P o ev H):=by
 have hl:∀l:List Operand,Dens ρ (l.map ev) (l.map e):=fun l=>by
  induction l with
  |nil=>exact .nil
  |cons x l ih=>exact .cons (he x) ih
 have h:=Den.func (fn:=fn) (hl a.toList) (hl c.toList)
 have e1:(a.toList.map e).toArray=a.map e:=by apply Array.ext';simp
 have e2:(c.toList.map e).toArray=c.map e:=by apply Array.ext';simp
 rw [e1,e2]at h
 exact ok_val hH (by simp [execOp,ho,Instr.makeFunc]) h
theorem hIface_ok (hH:HDen P B ρ H w) (he:∀x,Den ρ (ev x) (e x)) {t:TypeId} {x:Operand} (ho:o.op= .makeInterface t x):OpOk P B ρ H w ((execOp e o).run P w) (hIface t x P o ev H):=by
 refine ok_pure hH fun v hv=> ?_
 unfold pIface at hv
 split at hv
 ·cases hv
 ·cases hv
 ·rename_i d hd hn
  cases hv
  refine⟨.value (.iface t (e x)), .iface t (e x), ?_,rfl, .iface (he x)⟩
  simp only [execOp,ho,Instr.makeInterface,Sem.run_bind,run_und hn,Result.andThen_ok]
  cases d<;>first |rfl |exact absurd rfl (hd _)
theorem addr_add (b off n:Nat):(⟨b,off,none⟩:Addr).add n=⟨b,off+n,none⟩:=by
 unfold Addr.add;split
 ·rename_i e;subst e;rfl
 ·rfl
theorem fieldAddr_run {s t:TypeId} {x:Operand} {f foff n b O:Nat} (ho:o.op= .fieldAddr s x f) (hf:fv P s f= .mk foff n t) (hb:Nat.ble 1 n=true) (hx:e x= .pointer (some ⟨b,O,none⟩)):
  (execOp e o).run P w= .ok (.value (.pointer (some ⟨b,O+foff,none⟩))) w:=by
 obtain⟨fs,fd,g1,g2,g3,g4,g5⟩:=fv_mk hf
 have hn:n≠0:=by have:=Nat.le_of_ble_eq_true hb;omega
 subst g3;subst g4
 simp [execOp,ho,Instr.fieldAt,run_und g1,g2,hx,Instr.sureAddr,fieldPlace,run_sizeB g5,hn,addr_add]
theorem xField_ok (hH:HDen P B ρ H w) {s t:TypeId} {x:Operand} {f foff n:Nat} {v:AV} (ho:o.op= .fieldAddr s x f) (hf:fv P s f= .mk foff n t) (hx:Den ρ v (e x)):OpOk P B ρ H w ((execOp e o).run P w) (xField foff n v H):=by
 unfold xField
 split
 ·rename_i u xs k off
  cases hb:Nat.ble 1 n with
  |false=>trivial
  |true=>
   obtain⟨b,o',A,h1,h2,h3,h4,h5⟩:=hx.lptr_inv
   refine ok_val hH (fieldAddr_run ho hf hb h5) ?_
   rw [show o'+(k*u.size+off)+foff=o'+(k*u.size+(off+foff)) by omega]
   exact .lptr h1 h2 rfl h3 h4
 ·rename_i e' u i k off
  cases hb:Nat.ble 1 n with
  |false=>trivial
  |true=>
   obtain⟨b,c,h1,h5⟩:=hx.optr_inv
   refine ok_val hH (fieldAddr_run ho hf hb h5) ?_
   rw [Nat.add_assoc]
   exact .optr h1
 ·trivial
theorem hFieldAddr_ok (hH:HDen P B ρ H w) (he:∀x,Den ρ (ev x) (e x)) {s:TypeId} {x:Operand} {f:Nat} (ho:o.op= .fieldAddr s x f):OpOk P B ρ H w ((execOp e o).run P w) (hFieldAddr s x f P o ev H):=by
 unfold hFieldAddr
 cases hf:fv P s f with
 |no=>trivial
 |mk foff n t=>
  cases hp:ptrV (ev x)with
  |no=>exact xField_ok hH ho hf (he x)
  |mk i off=>
   cases hb:Nat.ble 1 n with
   |false=>simp only [hb];trivial
   |true=>
    simp only [hb]
    have hx:=he x
    rw [ptrV_mk hp]at hx
    obtain⟨b,c,h1,h2⟩:=hx.ptr_inv
    obtain⟨fs,fd,g1,g2,g3,g4,g5⟩:=fv_mk hf
    have hn:n≠0:=by have:=Nat.le_of_ble_eq_true hb;omega
    have ha:(⟨b,off,none⟩:Addr).add foff=⟨b,off+foff,none⟩:=by
     unfold Addr.add;split
     ·rename_i e;subst e;rfl
     ·rfl
    refine ok_val hH (y:= .pointer (some ⟨b,off+foff,none⟩)) ?_ (.ptr h1)
    subst g3;subst g4
    simp [execOp,ho,Instr.fieldAt,run_und g1,g2,h2,Instr.sureAddr,fieldPlace,run_sizeB g5,hn,ha]
theorem arrAddr_run {t:TypeId} {x ix:Operand} {k n s b O:Nat} {ki:IntKind} (ho:o.op= .indexAddr t x ix) (hix:e ix= .int ki k) (ht:tv P t= .arr n s) (hx:e x= .pointer (some ⟨b,O,none⟩)) (hlt:k<n):
  (execOp e o).run P w= .ok (.value (.pointer (some ⟨b,O+k*s,none⟩))) w:=by
 obtain⟨el,g1,g2⟩:=tv_arr ht
 simp [execOp,ho,Instr.indexAt,hix,asIntOf,run_und g1,hx,Instr.sureAddr,run_sizeB g2,hlt,addr_add]
theorem slAddr_run {t:TypeId} {x ix:Operand} {k s len kk b O:Nat} {ki:IntKind} (ho:o.op= .indexAddr t x ix) (hix:e ix= .int ki k) (ht:tv P t= .sl s) (hx:e x= .slice (some ⟨b,O,none⟩) len kk) (hlt:k<len):
  (execOp e o).run P w= .ok (.value (.pointer (some ⟨b,O+k*s,none⟩))) w:=by
 obtain⟨el,g1,g2⟩:=tv_sl ht
 simp [execOp,ho,Instr.indexAt,hix,asIntOf,run_und g1,hx,run_sizeB g2,hlt,addr_add]
theorem xArr_ok (hH:HDen P B ρ H w) {t:TypeId} {x ix:Operand} {k n s:Nat} {ki:IntKind} {v:AV} (ho:o.op= .indexAddr t x ix) (hix:e ix= .int ki k) (ht:tv P t= .arr n s) (hx:Den ρ v (e x)):OpOk P B ρ H w ((execOp e o).run P w) (xArr k n s v H):=by
 unfold xArr
 split
 ·rename_i u xs k0 off
  cases hb:Nat.ble (k+1) n with
  |false=>trivial
  |true=>
   obtain⟨b,o',A,h1,h2,h3,h4,h5⟩:=hx.lptr_inv
   refine ok_val hH (arrAddr_run ho hix ht h5 (Nat.le_of_ble_eq_true hb)) ?_
   rw [show o'+(k0*u.size+off)+k*s=o'+(k0*u.size+(off+k*s)) by omega]
   exact .lptr h1 h2 rfl h3 h4
 ·rename_i e' u i k0 off
  cases hb:Nat.ble (k+1) n with
  |false=>trivial
  |true=>
   obtain⟨b,c,h1,h5⟩:=hx.optr_inv
   refine ok_val hH (arrAddr_run ho hix ht h5 (Nat.le_of_ble_eq_true hb)) ?_
   rw [Nat.add_assoc]
   exact .optr h1
 ·trivial
theorem xIdx_ok (hH:HDen P B ρ H w) {t:TypeId} {x ix:Operand} {k s:Nat} {ki:IntKind} {v:AV} (ho:o.op= .indexAddr t x ix) (hix:e ix= .int ki k) (ht:tv P t= .sl s) (hx:Den ρ v (e x)):OpOk P B ρ H w ((execOp e o).run P w) (xIdx k s v H):=by
 unfold xIdx
 split
 ·rename_i z u xs
  cases hb:(Nat.beq u.size s&&Nat.ble (k+1) xs.length)with
  |false=>trivial
  |true=>
   rw [Bool.and_eq_true]at hb
   obtain⟨hs,hb⟩:=hb
   have hs:=Nat.eq_of_beq_eq_true hs
   have hb:k<xs.length:=Nat.le_of_ble_eq_true hb
   subst hs
   rcases hx.lst_inv with⟨rfl,_⟩|⟨b,off,kk,A,h1,h2,h3,h4,h5,_⟩
   ·simp at hb
   ·refine ok_val hH (slAddr_run ho hix ht h5 hb) ?_
    rw [show off+k*u.size=off+(k*u.size+0) by omega]
    exact .lptr h1 h2 rfl h3 hb
 ·rename_i e' u i k0 len cap
  cases hb:(Nat.beq u.size s&&Nat.ble (k+1) len)with
  |false=>trivial
  |true=>
   rw [Bool.and_eq_true]at hb
   obtain⟨hs,hb⟩:=hb
   have hs:=Nat.eq_of_beq_eq_true hs
   have hb:k<len:=Nat.le_of_ble_eq_true hb
   subst hs
   rcases hx.osl_inv with⟨rfl,_⟩|⟨b,c,kc,h1,_,_,h5⟩
   ·omega
   ·refine ok_val hH (slAddr_run ho hix ht h5 hb) ?_
    rw [show k0*u.size+k*u.size=(k0+k)*u.size+0 by rw [Nat.add_mul];rfl]
    exact .optr h1
 ·trivial
theorem hIndexAddr_ok (hH:HDen P B ρ H w) (he:∀x,Den ρ (ev x) (e x)) {t:TypeId} {x ix:Operand} (ho:o.op= .indexAddr t x ix):OpOk P B ρ H w ((execOp e o).run P w) (hIndexAddr t x ix P o ev H):=by
 unfold hIndexAddr
 cases hk:natV (ev ix)with
 |no=>trivial
 |mk k=>
  obtain⟨ki,hk'⟩:=natV_mk hk
  have hix:=he ix
  rw [hk']at hix
  have hix:=hix.raw_eq
  have hx:=he x
  cases ht:tv P t with
  |no=>trivial
  |arr n s=>
   cases hp:ptrV (ev x)with
   |no=>exact xArr_ok hH ho hix ht hx
   |mk i off=>
    cases hb:Nat.ble (Nat.succ k) n with
    |false=>simp only [hb];trivial
    |true=>
     simp only [hb]
     have hb:=Nat.le_of_ble_eq_true hb
     rw [ptrV_mk hp]at hx
     obtain⟨b,c,h1,h2⟩:=hx.ptr_inv
     obtain⟨el,g1,g2⟩:=tv_arr ht
     refine ok_val hH (y:= .pointer (some ⟨b,off+k*s,none⟩)) ?_ (.ptr h1)
     have hlt:k<n:=hb
     simp [execOp,ho,Instr.indexAt,hix,asIntOf,run_und g1,h2,Instr.sureAddr,run_sizeB g2,hlt,addr_add]
  |sl s=>
   cases hp:sliceV (ev x)with
   |no=>exact xIdx_ok hH ho hix ht hx
   |mk i off len cap=>
    cases hb:Nat.ble (Nat.succ k) len with
    |false=>simp only [hb];trivial
    |true=>
     simp only [hb]
     have hb:=Nat.le_of_ble_eq_true hb
     rw [sliceV_mk hp]at hx
     obtain⟨b,c,kk,h1,_,_,h2⟩:=hx.slice_inv
     obtain⟨el,g1,g2⟩:=tv_sl ht
     refine ok_val hH (y:= .pointer (some ⟨b,off+k*s,none⟩)) ?_ (.ptr h1)
     have hlt:k<len:=hb
     simp [execOp,ho,Instr.indexAt,hix,asIntOf,run_und g1,h2,run_sizeB g2,hlt,addr_add]
theorem apart_ok {t:TypeId} {cs:List AV} {off:Nat} {v:AV} (h:apart P t cs off=some v) {xs:List Value} (hd:Dens ρ cs xs) (w:World):∃y,(part t xs.toArray off).run P w= .ok y w∧Den ρ v y:=by
 unfold apart at h
 cases hl:lv P t with
 |no=>rw [hl]at h;cases h
 |one=>
  rw [hl]at h
  simp only [nth_eq]at h
  obtain⟨y,h1,h2⟩:=hd.get h
  refine⟨y, ?_,h2⟩
  simp [part,run_isAggB (lv_one hl),h1]
 |agg n=>
  rw [hl]at h
  cases h
  refine⟨.agg ((xs.drop off).take n).toArray, ?_, .agg ((hd.drop off).take n)⟩
  obtain⟨h1,h2⟩:=lv_agg hl
  have e1:((xs.drop off).take n).toArray=xs.toArray.extract off (off+n):=by apply Array.ext';simp
  rw [e1]
  simp [part,run_isAggB h1,run_sizeB h2]
theorem hField_ok (hH:HDen P B ρ H w) (he:∀x,Den ρ (ev x) (e x)) {t:TypeId} {x:Operand} {f:Nat} (ho:o.op= .field t x f):OpOk P B ρ H w ((execOp e o).run P w) (hField t x f P o ev H):=by
 unfold hField
 cases ha:aggV (ev x)with
 |none=>exact gen_pure hH he (by simp [ho,plainOp])
 |some cs=>
  have hx:=he x
  rw [aggV_some ha]at hx
  obtain⟨xs,h1,h2⟩:=hx.agg_inv
  cases hf:fv P t f with
  |no=>trivial
  |mk foff n ft=>
   refine ok_pure hH fun v hv=> ?_
   obtain⟨fs,fd,g1,g2,g3,g4,g5⟩:=fv_mk hf
   subst g3;subst g4
   obtain⟨y,k1,k2⟩:=apart_ok hv h1 w
   exact⟨.value y,y,by simp [execOp,ho,Instr.field,run_und g1,g2,h2,asAgg,k1],rfl,k2⟩
theorem hIndex_ok (hH:HDen P B ρ H w) (he:∀x,Den ρ (ev x) (e x)) {t:TypeId} {x ix:Operand} (ho:o.op= .index t x ix):OpOk P B ρ H w ((execOp e o).run P w) (hIndex t x ix P o ev H):=by
 unfold hIndex
 cases ha:aggV (ev x)with
 |none=>exact gen_pure hH he (by simp [ho,plainOp])
 |some cs=>
  have hx:=he x
  rw [aggV_some ha]at hx
  obtain⟨xs,h1,h2⟩:=hx.agg_inv
  refine ok_pure hH fun v hv=> ?_
  unfold pIndex at hv
  split at hv
  ·rename_i n el hu
   simp only [Option.bind_eq_some_iff]at hv
   obtain⟨k,hk,s,hs,hv⟩:=hv
   obtain⟨ki,hk'⟩:=natO_some hk
   have hix:=he ix
   rw [hk']at hix
   have hix:=hix.raw_eq
   cases hb:Nat.ble (k+1) n with
   |false=>rw [hb]at hv;cases hv
   |true=>
    rw [hb]at hv
    have hb:=Nat.le_of_ble_eq_true hb
    obtain⟨y,k1,k2⟩:=apart_ok hv h1 w
    have hlt:k<n:=hb
    exact⟨.value y,y,by simp [execOp,ho,Instr.index,hix,asIntOf,run_und hu,h2,hlt,run_sizeB hs,k1],rfl,k2⟩
  ·cases hv
theorem hExtract_ok (hH:HDen P B ρ H w) (he:∀x,Den ρ (ev x) (e x)) {x:Operand} {i:Nat} (ho:o.op= .extract x i):OpOk P B ρ H w ((execOp e o).run P w) (hExtract x i P o ev H):=by
 unfold hExtract
 cases ha:tupV (ev x)with
 |none=>exact gen_pure hH he (by simp [ho,plainOp])
 |some cs=>
  have hx:=he x
  rw [tupV_some ha]at hx
  obtain⟨xs,h1,h2⟩:=hx.tuple_inv
  refine ok_pure hH fun v hv=> ?_
  rw [nth_eq]at hv
  obtain⟨y,k1,k2⟩:=h1.get hv
  exact⟨.value y,y,by simp [execOp,ho,Instr.extract,h2,k1],rfl,k2⟩
end
end Go.Proofs.YtccmlbinkgbpgaaGreatDoor.Sv
/- The runner over an abstract memory: binary operations, slicing, structs built. -/
namespace Go.Proofs.YtccmlbinkgbpgaaGreatDoor.Sv
open Go.RowKit
section
variable {P:Program} {B:Nat} {ρ:Env} {H:AHeap} {w:World} {o:Oper} {ev:Ev} {e:Operand→Value}
theorem nbeq {a b:Nat} (h:a≠b):Nat.beq a b=false:=by
 cases hb:Nat.beq a b with
 |false=>rfl
 |true=>exact absurd (Nat.eq_of_beq_eq_true hb) h
theorem eqGuard_calm (op:BinOp) (t:TypeId) (x y:Operand) (a b:Value) (h1:∀cs ds,a= .agg cs→b= .agg ds→False) (h2:a= .nilIface→b= .nilIface→False) (w:World):(eqGuard op t x y a b).run P w= .ok () w:=by
 unfold eqGuard
 cases op<;>first |rfl |(cases a<;>first |rfl |(cases b<;>first |rfl |exact(h1 _ _ rfl rfl).elim|exact(h2 rfl rfl).elim))
theorem run_binOp_of {op:BinOp} {t yt:TypeId} {x y:Operand} (ho:o.op= .binOp op t x y yt) {a b:Value} (ha:e x=a) (hb:e y=b) (h1:∀cs ds,a= .agg cs→b= .agg ds→False) (h2:a= .nilIface→b= .nilIface→False)
  {v:Value} (h:(binOp op t a b).run P w= .ok v w):(execOp e o).run P w= .ok (.value v) w:=by
 subst ha;subst hb
 simp [execOp,ho,eqGuard_calm op t x y _ _ h1 h2,h]
theorem small_some {n:Nat} {v:AV} (h:small n=some v):n<9223372036854775808∧v= .raw (.int .i64 n):=by
 unfold small at h
 cases hb:Nat.ble (Nat.succ n) 9223372036854775808 with
 |false=>rw [hb]at h;cases h
 |true=>rw [hb]at h;cases h;exact⟨Nat.le_of_ble_eq_true hb,rfl⟩
theorem isI64_true {k:IntKind} (h:isI64 k=true):k= .i64:=by cases k<;>first |rfl |cases h
theorem run_nBin {op:BinOp} {m n:Nat} {v:AV} (h:nBin op m n=some v) (t:TypeId) (w:World):∃y,v= .raw y∧(binOp op t (.int .i64 m) (.int .i64 n)).run P w= .ok y w:=by
 have hb:∀b:Bool,∀y,(some (AV.raw (.bool b))=some y)→y= .raw (.bool b):=fun b y h=>by cases h;rfl
 cases op
 case add=>
  obtain⟨h1,rfl⟩:=small_some h
  refine⟨_,rfl, ?_⟩
  have e:IntKind.i64.wrap ((m:Int)+n)=((Nat.add m n:Nat):Int):=by
   rw [IntWalk.i64_in _ (by have:Nat.add m n=m+n:=rfl;omega)];rfl
  simp [binOp,Op.intArith,e]
 case sub=>
  have hs:nBin .sub m n= @Bool.rec (fun _=>Option AV) none (small (Nat.sub m n)) (Nat.ble n m):=rfl
  rw [hs]at h
  cases hb:Nat.ble n m with
  |false=>rw [hb]at h;cases h
  |true=>
   rw [hb]at h
   have hle:=Nat.le_of_ble_eq_true hb
   obtain⟨h1,rfl⟩:=small_some h
   refine⟨_,rfl, ?_⟩
   have e1:Nat.sub m n=m-n:=rfl
   have e:IntKind.i64.wrap ((m:Int)-n)=((Nat.sub m n:Nat):Int):=by
    rw [IntWalk.i64_in _ (by omega)];omega
   simp [binOp,Op.intArith,e]
 case eql=>
  refine⟨_,hb _ _ h, ?_⟩
  simp only [binOp,Op.intCmp,ne_eq,not_true_eq_false,if_false,Sem.run_pure]
  congr 2
  by_cases hmn:m=n
  ·subst hmn;simp
  ·rw [nbeq hmn];simp;omega
 case neq=>
  refine⟨_,hb _ _ h, ?_⟩
  simp only [binOp,Op.intCmp,ne_eq,not_true_eq_false,if_false,Sem.run_pure]
  congr 2
  by_cases hmn:m=n
  ·subst hmn;simp
  ·rw [nbeq hmn];simp [bne];omega
 case lss=>
  refine⟨_,hb _ _ h, ?_⟩
  simp only [binOp,Op.intCmp,ne_eq,not_true_eq_false,if_false,Sem.run_pure]
  congr 2
  by_cases hmn:m<n
  ·rw [Nat.ble_eq_true_of_le hmn];simpa using hmn
  ·rw [show Nat.ble (Nat.succ m) n=false from Bool.eq_false_iff.2 fun hh=>hmn (Nat.le_of_ble_eq_true hh)];simpa using hmn
 case leq=>
  refine⟨_,hb _ _ h, ?_⟩
  simp only [binOp,Op.intCmp,ne_eq,not_true_eq_false,if_false,Sem.run_pure]
  congr 2
  by_cases hmn:m≤n
  ·rw [Nat.ble_eq_true_of_le hmn];simpa using hmn
  ·rw [show Nat.ble m n=false from Bool.eq_false_iff.2 fun hh=>hmn (Nat.le_of_ble_eq_true hh)];simpa using hmn
 case gtr=>
  refine⟨_,hb _ _ h, ?_⟩
  simp only [binOp,Op.intCmp,ne_eq,not_true_eq_false,if_false,Sem.run_pure]
  congr 2
  by_cases hmn:n<m
  ·rw [Nat.ble_eq_true_of_le hmn];simpa using hmn
  ·rw [show Nat.ble (Nat.succ n) m=false from Bool.eq_false_iff.2 fun hh=>hmn (Nat.le_of_ble_eq_true hh)];simpa using hmn
 case geq=>
  refine⟨_,hb _ _ h, ?_⟩
  simp only [binOp,Op.intCmp,ne_eq,not_true_eq_false,if_false,Sem.run_pure]
  congr 2
  by_cases hmn:n≤m
  ·rw [Nat.ble_eq_true_of_le hmn];simpa using hmn
  ·rw [show Nat.ble n m=false from Bool.eq_false_iff.2 fun hh=>hmn (Nat.le_of_ble_eq_true hh)];simpa using hmn
 all_goals (exact absurd (show(none:Option AV)=some v from h) (by simp))
theorem aint_ok {op:BinOp} {k:IntKind} {a b:Int} {v:Value} (h:aint P op k a b=some v) (t:TypeId) (w:World):(binOp op t (.int k a) (.int k b)).run P w= .ok v w:=by
 unfold aint at h
 cases op<;>first
  |(have:=runPure_run _ w h;simpa [binOp]using this)
  |cases h
theorem samePtr_some {t:TypeId} {x y:AV} {b:Bool} (h:samePtr P t x y=some b):∃i off off' el n,x= .ptr i off∧y= .ptr i off'∧P.underlying t=some (.pointer el)∧sizeB P el=some (n+1)∧b=Nat.beq off off':=by
 unfold samePtr at h
 split at h
 ·rename_i i off j off'
  split at h
  ·rename_i el hu
   split at h
   ·rename_i n hn
    cases hij:Nat.beq i j with
    |false=>rw [hij]at h;cases h
    |true=>
     rw [hij]at h
     cases h
     have:=Nat.eq_of_beq_eq_true hij
     subst this
     exact⟨i,off,off',el,n,rfl,rfl,hu,hn,rfl⟩
   ·cases h
  ·cases h
 ·cases h
theorem addr_beq (b off off':Nat):((⟨b,off,none⟩:Addr)==⟨b,off',none⟩)=Nat.beq off off':=by
 by_cases h:off=off'
 ·subst h
  rw [beq_self_eq_true]
  exact(Nat.beq_refl off).symm
 ·rw [nbeq h]
  exact beq_false_of_ne fun hh=>h (by cases hh;rfl)
theorem run_equalIn_samePtr {t el:TypeId} {n:Nat} (hu:P.underlying t=some (.pointer el)) (hs:sizeB P el=some (n+1)) (b off off':Nat) (w:World) (d:Nat):
  (Op.equalIn (d+1) t (.pointer (some ⟨b,off,none⟩)) (.pointer (some ⟨b,off',none⟩))).run P w= .ok (Nat.beq off off') w:=by
 simp only [Op.equalIn,Sem.run_bind,run_und hu,Result.andThen_ok,run_sizeB hs]
 rw [if_pos (by omega)]
 unfold sameAddr
 simp only [beq_self_eq_true,if_true,addr_beq]
 rfl
theorem run_equal_samePtr {t el:TypeId} {n:Nat} (hu:P.underlying t=some (.pointer el)) (hs:sizeB P el=some (n+1)) (b off off':Nat) (w:World):
  (Op.equal t (.pointer (some ⟨b,off,none⟩)) (.pointer (some ⟨b,off',none⟩))).run P w= .ok (Nat.beq off off') w:=run_equalIn_samePtr hu hs b off off' w 9999
theorem fits_ptr {t:TypeId} {i off:Nat} (h:fitsEq P t (.ptr i off)=true):∃el,P.underlying t=some (.pointer el):=by
 simp only [fitsEq]at h;split at h
 ·exact⟨_, ‹_›⟩
 ·cases h
theorem fits_slice {t:TypeId} {i off len:Nat} {cap:Cap} (h:fitsEq P t (.slice i off len cap)=true):∃el,P.underlying t=some (.slice el):=by
 simp only [fitsEq]at h;split at h
 ·exact⟨_, ‹_›⟩
 ·cases h
theorem fits_func {t:TypeId} {f:Fn} {a b:List AV} (h:fitsEq P t (.func f a b)=true):∃x y z,P.underlying t=some (.func x y z):=by
 simp only [fitsEq]at h;split at h
 ·exact⟨_,_,_, ‹_›⟩
 ·cases h
theorem fits_iface {t u:TypeId} {v:AV} (h:fitsEq P t (.iface u v)=true):∃ms,P.underlying t=some (.interface ms):=by
 simp only [fitsEq]at h;split at h
 ·exact⟨_, ‹_›⟩
 ·cases h
theorem fits_map {t:TypeId} {i:Nat} (h:fitsEq P t (.map i)=true):∃k v,P.underlying t=some (.map k v):=by
 simp only [fitsEq]at h;split at h
 ·exact⟨_,_, ‹_›⟩
 ·cases h
def Value.far:Value→Bool
 | .pointer _| .slice .. | .func .. | .nilFunc| .iface .. | .map _=>true
 |_=>false
theorem eql_far {t:TypeId} {a b:Value} (h:Value.far a=true∨Value.far b=true):binOp .eql t a b=(do pure (.bool (←Op.equal t a b))):=by
 cases a<;>first |rfl |(cases b<;>first |rfl |(rcases h with h|h<;>cases h))
theorem neq_far {t:TypeId} {a b:Value} (h:Value.far a=true∨Value.far b=true):binOp .neq t a b=(do pure (.bool (!(←Op.equal t a b)))):=by
 cases a<;>first |rfl |(cases b<;>first |rfl |(rcases h with h|h<;>cases h))
theorem run_equalIn_kind {t:TypeId} {x y:AV} (hf:fitsEq P t x=true) (hk:sameKind x y=true) {a b:Value} (ha:Den ρ x a) (hb:Den ρ y b) (w:World) (d:Nat):
  (Op.equalIn (d+1) t a b).run P w= .ok false w∧(Op.equalIn (d+1) t b a).run P w= .ok false w∧Value.far a=true∧a≠ .nilIface:=by
 unfold sameKind at hk
 split at hk
 ·obtain⟨el,hu⟩:=fits_ptr hf
  obtain⟨b',c,_,rfl⟩:=ha.ptr_inv
  have:=hb.raw_eq;subst this
  simp [Op.equalIn,run_und hu,Value.far]
 ·obtain⟨el,hu⟩:=fits_slice hf
  obtain⟨b',c,k,_,_,_,rfl⟩:=ha.slice_inv
  have:=hb.raw_eq;subst this
  simp [Op.equalIn,run_und hu,Value.far]
 ·obtain⟨_,_,_,hu⟩:=fits_func hf
  obtain⟨xs,ys,_,_,rfl⟩:=ha.func_inv
  have:=hb.raw_eq;subst this
  simp [Op.equalIn,run_und hu,Value.far]
 ·obtain⟨_,hu⟩:=fits_iface hf
  obtain⟨y,_,rfl⟩:=ha.iface_inv
  have:=hb.raw_eq;subst this
  simp [Op.equalIn,run_und hu,Value.far]
 ·obtain⟨_,_,hu⟩:=fits_map hf
  obtain⟨b',c,_,rfl⟩:=ha.map_inv
  have:=hb.raw_eq;subst this
  simp [Op.equalIn,run_und hu,Value.far]
 ·cases hk
theorem pairI_some {v:AV} {p:Int×Int} (h:pairI v=some p) {z:Value} (hz:Den ρ v z):z= .agg #[.int .i64 p.1, .int .i64 p.2]:=by
 unfold pairI at h
 split at h
 ·cases h
  obtain⟨xs,h1,rfl⟩:=hz.agg_inv
  cases h1 with
  |cons h1 h2=>
   cases h2 with
   |cons h2 h3=>
    cases h3
    rw [h1.raw_eq,h2.raw_eq]
 ·cases h
theorem primEq_run {t:TypeId} {x y:AV} {b:Bool} (h:primEq P t x y=some b) {zx zy:Value} (hx:Den ρ x zx) (hy:Den ρ y zy) (w:World) (d:Nat):P.plainKey t=true∧(Op.equalIn (d+1) t zx zy).run P w= .ok b w:=by
 unfold primEq at h
 split at h
 ·split at h
  ·rename_i hu
   cases hc:P.plainKey t with
   |false=>rw [hc]at h;cases h
   |true=>rw [hc]at h;cases h;rw [hx.raw_eq,hy.raw_eq];exact⟨rfl,run_equalIn_int w d t .i64 .i64 _ _ hu⟩
  ·cases h
 ·split at h
  ·rename_i hu
   cases hc:P.plainKey t with
   |false=>rw [hc]at h;cases h
   |true=>rw [hc]at h;cases h;rw [hx.raw_eq,hy.raw_eq];exact⟨rfl,run_equalIn_string w d t _ _ hu⟩
  ·cases h
 ·cases h
theorem agg2_inv {a b:AV} {z:Value} (h:Den ρ (.agg [a,b]) z):∃x y,z= .agg #[x,y]∧Den ρ a x∧Den ρ b y:=by
 obtain⟨xs,h1,rfl⟩:=h.agg_inv
 cases h1 with
 |cons h1 h2=>
  cases h2 with
  |cons h2 h3=>
   cases h3
   exact⟨_,_,rfl,h1,h2⟩
theorem structEq_run {t:TypeId} {x y:AV} {b:Bool} (h:structEq P t x y=some b) {zx zy:Value} (hx:Den ρ x zx) (hy:Den ρ y zy) (w:World):
  (∃xs,zx= .agg xs)∧(∃ys,zy= .agg ys)∧P.eqGuardType P.depth t=false∧(Op.equal t zx zy).run P w= .ok b w:=by
 unfold structEq at h
 split at h
 ·rename_i a1 b1 c1 d1
  split at h
  ·rename_i fs hu
   split at h
   ·rename_i f g hfs
    cases hc:(f.name != "_" &&(g.name != "_" &&(Nat.beq f.offset 0&&(Nat.beq g.offset 1&&(!P.eqGuardType P.depth t&& !P.stoodInHeld t)))))with
    |false=>rw [hc]at h;cases h
    |true=>
     rw [hc]at h
     simp only [Bool.and_eq_true,Bool.not_eq_true',bne_iff_ne]at hc
     obtain⟨n1,n2,o1,o2,e1,e2⟩:=hc
     have o1:=Nat.eq_of_beq_eq_true o1
     have o2:=Nat.eq_of_beq_eq_true o2
     simp only [cond_true]at h
     split at h
     ·rename_i p q hp hq
      cases h
      obtain⟨x0,x1,rfl,k0,k1⟩:=agg2_inv hx
      obtain⟨y0,y1,rfl,l0,l1⟩:=agg2_inv hy
      obtain⟨c3,qa⟩:=primEq_run hp k0 l0 w 9998
      obtain⟨c4,qb⟩:=primEq_run hq k1 l1 w 9998
      refine⟨⟨_,rfl⟩,⟨_,rfl⟩,e1, ?_⟩
      have hfo:P.fieldsOf t=fs:=by unfold Program.fieldsOf;rw [hu]
      have h:=run_equalIn_struct w 9999 t #[x0,x1] #[y0,y1] (by rw [hfo];exact hu) e2
      have h2:(Op.equal t (.agg #[x0,x1]) (.agg #[y0,y1])).run P w=_:=h
      rw [h2,hfo,hfs]
      have p0:(part f.type #[x0,x1] f.offset).run P w= .ok x0 w:=run_part_plain w c3 (by rw [o1];rfl)
      have p1:(part g.type #[x0,x1] g.offset).run P w= .ok x1 w:=run_part_plain w c4 (by rw [o2];rfl)
      have q0:(part f.type #[y0,y1] f.offset).run P w= .ok y0 w:=run_part_plain w c3 (by rw [o1];rfl)
      have q1:(part g.type #[y0,y1] g.offset).run P w= .ok y1 w:=run_part_plain w c4 (by rw [o2];rfl)
      cases p<;>cases q<;>simp [Op.eqFields,n1,n2,Sem.run_bind,p0,p1,q0,q1,qa,qb]
     ·cases h
   ·cases h
  ·cases h
 ·cases h
theorem pairEqA_run {t:TypeId} {x y:AV} {b:Bool} (h:pairEqA P t x y=some b) {zx zy:Value} (hx:Den ρ x zx) (hy:Den ρ y zy) (w:World):
  (∃xs,zx= .agg xs)∧(∃ys,zy= .agg ys)∧P.eqGuardType P.depth t=false∧(Op.equal t zx zy).run P w= .ok b w:=by
 unfold pairEqA at h
 split at h
 ·rename_i p q hp hq
  split at h
  ·rename_i n e hu
   split at h
   ·rename_i hi
    cases hc:(Nat.beq n 2&&(!P.eqGuardType P.depth t&&(P.plainKey e&&(Nat.beq (P.cellsOf e) 1&&(P.info? e).isSome))))with
    |false=>rw [hc]at h;cases h
    |true=>
     rw [hc]at h
     cases h
     simp only [Bool.and_eq_true,Bool.not_eq_true']at hc
     obtain⟨c1,c2,c3,c4,c5⟩:=hc
     have hn:n=2:=Nat.eq_of_beq_eq_true c1
     subst hn
     have hc1:=Nat.eq_of_beq_eq_true c4
     obtain⟨i0,hi0⟩:=Option.isSome_iff_exists.1 c5
     rw [pairI_some hp hx,pairI_some hq hy]
     refine⟨⟨_,rfl⟩,⟨_,rfl⟩,c2, ?_⟩
     have h:=run_equalIn_array (w:=w) 9999 #[.int .i64 p.1, .int .i64 p.2] #[.int .i64 q.1, .int .i64 q.2] hu hi0
     have h2:(Op.equal t (.agg #[.int .i64 p.1, .int .i64 p.2]) (.agg #[.int .i64 q.1, .int .i64 q.2])).run P w=_:=h
     rw [h2,hc1]
     have hr:List.range 2=[0,1]:=rfl
     rw [hr]
     have p0:(part e #[.int .i64 p.1, .int .i64 p.2] (0*1)).run P w= .ok (.int .i64 p.1) w:=run_part_plain w c3 rfl
     have p1:(part e #[.int .i64 p.1, .int .i64 p.2] (1*1)).run P w= .ok (.int .i64 p.2) w:=run_part_plain w c3 rfl
     have q0:(part e #[.int .i64 q.1, .int .i64 q.2] (0*1)).run P w= .ok (.int .i64 q.1) w:=run_part_plain w c3 rfl
     have q1:(part e #[.int .i64 q.1, .int .i64 q.2] (1*1)).run P w= .ok (.int .i64 q.2) w:=run_part_plain w c3 rfl
     have qa:(Op.equalIn 9999 e (.int .i64 p.1) (.int .i64 q.1)).run P w= .ok (p.1==q.1) w:=run_equalIn_int w 9998 e .i64 .i64 p.1 q.1 hi
     have qb:(Op.equalIn 9999 e (.int .i64 p.2) (.int .i64 q.2)).run P w= .ok (p.2==q.2) w:=run_equalIn_int w 9998 e .i64 .i64 p.2 q.2 hi
     cases h1:(p.1==q.1)<;>cases h3:(p.2==q.2)<;>rw [h1]at qa<;>rw [h3]at qb<;>simp [Op.eqItems,Sem.run_bind,p0,p1,q0,q1,qa,qb]
   ·cases h
  ·cases h
 ·cases h
theorem pairEq_run {t:TypeId} {x y:AV} {b:Bool} (h:pairEq P t x y=some b) {zx zy:Value} (hx:Den ρ x zx) (hy:Den ρ y zy) (w:World):
  (∃xs,zx= .agg xs)∧(∃ys,zy= .agg ys)∧P.eqGuardType P.depth t=false∧(Op.equal t zx zy).run P w= .ok b w:=by
 unfold pairEq at h
 split at h
 ·rename_i c hs
  cases h
  exact structEq_run hs hx hy w
 ·exact pairEqA_run h hx hy w
theorem lstEmp_some {v:AV} {b:Bool} (h:lstEmp v=some b) {z:Value} (hz:Den ρ v z):∃a n k,z= .slice a n k∧(b=true→a=none∧n=0∧k=0)∧(b=false→∃q,a=some q):=by
 unfold lstEmp at h
 split at h
 ·cases h
  cases hz with
  |lst h1 h2 h3 h4 h5 h6=>exact⟨_,_,_,rfl,fun hb=>absurd (List.isEmpty_iff.1 hb) (h6 rfl),fun _=>⟨_,rfl⟩⟩
  |lstNil h1=>exact⟨_,_,_,rfl,fun _=>⟨(h1 rfl).1,rfl,(h1 rfl).2⟩,fun hb=>by cases hb⟩
 ·cases h
theorem nilS_some {v:AV} (h:nilS v=true) {z:Value} (hz:Den ρ v z):z= .slice none 0 0:=by
 unfold nilS at h
 split at h
 ·exact hz.raw_eq
 ·cases h
theorem nilEq_run {t:TypeId} {x y:AV} {b:Bool} (h:nilEq P t x y=some b) {zx zy:Value} (hx:Den ρ x zx) (hy:Den ρ y zy) (w:World) (d:Nat):
  (Op.equalIn (d+1) t zx zy).run P w= .ok b w∧Value.far zx=true∧(∃a n k,zx= .slice a n k):=by
 unfold nilEq at h
 split at h
 ·rename_i b' hb
  split at h
  ·rename_i el hu
   cases hn:nilS y with
   |false=>rw [hn]at h;cases h
   |true=>
    rw [hn]at h
    cases h
    have:=nilS_some hn hy
    subst this
    obtain⟨a,n,k,rfl,h1,h2⟩:=lstEmp_some hb hx
    cases b with
    |true=>
     obtain⟨rfl,rfl,rfl⟩:=h1 rfl
     refine⟨?_, ?_,_,_,_,rfl⟩
     ·simp [Op.equalIn,run_und hu]
     ·simp [Value.far]
    |false=>
     obtain⟨q,rfl⟩:=h2 rfl
     refine⟨?_, ?_,_,_,_,rfl⟩
     ·simp [Op.equalIn,run_und hu]
     ·simp [Value.far]
  ·cases h
 ·cases h
theorem run_eq_agg {t yt:TypeId} {x y:Operand} {want:Bool} (ho:o.op= .binOp (if want then .eql else .neq) t x y yt) {xs ys:Array Value} (hx:e x= .agg xs) (hy:e y= .agg ys) (hg:P.eqGuardType P.depth t=false) {b:Bool} (hb:(Op.equal t (.agg xs) (.agg ys)).run P w= .ok b w):
  (execOp e o).run P w= .ok (.value (.bool (b==want))) w:=by
 have hgd:∀op,(eqGuard op t x y (.agg xs) (.agg ys)).run P w= .ok () w:=fun op=>run_eqGuard_agg w op t x y xs ys hg
 cases want
 ·have e1:binOp .neq t (.agg xs) (.agg ys)=(do pure (.bool (!(←Op.equal t (.agg xs) (.agg ys))))):=rfl
  have h1:(binOp .neq t (.agg xs) (.agg ys)).run P w= .ok (.bool (!b)) w:=by
   rw [e1];simp only [Sem.run_bind,hb,Result.andThen_ok,Sem.run_pure]
  have ho:o.op= .binOp .neq t x y yt:=ho
  simp [execOp,ho,hx,hy,hgd,h1]
 ·have e1:binOp .eql t (.agg xs) (.agg ys)=(do pure (.bool (←Op.equal t (.agg xs) (.agg ys)))):=rfl
  have h1:(binOp .eql t (.agg xs) (.agg ys)).run P w= .ok (.bool b) w:=by
   rw [e1];simp only [Sem.run_bind,hb,Result.andThen_ok,Sem.run_pure]
  have ho:o.op= .binOp .eql t x y yt:=ho
  simp [execOp,ho,hx,hy,hgd,h1]
theorem aeq_ok {t yt:TypeId} {x y:Operand} {want:Bool} (he:∀x,Den ρ (ev x) (e x)) (ho:o.op= .binOp (if want then .eql else .neq) t x y yt) {v:AV} (h:aeq P o ev t want (ev x) (ev y)=some v) (w:World):
  ∃nx z,(execOp e o).run P w= .ok nx w∧Nx nx z∧Den ρ v z:=by
 unfold aeq at h
 have hx:=he x
 have hy:=he y
 -- what == comes to, and both operations out of it
 have main:∀r:Bool,(Op.equal t (e x) (e y)).run P w= .ok r w→(Value.far (e x)=true∨Value.far (e y)=true)→(∀cs ds,e x= .agg cs→e y= .agg ds→False)→(e x= .nilIface→e y= .nilIface→False)→v= .raw (.bool (r==want))→
   ∃nx z,(execOp e o).run P w= .ok nx w∧Nx nx z∧Den ρ v z:=fun r hr hfar h1 h2 hv=>by
  refine⟨.value (.bool (r==want)), .bool (r==want), ?_,rfl,by rw [hv];exact .raw _⟩
  refine run_binOp_of ho rfl rfl h1 h2 ?_
  cases want
  ·simp only [Bool.false_eq_true,if_false,neq_far hfar,Sem.run_bind,hr,Result.andThen_ok,Sem.run_pure]
   cases r<;>rfl
  ·simp only [if_true,eql_far hfar,Sem.run_bind,hr,Result.andThen_ok,Sem.run_pure]
   cases r<;>rfl
 split at h
 ·rename_i b hb
  cases h
  obtain⟨g1,g2,a,n,k,g3⟩:=nilEq_run hb hx hy w 9999
  exact main b g1 (.inl g2) (fun cs ds hc=>by rw [g3]at hc;cases hc) (fun hc=>by rw [g3]at hc;cases hc) rfl
 split at h
 ·rename_i b hb
  cases h
  obtain⟨⟨xs,q1⟩,⟨ys,q2⟩,q3,q4⟩:=pairEq_run hb hx hy w
  rw [q1,q2]at q4
  exact⟨_,_,run_eq_agg ho q1 q2 q3 q4,rfl, .raw _⟩
 split at h
 ·rename_i b hb
  obtain⟨i,off,off',el,n,h1,h2,h3,h4,h5⟩:=samePtr_some hb
  rw [h1]at hx
  rw [h2]at hy
  obtain⟨bb,c,g1,g2⟩:=hx.ptr_inv
  obtain⟨bb',c',g3,g4⟩:=hy.ptr_inv
  rw [g1]at g3
  cases g3
  cases h
  refine main b ?_ (.inl (by rw [g2];rfl)) (fun cs ds hc=>by rw [g2]at hc;cases hc) (fun hc=>by rw [g2]at hc;cases hc) rfl
  rw [g2,g4,h5]
  exact run_equal_samePtr h3 h4 bb off off' w
 ·cases hf:fitsEq P t (ev x)&&sameKind (ev x) (ev y)with
  |true=>
   rw [hf]at h
   cases h
   rw [Bool.and_eq_true]at hf
   obtain⟨g1,g2,g3,g4⟩:=run_equalIn_kind hf.1 hf.2 hx hy w 9999
   exact main false g1 (.inl g3) (fun cs ds hc=>by rw [hc]at g3;cases g3) (fun hc=>(g4 hc).elim) (by cases want<;>rfl)
  |false=>
   rw [hf]at h
   cases hf2:fitsEq P t (ev y)&&sameKind (ev y) (ev x)with
   |true=>
    rw [hf2]at h
    cases h
    rw [Bool.and_eq_true]at hf2
    obtain⟨g1,g2,g3,g4⟩:=run_equalIn_kind hf2.1 hf2.2 hy hx w 9999
    exact main false g2 (.inr g3) (fun cs ds _ hc=>by rw [hc]at g3;cases g3) (fun _ hc=>(g4 hc).elim) (by cases want<;>rfl)
   |false=>
    rw [hf2]at h
    exact gen_ok he (by rw [ho];rfl) h w
theorem fastInt_some {op:BinOp} {k k':IntKind} {a b:Int} {v:AV} (h:fastInt op k k' a b=some v):∃m n:Nat,k= .i64∧k'= .i64∧a=m∧b=n∧nBin op m n=some v:=by
 unfold fastInt at h
 cases ha:intN a with
 |no=>rw [ha]at h;cases h
 |mk m=>
  rw [ha]at h
  cases hb:intN b with
  |no=>rw [hb]at h;cases h
  |mk n=>
   rw [hb]at h
   cases h1:isI64 k with
   |false=>rw [h1]at h;cases h
   |true=>
    rw [h1]at h
    cases h2:isI64 k' with
    |false=>rw [h2]at h;cases h
    |true=>
     rw [h2]at h
     exact⟨m,n,isI64_true h1,isI64_true h2,intN_mk ha,intN_mk hb,h⟩
theorem hBin_ok (hH:HDen P B ρ H w) (he:∀x,Den ρ (ev x) (e x)) {op:BinOp} {t yt:TypeId} {x y:Operand} (ho:o.op= .binOp op t x y yt):OpOk P B ρ H w ((execOp e o).run P w) (hBin op t x y yt P o ev H):=by
 have hp:plainOp o.op=true:=by rw [ho];rfl
 unfold hBin
 cases hx:avW (ev x)with
 |no=>
  refine ok_pure hH fun v hv=> ?_
  unfold pBin at hv
  split at hv
  ·exact aeq_ok (want:=true) he ho hv w
  ·exact aeq_ok (want:=false) he ho hv w
  ·exact gen_ok he hp hv w
 |int k a=>
  cases hy:avW (ev y)with
  |no=>exact gen_pure hH he hp
  |int k' b=>
   have ex:e x= .int k a:=by have:=he x;rw [avW_int hx]at this;exact this.raw_eq
   have ey:e y= .int k' b:=by have:=he y;rw [avW_int hy]at this;exact this.raw_eq
   cases hf:fastInt op k k' a b with
   |some v=>
    obtain⟨m,n,rfl,rfl,rfl,rfl,h5⟩:=fastInt_some hf
    obtain⟨z,rfl,hz⟩:=run_nBin h5 t w
    simp only [hf]
    exact ok_val hH (run_binOp_of ho ex ey (fun _ _ hc=>by cases hc) (fun hc=>by cases hc) hz) (.raw z)
   |none=>
    simp only [hf]
    refine ok_pure hH fun v hv=> ?_
    unfold pInt at hv
    cases hk:k==k' with
    |false=>rw [hk]at hv;exact gen_ok he hp hv w
    |true=>
     rw [hk]at hv
     have hkk:k=k':=by simpa using hk
     subst hkk
     simp only [cond_true]at hv
     split at hv
     ·rename_i z hz
      cases hv
      exact⟨.value z,z,run_binOp_of ho ex ey (fun _ _ hc=>by cases hc) (fun hc=>by cases hc) (aint_ok hz t w),rfl, .raw z⟩
     ·exact gen_ok he hp hv w
end
end Go.Proofs.YtccmlbinkgbpgaaGreatDoor.Sv
/- The runner over an abstract memory: slicing, structs and arrays built. -/
namespace Go.Proofs.YtccmlbinkgbpgaaGreatDoor.Sv
open Go.RowKit
section
variable {P:Program} {B:Nat} {ρ:Env} {H:AHeap} {w:World} {o:Oper} {ev:Ev} {e:Operand→Value}
theorem mk_val {r:Result Next} {v:AV} {y:Value} (h:r= .ok (.value y) w) (hd:Den ρ v y):∃nx z,r= .ok nx w∧Nx nx z∧Den ρ v z:=⟨.value y,y,h,rfl,hd⟩
theorem numO_some {he:∀x,Den ρ (ev x) (e x)} {q:Option Operand} {d n:Nat} (h:numO (q.map ev) d=some n):(q=none∧n=d)∨∃k,q.map e=some (.int k n):=by
 cases q with
 |none=>left;simp [numO]at h;exact⟨rfl,h.symm⟩
 |some x=>
  right
  obtain⟨k,hk⟩:=natO_some (v:=ev x) h
  have:=he x
  rw [hk]at this
  exact⟨k,by simp [this.raw_eq]⟩
theorem run_bound {k:IntKind} {i y:Nat} (h:i≤y) (code:BoundsCode) (w:World):(Instr.sliceBound (.int k i) y code).run P w= .ok i w:=by
 have:=run_sliceBound (P:=P) (w:=w) k (i:Int) y code (by omega) (by omega)
 simpa using this
theorem run_bounds (isS:Bool) {len cap l h m:Nat} {lo hi mx:Option Value} (hl:(lo=none∧l=0)∨∃k,lo=some (.int k l)) (hh:(hi=none∧h=len)∨∃k,hi=some (.int k h))
  (hm:(mx=none∧m=cap)∨∃k,mx=some (.int k m)) (hx:mx=none∨hi≠none) (h1:l≤h) (h2:h≤m) (h3:m≤cap) (w:World):(Instr.sliceBounds isS len cap lo hi mx).run P w= .ok (l,h,m) w:=by
 rcases hl with⟨rfl,rfl⟩|⟨kl,rfl⟩<;>rcases hh with⟨rfl,rfl⟩|⟨kh,rfl⟩<;>rcases hm with⟨rfl,rfl⟩|⟨km,rfl⟩<;>
  first
   |(simp [Instr.sliceBounds,run_bound,h1,h2,h3];done)
   |(rcases hx with hx|hx<;>first |cases hx|exact absurd rfl hx)
theorem Ty.flat_take {t:Ty} (xs:List t.den) (h:Nat) (hh:h≤xs.length):t.flat (xs.take h)=(t.flat xs).take (h*t.size):=by
 have e:(t.flat xs).take (h*t.size)=(t.flat (xs.take h)++t.flat (xs.drop h)).take (h*t.size):=by rw [←Ty.flat_append,List.take_append_drop]
 have hl:(t.flat (xs.take h)).length=h*t.size:=by rw [t.flat_len,List.length_take,Nat.min_eq_left hh]
 rw [e,List.take_append,List.take_of_length_le (Nat.le_of_eq hl),hl,Nat.sub_self]
 simp
theorem Ty.flat_drop {t:Ty} (xs:List t.den) (h:Nat) (hh:h≤xs.length):t.flat (xs.drop h)=(t.flat xs).drop (h*t.size):=by
 have e:(t.flat xs).drop (h*t.size)=(t.flat (xs.take h)++t.flat (xs.drop h)).drop (h*t.size):=by rw [←Ty.flat_append,List.take_append_drop]
 have hl:(t.flat (xs.take h)).length=h*t.size:=by rw [t.flat_len,List.length_take,Nat.min_eq_left hh]
 rw [e,List.drop_append,List.drop_eq_nil_of_le (Nat.le_of_eq hl),hl,Nat.sub_self]
 simp
theorem Ty.flat_part {t:Ty} (xs:List t.den) (l h:Nat) (h1:l≤h) (h2:h≤xs.length):t.flat ((xs.take h).drop l)=((t.flat xs).take (h*t.size)).drop (l*t.size):=by
 rw [Ty.flat_drop _ _ (by rw [List.length_take];omega),Ty.flat_take _ _ h2]
theorem part_den {ρ:Env} {t:Ty} {xs:List t.den} {A:List Value} {off l h:Nat} (hd:Dens ρ (t.flat xs) ((A.drop off).take (t.flat xs).length)) (h1:l≤h) (h2:h≤xs.length):
  Dens ρ (t.flat ((xs.take h).drop l)) ((A.drop (off+l*t.size)).take (t.flat ((xs.take h).drop l)).length):=by
 have e1:(t.flat ((xs.take h).drop l)).length=h*t.size-l*t.size:=by
  rw [t.flat_len,List.length_drop,List.length_take,Nat.min_eq_left h2,Nat.sub_mul]
 have hle:h*t.size≤xs.length*t.size:=Nat.mul_le_mul_right _ h2
 have:=(hd.take (h*t.size)).drop (l*t.size)
 rw [e1,Ty.flat_part xs l h h1 h2]
 have e2:(((A.drop off).take (t.flat xs).length).take (h*t.size)).drop (l*t.size)=(A.drop (off+l*t.size)).take (h*t.size-l*t.size):=by
  rw [List.take_take,Nat.min_eq_left (by rw [t.flat_len];exact hle),List.drop_take,List.drop_drop]
 rwa [e2]at this
theorem slice_run {t el:TypeId} {x:Operand} {lo hi mx:Option Operand} (he:∀x,Den ρ (ev x) (e x)) (ho:o.op= .slice t x lo hi mx) (hu:P.underlying t=some (.slice el)) {len kk l h s:Nat} {a:Option Addr}
  (hx:e x= .slice a len kk) (hmx:mx=none) (hs:sizeB P el=some s) (hh:numO (hi.map ev) len=some h) (hl:numO (lo.map ev) 0=some l) (h1:l≤h) (h2:h≤kk):
  (execOp e o).run P w= .ok (.value (.slice (if kk=l then a else a.map (·.add (l*s))) (h-l) (kk-l))) w:=by
 have hh':=numO_some (he:=he) hh
 have hl':=numO_some (he:=he) hl
 subst hmx
 have hr:=run_bounds (P:=P) true (len:=len) (cap:=kk) (lo:=lo.map e) (hi:=hi.map e) (mx:=none) (l:=l) (h:=h) (m:=kk)
  (by rcases hl' with⟨rfl,h⟩|h; ·exact .inl ⟨rfl,h⟩
      ·exact .inr h) (by rcases hh' with⟨rfl,h⟩|h; ·exact .inl ⟨rfl,h⟩
                         ·exact .inr h) (.inl ⟨rfl,rfl⟩) (.inl rfl) h1 h2 (Nat.le_refl _) w
 simp only [execOp,ho,Instr.sliceAt,Sem.run_bind,run_und hu,Result.andThen_ok,hx,Instr.slice,Option.map_none,hr,run_sizeB hs,Sem.run_pure]
theorem xslice_some {el:TypeId} {s n:Nat} {lo hi mx:Option AV} {k:Nat→Nat→AV} {v:AV} (h:xslice P el s n lo hi mx k=some v):sizeB P el=some s∧∃h l,numO hi n=some h∧numO lo 0=some l∧mx=none∧l≤h∧h≤n∧v=k l h:=by
 unfold xslice at h
 simp only [Option.bind_eq_some_iff]at h
 obtain⟨s',hs,h',hh,l,hl,h⟩:=h
 cases hb:(mx.isNone&&Nat.beq s s'&&Nat.ble l h'&&Nat.ble h' n)with
 |false=>rw [hb]at h;cases h
 |true=>
  rw [hb]at h
  cases h
  simp only [Bool.and_eq_true]at hb
  obtain⟨⟨⟨b1,b2⟩,b3⟩,b4⟩:=hb
  have b2:=Nat.eq_of_beq_eq_true b2
  subst b2
  exact⟨hs,h',l,hh,hl,by simpa using b1,Nat.le_of_ble_eq_true b3,Nat.le_of_ble_eq_true b4,rfl⟩
theorem hSlice_ok (hH:HDen P B ρ H w) (he:∀x,Den ρ (ev x) (e x)) {t:TypeId} {x:Operand} {lo hi mx:Option Operand} (ho:o.op= .slice t x lo hi mx):OpOk P B ρ H w ((execOp e o).run P w) (hSlice t x lo hi mx P o ev H):=by
 refine ok_pure hH fun v hv=> ?_
 have hx:=he x
 unfold pSlice at hv
 split at hv
 ·exact gen_ok he (by rw [ho];rfl) hv w
 ·rename_i x' hraw
  unfold aslice at hv
  split at hv
  ·rename_i n el i off hu hxe
   rw [hxe]at hx
   obtain⟨b,c,g1,g2⟩:=hx.ptr_inv
   simp only [Option.bind_eq_some_iff]at hv
   obtain⟨s,hs,m,hm,h,hh,l,hl,hv⟩:=hv
   cases hb:(Nat.ble l h&&Nat.ble h m&&Nat.ble m n&&((mx.map ev).isNone||(hi.map ev).isSome))with
   |false=>rw [hb]at hv;cases hv
   |true=>
    rw [hb]at hv
    simp only [Bool.and_eq_true,Bool.or_eq_true]at hb
    obtain⟨⟨⟨b1,b2⟩,b3⟩,b4⟩:=hb
    have b1:=Nat.le_of_ble_eq_true b1
    have b2:=Nat.le_of_ble_eq_true b2
    have b3:=Nat.le_of_ble_eq_true b3
    cases hv
    have hxx:mx.map e=none∨hi.map e≠none:=by
     rcases b4 with b4|b4
     ·left;cases mx<;>simp_all
     ·right;cases hi<;>simp_all
    have hm':=numO_some (he:=he) hm
    have hh':=numO_some (he:=he) hh
    have hl':=numO_some (he:=he) hl
    have hr:=run_bounds (P:=P) false (len:=n) (cap:=n) (lo:=lo.map e) (hi:=hi.map e) (mx:=mx.map e) (l:=l) (h:=h) (m:=m)
     (by rcases hl' with⟨rfl,h⟩|h; ·exact .inl ⟨rfl,h⟩
         ·exact .inr h) (by rcases hh' with⟨rfl,h⟩|h; ·exact .inl ⟨rfl,h⟩
                            ·exact .inr h) (by rcases hm' with⟨rfl,h⟩|h; ·exact .inl ⟨rfl,h⟩
                                               ·exact .inr h) hxx b1 b2 b3 w
    have hden:Den ρ (AV.slice i (cond (Nat.beq m l) off (off+l*s)) (h-l) (.known (m-l))) (.slice (some ⟨b,cond (Nat.beq m l) off (off+l*s),none⟩) (h-l) (m-l)):= .slice g1 rfl (by omega)
    refine mk_val ?_ hden
    simp only [execOp,ho,Instr.sliceAt,Sem.run_bind,run_und hu,Result.andThen_ok,g2,Instr.sureAddr,Sem.run_pure,hr,run_sizeB hs]
    congr 4
    by_cases hml:m=l
    ·subst hml;simp
    ·rw [nbeq hml,if_neg hml,addr_add];rfl
  ·rename_i el i off len cap hu hxe
   rw [hxe]at hx
   obtain⟨b,c,kk,g1,gc,gl,g2⟩:=hx.slice_inv
   simp only [Option.bind_eq_some_iff]at hv
   obtain⟨s,hs,h,hh,l,hl,hv⟩:=hv
   have hh':=numO_some (he:=he) hh
   have hl':=numO_some (he:=he) hl
   have main:∀(off':Nat) (cap':Cap),mx=none→l≤h→h≤kk→v= .slice i off' (h-l) cap'→capOk cap' c (kk-l)→(if kk=l then off=off' else off+l*s=off')→∃nx z,(execOp e o).run P w= .ok nx w∧Nx nx z∧Den ρ v z:=by
    intro off' cap' hmx h1 h2 hve hc hoff
    subst hmx;subst hve
    have hr:=run_bounds (P:=P) true (len:=len) (cap:=kk) (lo:=lo.map e) (hi:=hi.map e) (mx:=none) (l:=l) (h:=h) (m:=kk)
     (by rcases hl' with⟨rfl,h⟩|h; ·exact .inl ⟨rfl,h⟩
         ·exact .inr h) (by rcases hh' with⟨rfl,h⟩|h; ·exact .inl ⟨rfl,h⟩
                            ·exact .inr h) (.inl ⟨rfl,rfl⟩) (.inl rfl) h1 h2 (Nat.le_refl _) w
    refine mk_val ?_ (.slice (off:=off') g1 hc (show h-l≤kk-l by omega))
    simp only [execOp,ho,Instr.sliceAt,Sem.run_bind,run_und hu,Result.andThen_ok,g2,Instr.slice,Option.map_none,hr,run_sizeB hs,Sem.run_pure]
    congr 3
    by_cases hkl:kk=l
    ·rw [if_pos hkl]at hoff ⊢;rw [hoff]
    ·rw [if_neg hkl]at hoff ⊢;simp [addr_add,hoff]
   have other:mx=none→((cond (Nat.ble l h&&Nat.ble h len) (cond (Nat.beq l 0) (some (AV.slice i off h cap)) (cond (Nat.ble (l+1) len) (some (AV.slice i (off+l*s) (h-l) .any)) none)) none)=some v)→∃nx z,(execOp e o).run P w= .ok nx w∧Nx nx z∧Den ρ v z:=by
    intro hmx' hv
    cases hb:(Nat.ble l h&&Nat.ble h len)with
    |false=>rw [hb]at hv;cases hv
    |true=>
     rw [hb]at hv
     rw [Bool.and_eq_true]at hb
     have b1:=Nat.le_of_ble_eq_true hb.1
     have b2:=Nat.le_of_ble_eq_true hb.2
     simp only [cond_true]at hv
     cases hz:Nat.beq l 0 with
     |true=>
      have hz':=Nat.eq_of_beq_eq_true hz
      rw [hz]at hv
      subst hz'
      cases hv
      exact main off cap hmx' b1 (by omega) rfl gc (by simp)
     |false=>
      rw [hz]at hv
      simp only [cond_false]at hv
      cases hq:Nat.ble (l+1) len with
      |false=>rw [hq]at hv;cases hv
      |true=>
       rw [hq]at hv
       have hq:=Nat.le_of_ble_eq_true hq
       cases hv
       refine main _ .any hmx' b1 (by omega) rfl trivial ?_
       rw [if_neg (by omega)]
   cases mx with
   |some mo=>
    simp only [Option.map_some,Option.bind_eq_some_iff]at hv
    obtain⟨m,hm,hv⟩:=hv
    obtain⟨km,hkm⟩:=natO_some (v:=ev mo) hm
    have hmv:=he mo
    rw [hkm]at hmv
    cases hb:(Nat.ble l h&&Nat.ble h m&&Nat.ble m (capLo cap len)&&(hi.map ev).isSome)with
    |false=>rw [hb]at hv;cases hv
    |true=>
     rw [hb]at hv
     simp only [Bool.and_eq_true]at hb
     obtain⟨⟨⟨b1,b2⟩,b3⟩,b4⟩:=hb
     have b1:=Nat.le_of_ble_eq_true b1
     have b2:=Nat.le_of_ble_eq_true b2
     have b3:=Nat.le_of_ble_eq_true b3
     have b3:m≤kk:=by
      cases cap with
      |known n0=>
       have hkk:kk=n0:=gc
       subst hkk;exact b3
      |full=>exact Nat.le_trans b3 gl
      |any=>exact Nat.le_trans b3 gl
     cases hv
     have hxx:(some mo).map e=none∨hi.map e≠none:=by right;cases hi<;>simp_all
     have hr:=run_bounds (P:=P) true (len:=len) (cap:=kk) (lo:=lo.map e) (hi:=hi.map e) (mx:=(some mo).map e) (l:=l) (h:=h) (m:=m)
      (by rcases hl' with⟨rfl,h⟩|h; ·exact .inl ⟨rfl,h⟩
          ·exact .inr h) (by rcases hh' with⟨rfl,h⟩|h; ·exact .inl ⟨rfl,h⟩
                             ·exact .inr h) (.inr ⟨km,by simp [hmv.raw_eq]⟩) hxx b1 b2 b3 w
     refine mk_val ?_ (.slice (off:=cond (Nat.beq m l) off (off+l*s)) g1 rfl (show h-l≤m-l by omega))
     simp only [execOp,ho,Instr.sliceAt,Sem.run_bind,run_und hu,Result.andThen_ok,g2,Instr.slice,hr,run_sizeB hs,Sem.run_pure]
     congr 3
     by_cases hkl:m=l
     ·subst hkl;simp
     ·rw [if_neg hkl,nbeq hkl];simp [addr_add]
   |none=>
    cases cap with
    |known n0=>
     have hkk:kk=n0:=gc
     subst hkk
     simp only [Option.map_none]at hv
     cases hb:(Nat.ble l h&&Nat.ble h kk)with
     |false=>rw [hb]at hv;cases hv
     |true=>
      rw [hb]at hv
      rw [Bool.and_eq_true]at hb
      have b1:=Nat.le_of_ble_eq_true hb.1
      have b2:=Nat.le_of_ble_eq_true hb.2
      cases hv
      refine main _ _ rfl b1 b2 rfl rfl ?_
      by_cases hkl:kk=l
      ·subst hkl;simp
      ·rw [if_neg hkl,nbeq hkl];rfl
    |full=>exact other rfl hv
    |any=>exact other rfl hv
  ·rename_i el z u xs hu hxe
   rw [hxe]at hx
   obtain⟨hs,h,l,hh,hl,hmx,b1,b2,rfl⟩:=xslice_some hv
   have hmx':mx=none:=by cases mx<;>simp_all
   rcases hx.lst_inv with⟨rfl,a,k,hxx,_⟩|⟨b,off,k,A,g1,g2,g3,g4,hxx,_⟩
   ·have hl0:l=0:=by simp at b2;omega
    have hh0:h=0:=by simp at b2;omega
    subst hl0;subst hh0
    exact mk_val (slice_run he ho hu hxx hmx' hs hh hl b1 (by simp)) (.lstNil fun e=>by cases e)
   ·have hr:=slice_run (w:=w) he ho hu hxx hmx' hs hh hl b1 (Nat.le_trans b2 g4)
    cases hlt:Nat.ble (l+1) h with
    |true=>
     have hlt:=Nat.le_of_ble_eq_true hlt
     rw [if_neg (show¬k=l by omega)]at hr
     refine mk_val hr ?_
     simp only [Option.map_some,addr_add,cond_true]
     have hn:((xs.take h).drop l).length=h-l:=by simp;omega
     rw [←hn]
     refine .lst g1 ?_ rfl (part_den g3 b1 b2) (by rw [hn];omega) (fun e=>by cases e)
     rw [u.flat_len,hn]
     rw [u.flat_len]at g2
     have:(h-l)*u.size+l*u.size≤xs.length*u.size:=by rw [←Nat.add_mul];exact Nat.mul_le_mul_right _ (by omega)
     omega
    |false=>
     have:¬l+1≤h:=fun hh=>by rw [Nat.ble_eq_true_of_le hh]at hlt;cases hlt
     obtain rfl:l=h:=by omega
     refine mk_val hr ?_
     rw [Nat.sub_self]
     exact .lstNil fun e=>by cases e
  ·rename_i el e' u i k0 len cap hu hxe
   rw [hxe]at hx
   obtain⟨hs,h,l,hh,hl,hmx,b1,b2,rfl⟩:=xslice_some hv
   have hmx':mx=none:=by cases mx<;>simp_all
   rcases hx.osl_inv with⟨rfl,a,hxx⟩|⟨b,c,kc,g1,g2,g3,hxx⟩
   ·have hl0:l=0:=by omega
    have hh0:h=0:=by omega
    subst hl0;subst hh0
    refine mk_val (slice_run he ho hu hxx hmx' hs hh hl b1 (by simp)) ?_
    exact .oslNil
   ·have hr:=slice_run (w:=w) he ho hu hxx hmx' hs hh hl b1 (Nat.le_trans b2 g3)
    cases h0:Nat.beq l 0 with
    |true=>
     have h0:=Nat.eq_of_beq_eq_true h0
     subst h0
     refine mk_val hr ?_
     simp only [cond_true,Nat.sub_zero,Nat.zero_mul,Option.map_some,addr_add,Nat.add_zero,ite_self]
     exact .osl g1 g2 (by omega)
    |false=>
     cases hlt:Nat.ble (l+1) h with
     |true=>
      have hlt:=Nat.le_of_ble_eq_true hlt
      rw [if_neg (show¬kc=l by omega)]at hr
      refine mk_val hr ?_
      simp only [Option.map_some,addr_add,cond_true,cond_false]
      rw [←Nat.add_mul]
      exact .osl g1 trivial (by omega)
     |false=>
      have:¬l+1≤h:=fun hh=>by rw [Nat.ble_eq_true_of_le hh]at hlt;cases hlt
      obtain rfl:l=h:=by omega
      refine mk_val hr ?_
      rw [Nat.sub_self]
      exact .lstNil fun e=>by cases e
  ·cases hv
end
end Go.Proofs.YtccmlbinkgbpgaaGreatDoor.Sv
