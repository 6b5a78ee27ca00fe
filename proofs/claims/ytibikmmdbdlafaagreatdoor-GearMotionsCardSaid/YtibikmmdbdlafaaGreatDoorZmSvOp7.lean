import Derived.Test.YtibikmmdbdlafaaGreatDoorZmSvOp3
import Derived.Great.BuildSlice
import Derived.Deep.AppendSrc
import Derived.Lib.UnsafeStr
import Derived.Laws.IdiomStrings
import Derived.Laws.LoneSync
set_option linter.unusedSimpArgs false
namespace Go.Proofs.YtibikmmdbdlafaaGreatDoor.Sv
open Go.RowKit
section
variable {P:Program} {B:Nat} {ρ:Env} {H:ai} {w:World} {o:Oper} {ev:dJ} {e:Operand->Value}
theorem Pk (off:Nat):∀(zs:List Value) (k:Nat) (cur:Array Value),off+k+zs.length<=cur.size->
  ((zs.zipIdx k).foldl (fun cs (p:Value×Nat)=>cs.setIfInBounds (off+p.2) p.1) cur).toList=cur.toList.take (off+k)++zs++cur.toList.drop (off+k+zs.length)
 |[],k,cur,_=>by simp
 |z::zs,k,cur,h=>by
  have h':off+(k+1)+zs.length<=(cur.setIfInBounds (off+k) z).size:=by simp at h ⊢;omega
  rw [List.zipIdx_cons,List.foldl_cons,Pk off zs (k+1) _ h'];have e:=list_seg_step cur.toList (off+k) z zs (by simp at h ⊢;omega);simpa [Array.toList_setIfInBounds,Nat.add_assoc]using e
theorem zp {place:Nat->Option (Nat×Nat)}:∀(parts:List (Nat×aa)) (ja:List (Nat×Value)) (cells:List aa) (cur:Array Value) {r:List aa},q9 place cells parts=some r->aF ρ cells cur.toList->
  ja.map Prod.fst=parts.map Prod.fst->aF ρ (parts.map Prod.snd) (ja.map Prod.snd)->∃out,Instr.fill place cur ja=some out/\aF ρ r out.toList
 |[],ja,cells,cur,r,h,hd,hi,_=>by
  have:ja=[]:=by cases ja<;>simp_all
  subst this;simp [q9]at h;subst h;exact⟨cur,rfl,hd⟩
 |(i,v)::parts,[],cells,cur,r,h,hd,hi,_=>by simp at hi
 |(i,v)::parts,(j,x)::ja,cells,cur,r,h,hd,hi,hv=>by
  simp only [List.map_cons,List.cons.injEq]at hi;obtain⟨rfl,hi⟩:=hi;cases hv with
  |cons hx hv=>
  simp only [q9,dz]at h;obtain⟨p,hp,h⟩:=h;cases n4:v.u0 with
  |true=>rw [n4]at h;cases h
  |false=>
  cases hb:Nat.beq v.cells.length p.2 with
  |false=>rw [n4,hb]at h;cases h
  |true=>
   rw [n4,hb]at h;simp only [cond_true,cond_false,dz]at h;obtain⟨cells',hc,h⟩:=h;obtain⟨h1,h2⟩:=BB hc;have hl:=hd.length;have hvl:=(hx.cells n4).length;have hsz:x.cells.size=p.2:=by rw [<-ac hb,<-hvl];simp
   have hfit:p.1+x.cells.size<=cur.size:=by
    have e1:x.cells.size=v.cells.length:=by rw [<-hvl];simp
    have e2:cur.size=cells.length:=by rw [<-hl];simp
    omega
   have hstep:=Pk p.1 x.cells.toList 0 cur (by simpa using hfit);obtain⟨out,g1,g2⟩:=zp parts ja cells' (x.cells.zipIdx.foldl (fun cs (c,j)=>cs.setIfInBounds (p.1+j) c) cur) h (by
    have e3:(x.cells.zipIdx.foldl (fun cs (c,j)=>cs.setIfInBounds (p.1+j) c) cur)=(x.cells.toList.zipIdx 0).foldl (fun cs (p':Value×Nat)=>cs.setIfInBounds (p.1+p'.2) p'.1) cur:=by
     rw [<-Array.foldl_toList,Array.toList_zipIdx]
    rw [e3,hstep,h2];simp only [Nat.add_zero];rw [show x.cells.toList.length=v.cells.length from hvl];exact((hd.take p.1).append (hx.cells n4)).append (hd.drop _)) hi hv
   refine⟨out, ?_,g2⟩;obtain⟨p1,p2⟩:=p;simp only [Instr.fill,hp];rw [if_neg (by simp only [Bool.or_eq_true,bB,not_or];exact⟨by simpa using hsz,by omega⟩)];exact g1
theorem Pm {v:aa} (h:eO v.cells=true):v.u0=false:=by
 cases v<;>first |rfl |(simp [aa.cells,eO,aa.one]at h)
theorem BK (a:Array Value):aF ρ (io a) a.toList:=aF.rz _
theorem Pn (he:∀x,Den ρ (ev x) (e x)):∀(l:List (Nat×Operand)),aF ρ ((l.map fun p=>(p.1,ev p.2)).map Prod.snd) ((l.map fun p=>(p.1,e p.2)).map Prod.snd)
 |[]=> .nil
 |p::l=> .cons (he p.2) (Pn he l)
theorem IA {place:Nat->Option (Nat×Nat)} (he:∀x,Den ρ (ev x) (e x)) (parts:Array (Nat×Operand)) {cells:List aa} {cur:Array Value} {r:List aa} (h:q9 place cells (gk ev parts)=some r) (hd:aF ρ cells cur.toList):
  ∃out,Instr.fill place cur (parts.map fun(i,x)=>(i,e x)).toList=some out/\aF ρ r out.toList:=by
 have e1:(parts.map fun(i,x)=>(i,e x)).toList=parts.toList.map fun p=>(p.1,e p.2):=by simp
 rw [e1];exact zp (gk ev parts) _ cells cur h hd (by simp [gk,Function.comp_def]) (Pn he parts.toList)
theorem Po:∀(fs:List Field),(fs.all fun f=>(ek P f.type).isSome)=true->∃ps:List (Nat×Nat),fs.mapM (fun f=>(P.info? f.type).map fun i=>(f.offset,i.size))=some ps/\∀i:Nat,ps[i]? =(fs[i]?).bind fun(f:Field)=>(ek P f.type).map fun s=>(f.offset,s)
 |[],_=>⟨[],by simp,by simp⟩
 |f::fs,h=>by
  simp only [List.all_cons,ae]at h;obtain⟨ps,h1,h2⟩:=Po fs h.2;obtain⟨s,hs⟩:=Option.isSome_iff_exists.1 h.1;obtain⟨inf,hi,rfl⟩:=fp hs;refine⟨(f.offset,inf.size)::ps, ?_, ?_⟩
  .rw [List.mapM_cons];simp [hi,h1]
  .intro i;cases i with
   |zero=>simp [hs]
   |succ i=>simpa using h2 i
theorem YP (hH:bf P B ρ H w) (he:∀x,Den ρ (ev x) (e x)) {t:TypeId} {parts:Array (Nat×Operand)} (ho:o.op= .build t parts):cN P B ρ H w ((execOp e o).run P w) (so t parts P o ev H):=by
 refine mo hH fun v hv=> ?_
 unfold HZ at hv;simp only [dz]at hv;obtain⟨z,hz,hv⟩:=hv;obtain⟨inf,hi,oR⟩:=Iv hz;have fin:∀(out:Array Value) (cs:List aa),P.built t (parts.map fun(i,x)=>(i,e x)).toList=some out->aF ρ cs out.toList->v= .agg cs->∃eD y,(execOp e o).run P w= .ok eD w/\tu eD y/\Den ρ v y:=by
  intro out cs h1 h2 h3;subst h3;have hr:=run_build w t _ out h1;refine lB (y:= .agg out) ?_ (by simpa using Den.agg h2);simp [execOp,ho,hr]
 split at hv
 .rename_i fs hu;simp only [dz]at hv;obtain⟨cs,hc,hv⟩:=hv;cases hall:(fs.toList.all fun f=>(ek P f.type).isSome)with
  |false=>rw [hall]at hv;cases hv
  |true=>
   rw [hall]at hv;cases hv;obtain⟨ps,h1,h2⟩:=Po fs.toList hall;obtain⟨out,g1,g2⟩:=IA he parts hc (BK z.cells);refine fin out cs ?_ g2 rfl;unfold Program.built;rw [hi,hu];simp only [oR,h1];rw [<-g1];congr 1;funext i;have:=h2 i;simp only [OJ];simpa using this
 .rename_i n el hu;simp only [dz,am]at hv;obtain⟨s,hs,cs,hc,rfl⟩:=hv;obtain⟨ie,hie,rfl⟩:=fp hs;obtain⟨out,g1,g2⟩:=IA he parts hc (BK z.cells);refine fin out cs ?_ g2 rfl;unfold Program.built;rw [hi,hu];simp only [oR,hie,g1]
 .cases hv
theorem xB (hH:bf P B ρ H w) {r:Result Next} {v:aa} {y:Value} {k:bq} {lD:Obj} (c:Nat) (hr:r= .ok (.value y) (w.alloc lD)) (hd:Den (ρ.put H.next w.heap.size c) v y) (hk:gF P (ρ.put H.next w.heap.size c) H.next k lD):
  cN P B ρ H w r (.ok v (H.new k)):=fun hf=>by
 obtain⟨h1,h2⟩:=tq hH hf c k lD hk;exact⟨_,y,_,_,hr,rfl,hd,h1,h2⟩
theorem Ei {ρ:Env} {i:Nat} {el:TypeId} {cs:List aa} {xs:Array Value} {ro:Bool} (h:aF ρ cs xs.toList):gF P ρ i (.cells el cs true false ro) (.cells xs el):=by
 have hl:xs.size=cs.length:=by simpa using h.length
 refine⟨xs,(0,0),rfl,fun _=>rfl, ?_,fun _=>hl,fun hc=>by cases hc⟩;rw [eF (by simp [hl])];exact h
theorem YQ (hH:bf P B ρ H w) {el:TypeId} (ho:o.op= .alloc el):cN P B ρ H w ((execOp e o).run P w) (s6 el P o ev H):=by
 unfold s6;cases hz:mX P el with
 |none=>trivial
 |some z=>
  refine xB hH 0 (y:= .pointer (some ⟨w.heap.size,0,none⟩)) ?_ (.ptr (Env.dr ..)) (Ei (BK z.cells));simp [execOp,ho,Instr.alloc,Eb hz,newVar,newRow]
theorem YR (hH:bf P B ρ H w) (he:∀x,Den ρ (ev x) (e x)) {el:TypeId} {x:Operand} (ho:o.op= .box el x):cN P B ρ H w ((execOp e o).run P w) (oJ el x P o ev H):=by
 unfold oJ;cases n4:(ev x).u0 with
 |true=>trivial
 |false=>
 intro hf;have hn:ρ H.next=none:=hf H.next (aG _) (e8 _);refine xB hH 0 (y:= .pointer (some ⟨w.heap.size,0,none⟩)) ?_ (.ptr (Env.dr ..)) (Ei (((he x).cells n4).mono (Env.oQ hn))) hf;simp [execOp,ho,Instr.box,newVar,newRow]
theorem Ej (z:Array Value) (s:Nat) (hs:z.size=s) (h1:1<=s):∀n,((Array.range (n*s)).map (z[· %z.size]!)).toList=(List.replicate n z.toList).flatten
 |0=>by simp
 |n+1=>by
  have ih:=Ej z s hs h1 n;simp only [Array.toList_map,Array.toList_range]at ih ⊢;rw [Nat.add_mul,Nat.one_mul,List.range_add,List.map_append,ih,List.replicate_succ',List.flatten_append];congr 1;simp only [List.map_map,List.flatten_cons,List.flatten_nil,List.append_nil];apply List.ext_getElem
  .simp [hs]
  .intro i h2 h3;have hi:i<s:=by simpa using h2
   have e1:(n*s+i)%z.size=i:=by rw [hs,Nat.add_comm,Nat.add_mul_mod_self_right,Nat.mod_eq_of_lt hi]
   simp only [List.getElem_map,List.getElem_range,Function.comp_apply,e1];rw [getElem!_pos z i (by omega)];simp
theorem pf (n:Nat) (z:Array Value):(List.replicate n (io z)).flatten=((List.replicate n z.toList).flatten).map aa.raw:=by
 simp [io,List.map_flatten]
theorem YS (w:World) (t e:TypeId) (len:Nat) (parts:Array (Nat×Value)) (cells:Array Value) (ie:TypeInfo) (z:Value)
  (hu:P.underlying t=some (.slice e)) (hie:P.info? e=some ie) (hz:ie.zero=some z) (hsmall:¬len*ie.size>2^24) (hs:1<=ie.size)
  (h:Instr.fill (fun i=>some (i*ie.size,ie.size)) ((Array.range (len*ie.size)).map (z.cells[· %z.cells.size]!)) parts.toList=some cells):
  (Instr.buildSlice t len parts).run P w= .ok (.slice (some ⟨w.heap.size,0,none⟩) len len) (w.alloc (.cells cells e)):=by
 by_cases h0:len*ie.size=0
 .have hl:len=0:=by
   rcases Nat.mul_eq_zero.1 h0 with h|h
   .exact h
   .omega
  subst hl;have e1:∀f:Nat->Value,Array.map f (Array.range 0)= #[]:=fun f=>Array.ext (by simp) (fun i _ h2=>by simp at h2)
  rw [Nat.zero_mul,e1]at h;simp [Instr.buildSlice,run_underlying hu,sizeOf,typeInfo,hie,newRow,e1,h]
 .exact run_buildSlice w t e len parts cells ie z hu hie hz hsmall h0 h
theorem YT (hH:bf P B ρ H w) (he:∀x,Den ρ (ev x) (e x)) {t:TypeId} {len:Nat} {parts:Array (Nat×Operand)} (ho:o.op= .buildSlice t len parts):cN P B ρ H w ((execOp e o).run P w) (zj t len parts P o ev H):=by
 unfold zj;cases hv:oK P ev t len parts H with
 |none=>trivial
 |some q=>
  unfold oK at hv;simp only [dz]at hv;obtain⟨el,hel,s,hs,z,hz,hv⟩:=hv;cases hb:(Nat.ble 1 s&&Nat.ble (len*s) 16777216&&Nat.beq z.cells.size s)with
  |false=>rw [hb]at hv;cases hv
  |true=>
   rw [hb]at hv;simp only [ae]at hb;obtain⟨⟨b1,b2⟩,b3⟩:=hb;have b1:=bS b1;have b2:=bS b2;have b3:=ac b3;simp only [cond_true,am]at hv;obtain⟨cs,hc,rfl⟩:=hv;obtain⟨ie,hie,rfl⟩:=fp hs;obtain⟨ar8,Pp,oR⟩:=Iv hz;rw [hie]at Pp;cases Pp;have hs1:1<=ie.size:=b1;have hd:aF ρ (List.replicate len (io z.cells)).flatten ((Array.range (len*ie.size)).map (z.cells[· %z.cells.size]!)).toList:=by
    rw [Ej z.cells ie.size b3 hs1,pf];exact aF.rz _
   obtain⟨out,g1,g2⟩:=IA he parts hc hd;intro hf;have hn:ρ H.next=none:=hf H.next (aG _) (e8 _);refine xB hH 0 (y:= .slice (some ⟨w.heap.size,0,none⟩) len len) ?_ (.slice (Env.dr ..) rfl (aG _)) (Ei (g2.mono (Env.oQ hn))) hf;have hr:=YS (P:=P) w t el len _ out ie z (xy hel) hie oR (by omega) hs1 g1;simp [execOp,ho,hr]
theorem YU (hH:bf P B ρ H w) (he:∀x,Den ρ (ev x) (e x)) {t:TypeId} {l c:Operand} (ho:o.op= .makeSlice t l c):cN P B ρ H w ((execOp e o).run P w) (s7 t l c P o ev H):=by
 unfold s7;cases hv:p5 P t (ev l) (ev c) H with
 |none=>trivial
 |some q=>
  unfold p5 at hv;simp only [dz]at hv;obtain⟨el,hel,inf,hi,z,hz,ln,hl,vu,hc,hv⟩:=hv;cases hb:(Nat.ble ln vu&&Nat.ble 1 inf.size&&bounded vu inf.bytes&&Nat.beq z.cells.size inf.size)with
  |false=>rw [hb]at hv;cases hv
  |true=>
   rw [hb]at hv;simp only [ae,bounded]at hb;obtain⟨⟨⟨b1,b2⟩,b3,b4⟩,gi⟩:=hb;have b1:=bS b1;have b2:=bS b2;have b3:=bS b3;have b4:=bS b4;have gi:=ac gi;cases hv;obtain⟨kl,hl'⟩:=BH hl;obtain⟨kc,tA⟩:=BH hc;have YV:e l= .int kl ln:=by have:=he l;rw [hl']at this;exact this.b8
   have YW:e c= .int kc vu:=by have:=he c;rw [tA]at this;exact this.b8
   have hbz:(inf.bytes:Int)*(vu:Int)<=281474976710656:=by
    have:((inf.bytes*vu:Nat):Int)<=281474976710656:=by rw [Nat.mul_comm];omega
    rwa [Int.natCast_mul]at this
   have hr:=run_make (P:=P) w t el inf z (xy hel) hi hz kl kc ln vu (by omega) (by omega) hbz (by omega);simp only [Int.toNat_natCast]at hr;refine xB hH 0 (lD:= .cells (madeCells z.cells (vu*inf.size)) el) (y:= .slice (some ⟨w.heap.size,0,none⟩) ln vu) ?_ (.slice (Env.dr ..) rfl b1) (Ei ?_)
   .simp [execOp,ho,YV,YW,hr]
   .unfold madeCells;rw [Ej z.cells inf.size gi b2,pf];exact aF.rz _
theorem mq (hH:bf P B ρ H w) {i b c:Nat} {el:TypeId} {cs:List aa} {exact cE ro:Bool} (hi:H.get i=some (.cells el cs exact cE ro)) (hr:ρ i=some (b,c)):
  ∃xs fz,w.heap[b]? =some (.cells xs el fz)/\(cE=false->fz=(0,0))/\aF ρ cs (xs.toList.take cs.length)/\(exact=true->xs.size=cs.length)/\(exact=false->xs.size=c*P.cellsOf el)/\cs.length<=xs.size:=by
 obtain⟨o,h1,h2,_⟩:=hH.at hi hr;obtain⟨xs,fz,rfl,g2,g3,g4,g5⟩:=h2;refine⟨xs,fz,h1,g2,g3,g4,fun hx=> ?_, ?_⟩
 .obtain⟨b',c',e1,e2⟩:=g5 hx;rw [hr]at e1;cases e1;exact e2
 .have:=g3.length;simp at this;omega
theorem xC {xs:Array Value} {n i:Nat} {y:Value} (h:(xs.toList.take n)[i]? =some y):xs[i]? =some y:=by
 rw [List.getElem?_take]at h;split at h
 .simpa using h
 .cases h
theorem cell_of {b off:Nat} {xs:Array Value} {el:TypeId} {fz:Nat×Nat} (h:w.heap[b]? =some (.cells xs el fz)):w.cell? ⟨b,off,none⟩=xs[off]? :=by simp [World.cell?,h]
theorem Ek {b off:Nat} {xs:Array Value} {el t:TypeId} {fz:Nat×Nat} {cs:List aa} {v:aa} (h:w.heap[b]? =some (.cells xs el fz)) (hd:aF ρ cs (xs.toList.take cs.length)) (hv:kw P t cs off=some v):
  ∃y,(loadVar t ⟨b,off,none⟩).run P w= .ok y w/\Den ρ v y:=by
 unfold kw at hv;cases hl:lv P t with
 |no=>rw [hl]at hv;cases hv
 |one=>
  rw [hl]at hv;simp only [pd]at hv;obtain⟨y,h1,h2⟩:=hd.get hv;refine⟨y, ?_,h2⟩;simp [loadVar,Ec (O3 hl),run_load,cell_of h,xC h1]
 |agg n=>
  rw [hl]at hv;obtain⟨k1,k2⟩:=O4 hl;cases hb:Nat.ble (Nat.add off n) cs.length with
  |false=>simp only [hb]at hv;cases hv
  |true=>
   simp only [hb]at hv;cases hv;have hr:=run_loadCells_list (P:=P) w ⟨b,off,none⟩ (((xs.toList.take cs.length).drop off).take n) (fun j y hj=>by
    rw [gW,cell_of h];rw [List.getElem?_take]at hj;split at hj
    .rw [List.getElem?_drop]at hj;exact xC hj
    .cases hj)
   have hlen:(((xs.toList.take cs.length).drop off).take n).length=n:=by
    have:=hd.length;have hle:off+n<=cs.length:=bS hb;simp only [ei,mW,this]at*;omega
   refine⟨.agg (((xs.toList.take cs.length).drop off).take n).toArray, ?_, .agg ((hd.drop off).take n)⟩;rw [hlen]at hr;simp [loadVar,Ec k1,jU k2,hr]
theorem Pq {t:TypeId} {x:Operand} {b off:Nat} {y:Value} (ho:o.op= .load t x) (hx:e x= .pointer (some ⟨b,off,none⟩)) (h:(loadVar t ⟨b,off,none⟩).run P w= .ok y w):(execOp e o).run P w= .ok (.value y) w:=by
 simp [execOp,ho,Instr.loadAt,hx,Instr.sureAddr,h]
theorem YX (hH:bf P B ρ H w) {t:TypeId} {x:Operand} {v:aa} (ho:o.op= .load t x) (hx:Den ρ v (e x)):cN P B ρ H w ((execOp e o).run P w) (s5 P t v H):=by
 unfold s5;split
 .rename_i u xs k off;obtain⟨b,o',A,h1,h2,h3,h4,h5⟩:=hx.zu;obtain⟨⟨el,fr,g1⟩,_⟩:=hH.fz b A h1;refine mo hH fun v hv=> ?_
  have hv:=sE h4 hv;have hv:=OZ (pre:=(A.toList.take o').map aa.raw) (post:=[]) hv;have hpl:((A.toList.take o').map aa.raw).length=o':=by simp;omega
  rw [hpl,List.append_nil]at hv;obtain⟨y,k1,k2⟩:=Ek g1 (cs:=(A.toList.take o').map aa.raw++u.flat xs) (by
   rw [dU,hpl,List.take_add];exact(aF.rz _).append h3) hv
  exact lB (Pq ho h5 k1) k2
 .rename_i e' u i k off;cases hb:bz e' u (H.get i) k with
  |false=>trivial
  |true=>
   obtain⟨b1,b2⟩:=vp hb;obtain⟨b,c,h1,h5⟩:=hx.xw;obtain⟨ys,g1,g2,_⟩:=rA hH b1 h1;refine mo hH fun v hv=> ?_
   obtain⟨y,k1,k2⟩:=Ek g1 g2 (sE b2 hv);exact lB (Pq ho h5 k1) k2
 .trivial
theorem YY (hH:bf P B ρ H w) (he:∀x,Den ρ (ev x) (e x)) {t:TypeId} {x:Operand} (ho:o.op= .load t x):cN P B ρ H w ((execOp e o).run P w) (nV t x P o ev H):=by
 unfold nV;cases hp:iI (ev x)with
 |no=>exact YX hH ho (he x)
 |mk i off=>
  cases hb:sW (H.get i)with
  |no=>simp only [hb];trivial
  |mk el cs ex cE ro=>
   simp only [hb];have hx:=he x;rw [BG hp]at hx;obtain⟨b,c,h1,h2⟩:=hx.kN;obtain⟨xs,fz,g1,g2,g3,_⟩:=mq hH (O2 hb) h1;refine mo hH fun v hv=> ?_
   obtain⟨y,k1,k2⟩:=Ek g1 g3 hv;exact lB (y:=y) (by simp [execOp,ho,Instr.loadAt,h2,Instr.sureAddr,k1]) k2
theorem Pr {α:Type} (L vs:List α) (off n:Nat) (h:off+vs.length<=n) (hn:n<=L.length):
  (L.take off++vs++L.drop (off+vs.length)).take n=(L.take n).take off++vs++(L.take n).drop (off+vs.length):=by
 have e1:(L.take n).take off=L.take off:=by rw [List.take_take,Nat.min_eq_left (by omega)]
 rw [e1,List.take_append,eF (by simp;omega)];congr 1;rw [List.drop_take];congr 1;simp;omega
theorem El (hH:bf P B ρ H w) {i b c off:Nat} {el:TypeId} {cs vs cs':List aa} {exact:Bool} (hi:H.get i=some (.cells el cs exact false false)) (hr:ρ i=some (b,c)) (hp:kM cs off vs=some cs') {ys:List Value} (hd:aF ρ vs ys) (h1:eO vs=true):
  ∃xs w',w.heap[b]? =some (.cells xs el (0,0))/\(storeCells ⟨b,off,none⟩ ys).run P w= .ok () w'/\bf P B ρ (H.set i (.cells el cs' exact false false)) w'/\bO ρ H w ρ (H.set i (.cells el cs' exact false false)) w':=by
 obtain⟨xs,fz,g1,g2,g3,g4,g5,g6⟩:=mq hH hi hr;have hfz:=g2 rfl;subst hfz;obtain⟨k1,k2⟩:=BB hp;have mz:=hd.length;have hst:=run_storeCells_at P b off el ys 0 xs w g1 (by simp only [Nat.add_zero];omega) (hd.one h1);simp only [Nat.add_zero]at hst;obtain⟨q1,aO⟩:=vn hH hi hr rfl (k:= .cells el cs' exact false false) (w.setRow b (xs.toList.take off++ys++xs.toList.drop (off+ys.length)).toArray)
  (.cells (xs.toList.take off++ys++xs.toList.drop (off+ys.length)).toArray el (0,0)) rfl rfl rfl (by simp) (setRow_heap w b xs _ el (0,0) g1) (fun j hj=>setRow_other w b j _ hj) (by
    have hlen:cs'.length=cs.length:=by rw [k2];simp;omega
    have hsz:(xs.toList.take off++ys++xs.toList.drop (off+ys.length)).toArray.size=xs.size:=by simp;omega
    refine⟨_,_,rfl,fun _=>rfl, ?_,fun hx=>by rw [hsz,hlen];exact g4 hx,fun hx=>⟨b,c,hr,by rw [hsz];exact g5 hx⟩⟩;show aF ρ cs' ((xs.toList.take off++ys++xs.toList.drop (off+ys.length)).take cs'.length);rw [hlen,Pr _ _ _ _ (by omega) (by simpa using g6),k2,mz];exact((g3.take off).append hd).append (g3.drop _))
 exact⟨xs,_,g1,hst,q1,aO⟩
theorem YZ {cs vs r:List aa} {off:Nat} (h:kM cs off vs=some r):r.length=cs.length:=by
 obtain⟨h1,h2⟩:=BB h;rw [h2];simp;omega
theorem Y0 (hH:bf P B ρ H w) {i b c off:Nat} {el:TypeId} {t:av} {xs xs':List t.den} {vs cs':List aa} (hi:H.get i=some (.own el t xs)) (hr:ρ i=some (b,c)) (hp:kM (t.flat xs) off vs=some cs') {ys:List Value} (hd:aF ρ vs ys) (h1:eO vs=true)
  (hx:∀zs,aF ρ cs' zs->aF ρ (t.flat xs') zs) (hl:xs'.length=xs.length):
  ∃w',(storeCells ⟨b,off,none⟩ ys).run P w= .ok () w'/\bf P B ρ (H.set i (.own el t xs')) w'/\bO ρ H w ρ (H.set i (.own el t xs')) w':=by
 obtain⟨qb,g1,g3,g5,g6,g7,g8⟩:=rA hH hi hr;have hlen:cs'.length=(t.flat xs).length:=YZ hp;have Pt:(t.flat xs').length=(t.flat xs).length:=by rw [t.ig,t.ig,hl]
 obtain⟨k1,k2⟩:=BB hp;have mz:=hd.length;have hst:=run_storeCells_at P b off el ys 0 qb w g1 (by simp only [Nat.add_zero];omega) (hd.one h1);simp only [Nat.add_zero]at hst;obtain⟨q1,aO⟩:=vn hH hi hr rfl (k:= .own el t xs') (w.setRow b (qb.toList.take off++ys++qb.toList.drop (off+ys.length)).toArray)
  (.cells (qb.toList.take off++ys++qb.toList.drop (off+ys.length)).toArray el (0,0)) rfl rfl rfl (by simp) (setRow_heap w b qb _ el (0,0) g1) (fun j hj=>setRow_other w b j _ hj) (by
    have hsz:(qb.toList.take off++ys++qb.toList.drop (off+ys.length)).toArray.size=qb.size:=by simp;omega
    refine⟨⟨_,_,rfl,fun _=>rfl, ?_,fun hh=>Bool.noConfusion hh,fun _=>⟨b,c,hr,hsz.trans g5⟩⟩,g7,g8⟩;show aF ρ (t.flat xs') ((qb.toList.take off++ys++qb.toList.drop (off+ys.length)).take (t.flat xs').length);rw [Pt];refine hx _ ?_;rw [Pr _ _ _ _ (by omega) (by simpa using g6),k2,mz];exact((g3.take off).append hd).append (g3.drop _))
 exact⟨_,hst,q1,aO⟩
theorem Y1 {pre mid post vs r:List aa} {off:Nat} (h:kM mid off vs=some r):kM (pre++(mid++post)) (pre.length+off) vs=some (pre++(r++post)):=by
 have hh:∀(cs:List aa) (o:Nat),o+vs.length<=cs.length->kM cs o vs=some (cs.take o++vs++cs.drop (o+vs.length)):=fun cs o ho=>by
  unfold kM;split
  .rename_i v;have ho':o<cs.length:=by simp at ho;omega
   rw [w7,if_pos ho',OT _ _ _ ho'];rfl
  .rw [fo ho];rfl
 obtain⟨h1,h2⟩:=BB h;rw [hh _ _ (by simp;omega),h2];congr 1;rw [List.take_append,eF (by omega),show pre.length+off-pre.length=off by omega,List.take_append,show off-mid.length=0 by omega];rw [List.drop_append,List.drop_eq_nil_of_le (by omega),List.nil_append,show pre.length+off+vs.length-pre.length=off+vs.length by omega,List.drop_append,show off+vs.length-mid.length=0 by omega];simp
theorem Y2 {t:TypeId} {x y:Operand} {b off n:Nat} {w':World} (ho:o.op= .store t x y) (hx:e x= .pointer (some ⟨b,off,none⟩)) (hn:ek P t=some n) (hsz:(e y).cells.size=n) (h:(storeCells ⟨b,off,none⟩ (e y).cells.toList).run P w= .ok () w'):(execOp e o).run P w= .ok .skip w':=by
 simp [execOp,ho,Instr.storeAt,storeVar,hx,Instr.sureAddr,jU hn,hsz,h]
theorem FSz (hH:bf P B ρ H w) {t:TypeId} {x y:Operand} {v u:aa} (ho:o.op= .store t x y) (hx:Den ρ v (e x)) (hy:Den ρ u (e y)):cN P B ρ H w ((execOp e o).run P w) (xg P t v u H):=by
 unfold xg;split
 .rename_i e' ty i k off;cases hb:bz e' ty (H.get i) k with
  |false=>trivial
  |true=>
   obtain⟨b1,b2⟩:=vp hb;obtain⟨b,c,h1,h5⟩:=hx.xw;cases hc:(eO u.cells&&s8 P t u.cells.length)with
   |false=>trivial
   |true=>
    simp only [cond_true];rw [ae]at hc;obtain⟨c1,c2⟩:=hc;unfold s8 at c2;split at c2
    .rename_i n hn;have c2:=ac c2;split
     .rename_i d hd;simp only [dz]at hd;obtain⟨cs',p1,p2⟩:=hd;have n4:=Pm c1;generalize hxs:bM ty (H.get i)=xs at*;have hput:=Y1 (pre:=ty.flat (xs.take k)) (post:=ty.flat (xs.drop (k+1))) p1;rw [<-ty.OX xs k b2,ty.OY xs k b2]at hput;obtain⟨w',q1,aO,bV⟩:=Y0 (xs':=xs.set k d) hH b1 h1 hput (hy.cells n4) c1 (fun zs hz=>by
       have e1:ty.flat (xs.set k d)=ty.flat (xs.take k)++(ty.cells d++ty.flat (xs.drop (k+1))):=by
        rw [List.set_eq_take_append_cons_drop,if_pos b2,av.BE,av.zq]
       rw [e1];have nh:(ty.flat (xs.take k)).length<=zs.length:=by rw [hz.length];simp
       have cQ:=hz.take (ty.flat (xs.take k)).length;have z2:=hz.drop (ty.flat (xs.take k)).length;simp only [List.take_left',List.drop_left']at cQ z2;have z3:=z2.take cs'.length;have z4:=z2.drop cs'.length;simp only [List.take_left',List.drop_left']at z3 z4;have z5:=av.X0 p2 z3;have:=cQ.append (z5.append z4);rwa [List.take_append_drop,List.take_append_drop]at this) (by simp)
      have hsz:(e y).cells.size=n:=by rw [<-c2,<-(hy.cells n4).length];simp
      exact fun _=>⟨ρ,undef,w', .skip,Y2 ho h5 hn hsz q1,rfl, .raw _,aO,bV⟩
     .trivial
    .cases c2
 .trivial
theorem Y3 (hH:bf P B ρ H w) (he:∀x,Den ρ (ev x) (e x)) {t:TypeId} {x y:Operand} (ho:o.op= .store t x y):cN P B ρ H w ((execOp e o).run P w) (p6 t x y P o ev H):=by
 unfold p6;cases hp:iI (ev x)with
 |no=>exact FSz hH ho (he x) (he y)
 |mk i off=>
  cases hb:sW (H.get i)with
  |no=>simp only [hb];trivial
  |mk el cs ex cE ro=>
   simp only [hb];cases ro with
   |true=>trivial
   |false=>
    cases cE with
    |true=>trivial
    |false=>
     have hx:=he x;rw [BG hp]at hx;obtain⟨b,c,h1,h2⟩:=hx.kN;show cN P B ρ H w _ (eH (Bv P t i off (ev y) H el cs ex));cases hv:Bv P t i off (ev y) H el cs ex with
     |none=>trivial
     |some q=>
      unfold Bv at hv;cases hc:(eO (ev y).cells&&s8 P t (ev y).cells.length)with
      |false=>rw [hc]at hv;cases hv
      |true=>
       rw [hc]at hv;simp only [cond_true,am]at hv;obtain⟨cs',hp',rfl⟩:=hv;rw [ae]at hc;obtain⟨c1,c2⟩:=hc;unfold s8 at c2;split at c2
       .rename_i n hn;have c2:=ac c2;have n4:=Pm c1;obtain⟨xs,w',_,k2,dF,mA⟩:=El hH (O2 hb) h1 hp' ((he y).cells n4) c1;have hsz:(e y).cells.size=n:=by rw [<-c2,<-((he y).cells n4).length];simp
        exact fun _=>⟨ρ,undef,w', .skip,by simp [execOp,ho,Instr.storeAt,storeVar,h2,Instr.sureAddr,jU hn,hsz,k2],rfl, .raw _,dF,mA⟩
       .cases c2
end
section
variable {P:Program} {B:Nat} {ρ:Env} {H:ai} {w:World} {o:Oper} {ev:dJ} {e:Operand->Value}
theorem run_getObj_map {b:Nat} {es:Array MapEntry} {c:Nat} (h:w.heap[b]? =some (.map es c)):(getObj b).run P w= .ok (.map es c) w:=by
 simp [getObj,Sem.run,h]
theorem Y4 {t:TypeId} {es:Array MapEntry} {c:Nat} {kv v:Value} {ok:Bool} {b:Nat} (h:HW P t es kv ok=some v) (hb:w.heap[b]? =some (.map es c)):(Instr.lookup t (.map (some b)) kv ok).run P w= .ok v w:=by
 unfold HW at h;split at h
 .rename_i kt et hu;simp only [dz]at h;obtain⟨_,h1,r,h2,h3⟩:=h;have e1:=nX _ w h1;have e2:=nX _ w h2;cases r with
  |none=>
   simp only [am]at h3;obtain⟨z,hz,rfl⟩:=h3;simp only [Instr.lookup,Sem.run_bind,dw hu,Result.andThen_ok,run_getObj_map hb,Sem.run_pure,e1,e2,Eb hz]
  |some p=>
   obtain⟨i,v'⟩:=p;simp only [sV]at h3;subst h3;simp only [Instr.lookup,Sem.run_bind,dw hu,Result.andThen_ok,run_getObj_map hb,Sem.run_pure,e1,e2]
 .cases h
theorem Y5 (hH:bf P B ρ H w) (he:∀x,Den ρ (ev x) (e x)) {t:TypeId} {m k:Operand} {ok:Bool} (ho:o.op= .lookup t m k ok):cN P B ρ H w ((execOp e o).run P w) (Bt t m k ok P o ev H):=by
 refine mo hH fun v hv=> ?_
 unfold Ib at hv;split at hv
 .rename_i i kv hm hk;have hm':=he m;rw [hm]at hm';obtain⟨b,c,h1,h2⟩:=hm'.vk;split at hv
  .rename_i es clock hg;simp only [am]at hv;obtain⟨y,hy,rfl⟩:=hv;obtain⟨lD,g1,g2,_⟩:=hH.at hg h1;have g2:lD= .map es clock:=g2;subst g2;refine lB (y:=y) ?_ (.raw y);simp [execOp,ho,h2,(he k).fc hk,Y4 hy g1]
  .cases hv
 .exact vq he (by rw [ho];rfl) hv w
theorem IB {b:Nat} {es:Array MapEntry} {c:Nat} (h:w.heap[b]? =some (.map es c)) (o':Obj):(setObj b o').run P w= .ok () {w with heap:=w.heap.setIfInBounds b o'}:=by
 simp [setObj,Sem.run,h]
theorem Y6 {t:TypeId} {es es':Array MapEntry} {c c':Nat} {kv xv:Value} {b:Nat} (h:HX P t es c kv xv=some (es',c')) (hb:w.heap[b]? =some (.map es c)):
  (Instr.mapUpdate t (.map (some b)) kv xv).run P w= .ok () {w with heap:=w.heap.setIfInBounds b (.map es' c')}:=by
 unfold HX at h;split at h
 .rename_i kt et hu;simp only [dz]at h;obtain⟨_,h1,r,h2,h3⟩:=h;have e1:=nX _ w h1;have e2:=nX _ w h2;cases r with
  |none=>
   simp only [sV,Prod.mk.injEq]at h3;obtain⟨rfl,rfl⟩:=h3;simp only [Instr.mapUpdate,Sem.run_bind,dw hu,Result.andThen_ok,run_getObj_map hb,e1,e2,IB hb]
  |some p=>
   obtain⟨i,v'⟩:=p;simp only [am,Prod.mk.injEq]at h3;obtain⟨k,hk,rfl,rfl⟩:=h3;have e3:=nX _ w hk;simp only [Instr.mapUpdate,Sem.run_bind,dw hu,Result.andThen_ok,run_getObj_map hb,e1,e2,e3,IB hb]
 .cases h
theorem IC {b j:Nat} (o':Obj) (h:j≠b):(w.heap.setIfInBounds b o')[j]? =w.heap[j]? :=by
 simp [Ne.symm h]
theorem ID {b:Nat} {o0:Obj} (o':Obj) (h:w.heap[b]? =some o0):(w.heap.setIfInBounds b o')[b]? =some o':=by
 have:=(cV.1 h).1;simp [this]
theorem Y7 {t:TypeId} {kv xv:Value} {b:Nat} (h:D5 P t kv=true) (hb:w.heap[b]? =some (.map #[] 0)):
  (Instr.mapUpdate t (.map (some b)) kv xv).run P w= .ok () {w with heap:=w.heap.setIfInBounds b (.map #[{key:=kv,val:=xv,born:=0}] 1)}:=by
 unfold D5 at h;split at h
 .rename_i kt et hu;split at h
  .rename_i h1 h2;have e1:=nX _ w h1;have e2:=nX _ w h2;simp only [Instr.mapUpdate,Sem.run_bind,dw hu,Result.andThen_ok,run_getObj_map hb,e1,e2,IB hb];rfl
  .cases h
 .cases h
theorem Pu (hH:bf P B ρ H w) (he:∀x,Den ρ (ev x) (e x)) {t:TypeId} {m k x:Operand} {r:Result Next} (hr:∀u w',(Instr.mapUpdate t (e m) (e k) (e x)).run P w= .ok u w'->r= .ok .skip w'):cN P B ρ H w r (oL t m k x P o ev H):=by
 unfold oL;cases hv:Bw P t (ev m) (ev k) (ev x) H with
 |none=>trivial
 |some q=>
  unfold Bw at hv;split at hv
  .rename_i i kv xv hm hk hx;have hm':=he m;rw [hm]at hm';obtain⟨b,c,h1,h2⟩:=hm'.vk;split at hv
   .rename_i es clock hg;simp only [am]at hv;obtain⟨p,hy,rfl⟩:=hv;obtain⟨es',clock'⟩:=p;obtain⟨lD,g1,g2,_⟩:=hH.at hg h1;have g2:lD= .map es clock:=g2;subst g2;have IE:=Y6 (w:=w) hy g1;have hr':=hr _ _ (by rw [h2,(he k).fc hk,(he x).fc hx];exact IE);obtain⟨q1,aO⟩:=vn hH hg h1 rfl (k:= .map es' clock') {w with heap:=w.heap.setIfInBounds b (.map es' clock')} (.map es' clock') rfl rfl rfl (by simp) (ID _ g1) (fun j hj=>IC _ hj) rfl;exact fun _=>⟨ρ,undef,_, .skip,hr',rfl, .raw _,q1,aO⟩
   .cases hv
  .rename_i hx;unfold Ic at hv;split at hv
   .rename_i i kv hm hk;have hm':=he m;rw [hm]at hm';obtain⟨b,c,h1,h2⟩:=hm'.vk;split at hv
    .rename_i hg;obtain⟨lD,g1,g2,_⟩:=hH.at hg h1;have g2:lD= .map #[] 0:=g2;subst g2;cases ho:D5 P t kv with
     |false=>rw [ho]at hv;cases hv
     |true=>
      rw [ho]at hv;cases hv;have IE:=Y7 (w:=w) (xv:=e x) ho g1;have hr':=hr _ _ (by rw [h2,(he k).fc hk];exact IE);obtain⟨q1,aO⟩:=vn hH hg h1 rfl (k:= .one kv (ev x)) {w with heap:=w.heap.setIfInBounds b (.map #[{key:=kv,val:=e x,born:=0}] 1)} (.map #[{key:=kv,val:=e x,born:=0}] 1) rfl rfl rfl (by simp) (ID _ g1) (fun j hj=>IC _ hj) ⟨_,rfl,he x⟩;exact fun _=>⟨ρ,undef,_, .skip,hr',rfl, .raw _,q1,aO⟩
    .cases hv
   .cases hv
  .cases hv
theorem Y8 (hH:bf P B ρ H w) (he:∀x,Den ρ (ev x) (e x)) {t:TypeId} {m k x:Operand} (ho:o.op= .mapUpdate t m k x):cN P B ρ H w ((execOp e o).run P w) (oL t m k x P o ev H):=
 Pu hH he fun u w' h=>by simp [execOp,ho,h]
theorem Y9 (hH:bf P B ρ H w) (he:∀x,Den ρ (ev x) (e x)) {t:TypeId} {m k x:Operand} (ho:o.op= .insert t m k x):cN P B ρ H w ((execOp e o).run P w) (oL t m k x P o ev H):=
 Pu hH he fun u w' h=>by simp [execOp,ho,h]
theorem zr (hH:bf P B ρ H w) (he:∀x,Den ρ (ev x) (e x)) {t:TypeId} {r:Option Operand} (ho:o.op= .makeMap t r):cN P B ρ H w ((execOp e o).run P w) (zk t r P o ev H):=by
 unfold zk;have fin:(execOp e o).run P w= .ok (.value (.map (some w.heap.size))) (w.alloc (.map #[] 0))->cN P B ρ H w ((execOp e o).run P w) (.ok (.map H.next) (H.new (.map #[] 0))):=fun h=>
  xB hH 0 h (.map (Env.dr ..)) rfl
 unfold ry;split
 .exact fin (by simp [execOp,ho,Instr.makeMap])
 .rename_i x;split
  .rename_i kt et eC n hu hx;have:=he x;rw [hx]at this;have ex:=this.b8;exact fin (by simp [execOp,ho,Instr.makeMap,dw hu,ex,asInt,asIntOf])
  .trivial
theorem Em {b s l:Nat} {m:Option Nat} {q:Array Nat} (h:w.heap[b]? =some (.mapIter m s q l)):(getObj b).run P w= .ok (.mapIter m s q l) w:=by
 simp [getObj,Sem.run,h]
theorem zt {b s l:Nat} {m:Option Nat} {q:Array Nat} (h:w.heap[b]? =some (.mapIter m s q l)) (o':Obj):(setObj b o').run P w= .ok () {w with heap:=w.heap.setIfInBounds b o'}:=by
 simp [setObj,Sem.run,h]
theorem Pv {i j b q:Nat} (h:i≠j):(ρ.put j b q) i=ρ i:=by simp [Env.put,h]
theorem Za (hH:bf P B ρ H w) (he:∀x,Den ρ (ev x) (e x)) {t:TypeId} {x:Operand} (ho:o.op= .range t x):cN P B ρ H w ((execOp e o).run P w) (pc t x P o ev H):=by
 unfold pc D6;split
 .rename_i kt et i hu hx;have hx':=he x;rw [hx]at hx';obtain⟨b,q,h1,h2⟩:=hx'.vk;have fin:∀(es:Array MapEntry) (c:Nat),w.heap[b]? =some (.map es c)->(execOp e o).run P w= .ok (.value (.pointer (some ⟨w.heap.size,0,none⟩))) (w.alloc (.mapIter (some b) c #[] c)):=fun es c hb=>by
   simp only [execOp,ho,Instr.range,Sem.run_bind,dw hu,Result.andThen_ok,h2,run_getObj_map hb,Sem.run_pure];simp [newObj,Sem.run]
  split
  .rename_i hg;obtain⟨lD,g1,g2,_⟩:=hH.at hg h1;have g2:lD= .map #[] 0:=g2;subst g2;exact xB hH 0 (fin _ _ g1) (.ptr (Env.dr ..)) ⟨b,q,(Pv (Nat.ne_of_lt (hH.lt _ _ hg))).trans h1,rfl⟩
  .rename_i kv v hg;obtain⟨lD,g1,⟨xv,g2,_⟩,_⟩:=hH.at hg h1;subst g2;exact xB hH 0 (fin _ _ g1) (.ptr (Env.dr ..)) ⟨b,q,(Pv (Nat.ne_of_lt (hH.lt _ _ hg))).trans h1,rfl⟩
  .trivial
 .trivial
theorem Zb {b r:Nat} {t:TypeId} (h1:w.heap[r]? =some (.mapIter (some b) 0 #[] 0)) (h2:w.heap[b]? =some (.map #[] 0)):(Instr.next (.pointer (some ⟨r,0,none⟩)) false t).run P w= .ok (.tuple #[.bool false]) w:=by
 simp [Instr.next,Em h1,run_getObj_map h2,Question.forced]
theorem Zc {b r:Nat} {t:TypeId} {k x:Value} (h1:w.heap[r]? =some (.mapIter (some b) 1 #[] 1)) (h2:w.heap[b]? =some (.map #[{key:=k,val:=x,born:=0}] 1)):
  (Instr.next (.pointer (some ⟨r,0,none⟩)) false t).run P w= .ok (.tuple #[.bool true,k,x]) {w with heap:=w.heap.setIfInBounds r (.mapIter (some b) 1 #[0] 1)}:=by
 simp [Instr.next,Em h1,run_getObj_map h2,zt h1,Question.forced]
theorem Zd {b r:Nat} {t:TypeId} {k x:Value} (h1:w.heap[r]? =some (.mapIter (some b) 1 #[0] 1)) (h2:w.heap[b]? =some (.map #[{key:=k,val:=x,born:=0}] 1)):
  (Instr.next (.pointer (some ⟨r,0,none⟩)) false t).run P w= .ok (.tuple #[.bool false]) w:=by
 simp [Instr.next,Em h1,run_getObj_map h2,Question.forced]
theorem Ze {b r:Nat} {k x:Value} (h1:w.heap[r]? =some (.mapIter (some b) 1 #[0] 1)) (h2:w.heap[b]? =some (.map #[{key:=k,val:=x,born:=0}] 1)):
  (Instr.entry (.pointer (some ⟨r,0,none⟩))).run P w= .ok (.tuple #[k,x]) w:=by
 simp [Instr.entry,Em h1,run_getObj_map h2]
theorem Zf (hH:bf P B ρ H w) (he:∀x,Den ρ (ev x) (e x)) {x:Operand} {s:Bool} (ho:o.op= .next x s):cN P B ρ H w ((execOp e o).run P w) (zl x s P o ev H):=by
 unfold zl D7;split
 .rename_i j hx;have hx':=he x;rw [hx]at hx';obtain⟨r,ni,r1,r2⟩:=hx'.kN;have hrun:∀y w',(Instr.next (.pointer (some ⟨r,0,none⟩)) false o.type).run P w= .ok y w'->(execOp e o).run P w= .ok (.value y) w':=fun y w' h=>by simp [execOp,ho,r2,h]
  unfold Ie;split
  .rename_i i hj;obtain⟨oj,j1,⟨b,q,j2,qc⟩,_⟩:=hH.at hj r1;subst qc;split
   .rename_i hi;obtain⟨oi,i1,i2,_⟩:=hH.at hi j2;have i2:oi= .map #[] 0:=i2;subst i2;exact fL hH (hrun _ _ (Zb j1 i1)) (.tuple (.cons (.raw _) .nil))
   .trivial
  .rename_i i hj;obtain⟨oj,j1,⟨b,q,j2,qc⟩,_⟩:=hH.at hj r1;subst qc;split
   .rename_i kv v hi;obtain⟨oi,i1,⟨xv,i2,i3⟩,_⟩:=hH.at hi j2;subst i2;obtain⟨q1,aO⟩:=vn hH hj r1 rfl (k:= .iter i 1 true) {w with heap:=w.heap.setIfInBounds r (.mapIter (some b) 1 #[0] 1)} (.mapIter (some b) 1 #[0] 1) rfl rfl rfl (by simp) (ID _ j1) (fun j hj=>IC _ hj) ⟨b,q,j2,rfl⟩;exact fun _=>⟨ρ,_,_,_,hrun _ _ (Zc j1 i1),rfl, .tuple (.cons (.raw _) (.cons (.raw _) (.cons i3 .nil))),q1,aO⟩
   .trivial
  .rename_i i hj;obtain⟨oj,j1,⟨b,q,j2,qc⟩,_⟩:=hH.at hj r1;subst qc;split
   .rename_i kv v hi;obtain⟨oi,i1,⟨xv,i2,i3⟩,_⟩:=hH.at hi j2;subst i2;exact fL hH (hrun _ _ (Zd j1 i1)) (.tuple (.cons (.raw _) .nil))
   .trivial
  .trivial
 .trivial
theorem Zg (hH:bf P B ρ H w) (he:∀x,Den ρ (ev x) (e x)) {x:Operand} (ho:o.op= .entry x):cN P B ρ H w ((execOp e o).run P w) (Bx x P o ev H):=by
 refine mo hH fun v hv=> ?_
 unfold OO at hv;split at hv
 .rename_i j hx;have hx':=he x;rw [hx]at hx';obtain⟨r,ni,r1,r2⟩:=hx'.kN;unfold OM at hv;split at hv
  .rename_i i hj;obtain⟨oj,j1,⟨b,q,j2,qc⟩,_⟩:=hH.at hj r1;subst qc;split at hv
   .rename_i kv v' hi;obtain⟨oi,i1,⟨xv,i2,i3⟩,_⟩:=hH.at hi j2;subst i2;cases hv;exact lB (y:= .tuple #[kv,xv]) (by simp [execOp,ho,r2,Ze j1 i1]) (.tuple (.cons (.raw _) (.cons i3 .nil)))
   .cases hv
  .cases hv
 .cases hv
theorem IF:∀{cs:List aa} {bs:List UInt8} {xs:List Value},bytesOf cs=some bs->aF ρ cs xs->xs=bs.map fun b=>Value.int .u8 b.toNat
 |[],bs,_,h, .nil=>by simp [bytesOf]at h;simp [h]
 |v::cs,bs,_,h, .cons hv hs=>by
  unfold bytesOf at h;split at h
  .cases ‹_::_=[]›
  .rename_i n l hl;cases hl;cases hb:Nat.ble (n+1) 256 with
   |false=>rw [hb]at h;cases h
   |true=>
    rw [hb]at h;have hb:=bS hb;simp only [cond_true,am]at h;obtain⟨r,hr,rfl⟩:=h;have:=IF hr hs;rw [hv.b8,this,List.map_cons];congr 2;have:(UInt8.ofNat n).toNat=n:=by simp;omega
    rw [this];rfl
  .cases h
theorem En {b off:Nat} {xs:Array Value} {el:TypeId} {fz:Nat×Nat} {n k:Nat} (h:w.heap[b]? =some (.cells xs el fz)):∀(j:Nat) (y:Value),(((xs.toList.take n).drop off).take k)[j]? =some y->w.cell? ((⟨b,off,none⟩:Addr).add j)=some y:=fun j y hj=>by
 rw [gW,cell_of h];rw [List.getElem?_take]at hj;split at hj
 .rw [List.getElem?_drop]at hj;exact xC hj
 .cases hj
theorem IG {cs:List aa} {xs:List Value} {off n:Nat} (hd:aF ρ cs xs) (h:off+n<=cs.length):((xs.drop off).take n).length=n:=by
 have:=hd.length;simp only [ei,mW];omega
theorem II {b:Nat} {xs:Array Value} {el:TypeId} {fz:Nat×Nat} (h:w.heap[b]? =some (.cells xs el fz)):w.shape? b=some (el,xs.size):=by simp [World.shape?,h]
theorem Zh (hH:bf P B ρ H w) (he:∀x,Den ρ (ev x) (e x)) {s d:TypeId} {x:Operand} (ho:o.op= .convert s d x):cN P B ρ H w ((execOp e o).run P w) (zi s d x P o ev H):=by
 have hp:qa o.op=true:=by rw [ho];rfl
 have hx:=he x;have Pw:cN P B ρ H w ((execOp e o).run P w) (eH ((gen P o ev).map fun v=>(v,H))):=by
  have:=vr (P:=P) (w:=w) hH he hp;cases hg:gen P o ev with
  |none=>trivial
  |some v=>rw [hg]at this;exact this
 have hrun:∀y w',(convert s d (e x)).run P w= .ok y w'->(execOp e o).run P w= .ok (.value y) w':=fun y w' h=>by simp [execOp,ho,h]
 unfold zi;unfold Bu;split
 .rename_i i off len cap gh;rw [gh]at hx;obtain⟨b,c,k,h1,hc,hl,h2⟩:=hx.ic;split
  .rename_i el e' cs ex cE ro hs hd hg;split
   .rename_i hel;cases hb:Nat.ble (off+len) cs.length with
    |false=>trivial
    |true=>
     have hb:=bS hb;simp only [cond_true];cases lF:bytesOf (cut cs off len)with
     |none=>trivial
     |some bs=>
      obtain⟨xs,fz,g1,_,g3,_⟩:=mq hH hg h1;have q1:=IF lF ((g3.drop off).take len);have hlen:bs.length=len:=by have:=IG g3 hb;rw [q1]at this;simpa using this
      subst hlen;refine fL hH (y:= .string ⟨bs.toArray⟩) (hrun _ _ ?_) (.raw _);rw [h2];refine run_convert_bytes_back w s d el ⟨b,off,none⟩ k bs hs hel hd fun j hj=> ?_
      have hcut:=En (n:=cs.length) (k:=bs.length) (off:=off) g1 j (.int .u8 bs[j].toNat);rw [q1]at hcut;exact hcut (by simp [hj])
   .trivial
  .trivial
 .rename_i i off gh;rw [gh]at hx;obtain⟨b,c,h1,h2⟩:=hx.kN;split
  .rename_i t el cs ex cE ro hs hd hg;split
   .rename_i n hn;cases hb:Nat.ble (off+1) cs.length with
    |false=>trivial
    |true=>
     have hb:=bS hb;obtain⟨xs,fz,g1,_,g3,_,_,g6⟩:=mq hH hg h1;obtain⟨inf,hi,hsz⟩:=fp hn;refine fL hH (y:= .pointer (some ⟨b,off,none⟩)) (hrun _ _ ?_) (.ptr h1);rw [h2];exact run_convert_to_unsafe (t:=t) hs hd (by simp [hi,hsz]) (v:=xs[off]'(by omega)) (by rw [cell_of g1];exact Array.getElem?_eq_getElem (by omega))
   .trivial
  .rename_i u el cs cE ro hs hd hg;cases hb:((ek P u).isSome&&liesAt P P.depth el (cs.length/P.cellsOf el) off u 1)with
   |false=>trivial
   |true=>
    rw [ae]at hb;obtain⟨jw,hb⟩:=hb;obtain⟨n,hn⟩:=Option.isSome_iff_exists.1 jw;obtain⟨xs,fz,g1,_,g3,g4,_,g6⟩:=mq hH hg h1;have hsz:=g4 rfl;refine fL hH (y:= .pointer (some ⟨b,off,none⟩)) (hrun _ _ ?_) (.ptr h1);rw [h2];have hsh:=II g1;rw [hsz]at hsh;simp [convert,dw hs,dw hd,Conv.unsafePointer,Conv.seenAt,viewAt,hsh,jU hn,variablesAt,hb]
  .trivial
 .rename_i jb gh;split
  .rename_i el hs hd;split
   .rename_i hel;cases hb:Nat.beq (P.cellsOf el) 1 with
    |false=>trivial
    |true=>
     have hb:=ac hb;rw [gh]at hx;have ex:=hx.b8;intro hf;have hr:=run_bytes_of_string (P:=P) w s d el jb hs hd hel;obtain⟨q1,aO⟩:=tq hH.drew hf (grownCap w jb.size 0 el) (.cells el (jb.data.toList.map fun x=> .raw (.int .u8 x.toNat)) false true false)
      (.cells (bytesRow jb (grownCap w jb.size 0 el)) el ((bytesRow jb (grownCap w jb.size 0 el)).size,(bytesRow jb (grownCap w jb.size 0 el)).size+1)) (by
        have hge:=grownCap_ge w jb.size 0 el;refine⟨_,_,rfl,(fun h=>by cases h), ?_,(fun h=>by cases h),fun _=>⟨_,_,Env.dr .., ?_⟩⟩
        .have e1:(bytesRow jb (grownCap w jb.size 0 el)).toList.take (jb.data.toList.map fun x=>aa.raw (.int .u8 x.toNat)).length=jb.data.toList.map fun x=>Value.int .u8 x.toNat:=by
          simp only [bytesRow,Array.toList_append,Array.toList_map,w4];rw [List.take_left' (by simp)]
         rw [e1];have:=aF.rz (ρ:=ρ.put H.next w.drew.heap.size (grownCap w jb.size 0 el)) (jb.data.toList.map fun x=>Value.int .u8 x.toNat);simpa [List.map_map,Function.comp_def]using this
        .rw [hb,Nat.mul_one];have hsz:jb.data.size=jb.size:=rfl;simp only [bytesRow,Array.size_append,Array.size_map,Array.size_replicate,hsz];omega)
     refine⟨_, .slice (some ⟨w.heap.size,0,none⟩) jb.size (grownCap w jb.size 0 el),_,_,hrun _ _ (by rw [ex];exact hr),rfl, ?_,q1,aO.drew⟩;exact .slice (Env.dr ..) rfl (grownCap_ge w jb.size 0 el)
   .trivial
  .exact Pw
 .exact Pw
end
section
variable {P:Program} {B:Nat} {ρ:Env} {H:ai} {w:World} {o:Oper} {ev:dJ} {e:Operand->Value}
theorem Px (hH:bf P B ρ H w) {s n:Nat} {x:aa} {y:Value} {news:List aa} {tx:TypeId} (hk:(∃e',P.underlying tx=some (.slice e'))\/P.underlying tx=some .string) (h:src H s x=some (news,n)) (hx:Den ρ x y):
  ∃ys,aF ρ news ys/\ys.length=n*s/\((∀u∈ys,u.oneCell'=true)->Go.Src P s tx y n ys w):=by
 unfold src at h;split at h
 .rename_i c;cases h;have:=hx.b8;subst this;exact⟨[], .nil,by simp,fun _=>⟨hk,fun _=>rfl,run_firstCells_none w s 0 0 c,run_firstCells_none w.drew s 0 0 c,by simp,fun _ h=>by cases h⟩⟩
 .rename_i b;cases hs:Nat.beq s 1 with
  |false=>rw [hs]at h;cases h
  |true=>
   rw [hs]at h;cases h;have hs:=ac hs;subst hs;have:=hx.b8;subst this;have hd:=aF.rz (ρ:=ρ) (byteCells b);refine⟨byteCells b, ?_,by rw [byteCells_length,Nat.mul_one],fun h1=>⟨hk,fun _=>rfl,firstCells_string b w,firstCells_string b w.drew,by rw [byteCells_length,Nat.mul_one],h1⟩⟩;simpa [byteCells,List.map_map,Function.comp_def]using hd
 .rename_i i off len cap;split at h
  .rename_i el cs ex cE ro hg;cases hb:Nat.ble (off+len*s) cs.length with
   |false=>rw [hb]at h;cases h
   |true=>
    rw [hb]at h;cases h;have hb:=bS hb;obtain⟨b,c,k,h1,_,_,rfl⟩:=hx.ic;obtain⟨xs,fz,g1,_,g3,_⟩:=mq hH hg h1;have hl:=IG g3 hb;refine⟨_,(g3.drop off).take (n*s),hl,fun ho=>⟨hk,fun _=>rfl,run_firstCells_some w s n ⟨b,off,none⟩ n k _ hl (En g1),run_firstCells_some w.drew s n ⟨b,off,none⟩ n k _ hl (En (w:=w.drew) g1),hl,ho⟩⟩
  .cases h
 .cases h
theorem Eo {t tx ty el:TypeId} {i:TypeInfo} (ht:P.underlying t=some (.slice el)) (hi:P.info? el=some i) {y:Value} (hs:Go.Src P i.size tx y 0 [] w) (base:Option Addr) {len k:Nat} (hl:len<=k):
  (Builtin.append_ #[t,tx] ty #[.slice base len k,y]).run P w= .ok (.slice base len k) w:=by
 rcases hs.kind with⟨e',hk⟩|hk<;>cases base<;>simp [Builtin.append_,run_underlying ht,run_underlying hk,sizeOf,typeInfo,hi,hs.len,hs.cells,hl,storeCells]
theorem Py {t tx ty el:TypeId} {i:TypeInfo} (ht:P.underlying t=some (.slice el)) (hi:P.info? el=some i) {y:Value} {n:Nat} {ys:List Value} (hs:Go.Src P i.size tx y n ys w) {b len k:Nat} (hr:len+n<=k) {w':World}
  (hst:(storeCells ⟨b,len*i.size,none⟩ ys).run P w= .ok () w'):(Builtin.append_ #[t,tx] ty #[.slice (some ⟨b,0,none⟩) len k,y]).run P w= .ok (.slice (some ⟨b,0,none⟩) (len+n) k) w':=by
 rcases hs.kind with⟨e',hk⟩|hk<;>simp [Builtin.append_,run_underlying ht,run_underlying hk,sizeOf,typeInfo,hi,hs.len,hr,hs.cells,Addr.add_lit,hst]
theorem rB {b:Builtin} {args:Array Operand} {argTypes:Array TypeId} (ho:o.op= .call {callee:= .builtin b,args,argTypes}) {eD:Next} {w':World}
  (h:∀cs,(builtin b argTypes o.type cs (args.map e)).run P w= .ok eD w'):(execOp e o).run P w= .ok eD w':=by
 simp only [execOp,ho,resolve,Sem.run_bind,Sem.run_pure,Result.andThen_ok,invoke];exact h _
theorem Zi {ρ:Env} {i b c:Nat} {el:TypeId} {cs:List aa} {xs:Array Value} {zs:Array Value} (hr:ρ i=some (b,c)) (h:aF ρ cs xs.toList) (hsz:(xs++zs).size=c*P.cellsOf el):gF P ρ i (.cells el cs false false false) (.cells (xs++zs) el):=by
 refine⟨_,(0,0),rfl,fun _=>rfl, ?_,(fun h=>by cases h),fun _=>⟨b,c,hr,hsz⟩⟩;rw [Array.toList_append,List.take_left' h.length];exact h
theorem IJ {el:TypeId} {i:TypeInfo} (hi:P.info? el=some i):P.cellsOf el=i.size:=by simp [Program.cellsOf,hi]
theorem IK (hH:bf P B ρ H w) (hf:Fr ρ H.next (H.next+1)) {el:TypeId} {i:TypeInfo} {z:Value} (hi:P.info? el=some i) (hz:z.cells.size=i.size) {cs:List aa} {xs:List Value} (hd:aF ρ cs xs) {need old:Nat} (hl:xs.length=need*i.size):
  bf P B (ρ.put H.next w.heap.size (grownCap w need old el)) (H.new (.cells el cs false false false)) (w.drew.alloc (.cells (xs.toArray++Builtin.zeroCells z.cells (grownCap w need old el-need)) el))/\
   bO ρ H w (ρ.put H.next w.heap.size (grownCap w need old el)) (H.new (.cells el cs false false false)) (w.drew.alloc (.cells (xs.toArray++Builtin.zeroCells z.cells (grownCap w need old el-need)) el)):=by
 have hn:ρ H.next=none:=hf H.next (aG _) (e8 _);obtain⟨q1,aO⟩:=tq hH.drew hf (grownCap w need old el) (.cells el cs false false false) (.cells (xs.toArray++Builtin.zeroCells z.cells (grownCap w need old el-need)) el)
  (Zi (P:=P) (Env.dr ..) ((show aF ρ cs xs.toArray.toList by simpa using hd).mono (Env.oQ hn)) (by
    have hge:=grownCap_ge w need old el;rw [IJ hi];simp only [Array.size_append,List.size_toArray,size_zeroCells,hz,hl,<-Nat.add_mul];congr 1;omega))
 exact⟨q1,aO.drew⟩
theorem IL {need old bytes:Nat} (h:old<need) (hb:need*bytes<=140737488355328):Builtin.nextslicecap need old*bytes<=281474976710656:=growslice_fits h hb
theorem Pz (hH:bf P B ρ H w) {t tx ty el:TypeId} {i:TypeInfo} {z:Value} (ht:P.underlying t=some (.slice el)) (hi:P.info? el=some i) (hz:i.zero=some z) (hzs:z.cells.size=i.size) {y:Value} {n:Nat} {ys:List Value} (hs:Go.Src P i.size tx y n ys w)
  {news:List aa} (hd:aF ρ news ys) (h1:eO news=true) {id len:Nat} {cap:aZ} {xv:Value} (hx:Den ρ (.slice id 0 len cap) xv) {q:aa×ai} (hv:sm el i.size i.bytes id len cap news n H=some q) (hf:Fr ρ H.next q.2.next):
  ∃ρ' x w',(Builtin.append_ #[t,tx] ty #[xv,y]).run P w= .ok x w'/\Den ρ' q.1 x/\bf P B ρ' q.2 w'/\bO ρ H w ρ' q.2 w':=by
 unfold sm at hv;cases hb:bounded (len+n) i.bytes with
 |false=>rw [hb]at hv;cases hv
 |true=>
  rw [hb]at hv;simp only [bounded,ae]at hb;have b1:=bS hb.1;have b2:=bS hb.2;simp only [cond_true]at hv;split at hv
  .rename_i e' cs PA hg;cases BL:(Nat.beq el e'&&Nat.ble (len*i.size) cs.length)with
   |false=>rw [BL]at hv;cases hv
   |true=>
    rw [BL]at hv;rw [ae]at BL;have b3:=ac BL.1;have b4:=bS BL.2;subst b3;simp only [cond_true]at hv;obtain⟨b,c,k,g1,gc,gl,rfl⟩:=hx.ic;obtain⟨xs,fz,k1,k2,dF,mA,oS,xD⟩:=mq hH hg g1;have hfz:=k2 rfl;subst hfz
    -- the elements that were there
    have PB:((xs.toList.take cs.length).take (len*i.size)).length=len*i.size:=by
     have:=dF.length;rw [ei,this];omega
    have hold:aF ρ (cs.take (len*i.size)) ((xs.toList.take cs.length).take (len*i.size)):=dF.take _;have Zj:=run_firstCells_some (P:=P) w.drew i.size len ⟨b,0,none⟩ len k _ PB (fun j v hj=>by
     rw [List.take_take]at hj;have:=xC (n:=min (len*i.size) cs.length) hj;rw [gW];show w.cell? _=_;rw [cell_of k1];simpa using this)
    have hys:=hs.newsLen
    -- the way that lays a new row
    have grow:k<len+n->∀H0:ai,bf P B ρ H0 w->bO ρ H w ρ H0 w->H0.next=H.next->q=(.slice H0.next 0 (len+n) .full,H0.new (.cells el (cs.take (len*i.size)++news) false false false))->
      ∃ρ' x w',(Builtin.append_ #[t,tx] ty #[.slice (some ⟨b,0,none⟩) len k,y]).run P w= .ok x w'/\Den ρ' q.1 x/\bf P B ρ' q.2 w'/\bO ρ H w ρ' q.2 w':=by
     intro hlt H0 Ep Zk hnx hq;subst hq;have hf':Fr ρ H0.next (H0.next+1):=by rw [hnx];have:(H0.new (.cells el (cs.take (len*i.size)++news) false false false)).next=H0.next+1:=rfl;rw [this,hnx]at hf;exact hf
     have hr:=run_append_grow_src (P:=P) w t tx ty el i z ht hi hz (some ⟨b,0,none⟩) len k _ Zj y n ys hs hlt (by omega) (IL hlt b1);obtain⟨q1,aO⟩:=IK Ep hf' (need:=len+n) (old:=k) hi hzs (hold.append hd) (by rw [dU,PB,hys,Nat.add_mul]);exact⟨_,_,_,hr, .slice (Env.dr ..) rfl (grownCap_ge w (len+n) k el),q1,Zk.trans aO⟩
    cases cap with
    |known c'=>
     have hkc:k=c':=gc;subst hkc;simp only at hv;cases BM:Nat.ble (len+n) k with
     |true=>
      rw [BM]at hv;have gi:=bS BM;simp only [cond_true,am]at hv;obtain⟨cs',hp,rfl⟩:=hv;obtain⟨_,w',_,r2,r3,n5⟩:=El hH hg g1 hp hd h1;exact⟨ρ,_,w',Py ht hi hs gi r2, .slice g1 rfl gi,r3,n5⟩
     |false=>
      rw [BM]at hv;simp only [cond_false,sV]at hv;have hlt:k<len+n:=by
       refine Nat.lt_of_not_le fun hh=> ?_
       rw [fo hh]at BM;cases BM
      exact grow hlt H hH (bO.refl _ _ _) rfl hv.symm
    |full=>
     have hkc:k=c:=gc;subst hkc;cases PA with
     |true=>cases hv
     |false=>
      simp only [cond_false,sV]at hv;by_cases hlt:k<len+n
      .obtain⟨d1,d2⟩:=OW hH id;exact grow hlt (H.drop id) d1 d2 rfl hv.symm
      .have hle:len+n<=k:=Nat.le_of_not_lt hlt;subst hv;have hxs:=oS rfl;have hsz:len*i.size+ys.length<=xs.size:=by
        rw [hxs,IJ hi,hys,<-Nat.add_mul];exact Nat.mul_le_mul_right _ hle
       have hst:=run_storeCells_at P b (len*i.size) el ys 0 xs w k1 (by simpa using hsz) hs.one;simp only [Nat.add_zero]at hst;have hn:ρ H.next=none:=hf H.next (aG _) (e8 _);obtain⟨r3,n5⟩:=XZ hH hf hg g1 rfl (k:= .cells el (cs.take (len*i.size)++news) false false false) (w.setRow b (xs.toList.take (len*i.size)++ys++xs.toList.drop (len*i.size+ys.length)).toArray)
        (.cells (xs.toList.take (len*i.size)++ys++xs.toList.drop (len*i.size+ys.length)).toArray el (0,0)) rfl rfl rfl (by simp) (setRow_heap w b xs _ el (0,0) k1) (fun j hj=>setRow_other w b j _ hj) (by
          refine⟨_,_,rfl,fun _=>rfl, ?_,(fun h=>by cases h),fun _=>⟨b,k,Env.dr .., ?_⟩⟩
          .have e1:(xs.toList.take cs.length).take (len*i.size)=xs.toList.take (len*i.size):=by rw [List.take_take,Nat.min_eq_left b4]
           have hd':=(hold.append hd);rw [e1]at hd';have e2:((xs.toList.take (len*i.size)++ys++xs.toList.drop (len*i.size+ys.length)).toArray.toList).take (cs.take (len*i.size)++news).length=xs.toList.take (len*i.size)++ys:=by
            show(xs.toList.take (len*i.size)++ys++xs.toList.drop (len*i.size+ys.length)).take _=_;exact List.take_left' hd'.length
           rw [e2];exact hd'.mono (Env.oQ hn)
          .rw [<-hxs];simp;omega)
       exact⟨_,_,_,Py ht hi hs hle hst, .slice (Env.dr ..) rfl hle,r3,n5⟩
    |any=>cases hv
  .cases hv
theorem Zl (hH:bf P B ρ H w) {t tx ty:TypeId} (hk:(∃e',P.underlying tx=some (.slice e'))\/P.underlying tx=some .string) {s x:aa} {sv y:Value} (hs:Den ρ s sv) (hx:Den ρ x y) {q:aa×ai} (hv:zc P t s x H=some q) (hf:Fr ρ H.next q.2.next):
  ∃ρ' r w',(Builtin.append_ #[t,tx] ty #[sv,y]).run P w= .ok r w'/\Den ρ' q.1 r/\bf P B ρ' q.2 w'/\bO ρ H w ρ' q.2 w':=by
 unfold zc at hv;simp only [dz]at hv;obtain⟨el,hel,i,hi,z,hz,hv⟩:=hv;have ht:=xy hel;cases hb:(Nat.beq z.cells.size i.size&&Nat.ble 1 i.size)with
 |false=>rw [hb]at hv;cases hv
 |true=>
  rw [hb]at hv;rw [ae]at hb;have b1:=ac hb.1;have b2:=bS hb.2;simp only [cond_true,dz]at hv;obtain⟨sn,nj,hv⟩:=hv;obtain⟨news,n⟩:=sn;obtain⟨ys,g1,g2,g3⟩:=Px hH hk nj hx;cases lG:Nat.beq n 0 with
  |true=>
   simp only [lG,cond_true]at hv;have hn:=ac lG;subst hn;have hys:ys=[]:=List.eq_nil_of_length_eq_zero (by simpa using g2);subst hys;have hs':=g3 (fun _ h=>by cases h);split at hv
   .cases hv;have:=hs.b8;subst this;exact⟨ρ,_,w,Eo ht hi hs' none (aG 0), .raw _,hH,bO.refl _ _ _⟩
   .cases hv;obtain⟨b,c,k,k1,_,k2,rfl⟩:=hs.ic;exact⟨ρ,_,w,Eo ht hi hs' _ k2,hs,hH,bO.refl _ _ _⟩
   .cases hv
  |false=>
   simp only [lG,cond_false]at hv;cases h1:eO news with
   |false=>simp only [h1,cond_false]at hv;cases hv
   |true=>
    simp only [h1,cond_true]at hv;have hs':=g3 (g1.one h1);split at hv
    .have:=hs.b8;subst this;cases hbd:bounded n i.bytes with
     |false=>rw [hbd]at hv;cases hv
     |true=>
      rw [hbd]at hv;cases hv;simp only [bounded,ae]at hbd;have c1:=bS hbd.1;have c2:=bS hbd.2;have hn0:0<n:=Nat.pos_of_ne_zero fun hh=>by subst hh;cases lG
      have hr:=run_append_grow_src (P:=P) w t tx ty el i z ht hi hz none 0 0 [] (run_firstCells_none w.drew i.size 0 0 0) y n ys hs' (by omega) (by omega) (IL (by omega) (by simpa using c1));obtain⟨q1,aO⟩:=IK hH hf (need:=n) (old:=0) hi b1 g1 g2;simp only [aw,List.nil_append]at hr;exact⟨_,_,_,hr, .slice (Env.dr ..) rfl (grownCap_ge w n 0 el),q1,aO⟩
    .exact Pz hH ht hi hz b1 hs' g1 h1 hs hv hf
    .cases hv
theorem Zm (hH:bf P B ρ H w) {t tx ty:TypeId} {d x:aa} {dv y:Value} (hd:Den ρ d dv) (hx:Den ρ x y) {q:aa×ai} (hv:zf P t d x H=some q):
  ∃r w',(Builtin.copy_ #[t,tx] ty #[dv,y]).run P w= .ok r w'/\Den ρ q.1 r/\bf P B ρ q.2 w'/\bO ρ H w ρ q.2 w':=by
 unfold zf at hv;simp only [dz]at hv;obtain⟨el,hel,s,hs,hv⟩:=hv;have ht:=xy hel;obtain⟨i,hi,rfl⟩:=fp hs;split at hv
 .rename_i j rq n cj id off len cap;simp only [dz]at hv;obtain⟨sn,nj,hv⟩:=hv;obtain⟨news,n'⟩:=sn;split at hv
  .rename_i e' cs ex hg;cases h1:eO (news.take (Nat.min n len*i.size))with
   |false=>simp only [h1,cond_false]at hv;cases hv
   |true=>
    simp only [h1,cond_true,am]at hv;obtain⟨cs',hp,rfl⟩:=hv
    -- the source
    unfold src at nj;simp only at nj;split at nj
    .rename_i ar9 zz asa asb asc hg2;cases hb:Nat.ble (rq+n*i.size) zz.length with
     |false=>rw [hb]at nj;cases nj
     |true=>
      rw [hb]at nj;cases nj;have hb:=bS hb;obtain⟨b2,c2,k2,p1,_,_,rfl⟩:=hx.ic;obtain⟨b,c,k,g1,_,_,rfl⟩:=hd.ic;obtain⟨Zn,ase,m1,_,m3,_⟩:=mq hH hg2 p1;have hmin:Nat.min n len*i.size<=n*i.size:=Nat.mul_le_mul_right _ (Nat.min_le_left _ _);have hcut:(cut zz rq (n*i.size)).take (Nat.min n len*i.size)=cut zz rq (Nat.min n len*i.size):=by
       simp only [cut];rw [List.take_take,Nat.min_eq_left hmin]
      rw [hcut]at hp h1;have hdn:aF ρ (cut zz rq (Nat.min n len*i.size)) (((Zn.toList.take zz.length).drop rq).take (Nat.min n len*i.size)):=(m3.drop rq).take _;have hl:=IG m3 (off:=rq) (n:=Nat.min n len*i.size) (by omega);have hf:=run_firstCells_some (P:=P) w i.size (Nat.min n len) ⟨b2,rq,none⟩ n k2 _ hl (En m1);obtain⟨_,w',_,r2,r3,n5⟩:=El hH hg g1 hp hdn h1;refine⟨goInt (Nat.min n len),w', ?_, .raw _,r3,n5⟩;simp [Builtin.copy_,dw ht,Builtin.lenOf,jU hs,hf,r2]
    .cases nj
  .cases hv
 .rename_i id off len cap;cases hv;obtain⟨b,c,k,g1,_,_,rfl⟩:=hd.ic;have:=hx.b8;subst this;exact⟨goInt 0,w,by simp [Builtin.copy_,dw ht,Builtin.lenOf,Builtin.firstCells,jU hs,storeCells], .raw _,hH,bO.refl _ _ _⟩
 .cases hv
theorem Zo (hH:bf P B ρ H w) {t ty:TypeId} {j off len:Nat} {cap:aZ} {dv:Value} (hd:Den ρ (.slice j off len cap) dv) {q:aa×ai} (hv:pb P t j off len H=some q):
  ∃r w',(Builtin.clear_ #[t] ty #[dv]).run P w= .ok r w'/\Den ρ q.1 r/\bf P B ρ q.2 w'/\bO ρ H w ρ q.2 w':=by
 unfold pb at hv;simp only [dz]at hv;obtain⟨el,hel,s,hs,z,hz,hv⟩:=hv;have ht:=xy hel;split at hv
 .rename_i e' cs ex hg;cases hb:(Nat.ble 1 len&&Nat.beq z.cells.size s&&eO (List.replicate len (io z.cells)).flatten)with
  |false=>rw [hb]at hv;cases hv
  |true=>
   rw [hb]at hv;simp only [ae]at hb;obtain⟨⟨b1,b2⟩,b3⟩:=hb;have b1:=bS b1;simp only [cond_true,am]at hv;obtain⟨cs',hp,rfl⟩:=hv;obtain⟨b,c,k,g1,_,_,rfl⟩:=hd.ic;obtain⟨inf,_,rfl⟩:=fp hs;have b2:=ac b2;have hzl:(Builtin.zeroCells z.cells len).toList=((Array.range (len*inf.size)).map (z.cells[· %z.cells.size]!)).toList:=by unfold Builtin.zeroCells;rw [b2]
   have hdn:aF ρ (List.replicate len (io z.cells)).flatten (Builtin.zeroCells z.cells len).toList:=by
    by_cases h0:1<=inf.size
    .rw [hzl,Ej z.cells inf.size b2 h0,pf];exact aF.rz _
    .have lG:inf.size=0:=by omega
     have BN:z.cells= #[]:=Array.eq_empty_of_size_eq_zero (b2.trans lG);rw [BN];have e1:(List.replicate len (io #[])).flatten=[]:=by simp [io]
     have e2:(Builtin.zeroCells #[] len).toList=[]:=by unfold Builtin.zeroCells;simp
     rw [e1,e2];exact .nil
   obtain⟨_,w',_,r2,r3,n5⟩:=El hH hg g1 hp hdn b3;refine⟨.tuple #[],w', ?_, .raw _,r3,n5⟩;obtain⟨n,rfl⟩:∃n,len=n+1:=⟨len-1,by omega⟩;have Zp:(zeroValue el).run P w= .ok z w:=Eb hz w;simp [Builtin.clear_,dw ht,Zp,r2]
 .cases hv
theorem qd {α:Type} {b:Bool} {x:Option α} {q:α} (h:cond b x none=some q):b=true/\x=some q:=by
 cases b
 .cases h
 .exact⟨rfl,h⟩
theorem PC {b n:Nat} {xs:Array Value} {el:TypeId} {fz:Nat×Nat} (h:w.heap[b]? =some (.cells xs el fz)):(∃xE,(w.freeze ⟨b,0,none⟩ n).heap[b]? =some (.cells xs el xE))/\∀j,j≠b->(w.freeze ⟨b,0,none⟩ n).heap[j]? =w.heap[j]? :=by
 unfold World.freeze;split
 .exact⟨⟨fz,h⟩,fun _ _=>rfl⟩
 .obtain⟨lo,hi⟩:=fz;refine⟨⟨_,by simp only [Array.getElem?_modify,h];rfl⟩,fun j hj=> ?_⟩;simp only [Array.getElem?_modify];rw [if_neg (Ne.symm hj)]
theorem PD (n:Nat) (a:Addr):(w.freeze a n).os=w.os/\(w.freeze a n).tape=w.tape/\(w.freeze a n).output=w.output/\(w.freeze a n).heap.size=w.heap.size:=by
 unfold World.freeze;split<;>simp
theorem ph (hH:bf P B ρ H w) {pt it ty:TypeId} {x n:aa} {y aJ:Value} (hx:Den ρ x y) (hn:Den ρ n aJ) {q:aa×ai} (hv:vg P pt x n H=some q):
  ∃r w',(Builtin.unsafeString_ #[pt,it] ty #[y,aJ]).run P w= .ok r w'/\Den ρ q.1 r/\bf P B ρ q.2 w'/\bO ρ H w ρ q.2 w':=by
 unfold vg at hv;split at hv
 .rename_i i;split at hv
  .rename_i m;split at hv
   .rename_i el e' cs ex cE hp hg;cases hb:(Nat.beq el e'&&Nat.beq (P.cellsOf el) 1&&Nat.ble 1 m&&Nat.ble m cs.length&&Nat.ble m 140737488355328)with
    |false=>rw [hb]at hv;cases hv
    |true=>
     rw [hb]at hv;simp only [ae]at hb;obtain⟨⟨⟨⟨b1,b2⟩,b3⟩,b4⟩,gi⟩:=hb;have b1:=ac b1;have b2:=ac b2;have b3:=bS b3;have b4:=bS b4;have gi:=bS gi;subst b1;simp only [cond_true,am]at hv;obtain⟨bs,lF,rfl⟩:=hv;obtain⟨b,c,h1,rfl⟩:=hx.kN;have:=hn.b8;subst this;obtain⟨xs,fz,g1,_,g3,g4,g5,g6⟩:=mq hH hg h1;have q1:=IF lF (g3.take m);have hlen:bs.length=m:=by
      have h9:=congrArg List.length q1;have:=g3.length;rw [ei,this,w4]at h9;omega
     subst hlen;have hr:=Lib.run_unsafeString_row (P:=P) w pt it ty el hp b2 b xs.size (II g1) bs (by intro hh;subst hh;simp at b3) (by omega) (by omega) (fun j x hj=>by
      rw [gW,cell_of g1];refine xC (n:=cs.length) ?_;have h9:((xs.toList.take cs.length).take bs.length)[j]? =some (.int .u8 x.toNat):=by rw [q1];simp [hj]
      rw [List.getElem?_take]at h9;split at h9
      .simpa using h9
      .cases h9)
     obtain⟨⟨xE,f1⟩,f2⟩:=PC (n:=bs.length) g1;obtain⟨e1,e2,e3,bU⟩:=PD (w:=w) bs.length ⟨b,0,none⟩;obtain⟨r3,n5⟩:=vn hH hg h1 rfl (k:= .cells el cs ex true false) _ _ e1 e2 e3 bU f1 f2 ⟨xs,xE,rfl,(fun h=>by cases h),g3,g4,fun hx=>⟨b,c,h1,g5 hx⟩⟩;exact⟨_,_,hr, .raw _,r3,n5⟩
   .cases hv
  .cases hv
 .rename_i e' u i;split at hv
  .rename_i m;obtain⟨hb,hv⟩:=qd hv;cases hv;simp only [ae]at hb;obtain⟨b1,b2,b3,b4,gi⟩:=hb;have b2:=bS b2;have b3:=bS b3;unfold D8 at b1;split at b1
   .rename_i el hp;simp only [ae]at b1;obtain⟨a1,a2,a3⟩:=b1;have a1:=ac a1;have a2:=ac a2;have a3:=ap a3;subst a1;subst a3;obtain⟨d1,d2⟩:=vp b4;obtain⟨b,c,h1,rfl⟩:=hx.xw;have:=hn.b8;subst this;generalize bM (av.int .u8) (H.get i)=xs at*;obtain⟨ys,g1,g2,_,g4,_,_⟩:=rA hH d1 h1;have gi:dN (oM (xs.take m))=xs.take m:=ap gi;have hfl:(av.flat (.int .u8) xs).length=xs.length:=by rw [av.ig];exact Nat.mul_one _
    have ij:(oM (xs.take m)).data.toList.length=m:=by
     have:=congrArg List.length gi;unfold dN at this;rw [w4,ei]at this;omega
    have key:∀(j:Nat) (x:UInt8),(oM (xs.take m)).data.toList[j]? =some x->ys.toList[j]? =some (.int .u8 x.toNat):=fun j x hj=>by
     have hjm:j<m:=by rw [<-ij];exact(List.getElem?_eq_some_iff.1 hj).1
     have e1:(dN (oM (xs.take m)))[j]? =some (x.toNat:Int):=by unfold dN;rw [List.getElem?_map,hj];rfl
     rw [gi,List.getElem?_take,if_pos hjm]at e1;have e2:(av.flat (.int .u8) xs)[j]? =some (.raw (.int .u8 (x.toNat:Int))):=by
      have:∀l:List Int,av.flat (.int .u8) l=l.map fun z=>aa.raw (.int .u8 z):=fun l=>by
       induction l with
       |nil=>rfl
       |cons z l ih=>exact congrArg (aa.raw (.int .u8 z):: ·) ih
      rw [this,List.getElem?_map,e1];rfl
     obtain⟨y,y1,y2⟩:=g2.get e2;have:=y2.b8;subst this;rw [List.getElem?_take]at y1;split at y1
     .exact y1
     .cases y1
    have hr:=Lib.run_unsafeString_row (P:=P) w pt it ty el hp a2 b ys.size (II g1) (oM (xs.take m)).data.toList (by intro hh;rw [hh]at ij;simp at ij;omega) (by omega) (by omega) (fun j x hj=>by
     rw [gW,cell_of g1];have:=key j x hj;rw [aw,<-Array.getElem?_toList];exact this)
    rw [ij]at hr;obtain⟨⟨xE,f1⟩,f2⟩:=PC (n:=m) g1;obtain⟨e1,e2,e3,bU⟩:=PD (w:=w) m ⟨b,0,none⟩;obtain⟨r3,n5⟩:=XY hH d1 h1 rfl _ e1 e2 e3 bU f2;refine⟨_,_, ?_, .raw _,r3,n5⟩;simpa using hr
   .cases b1
  .cases hv
 .cases hv
structure eW (P:Program):Prop where
 Er:∀(f:FuncId) (fn:Func),P.funcs[f]? =some fn->fn.body.isSome=true->(fn.name== "runtime.NumGoroutine")=false
 PE:∀(f:FuncId) (fn:Func),P.funcs[f]? =some fn->fn.body=none->(fn.name== "internal/abi.NoEscape")=true->∀x w,(callFunc f #[x]).run P w= .ok (.value x) w
 makeNoZero:∀(f:FuncId) (fn:Func) (t el:TypeId),P.funcs[f]? =some fn->fn.body=none->(fn.name== "internal/bytealg.MakeNoZero")=true->fn.resultTypes[0]? =some t->P.underlying t=some (.slice el)->∀(n:Nat) w,n<=140737488355328->
  ∃cs:Array Value,n<=cs.size/\(callFunc f #[.int .i64 n]).run P w= .ok (.value (.slice (some ⟨w.heap.size,0,none⟩) n cs.size)) (w.drew.drew.alloc (.cells cs el))
theorem Zq (hK:eW P) {f:FuncId} {fn:Func} {c:Code} (hf:P.funcs[f]? =some fn) (hb:fn.body=some c) (args:Array Value) (w:World):(callFunc f args).run P w= .ok (.enter f args) w:=by
 have h1:¬fn.name= "runtime.NumGoroutine" :=by simpa using hK.Er f fn hf (by simp [hb])
 simp [callFunc,hf,h1,hb]
theorem Zr (hK:eW P) (hH:bf P B ρ H w) {f:FuncId} {fn:Func} (hf:P.funcs[f]? =some fn) (hb:fn.body=none) {args:List aa} {xs:List Value} (hd:aF ρ args xs):cN P B ρ H w ((callFunc f xs.toArray).run P w) (eH (zg P f fn args H)):=by
 unfold zg;cases hr:aa.kL args with
 |some vs=>
  have hxs:=hd.kL hr;subst hxs;simp only;split
  .rename_i v hv;exact fL hH (nX _ w hv) (.raw v)
  .cases hn:fn.name== "internal/bytealg.MakeNoZero" with
   |false=>simp only [cond_false];trivial
   |true=>
    simp only [cond_true];split
    .rename_i n t ht;cases hel:lz P t with
     |none=>trivial
     |some el=>
      simp only [Option.bind_some];cases hbb:(Nat.ble n 140737488355328&&Nat.beq (P.cellsOf el) 1)with
      |false=>simp only [cond_false];trivial
      |true=>
       simp only [cond_true];rw [ae]at hbb;have b1:=bS hbb.1;have b2:=ac hbb.2;have hx:xs=[.int .i64 n]:=by
        cases hd with
        |cons h1 h2=>cases h2 with
         |nil=>rw [h1.b8];rfl
       subst hx;obtain⟨cs,c1,c2⟩:=hK.makeNoZero f fn t el hf hb hn ht (xy hel) n w b1;intro hfr;obtain⟨q1,aO⟩:=tq hH.drew.drew hfr cs.size (.cells el [] false false false) (.cells cs el) ⟨cs,(0,0),rfl,fun _=>rfl,by simpa using aF.nil,(fun h=>by cases h),fun _=>⟨_,_,Env.dr ..,by rw [b2,Nat.mul_one]⟩⟩;exact⟨_,_,_,_,c2,rfl, .slice (Env.dr ..) rfl c1,q1,aO.drew.drew⟩
    .trivial
 |none=>
  simp only;split
  .rename_i x;cases hn:fn.name== "internal/abi.NoEscape" with
   |false=>simp only [cond_false];trivial
   |true=>
    simp only [cond_true];cases hd with
    |cons h1 h2=>cases h2 with
     |nil=>exact fL hH (hK.PE f fn hf hb hn _ w) h1
  .trivial
theorem pi (hK:eW P) (hH:bf P B ρ H w) {f:FuncId} {args:List aa} {xs:List Value} (hd:aF ρ args xs):cN P B ρ H w ((callFunc f xs.toArray).run P w) (sY P f args H):=by
 unfold sY;cases hf:P.funcs[f]? with
 |none=>trivial
 |some fn=>
  simp only;cases hb:fn.body with
  |none=>exact Zr hK hH hf hb hd
  |some c=>exact⟨rfl,xs,Zq hK hf hb xs.toArray w,hd⟩
theorem Es (hK:eW P) (hH:bf P B ρ H w) {fv:aa} {v:Value} (hv:Den ρ fv v) {args:List aa} {xs:List Value} (hd:aF ρ args xs) {r:Result Next}
  (hr:∀fn (first captured:Array Value),v= .func fn first captured->r=(invoke (.fn fn captured) (first++xs.toArray)).run P w):cN P B ρ H w r (mg P fv args H):=by
 have arr:∀a b c:List Value,a.toArray++b.toArray++c.toArray=(a++b++c).toArray:=fun a b c=>by simp
 unfold mg;split
 .rename_i x;have:=hv.b8;subst this;cases hg:xd v with
  |fn f=>
   simp only;unfold xd at hg;split at hg
   .rename_i fn;unfold OI at hg;split at hg
    .rename_i f';cases hg;rw [hr _ _ _ rfl];have e1:(⟨[]⟩:Array Value)++xs.toArray=xs.toArray:=by apply Array.ext';simp
     have e2:xs.toArray++(⟨[]⟩:Array Value)=xs.toArray:=by apply Array.ext';simp
     show cN P B ρ H w ((callFunc f ((⟨[]⟩:Array Value)++xs.toArray++(⟨[]⟩:Array Value))).run P w) _;rw [e1,e2];exact pi hK hH hd
    .cases hg
   .cases hg
  |no=>
   simp only;split
   .rename_i f first captured
    rw [hr _ _ _ rfl];show cN P B ρ H w ((callFunc f (first++xs.toArray++captured)).run P w) _;have e1:first++xs.toArray++captured=(first.toList++xs++captured.toList).toArray:=by apply Array.ext';simp
    rw [e1];exact pi hK hH (((BK first).append hd).append (BK captured))
   .trivial
 .rename_i f first captured
  obtain⟨fs,cs,g1,g2,rfl⟩:=hv.BC;rw [hr _ _ _ rfl];show cN P B ρ H w ((callFunc f (fs.toArray++xs.toArray++cs.toArray)).run P w) _;rw [arr];exact pi hK hH ((g1.append hd).append g2)
 .rename_i i;obtain⟨b,c,g1,rfl⟩:=hv.Io;refine⟨rfl,b,c,xs,g1, ?_,hd⟩;rw [hr _ _ _ rfl];have e1:(#[]:Array Value)++xs.toArray=xs.toArray:=by apply Array.ext';simp
  rw [e1];rfl
 .trivial
end
section
variable {P:Program} {H:ai} {w:World} {B:Nat} {ρ ρ':Env}
theorem IOz {cs:List aa} {ys:List Value} {m:Nat} {v v':aa} (hl:cB ρ ρ') (h:aF ρ cs ys) (hm:cs[m]? =some v) (hv:∀y,Den ρ v y->Den ρ' v' y):aF ρ' (cs.set m v') ys:=by
 refine aF.OU (by rw [b6];exact h.length) fun i u y hi hy=> ?_
 by_cases him:m=i
 .subst him;have hlt:m<cs.length:=(List.getElem?_eq_some_iff.1 hm).1;rw [List.getElem?_set_self hlt]at hi;cases hi;obtain⟨y',h1,h2⟩:=h.get hm;rw [hy]at h1;cases h1;exact hv y h2
 .rw [List.getElem?_set_ne him]at hi;obtain⟨y',h1,h2⟩:=h.get hi;rw [hy]at h1;cases h1;exact h2.mono hl
theorem IM (H:ai) (i j k:Nat) (b:bq):((H.drop i).set j b).get k=if j=k then some b else if i=k then none else H.get k:=by
 rw [ai.fU,ai.oP]
theorem pj {i j m:Nat} {e:TypeId} {cs:List aa} {x f r:Bool} {v v':aa} (hH:bf P B ρ H w) (hl:cB ρ ρ') (ha:∀i,ρ' i=ρ i) (hj:H.get j=some (.cells e cs x f r)) (hij:i≠j) (hm:cs[m]? =some v) (hv:∀y,Den ρ v y->Den ρ' v' y)
  (hfz:∀b A,ρ'.fz b=some A->(∃e fr,w.heap[b]? =some (.cells A e fr))/\∀k kk c,k≠i->H.get k=some kk->ρ k=some (b,c)->kk.eL=true):
  bf P B ρ' ((H.drop i).set j (.cells e (cs.set m v') x f r)) w:=by
 have key:∀k kk,((H.drop i).set j (.cells e (cs.set m v') x f r)).get k=some kk->k≠i/\∃k0,H.get k=some k0/\k0.eL=kk.eL/\∀o,gF P ρ k k0 o->gF P ρ' k kk o:=fun k kk h=>by
  rw [IM]at h;split at h
  .rename_i hjk;subst hjk;cases h;refine⟨fun h=>hij h.symm,_,hj,rfl,fun o ho=> ?_⟩;obtain⟨zs,fz,h1,h2,h3,h4,h5⟩:=ho;refine⟨zs,fz,h1,h2, ?_,by rw [b6];exact h4,fun hx=> ?_⟩
   .rw [b6];exact IOz hl h3 hm hv
   .obtain⟨b,c,g1,g2⟩:=h5 hx;exact⟨b,c,by rw [ha];exact g1,g2⟩
  .split at h
   .cases h
   .rename_i h1 h2;exact⟨fun h=>h2 h.symm,_,h,rfl,fun o ho=>ho.mono hl⟩
 refine⟨fun k kk h=> ?_,fun i1 i2 k1 k2 b c1 c2 g1 g2 g3 g4=> ?_,fun k kk h=> ?_,hH.base,fun b A h=>⟨(hfz b A h).1,fun k kk c g1 g2=> ?_⟩⟩
 .obtain⟨_,k0,h1,h2,h3⟩:=key k kk h;obtain⟨b,c,o,e1,e2,e3,bU⟩:=hH.blk k k0 h1;exact⟨b,c,o,by rw [ha];exact e1,e2,h3 o e3,fun hr=>bU (by rw [h2];exact hr)⟩
 .obtain⟨_,q1,h1,_⟩:=key _ _ g1;obtain⟨_,aO,h2,_⟩:=key _ _ g2;rw [ha]at g3 g4;exact hH.inj _ _ _ _ _ _ _ h1 h2 g3 g4
 .obtain⟨_,k0,h1,_⟩:=key k kk h;exact hH.lt k k0 h1
 .obtain⟨hne,k0,h1,h2,_⟩:=key k kk g1;rw [ha]at g2;rw [<-h2];exact(hfz b A h).2 k k0 c hne h1 g2
theorem IP {i j:Nat} {e:TypeId} {cs cs':List aa} {x f r:Bool} {ρ':Env} (ha:∀i,ρ' i=ρ i) (hj:H.get j=some (.cells e cs x f r)) {b:Nat} (h:Own ρ' ((H.drop i).set j (.cells e cs' x f r)) b):Own ρ H b:=by
 obtain⟨k,kk,c,h1,h2,h3⟩:=h;rw [ha]at h3;rw [IM]at h1;split at h1
 .rename_i hjk;subst hjk;cases h1;exact⟨j,_,c,hj,h2,h3⟩
 .split at h1
  .cases h1
  .exact⟨k,kk,c,h1,h2,h3⟩
theorem Zs {i j:Nat} {e:TypeId} {cs cs':List aa} {x f r:Bool} {ρ':Env} (ha:∀i,ρ' i=ρ i) (hj:H.get j=some (.cells e cs x f r)) {b:Nat} (h:oO ρ' ((H.drop i).set j (.cells e cs' x f r)) b):oO ρ H b:=by
 obtain⟨k,kk,c,h1,h3⟩:=h;rw [ha]at h3;rw [IM]at h1;split at h1
 .rename_i hjk;subst hjk;cases h1;exact⟨j,_,c,hj,h3⟩
 .split at h1
  .cases h1
  .exact⟨k,kk,c,h1,h3⟩
theorem Zt {ty:av} {x:aa} {b:Bool} {H':ai} (h:xb ty x H=some (b,H')):H'.next=H.next:=by
 unfold xb at h;split at h
 .split at h
  .split at h
   .split at h
    .split at h
     .obtain⟨_,h2⟩:=Prod.mk.inj (jQ h);rw [<-h2];rfl
     .cases h
    .cases h
   .cases h
  .cases h
 .cases h
theorem Zu {ty:av} {x:aa} {H':ai} (hH:bf P B ρ H w) (h:xb ty x H=some (true,H')):∃ρ',(∀i,ρ' i=ρ i)/\bf P B ρ' H' w/\bO ρ H w ρ' H' w/\H'.next=H.next:=by
 unfold xb at h;split at h
 .rename_i u j off c;split at h
  .rename_i e cs ex f r hj;split at h
   .rename_i e2 u2 i len cap hm;split at h
    .rename_i e3 u3 xs hi;split at h
     .rename_i hb;simp only [ae,bB,Bool.not_eq_true']at hb;obtain⟨rfl,b2,b3⟩:=hb;have b2:=ac b2;subst b2;have hij:i≠j:=fun e=>by subst e;simp at b3
      obtain⟨h1,h2⟩:=Prod.mk.inj (jQ h);have hl:=ac h1;subst hl;rw [pd]at hm;obtain⟨b,c',o,hib,ho,_,hB⟩:=hH.blk i _ hi;obtain⟨zs,cQ,z2,z3,z4,z5,PF⟩:=rA hH hi hib;have hnf:ρ.fz b=none:=by
       cases hz:ρ.fz b with
       |none=>rfl
       |some A=>
        have:=(hH.fz b A hz).2 i _ c' hi hib;cases this
      have hle:cB ρ ⟨ρ.at',fun q=>if q=b then some zs else ρ.fz q⟩:=⟨fun _ _ h=>h,fun q A h=>by
       show(if q=b then some zs else ρ.fz q)=some A;by_cases hq:q=b
       .subst hq;rw [hnf]at h;cases h
       .rw [if_neg hq];exact h⟩
      have hd:=pj (ρ':=⟨ρ.at',fun q=>if q=b then some zs else ρ.fz q⟩) (m:=off) (v':= .bh false u2 xs) hH hle (fun _=>rfl) hj hij hm (fun y hy=>by
       rcases hy.jv with⟨h0,a,rfl⟩|⟨b',c2,kc,g1,_,g3,rfl⟩
       .have hx:xs=[]:=List.eq_nil_of_length_eq_zero h0;subst hx;exact .dW fun e=>by cases e
       .rw [hib]at g1;cases g1;refine .bh (A:=zs) (b:=b) (off:=0*u2.size) (by show(if b=b then some zs else _)=_;rw [if_pos rfl]) (by rw [Nat.zero_mul,aw];exact z4) rfl ?_ g3 (fun e=>by cases e);rw [Nat.zero_mul,List.drop_zero];exact z2.mono hle) (fun q A h=>by
       have h:(if q=b then some zs else ρ.fz q)=some A:=h;by_cases hq:q=b
       .subst hq;rw [if_pos rfl]at h;cases h;exact⟨⟨_,_,cQ⟩,fun k kk c' hne g1 g2=>absurd (hH.inj k i kk _ q _ _ g1 hi g2 hib) hne⟩
       .rw [if_neg hq]at h;exact⟨(hH.fz q A h).1,fun k kk c _ g1 g2=>(hH.fz q A h).2 k kk c g1 g2⟩)
      rw [h2]at hd;refine⟨⟨ρ.at',fun q=>if q=b then some zs else ρ.fz q⟩,fun _=>rfl,hd,⟨hle,fun _ _=>rfl,Nat.le_of_eq (by rw [<-h2];rfl),aG _,rfl,rfl,rfl,fun _ _ _=>rfl,fun q _ hh=> ?_,fun q _ hh=> ?_,fun q A h=> ?_⟩,by rw [<-h2];rfl⟩
      .rw [<-h2]at hh;exact IP (fun _=>rfl) hj hh
      .rw [<-h2]at hh;exact Zs (fun _=>rfl) hj hh
      .have h:(if q=b then some zs else ρ.fz q)=some A:=h;by_cases hq:q=b
       .subst hq;exact .inr (.inr ⟨i,_,c',hi,rfl,hib⟩)
       .rw [if_neg hq]at h;exact .inl h
     .cases h
    .cases h
   .cases h
  .cases h
 .cases h
end
section
variable {P:Program} {B:Nat} {ρ:Env} {H:ai} {w:World}
structure Same (P:Program) (ρ:Env) (K K':ai):Prop where
 next:K'.next=K.next
 to:∀j k,K.get j=some k->∃k',K'.get j=some k'/\k'.eL=k.eL/\∀o,gF P ρ j k o->gF P ρ j k' o
 none:∀j,K.get j=none->K'.get j=none
theorem Same.from {K K':ai} (h:Same P ρ K K') {j:Nat} {k':bq} (hj:K'.get j=some k'):∃k,K.get j=some k/\k'.eL=k.eL/\∀o,gF P ρ j k o->gF P ρ j k' o:=by
 cases hk:K.get j with
 |none=>rw [h.none j hk]at hj;cases hj
 |some k=>
  obtain⟨k2,h1,h2,h3⟩:=h.to j k hk;rw [hj]at h1;cases h1;exact⟨k,rfl,h2,h3⟩
theorem Same.lC {K K':ai} (h:Same P ρ K K') (hH:bf P B ρ K w):bf P B ρ K' w where
 blk i k hi:=by
  obtain⟨k0,h1,h2,h3⟩:=h.from hi;obtain⟨b,c,o,e1,e2,e3,bU⟩:=hH.blk i k0 h1;exact⟨b,c,o,e1,e2,h3 o e3,fun e=>bU (h2 ▸ e)⟩
 inj i j eC eR b ci cj hi hj iK fu:=by
  obtain⟨Zv,h1,_⟩:=h.from hi;obtain⟨Zw,h2,_⟩:=h.from hj;exact hH.inj i j Zv Zw b ci cj h1 h2 iK fu
 lt i k hi:=by
  obtain⟨k0,h1,_⟩:=h.from hi;rw [h.next];exact hH.lt i k0 h1
 base:=hH.base
 fz b A hb:=⟨(hH.fz b A hb).1,fun i k c hi hr=>by
  obtain⟨k0,h1,h2,_⟩:=h.from hi;rw [h2];exact(hH.fz b A hb).2 i k0 c h1 hr⟩
theorem Same.own {K K':ai} (h:Same P ρ K K') {b:Nat} (ρ':Env):Own ρ' K b↔Own ρ' K' b:=by
 constructor
 .rintro⟨i,k,c,h1,h2,h3⟩;obtain⟨k',g1,g2,_⟩:=h.to i k h1;exact⟨i,k',c,g1,g2 ▸ h2,h3⟩
 .rintro⟨i,k,c,h1,h2,h3⟩;obtain⟨k',g1,g2,_⟩:=h.from h1;exact⟨i,k',c,g1,g2 ▸ h2,h3⟩
theorem Same.mj {K K':ai} (h:Same P ρ K K') {b:Nat} (ρ':Env):oO ρ' K b↔oO ρ' K' b:=by
 constructor
 .rintro⟨i,k,c,h1,h3⟩;obtain⟨k',g1,_⟩:=h.to i k h1;exact⟨i,k',c,g1,h3⟩
 .rintro⟨i,k,c,h1,h3⟩;obtain⟨k',g1,_⟩:=h.from h1;exact⟨i,k',c,g1,h3⟩
theorem Same.Et {K K':ai} (h:Same P ρ K K'):bO ρ K w ρ K' w:=
 ⟨cB.refl _,fun _ _=>rfl,Nat.le_of_eq h.next.symm,aG _,rfl,rfl,rfl,fun _ _ _=>rfl,fun _ _ ho=>(h.own ρ).2 ho,fun _ _ ho=>(h.mj ρ).2 ho,fun _ _ h=> .inl h⟩
theorem IQ:∀(t:av) (d:t.den),eO (t.cells d)=true
 | .int _,_=>rfl
 | .bool,_=>rfl
 | .str,_=>rfl
 | .list _ _,_=>rfl
 | .pair a b,d=>by
   have h:∀l m:List aa,eO l=true->eO m=true->eO (l++m)=true:=fun l m h1 h2=>by
    induction l with
    |nil=>exact h2
    |cons v l ih=>
     obtain⟨q1,aO⟩:=Ip h1;simp [eO,q1,ih aO]
   exact h _ _ (IQ a d.1) (IQ b d.2)
 | .ptr _,_=>rfl
 | .unit,_=>rfl
theorem eI (t:av):∀(ds:List t.den),eO (t.flat ds)=true
 |[]=>rfl
 |d::ds=>by
  have h:∀l m:List aa,eO l=true->eO m=true->eO (l++m)=true:=fun l m h1 h2=>by
   induction l with
   |nil=>exact h2
   |cons v l ih=>
    obtain⟨q1,aO⟩:=Ip h1;simp [eO,q1,ih aO]
  rw [av.zq];exact h _ _ (IQ t d) (eI t ds)
theorem Zx (hH:bf P B ρ H w) {ty:av} {n:Nat} {x:aa} {y:Value} {ds:List ty.den} {tx:TypeId} (hk:(∃e',P.underlying tx=some (.slice e'))\/P.underlying tx=some .string) (h:ze H ty ty.size x=some (ds,n)) (hx:Den ρ x y):
  ∃ys,aF ρ (ty.flat ds) ys/\ds.length=n/\Go.Src P ty.size tx y n ys w:=by
 unfold ze at h;split at h
 .cases h;have:=hx.b8;subst this;exact⟨[], .nil,rfl,⟨hk,fun _=>rfl,run_firstCells_none w _ 0 0 _,run_firstCells_none w.drew _ 0 0 _,by simp,fun _ h=>by cases h⟩⟩
 .rename_i b;split at h
  .rename_i hu;subst hu;cases h;have:=hx.b8;subst this;have hd:aF ρ ((av.int .u8).flat (dN b)) (byteCells b):=by
    have e:(av.int .u8).flat (dN b)=(byteCells b).map aa.raw:=by
     unfold dN byteCells;induction b.data.toList with
     |nil=>rfl
     |cons x l ih=>exact congrArg (aa.raw (.int .u8 x.toNat):: ·) ih
    rw [e];exact aF.rz _
   exact⟨byteCells b,hd,by simp [dN],⟨hk,fun _=>rfl,firstCells_string b w,firstCells_string b w.drew,by rw [byteCells_length];exact(Nat.mul_one _).symm,hd.one (eI (av.int .u8) _)⟩⟩
  .cases h
 .rename_i z u ys;split at h
  .rename_i hu;subst hu;cases h;rcases hx.tr with⟨rfl,a,k,rfl,_⟩|⟨b,off,k,A,h1,h2,h3,h4,rfl,_⟩
   .refine⟨[], .nil,rfl, ?_⟩;cases a with
    |none=>exact⟨hk,fun _=>rfl,run_firstCells_none w _ 0 0 _,run_firstCells_none w.drew _ 0 0 _,by simp,fun _ h=>by cases h⟩
    |some a=>exact⟨hk,fun _=>rfl,run_firstCells_some w _ 0 a 0 k [] (by simp) (by simp),run_firstCells_some w.drew _ 0 a 0 k [] (by simp) (by simp),by simp,fun _ h=>by cases h⟩
   .obtain⟨⟨el,fr,g1⟩,_⟩:=hH.fz b A h1;have hl:((A.toList.drop off).take (u.flat ys).length).length=ys.length*u.size:=by rw [h3.length,u.ig]
    have hc:∀(w':World),w'.heap[b]? =some (.cells A el fr)->∀(j:Nat) (v:Value),((A.toList.drop off).take (u.flat ys).length)[j]? =some v->w'.cell? ((⟨b,off,none⟩:Addr).add j)=some v:=fun w' hw j v hj=>by
     rw [gW,cell_of hw];rw [List.getElem?_take]at hj;split at hj
     .rw [List.getElem?_drop]at hj;simpa using hj
     .cases hj
    exact⟨_,h3,rfl,⟨hk,fun _=>rfl,run_firstCells_some w _ _ ⟨b,off,none⟩ _ k _ hl (hc w g1),run_firstCells_some w.drew _ _ ⟨b,off,none⟩ _ k _ hl (hc w.drew g1),hl,h3.one (eI u ys)⟩⟩
  .cases h
 .rename_i e' u j k len cap;cases hc:(decide (u=ty)&&(Nat.beq len 0||bz e' ty (H.get j) (k+len-1)))with
  |false=>rw [hc]at h;cases h
  |true=>
   rw [hc]at h;obtain⟨rfl,rfl⟩:=Prod.mk.inj (jQ h);rw [ae,Bool.or_eq_true]at hc;obtain⟨hu,hc⟩:=hc;have hu:=ap hu;subst hu;by_cases hn:len=0
   .subst hn;refine⟨[],by simpa [av.flat]using aF.nil,by simp, ?_⟩;rcases hx.jv with⟨_,a,rfl⟩|⟨b,c,kc,_,_,_,rfl⟩
    .cases a with
     |none=>exact⟨hk,fun _=>rfl,run_firstCells_none w _ 0 0 _,run_firstCells_none w.drew _ 0 0 _,by simp,fun _ h=>by cases h⟩
     |some a=>exact⟨hk,fun _=>rfl,run_firstCells_some w _ 0 a 0 0 [] (by simp) (by simp),run_firstCells_some w.drew _ 0 a 0 0 [] (by simp) (by simp),by simp,fun _ h=>by cases h⟩
    .exact⟨hk,fun _=>rfl,run_firstCells_some w _ 0 _ 0 kc [] (by simp) (by simp),run_firstCells_some w.drew _ 0 _ 0 kc [] (by simp) (by simp),by simp,fun _ h=>by cases h⟩
   .rcases hc with hc|hc
    .exact absurd (ac hc) hn
    .obtain⟨b1,b2⟩:=vp hc;generalize bM u (H.get j)=xs at b1 b2 ⊢;rcases hx.jv with⟨rfl,_⟩|⟨b,c,kc,g1,_,g3,rfl⟩
     .exact absurd rfl hn
     .obtain⟨ys,q1,aO,_⟩:=rA hH b1 g1;have hle:k+len<=xs.length:=by omega
      have e1:(xs.drop k).take len=(xs.take (k+len)).drop k:=by rw [List.take_drop]
      have gG:=BJ (off:=0) (A:=ys.toList) (l:=k) (h:=k+len) (by simpa using aO) (by omega) hle;rw [aw]at gG;have hfl:(u.flat ((xs.take (k+len)).drop k)).length=len*u.size:=by rw [u.ig];congr 1;simp;omega
      rw [hfl]at gG;have hl:((ys.toList.drop (k*u.size)).take (len*u.size)).length=len*u.size:=by rw [gG.length,hfl]
      have hc:∀(w':World),w'.heap[b]? =some (.cells ys e' (0,0))->∀(j:Nat) (v:Value),((ys.toList.drop (k*u.size)).take (len*u.size))[j]? =some v->w'.cell? ((⟨b,k*u.size,none⟩:Addr).add j)=some v:=fun w' hw j v hj=>by
       rw [gW,cell_of hw];rw [List.getElem?_take]at hj;split at hj
       .rw [List.getElem?_drop]at hj;simpa using hj
       .cases hj
      refine⟨_,by rw [e1];exact gG,by simp;omega,⟨hk,fun _=>rfl,run_firstCells_some w _ _ ⟨b,k*u.size,none⟩ _ kc _ hl (hc w q1),run_firstCells_some w.drew _ _ ⟨b,k*u.size,none⟩ _ kc _ hl (hc w.drew q1),hl,gG.one (eI u _)⟩⟩
 .rename_i j off n' cap;simp only [dz,am]at h;obtain⟨sn,h1,ds',h2,h3⟩:=h;cases h3;obtain⟨news,n2⟩:=sn;have hn2:n2=n:=by
   unfold src at h1;simp only at h1;split at h1
   .have h1:=(qd h1).2;cases h1;rfl
   .cases h1
  subst hn2;obtain⟨ys,g1,g2,g3⟩:=Px hH hk h1 hx;obtain⟨g4,g5⟩:=av.BF h2 g1;exact⟨ys,g4,g5,g3 (g4.one (eI ty _))⟩
 .cases h
theorem IU {ρ:Env} {e:TypeId} {t:av} {i len b c kc:Nat} {cap:aZ} (h:ρ i=some (b,c)) (hc:zo cap c kc) (hl:len<=kc):Den ρ (.bR e t i 0 len cap) (.slice (some ⟨b,0,none⟩) len kc):=by
 have:=Den.bR (e:=e) (t:=t) (k:=0) h hc hl;rwa [Nat.zero_mul]at this
theorem IV (hH:bf P B ρ H w) {t tx rt:TypeId} (hk:(∃e',P.underlying tx=some (.slice e'))\/P.underlying tx=some .string) {e:TypeId} {ty:av} {i k len:Nat} {cap:aZ} {x:aa} {sv y:Value} (hs:Den ρ (.bR e ty i k len cap) sv) (hx:Den ρ x y) {q:aa×ai}
  {sk:Bool} (hv:rj P t e ty i k len cap sk x H=some q) (hf:Fr ρ H.next q.2.next):
  ∃ρ' r w',(Builtin.append_ #[t,tx] rt #[sv,y]).run P w= .ok r w'/\Den ρ' q.1 r/\bf P B ρ' q.2 w'/\bO ρ H w ρ' q.2 w':=by
 unfold rj at hv;simp only [dz]at hv;obtain⟨el,hel,inf,hi,z,hz,hv⟩:=hv;have ht:=xy hel;obtain⟨hb,hv⟩:=qd hv;simp only [ae]at hb;obtain⟨⟨⟨⟨b1,b2⟩,b3⟩,b4⟩,gi⟩:=hb;have b1:=ac b1;have b2:=bS b2;have b3:=ac b3;have b4:=ac b4;have gi:=ac gi;subst b3;subst gi;simp only [dz]at hv;obtain⟨⟨ds,n⟩,nj,hv⟩:=hv;rw [<-b4]at nj;obtain⟨ys,g1,g2,g3⟩:=Zx hH hk nj hx;rw [b4]at g3;cases lG:Nat.beq n 0 with
 |true=>
  simp only [lG,cond_true]at hv;cases hv;have hn:=ac lG;subst hn;have hys:ys=[]:=by
   have:=g1.length;rw [List.eq_nil_of_length_eq_zero g2]at this;exact List.eq_nil_of_length_eq_zero (by simpa [av.flat]using this)
  subst hys;have hsk:bf P B ρ (cond sk H.skip H) w/\bO ρ H w ρ (cond sk H.skip H) w:=by
   cases sk with
   |false=>exact⟨hH,bO.refl _ _ _⟩
   |true=>
    refine⟨⟨hH.blk,hH.inj,fun j k hj=>Nat.lt_succ_of_lt (hH.lt j k hj),hH.base,hH.fz⟩,⟨cB.refl _,fun _ _=>rfl,Nat.le_succ _,aG _,rfl,rfl,rfl,fun _ _ _=>rfl,fun _ _ h=>h,fun _ _ h=>h,fun _ _ h=> .inl h⟩⟩
  rcases hs.jv with⟨rfl,a,rfl⟩|⟨b,c,kc,h1,h2,h3,rfl⟩
  .exact⟨ρ,_,w,Eo ht hi g3 a (aG 0), .p9,hsk.1,hsk.2⟩
  .exact⟨ρ,_,w,Eo ht hi g3 _ h3, .bR h1 h2 h3,hsk.1,hsk.2⟩
 |false=>
  simp only [lG,cond_false]at hv;obtain⟨hc,hv⟩:=qd hv;rw [ae]at hc;obtain⟨hc1,hc2⟩:=hc;cases hv;have hn0:0<n:=Nat.pos_of_ne_zero fun hh=>by subst hh;cases lG
  have same:∀(K:ai) (ρ':Env) (n0:Nat) (cs:List aa) (xs:List ty.den),cs=ty.flat xs->Same P ρ' (K.new (.cells el cs false false false)) (K.new (.own el ty xs)):=fun K ρ' n0 cs xs hcs=>⟨rfl,fun j k hj=>by
   rw [ai.gv]at hj ⊢;by_cases hjn:K.next=j
   .rw [if_pos hjn]at hj ⊢;cases hj;refine⟨_,rfl,rfl,fun o ho=> ?_⟩;subst hcs;exact⟨ho,by rw [IJ hi];exact b4.symm,by rw [b4];exact b2⟩
   .rw [if_neg hjn]at hj ⊢;exact⟨k,hj,rfl,fun _ h=>h⟩,fun j hj=>by
   rw [ai.gv]at hj ⊢;by_cases hjn:K.next=j
   .rw [if_pos hjn]at hj;cases hj
   .rw [if_neg hjn]at hj ⊢;exact hj⟩
  simp only [bounded,ae]at hc2;have c1:=bS hc2.1;have c2:=bS hc2.2;have IW:∀a,len=0->bM ty (H.get i)=[]->sv= .slice a 0 0->∃ρ' r w',(Builtin.append_ #[t,tx] rt #[sv,y]).run P w= .ok r w'/\Den ρ' (.bR el ty H.next 0 (len+n) .full) r/\bf P B ρ' ((H.drop i).new (.own el ty (bM ty (H.get i)++ds))) w'/\bO ρ H w ρ' ((H.drop i).new (.own el ty (bM ty (H.get i)++ds))) w':=by
   intro a hl hxs tB;subst hl;subst tB;rw [hxs,List.nil_append];obtain⟨d1,d2⟩:=OW hH i;have hold:(Builtin.firstCells inf.size 0 (.slice a 0 0)).run P w.drew= .ok #[] w.drew:=by
    cases a with
    |none=>exact run_firstCells_none w.drew _ 0 0 0
    |some a=>exact run_firstCells_some w.drew _ 0 a 0 0 [] (by simp) (by simp)
   have hr:=run_append_grow_src (P:=P) w t tx rt el inf z ht hi hz a 0 0 [] hold y n ys g3 (by omega) (by omega) (IL (by omega) (by simpa using c1));obtain⟨q1,aO⟩:=IK (H:=H.drop i) d1 hf (need:=n) (old:=0) hi b1 g1 g3.newsLen;have kP:=same (H.drop i) (ρ.put (H.drop i).next w.heap.size (grownCap w n 0 el)) 0 (ty.flat ds) ds rfl;simp only [aw,List.nil_append]at hr ⊢;refine⟨_,_,_,hr, ?_,kP.lC q1,d2.trans (aO.trans kP.Et)⟩;exact IU (Env.dr ..) rfl (grownCap_ge w n 0 el)
  rcases X1 hc1 with⟨hnone,hl,hxs,hcap⟩|⟨hsome,hlen,hcap⟩
  . -- nothing lies there yet
    subst hcap;rcases hs.jv with⟨_,a,tB⟩|⟨b,c,kc,h1,h2,h3,tB⟩
    .exact IW a hl hxs tB
    .have h2:kc=0:=h2;subst h2;subst hl;exact IW _ rfl hxs tB
  .subst hcap;rcases hs.jv with⟨hl,a,tB⟩|⟨b,c,kc,h1,h2,h3,tB⟩
   .exact IW a hl (List.eq_nil_of_length_eq_zero (hlen.trans hl)) tB
   .generalize bM ty (H.get i)=xs at hsome hlen ⊢;have hS:Same P ρ H (H.set i (.cells el (ty.flat xs) false false false)):=⟨rfl,fun j k hj=>by
     rw [ai.fU];split
     .rename_i e;subst e;rw [hsome]at hj;cases hj;exact⟨_,rfl,rfl,fun o ho=>ho.1⟩
     .exact⟨k,hj,rfl,fun _ h=>h⟩,fun j hj=>by
     rw [ai.fU];split
     .rename_i e;subst e;rw [hsome]at hj;cases hj
     .exact hj⟩
    have hfl:(ty.flat xs).length=len*inf.size:=by rw [ty.ig,hlen,b4]
    have hx2:Den ρ (.slice i 0 len .full) sv:=by rw [tB,Nat.zero_mul];exact .slice h1 h2 h3
    have hag:sm el inf.size inf.bytes i len .full (ty.flat ds) n (H.set i (.cells el (ty.flat xs) false false false))=some (.slice H.next 0 (len+n) .full,((H.set i (.cells el (ty.flat xs) false false false)).drop i).new (.cells el (ty.flat xs++ty.flat ds) false false false)):=by
     unfold sm;have hbd:bounded (len+n) inf.bytes=true:=by simp only [bounded,ae];exact hc2
     have hg:(H.set i (.cells el (ty.flat xs) false false false)).get i=some (.cells el (ty.flat xs) false false false):=by rw [ai.fU,if_pos rfl]
     have Zy:(Nat.beq el el&&Nat.ble (len*inf.size) (ty.flat xs).length)=true:=by rw [hfl];simp
     rw [hbd,hg];simp only [cond_true,Zy,cond_false];rw [eF (by omega)];rfl
    obtain⟨ρ',r,w',r1,r2,r3,n5⟩:=Pz (hS.lC hH) ht hi hz b1 g3 g1 (eI ty ds) hx2 hag hf;have kP:=same ((H.set i (.cells el (ty.flat xs) false false false)).drop i) ρ' 0 (ty.flat xs++ty.flat ds) (xs++ds) (av.BE _ _ _).symm;have heq:Same P ρ' (((H.set i (.cells el (ty.flat xs) false false false)).drop i).new (.own el ty (xs++ds))) ((H.drop i).new (.own el ty (xs++ds))):=by
     have PG:∀j,((H.drop i).new (.own el ty (xs++ds))).get j=(((H.set i (.cells el (ty.flat xs) false false false)).drop i).new (.own el ty (xs++ds))).get j:=fun j=>by
      rw [ai.gv,ai.gv,ai.oP,ai.oP,ai.fU];show(if H.next=j then _ else _)=(if H.next=j then _ else _);by_cases h1:H.next=j
      .rw [if_pos h1,if_pos h1]
      .rw [if_neg h1,if_neg h1];by_cases h2:i=j
       .rw [if_pos h2,if_pos h2]
       .rw [if_neg h2,if_neg h2,if_neg h2]
     exact⟨rfl,fun j k hj=>⟨k,by rw [PG];exact hj,rfl,fun _ h=>h⟩,fun j hj=>by rw [PG];exact hj⟩
    refine⟨ρ',r,w',r1, ?_,heq.lC (kP.lC r3),((hS.Et.trans n5).trans kP.Et).trans heq.Et⟩;obtain⟨b',c',k',e1,e2,e3,rfl⟩:=r2.ic;exact IU e1 e2 e3
theorem Zz {s:aa} {sv:Value} (h:D0 s=true) (hs:Den ρ s sv):∃a,sv= .slice a 0 0:=by
 unfold D0 at h;split at h
 .rename_i i off n c;rw [ae]at h;have h1:=ac h.1;have h2:=ac h.2;subst h1;subst h2;obtain⟨b,c,k,_,hc,_,rfl⟩:=hs.ic;have hc:k=0:=hc;subst hc;exact⟨_,rfl⟩
 .exact⟨none,hs.b8⟩
 .cases h
theorem ZA (hH:bf P B ρ H w) {t tx ty:TypeId} (hk:(∃e',P.underlying tx=some (.slice e'))\/P.underlying tx=some .string) {s x:aa} {sv y:Value} (hs:Den ρ s sv) (hx:Den ρ x y) {q:aa×ai} (hv:mb P t s x H=some q) (hf:Fr ρ H.next q.2.next):
  ∃ρ' r w',(Builtin.append_ #[t,tx] ty #[sv,y]).run P w= .ok r w'/\Den ρ' q.1 r/\bf P B ρ' q.2 w'/\bO ρ H w ρ' q.2 w':=by
 unfold mb at hv;split at hv
 .unfold Bn at hv;split at hv
  .rename_i b H1 ht;obtain⟨rfl,hv⟩:=qd hv;obtain⟨cL,ha,h1,h2,h3⟩:=Zu hH ht;obtain⟨ρ',r,w',q1,aO,bV,en⟩:=IV (ty:=_) h1 hk (hs.mono h2.le) (hx.mono h2.le) hv (fun i g1 g2=>by rw [ha];exact hf i (by rw [<-h3];exact g1) g2);exact⟨ρ',r,w',q1,aO,bV,h2.trans en⟩
  .exact IV hH hk hs hx hv hf
 .split at hv
  .obtain⟨he,hv⟩:=qd hv;unfold D1 at hv;split at hv
   .obtain⟨a,rfl⟩:=Zz he hs;exact IV hH hk .p9 hx hv hf
   .cases hv
  .exact Zl hH hk hs hx hv hf
theorem IX {t:TypeId} {e:TypeId} {ty:av} {i k len:Nat} {cap:aZ} {sk:Bool} {x:aa} {q:aa×ai} (h:rj P t e ty i k len cap sk x H=some q):H.next<=q.2.next:=by
  unfold rj at h;simp only [dz]at h;obtain⟨el,hel,inf,hi,z,hz,h⟩:=h;obtain⟨_,h⟩:=qd h;simp only [dz]at h;obtain⟨sn,_,h⟩:=h;cases lG:Nat.beq sn.2 0 with
  |true=>
   rw [lG]at h;cases h;cases sk with
   |false=>exact aG _
   |true=>exact Nat.le_succ _
  |false=>
   rw [lG]at h;obtain⟨_,h⟩:=qd h;cases h;exact Nat.le_succ _
theorem PI {t:TypeId} {s x:aa} {q:aa×ai} (ha:∀{q},zc P t s x H=some q->H.next<=q.2.next) (h:mb P t s x H=some q):H.next<=q.2.next:=by
 unfold mb at h;split at h
 .unfold Bn at h;split at h
  .rename_i b H1 ht;obtain⟨rfl,h⟩:=qd h;have:=IX h;rwa [Zt ht]at this
  .exact IX h
 .split at h
  .obtain⟨_,h⟩:=qd h;unfold D1 at h;split at h
   .exact IX h
   .cases h
  .exact ha h
end
section
variable {P:Program} {B:Nat} {ρ:Env} {H:ai} {w:World} {o:Oper} {ev:dJ} {e:Operand->Value}
theorem zA {l:List Operand} {a:aa} (h:l.map ev=[a]):∃x,l=[x]/\ev x=a:=by
 match l,h with
 |[x],h=>exact⟨x,rfl,by simpa using h⟩
theorem IY {l:List Operand} {a b:aa} (h:l.map ev=[a,b]):∃x y,l=[x,y]/\ev x=a/\ev y=b:=by
 match l,h with
 |[x,y],h=>exact⟨x,y,rfl,by simpa using h⟩
theorem vv {α:Type} {a:Array α} {x:α} (h:a.toList=[x]):a= #[x]:=by apply Array.ext';simpa using h
theorem zB {α:Type} {a:Array α} {x y:α} (h:a.toList=[x,y]):a= #[x,y]:=by apply Array.ext';simpa using h
theorem ZB {argTypes:Array TypeId} {ty:TypeId} {v r:aa} {x:Value} (hv:Ih P argTypes[0]? v=some r) (hx:Den ρ v x) (w:World):∃y,(Builtin.len_ argTypes ty #[x]).run P w= .ok y w/\Den ρ r y:=by
 unfold Ih at hv;simp only [dz]at hv;obtain⟨t,ht,hv⟩:=hv;split at hv
 .rename_i el i off len cap hu;cases hv;obtain⟨b,c,k,_,_,_,rfl⟩:=hx.ic;exact⟨.int .i64 len,by simp [Builtin.len_,ht,dw hu,goInt], .raw _⟩
 .rename_i el z u xs hu;cases hv;rcases hx.tr with⟨rfl,a,k,rfl,_⟩|⟨b,off,k,A,_,_,_,_,rfl,_⟩
  .exact⟨.int .i64 (0:Nat),by simp [Builtin.len_,ht,dw hu,goInt], .raw _⟩
  .exact⟨.int .i64 xs.length,by simp [Builtin.len_,ht,dw hu,goInt], .raw _⟩
 .rename_i el e' u i k len cap hu;cases hv;rcases hx.jv with⟨rfl,a,rfl⟩|⟨b,c,kc,_,_,_,rfl⟩
  .exact⟨.int .i64 (0:Nat),by simp [Builtin.len_,ht,dw hu,goInt], .raw _⟩
  .exact⟨.int .i64 len,by simp [Builtin.len_,ht,dw hu,goInt], .raw _⟩
 .rename_i n el cs hu;cases hv;exact⟨.int .i64 n,by simp [Builtin.len_,ht,dw hu,goInt], .raw _⟩
 .rename_i b hu;cases hv;have:=hx.b8;subst this;exact⟨.int .i64 b.size,by simp [Builtin.len_,ht,dw hu,goInt], .raw _⟩
 .cases hv
theorem ZC {argTypes:Array TypeId} {ty:TypeId} {v r:aa} {x:Value} (hv:Ii P argTypes[0]? v=some r) (hx:Den ρ v x) (w:World):∃y,(Builtin.cap_ argTypes ty #[x]).run P w= .ok y w/\Den ρ r y:=by
 unfold Ii at hv;simp only [dz]at hv;obtain⟨t,ht,hv⟩:=hv;split at hv
 .rename_i el i off len n hu;cases hv;obtain⟨b,c,k,_,hc,_,rfl⟩:=hx.ic;have hc:k=n:=hc;subst hc;exact⟨.int .i64 k,by simp [Builtin.cap_,ht,dw hu,goInt], .raw _⟩
 .cases hv
theorem ZD (hH:bf P B ρ H w) {argTypes:Array TypeId} {ty:TypeId} {v r:aa} {x:Value} (hv:By P argTypes[0]? v H=some r) (hx:Den ρ v x):
  ∃y,(Builtin.len_ argTypes ty #[x]).run P w= .ok y w/\Den ρ r y:=by
 unfold By at hv;simp only [dz]at hv;obtain⟨t,ht,hv⟩:=hv;split at hv
 .rename_i kt et i hu;obtain⟨b,q,h1,rfl⟩:=hx.vk;unfold OP at hv;split at hv
  .rename_i es c hg;cases hv;obtain⟨lD,g1,g2,_⟩:=hH.at hg h1;have g2:lD= .map es c:=g2;subst g2;exact⟨.int .i64 es.size,by simp [Builtin.len_,ht,dw hu,goInt,run_getObj_map g1], .raw _⟩
  .rename_i kv y hg;cases hv;obtain⟨lD,g1,⟨xv,g2,_⟩,_⟩:=hH.at hg h1;subst g2;exact⟨.int .i64 (1:Nat),by simp [Builtin.len_,ht,dw hu,goInt,run_getObj_map g1], .raw _⟩
  .cases hv
 .cases hv
theorem ZE (hH:bf P B ρ H w) (he:∀x,Den ρ (ev x) (e x)) {b:Builtin} {args:Array Operand} {argTypes:Array TypeId} (ho:o.op= .call {callee:= .builtin b,args,argTypes}):
  cN P B ρ H w ((execOp e o).run P w) (nW P o ev b argTypes (args.toList.map ev) H):=by
 have hp:qa o.op=true:=by rw [ho];rfl
 have hg:=vr (P:=P) (w:=w) hH he hp;have lift:∀{q:aa×ai},(Fr ρ H.next q.2.next->∃ρ' r w',(execOp e o).run P w= .ok (.value r) w'/\Den ρ' q.1 r/\bf P B ρ' q.2 w'/\bO ρ H w ρ' q.2 w')->cN P B ρ H w ((execOp e o).run P w) (eH (some q)):=
  fun h hf=>by obtain⟨ρ',r,w',h1,h2,h3,h4⟩:=h hf;exact⟨ρ',r,w', .value r,h1,rfl,h2,h3,h4⟩
 unfold nW;split
 .rename_i v hm;obtain⟨x,hx,rfl⟩:=zA hm;have ha:=vv hx;subst ha;split
  .rename_i r hr;obtain⟨y,h1,h2⟩:=ZD (ty:=o.type) hH hr (he x);exact fL hH (rB ho fun cs=>by simp [builtin,h1]) h2
  .split
   .rename_i r hr;obtain⟨y,h1,h2⟩:=ZB (ty:=o.type) hr (he x) w;exact fL hH (rB ho fun cs=>by simp [builtin,h1]) h2
   .exact hg
 .rename_i v hm;obtain⟨x,hx,rfl⟩:=zA hm;have ha:=vv hx;subst ha;split
  .rename_i r hr;obtain⟨y,h1,h2⟩:=ZC (ty:=o.type) hr (he x) w;exact fL hH (rB ho fun cs=>by simp [builtin,h1]) h2
  .exact hg
 .rename_i s x hm;obtain⟨xs,tC,hx,rfl,rfl⟩:=IY hm;have ha:=zB hx;subst ha;split
  .rename_i t t' ht;have ke:=zB ht;subst ke;have main:((∃e',P.underlying t'=some (.slice e'))\/P.underlying t'=some .string)->cN P B ρ H w ((execOp e o).run P w) (eH (mb P t (ev xs) (ev tC) H)):=by
    intro hk;cases hv:mb P t (ev xs) (ev tC) H with
    |none=>trivial
    |some q=>
     refine lift fun hf=> ?_
     obtain⟨ρ',r,w',h1,h2,h3,h4⟩:=ZA (ty:=o.type) hH hk (he xs) (he tC) hv hf;exact⟨ρ',r,w',rB ho fun cs=>by simp [builtin,h1],h2,h3,h4⟩
   split
   .rename_i el hu;exact main (.inl ⟨el,hu⟩)
   .rename_i hu;exact main (.inr hu)
   .trivial
  .trivial
 .rename_i d x hm;obtain⟨xs,tC,hx,rfl,rfl⟩:=IY hm;have ha:=zB hx;subst ha;split
  .rename_i t t' ht;have ke:=zB ht;subst ke;cases hv:zf P t (ev xs) (ev tC) H with
   |none=>trivial
   |some q=>
    refine lift fun hf=> ?_
    obtain⟨r,w',h1,h2,h3,h4⟩:=Zm (tx:=t') (ty:=o.type) hH (he xs) (he tC) hv;exact⟨ρ,r,w',rB ho fun cs=>by simp [builtin,h1],h2,h3,h4⟩
  .trivial
 .rename_i i off len cap hm;obtain⟨x,hx,gh⟩:=zA hm;have ha:=vv hx;subst ha;have xF:=he x;rw [gh]at xF;split
  .rename_i t ht;have ke:=vv ht;subst ke;cases hv:pb P t i off (len+1) H with
   |none=>trivial
   |some q=>
    refine lift fun hf=> ?_
    obtain⟨r,w',h1,h2,h3,h4⟩:=Zo (ty:=o.type) hH xF hv;exact⟨ρ,r,w',rB ho fun cs=>by simp [builtin,h1],h2,h3,h4⟩
  .trivial
 .rename_i i off cap hm;obtain⟨x,hx,gh⟩:=zA hm;have ha:=vv hx;subst ha;have xF:=he x;rw [gh]at xF;obtain⟨b,c,k,_,_,_,xF⟩:=xF.ic;split
  .rename_i t ht;have ke:=vv ht;subst ke;split
   .rename_i el hu;have hc:(Builtin.clear_ #[t] o.type #[e x]).run P w= .ok (.tuple #[]) w:=by
     rw [xF];simp [Builtin.clear_,dw hu]
    exact fL hH (rB ho fun cs=>by simp [builtin,hc]) (.raw _)
   .trivial
  .trivial
 .rename_i p n hm;obtain⟨xs,tC,hx,rfl,rfl⟩:=IY hm;have ha:=zB hx;subst ha;split
  .rename_i t t' ht;have ke:=zB ht;subst ke;cases hv:vg P t (ev xs) (ev tC) H with
   |none=>trivial
   |some q=>
    refine lift fun hf=> ?_
    obtain⟨r,w',h1,h2,h3,h4⟩:=ph (it:=t') (ty:=o.type) hH (he xs) (he tC) hv;exact⟨ρ,r,w',rB ho fun cs=>by simp [builtin,h1],h2,h3,h4⟩
  .trivial
 .rename_i i off len cap hm;obtain⟨x,hx,gh⟩:=zA hm;have ha:=vv hx;subst ha;cases hb:Nat.ble 1 len with
  |false=>trivial
  |true=>
   have hb:=bS hb;have hx:=he x;rw [gh]at hx;obtain⟨b,c,k,h1,_,h2,h3⟩:=hx.ic;have hr:=Lib.run_unsafeSliceData_row (P:=P) w argTypes o.type ⟨b,off,none⟩ len k (by omega);exact fL hH (rB ho fun cs=>by simp [builtin,h3,hr]) (.ptr h1)
 .rename_i el t i k len cap hm;obtain⟨x,hx,gh⟩:=zA hm;have ha:=vv hx;subst ha;cases hb:Nat.ble 1 len with
  |false=>trivial
  |true=>
   have hb:=bS hb;have hx:=he x;rw [gh]at hx;rcases hx.jv with⟨h0,_⟩|⟨b,c,kc,h1,_,h2,h3⟩
   .omega
   .have hr:=Lib.run_unsafeSliceData_row (P:=P) w argTypes o.type ⟨b,k*t.size,none⟩ len kc (by omega);exact fL hH (rB ho fun cs=>by simp [builtin,h3,hr]) (.dA h1)
 .exact hg
theorem IR (hK:eW P) (hH:bf P B ρ H w) (he:∀x,Den ρ (ev x) (e x)) {c:Call} (ho:o.op= .call c):cN P B ρ H w ((execOp e o).run P w) (iY c P o ev H):=by
 obtain⟨callee,args,argTypes⟩:=c;have hl:∀l:List Operand,aF ρ (l.map ev) (l.map e):=fun l=>by
  induction l with
  |nil=>exact .nil
  |cons x l ih=>exact .cons (he x) ih
 have ea:args.map e=(args.toList.map e).toArray:=by apply Array.ext';simp
 cases callee with
 |value f=>
  refine Es hK hH (he f) (hl args.toList) fun fn first captured hf=> ?_
  simp only [execOp,ho,resolve,Deferred.ofValue,hf,Sem.run_bind,Sem.run_pure,Result.andThen_ok,ea]
 |invoke r m=>trivial
 |builtin b=>exact ZE hH he ho
theorem ZF (hK:eW P) (hH:bf P B ρ H w) (he:∀x,Den ρ (ev x) (e x)):cN P B ρ H w ((execOp e o).run P w) (eV o.op P o ev H):=by
 cases ho:o.op with
 |move x=>exact X9 hH he ho
 |assign x=>exact Ya hH he ho
 |pick c a b=>exact Yb hH he ho
 |alloc t=>exact YQ (ev:=ev) hH ho
 |box t x=>exact YR hH he ho
 |build t ps=>exact YP hH he ho
 |buildSlice t l ps=>exact YT hH he ho
 |insert t m k v=>exact Y9 hH he ho
 |load t x=>exact YY hH he ho
 |store t x y=>exact Y3 hH he ho
 |nilCheck x=>exact Yc hH he ho
 |binOp op t x y ah=>exact YI hH he ho
 |unOp op t x=>exact vr hH he (by rw [ho];rfl)
 |convert s d x=>exact Zh hH he ho
 |makeInterface t x=>exact Ye hH he ho
 |makeFunc fn a c=>exact Yd hH he ho
 |makeMap t r=>exact zr hH he ho
 |makeSlice t l c=>exact YU hH he ho
 |slice t x l h m=>exact YN hH he ho
 |fieldAddr s x f=>exact Yg hH he ho
 |field t x f=>exact Yk hH he ho
 |indexAddr t x i=>exact Yj hH he ho
 |index t x i=>exact Yl hH he ho
 |lookup t m k ok=>exact Y5 hH he ho
 |mapUpdate t m k v=>exact Y8 hH he ho
 |typeAssert x a b c=>exact vr hH he (by rw [ho];rfl)
 |extract x i=>exact Ym hH he ho
 |call c=>exact IR hK hH he ho
 |range t x=>exact Za hH he ho
 |next x b=>exact Zf hH he ho
 |entry x=>exact Zg hH he ho
 |_=>trivial
def aK.mono (H:ai):aK->Prop
 | .no=>True
 | .ok _ H'| .enter _ _ H'| .round _ _ H'=>H.next<=H'.next
theorem iq (x:Option aa):aK.mono H (ag H x):=by cases x<;>simp [ag,aK.mono]
theorem mB {x:Option (aa×ai)} (h:∀q,x=some q->H.next<=q.2.next):aK.mono H (eH x):=by
 cases x with
 |none=>trivial
 |some q=>exact h q rfl
theorem ZG {gC n:Nat} {x:aa}:aK.mono H (u6 gC n x H):=by
 unfold u6;split
 .cases Nat.ble 1 n<;>first |trivial |exact aG _
 .cases Nat.ble 1 n<;>first |trivial |exact aG _
 .trivial
theorem ZH {k n s:Nat} {x:aa}:aK.mono H (u5 k n s x H):=by
 unfold u5;split
 .cases Nat.ble (k+1) n<;>first |trivial |exact aG _
 .cases Nat.ble (k+1) n<;>first |trivial |exact aG _
 .trivial
theorem ZI {k s:Nat} {x:aa}:aK.mono H (q6 k s x H):=by
 unfold q6;split
 .rename_i t xs;cases (Nat.beq t.size s&&Nat.ble (k+1) xs.length)<;>first |trivial |exact aG _
 .rename_i e t i k0 len cap;cases (Nat.beq t.size s&&Nat.ble (k+1) len)<;>first |trivial |exact aG _
 .trivial
theorem ZJ {t:TypeId} {x:aa}:aK.mono H (s5 P t x H):=by
 unfold s5;split
 .exact iq _
 .rename_i e u i k off;cases bz e u (H.get i) k<;>first |trivial |exact iq _
 .trivial
theorem ZK {t:TypeId} {x y:aa}:aK.mono H (xg P t x y H):=by
 unfold xg;split
 .rename_i e u i k off;cases bz e u (H.get i) k with
  |false=>trivial
  |true=>
   cases (eO y.cells&&s8 P t y.cells.length)with
   |false=>trivial
   |true=>
    simp only [cond_true];split
    .exact aG _
    .trivial
 .trivial
theorem n6 (b:bq):H.next<=(H.new b).next:=Nat.le_succ _
theorem jV {α:Type} {b:Bool} {x:Option α} {q:α} (h:cond b x none=some q):x=some q:=by cases b<;>first |exact h|cases h
theorem vw (i:Nat) (b:bq):H.next<=(H.set i b).next:=aG _
theorem ZL {el:TypeId} {sz bytes i len n:Nat} {cap:aZ} {news:List aa} {q:aa×ai} (h:sm el sz bytes i len cap news n H=some q):H.next<=q.2.next:=by
 unfold sm at h;have h:=jV h;split at h
 .rename_i e' cs ex hg;have h:=jV h;cases cap with
  |known c=>
   simp only at h;cases hb:Nat.ble (len+n) c with
   |true=>
    rw [hb]at h;simp only [cond_true,am]at h;obtain⟨_,_,rfl⟩:=h;exact vw _ _
   |false=>rw [hb]at h;cases h;exact n6 _
  |full=>
   cases ex with
   |false=>cases h;exact n6 (H:=H.drop i) _
   |true=>cases h
  |any=>cases h
 .cases h
theorem PJ {t:TypeId} {s x:aa} {q:aa×ai} (h:zc P t s x H=some q):H.next<=q.2.next:=by
 unfold zc at h;simp only [dz]at h;obtain⟨el,_,i,_,z,_,h⟩:=h;have h:=jV h;simp only [dz]at h;obtain⟨sn,_,h⟩:=h;cases hz:Nat.beq sn.2 0 with
 |true=>
  rw [hz]at h;simp only [cond_true]at h;split at h
  .cases h;exact aG _
  .cases h;exact aG _
  .cases h
 |false=>
  rw [hz]at h;simp only [cond_false]at h;have h:=jV h;split at h
  .have h:=jV h;cases h;exact n6 _
  .exact ZL h
  .cases h
theorem ZM {t:TypeId} {d x:aa} {q:aa×ai} (h:zf P t d x H=some q):H.next<=q.2.next:=by
 unfold zf at h;simp only [dz]at h;obtain⟨el,_,s,_,h⟩:=h;split at h
 .simp only [dz]at h;obtain⟨sn,_,h⟩:=h;split at h
  .have h:=jV h;simp only [am]at h;obtain⟨_,_,rfl⟩:=h;exact vw _ _
  .cases h
 .cases h;exact aG _
 .cases h
theorem ZN {pt:TypeId} {x n:aa} {q:aa×ai} (h:vg P pt x n H=some q):H.next<=q.2.next:=by
 unfold vg at h;split at h
 .split at h
  .split at h
   .have h:=jV h;simp only [am]at h;obtain⟨_,_,rfl⟩:=h;exact vw _ _
   .cases h
  .cases h
 .split at h
  .cases (qd h).2;exact aG _
  .cases h
 .cases h
theorem ZO {t:TypeId} {i off len:Nat} {q:aa×ai} (h:pb P t i off len H=some q):H.next<=q.2.next:=by
 unfold pb at h;simp only [dz]at h;obtain⟨_,_,_,_,_,_,h⟩:=h;split at h
 .have h:=jV h;simp only [am]at h;obtain⟨_,_,rfl⟩:=h;exact vw _ _
 .cases h
theorem PK {t:TypeId} {m k x:aa} {q:aa×ai} (h:Bw P t m k x H=some q):H.next<=q.2.next:=by
 unfold Bw at h;split at h
 .split at h
  .simp only [am]at h;obtain⟨_,_,rfl⟩:=h;exact vw _ _
  .cases h
 .unfold Ic at h;split at h
  .split at h
   .have h:=jV h;cases h;exact vw _ _
   .cases h
  .cases h
 .cases h
theorem ZP {t:TypeId} {x:aa} {q:aa×ai} (h:D6 P t x H=some q):H.next<=q.2.next:=by
 unfold D6 at h;split at h
 .split at h
  .cases h;exact n6 _
  .cases h;exact n6 _
  .cases h
 .cases h
theorem ZQ {x:aa} {s:Bool} {q:aa×ai} (h:D7 x s H=some q):H.next<=q.2.next:=by
 unfold D7 at h;split at h
 .unfold Ie at h;split at h
  .split at h
   .cases h;exact aG _
   .cases h
  .split at h
   .cases h;exact vw _ _
   .cases h
  .split at h
   .cases h;exact aG _
   .cases h
  .cases h
 .cases h
theorem ZR {b:Builtin} {argTypes:Array TypeId} {args:List aa}:aK.mono H (nW P o ev b argTypes args H):=by
 unfold nW;split
 .split
  .exact aG _
  .split
   .exact aG _
   .exact iq _
 .split
  .exact aG _
  .exact iq _
 .split
  .split
   .exact mB fun q h=>PI PJ h
   .exact mB fun q h=>PI PJ h
   .trivial
  .trivial
 .split
  .exact mB fun q h=>ZM h
  .trivial
 .split
  .exact mB fun q h=>ZO h
  .trivial
 .split
  .split
   .exact aG _
   .trivial
  .trivial
 .split
  .exact mB fun q h=>ZN h
  .trivial
 .rename_i i off len cap;show aK.mono H (@Bool.rec (fun _=>aK) .no (.ok (.ptr i off) H) (Nat.ble 1 len))
  generalize Nat.ble 1 len=bb;cases bb
  .trivial
  .exact aG _
 .rename_i e u i k len cap;show aK.mono H (@Bool.rec (fun _=>aK) .no (.ok (.dA e u i k 0) H) (Nat.ble 1 len))
  generalize Nat.ble 1 len=bb;cases bb
  .trivial
  .exact aG _
 .exact iq _
theorem ZS {f:FuncId} {fn:Func} {args:List aa} {q:aa×ai} (h:zg P f fn args H=some q):H.next<=q.2.next:=by
 unfold zg at h;split at h
 .split at h
  .cases h;exact aG _
  .have h:=jV h;split at h
   .simp only [dz]at h;obtain⟨el,_,h⟩:=h;have h:=jV h;cases h;exact n6 _
   .cases h
 .split at h
  .have h:=jV h;cases h;exact aG _
  .cases h
theorem IZ {f:FuncId} {args:List aa}:aK.mono H (sY P f args H):=by
 unfold sY;cases hf:P.funcs[f]? with
 |none=>trivial
 |some fn=>
  simp only;cases hb:fn.body with
  |none=>exact mB fun q h=>ZS h
  |some c=>exact aG _
theorem xf {fv:aa} {args:List aa}:aK.mono H (mg P fv args H):=by
 unfold mg;split
 .rename_i v;cases hg:xd v with
  |fn f=>exact IZ
  |no=>
   simp only;split
   .exact IZ
   .trivial
 .exact IZ
 .exact aG _
 .trivial
theorem ZT {s d:TypeId} {x:aa} {q:aa×ai} (h:Bu P o ev s d x H=some q):H.next<=q.2.next:=by
 have hm:∀{g:Option aa},g.map (fun v=>(v,H))=some q->H.next<=q.2.next:=fun h=>by
  simp only [am]at h;obtain⟨_,_,rfl⟩:=h;exact aG _
 unfold Bu at h;split at h
 .split at h
  .split at h
   .have h:=jV h;simp only [am]at h;obtain⟨_,_,rfl⟩:=h;exact aG _
   .cases h
  .cases h
 .split at h
  .split at h
   .have h:=jV h;cases h;exact aG _
   .cases h
  .have h:=jV h;cases h;exact aG _
  .cases h
 .split at h
  .split at h
   .have h:=jV h;cases h;exact n6 _
   .cases h
  .exact hm h
 .exact hm h
theorem IS:aK.mono H (eV o.op P o ev H):=by
 cases ho:o.op with
 |move x=>exact aG _
 |assign x=>exact aG _
 |pick c a b=>
  show aK.mono H (jn c a b P o ev H);unfold jn;cases gD (ev c)with
  |no=>trivial
  |mk b=>cases b<;>exact aG _
 |alloc t=>
  show aK.mono H (s6 t P o ev H);unfold s6;cases mX P t with
  |none=>trivial
  |some z=>exact n6 _
 |box t x=>
  show aK.mono H (oJ t x P o ev H);unfold oJ;cases (ev x).u0 with
  |true=>trivial
  |false=>exact n6 _
 |build t ps=>exact iq _
 |buildSlice t l ps=>
  refine mB fun q h=> ?_
  unfold oK at h;simp only [dz]at h;obtain⟨_,_,_,_,_,_,h⟩:=h;have h:=jV h;simp only [am]at h;obtain⟨_,_,rfl⟩:=h;exact n6 _
 |insert t m k v=>
  exact mB fun q h=>PK h
 |load t x=>
  show aK.mono H (nV t x P o ev H);unfold nV;cases iI (ev x)with
  |no=>exact ZJ
  |mk i off=>
   cases hb:sW (H.get i)with
   |no=>simp only [hb];trivial
   |mk a b c d f=>simp only [hb];exact iq _
 |store t x y=>
  show aK.mono H (p6 t x y P o ev H);unfold p6;cases iI (ev x)with
  |no=>exact ZK
  |mk i off=>
   cases hb:sW (H.get i)with
   |no=>simp only [hb];trivial
   |mk a b c d f=>
    simp only [hb];cases f<;>first |trivial |(cases d<;>first |trivial |skip)
    refine mB fun q h=> ?_
    unfold Bv at h;have h:=jV h;simp only [am]at h;obtain⟨_,_,rfl⟩:=h;exact vw _ _
 |nilCheck x=>
  show aK.mono H (pY x P o ev H);unfold pY;cases iI (ev x)with
  |no=>exact iq _
  |mk i off=>exact aG _
 |binOp op t x y ah=>
  show aK.mono H (i7 op t x y ah P o ev H);unfold i7;cases iH (ev x)with
  |no=>exact iq _
  |int k a=>
   cases iH (ev y)with
   |no=>exact iq _
   |int k' b=>
    cases hf:ju op k k' a b with
    |none=>simp only [hf];exact iq _
    |some v=>simp only [hf];exact aG _
 |unOp op t x=>exact iq _
 |convert s d x=>exact mB fun q h=>ZT h
 |makeInterface t x=>exact iq _
 |makeFunc fn a c=>exact aG _
 |makeMap t r=>
  refine mB fun q h=> ?_
  unfold ry at h;split at h
  .cases h;exact n6 _
  .split at h
   .cases h;exact n6 _
   .cases h
 |makeSlice t l c=>
  refine mB fun q h=> ?_
  unfold p5 at h;simp only [dz]at h;obtain⟨_,_,_,_,_,_,_,_,_,_,h⟩:=h;have h:=jV h;cases h;exact n6 _
 |slice t x l h m=>exact iq _
 |fieldAddr s x f=>
  show aK.mono H (pZ s x f P o ev H);unfold pZ;cases fv P s f with
  |no=>trivial
  |mk a n t=>
   cases iI (ev x)with
   |no=>exact ZG
   |mk i off=>
    cases hb:Nat.ble 1 n with
    |false=>simp only [hb];trivial
    |true=>simp only [hb];exact aG _
 |field t x f=>
  show aK.mono H (p0 t x f P o ev H);unfold p0;cases q7 (ev x)with
  |none=>exact iq _
  |some cs=>
   cases fv P t f with
   |no=>trivial
   |mk a n t=>exact iq _
 |indexAddr t x i=>
  show aK.mono H (mZ t x i P o ev H);unfold mZ;cases nU (ev i)with
  |no=>trivial
  |mk k=>
   cases nT P t with
   |no=>trivial
   |arr n s=>
    cases iI (ev x)with
    |no=>exact ZH
    |mk i off=>
     cases hb:Nat.ble (Nat.succ k) n with
     |false=>simp only [hb];trivial
     |true=>simp only [hb];exact aG _
   |sl s=>
    cases w9 (ev x)with
    |no=>exact ZI
    |mk i off len cap=>
     cases hb:Nat.ble (Nat.succ k) len with
     |false=>simp only [hb];trivial
     |true=>simp only [hb];exact aG _
 |index t x i=>
  show aK.mono H (mh t x i P o ev H);unfold mh;cases q7 (ev x)with
  |none=>exact iq _
  |some cs=>exact iq _
 |lookup t m k ok=>exact iq _
 |mapUpdate t m k v=>
  exact mB fun q h=>PK h
 |typeAssert x a b c=>exact iq _
 |extract x i=>
  show aK.mono H (p4 x i P o ev H);unfold p4;cases y7 (ev x)with
  |none=>exact iq _
  |some cs=>exact iq _
 |call c=>
  obtain⟨callee,args,argTypes⟩:=c;cases callee with
  |value f=>exact xf
  |invoke r m=>trivial
  |builtin b=>exact ZR
 |range t x=>exact mB fun q h=>ZP h
 |next x b=>exact mB fun q h=>ZQ h
 |entry x=>exact iq _
 |_=>trivial
end
end Go.Proofs.YtibikmmdbdlafaaGreatDoor.Sv
