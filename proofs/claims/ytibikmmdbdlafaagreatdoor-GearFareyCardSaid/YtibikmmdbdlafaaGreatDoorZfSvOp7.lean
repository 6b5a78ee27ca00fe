import Derived.Test.YtibikmmdbdlafaaGreatDoorZfSvOp3
import Derived.Great.BuildSlice
import Derived.Deep.AppendSrc
import Derived.Lib.UnsafeStr
import Derived.Laws.IdiomStrings
import Derived.Laws.LoneSync
set_option linter.defProp false
set_option linter.unusedSimpArgs false
namespace Go.Proofs.YtibikmmdbdlafaaGreatDoor.Sv
open Go.RowKit
section
variable {P:Program} {B:Nat} {ρ:Env} {H:ai} {w:World} {o:Oper} {ev:dJ} {e:Operand->Value}
def QO (off:Nat):∀(zs:List Value) (k:Nat) (cur:Array Value),off+k+zs.length<=cur.size->
  ((zs.zipIdx k).foldl (fun cs (p:Value×Nat)=>cs.setIfInBounds (off+p.2) p.1) cur).toList=cur.toList.take (off+k)++zs++cur.toList.drop (off+k+zs.length)
 |[],k,cur,_=>by simp
 |z::zs,k,cur,h=>by
  have h':off+(k+1)+zs.length<=(cur.setIfInBounds (off+k) z).size:=by simp at h ⊢;omega
  rw [List.zipIdx_cons,List.foldl_cons,QO off zs (k+1) _ h'];have e:=list_seg_step cur.toList (off+k) z zs (by simp at h ⊢;omega);simpa [Array.toList_setIfInBounds,Nat.add_assoc]using e
def QS {place:Nat->Option (Nat×Nat)}:∀(parts:List (Nat×af)) (iX:List (Nat×Value)) (cells:List af) (cur:Array Value) {r:List af},m8 place cells parts=some r->aH ρ cells cur.toList->
  iX.map Prod.fst=parts.map Prod.fst->aH ρ (parts.map Prod.snd) (iX.map Prod.snd)->∃out,Instr.fill place cur iX=some out/\aH ρ r out.toList
 |[],iX,cells,cur,r,h,hd,hi,_=>by
  have:iX=[]:=by cases iX<;>simp_all
  subst this;simp [m8]at h;subst h;exact⟨cur,rfl,hd⟩
 |(i,v)::parts,[],cells,cur,r,h,hd,hi,_=>by simp at hi
 |(i,v)::parts,(j,x)::iX,cells,cur,r,h,hd,hi,hv=>by
  simp only [List.map_cons,List.cons.injEq]at hi;obtain⟨rfl,hi⟩:=hi;cases hv with
  |cons hx hv=>
  simp only [m8,dH]at h;obtain⟨p,hp,h⟩:=h;cases nX:v.u5 with
  |true=>rw [nX]at h;cases h
  |false=>
  cases hb:Nat.beq v.cells.length p.2 with
  |false=>rw [nX,hb]at h;cases h
  |true=>
   rw [nX,hb]at h;simp only [cond_true,cond_false,dH]at h;obtain⟨cells',hc,h⟩:=h;obtain⟨h1,h2⟩:=B4 hc;have hl:=hd.length;have hvl:=(hx.cells nX).length;have hsz:x.cells.size=p.2:=by rw [<-ac hb,<-hvl];simp
   have hfit:p.1+x.cells.size<=cur.size:=by
    have e1:x.cells.size=v.cells.length:=by rw [<-hvl];simp
    have e2:cur.size=cells.length:=by rw [<-hl];simp
    omega
   have hstep:=QO p.1 x.cells.toList 0 cur (by simpa using hfit);obtain⟨out,g1,g2⟩:=QS parts iX cells' (x.cells.zipIdx.foldl (fun cs (c,j)=>cs.setIfInBounds (p.1+j) c) cur) h (by
    have e3:(x.cells.zipIdx.foldl (fun cs (c,j)=>cs.setIfInBounds (p.1+j) c) cur)=(x.cells.toList.zipIdx 0).foldl (fun cs (p':Value×Nat)=>cs.setIfInBounds (p.1+p'.2) p'.1) cur:=by
     rw [<-Array.foldl_toList,Array.toList_zipIdx]
    rw [e3,hstep,h2];simp only [Nat.add_zero];rw [show x.cells.toList.length=v.cells.length from hvl];exact((hd.take p.1).append (hx.cells nX)).append (hd.drop _)) hi hv
   refine⟨out, ?_,g2⟩;obtain⟨p1,p2⟩:=p;simp only [Instr.fill,hp];rw [if_neg (by simp only [Bool.or_eq_true,bA,not_or];exact⟨by simpa using hsz,by omega⟩)];exact g1
def QT {v:af} (h:eU v.cells=true):v.u5=false:=by
 cases v<;>first |rfl |(simp [af.cells,eU,af.one]at h)
def Ce (a:Array Value):aH ρ (ig a) a.toList:=aH.rL _
def QU (he:∀x,Den ρ (ev x) (e x)):∀(l:List (Nat×Operand)),aH ρ ((l.map fun p=>(p.1,ev p.2)).map Prod.snd) ((l.map fun p=>(p.1,e p.2)).map Prod.snd)
 |[]=> .nil
 |p::l=> .cons (he p.2) (QU he l)
def lE {place:Nat->Option (Nat×Nat)} (he:∀x,Den ρ (ev x) (e x)) (parts:Array (Nat×Operand)) {cells:List af} {cur:Array Value} {r:List af} (h:m8 place cells (rI ev parts)=some r) (hd:aH ρ cells cur.toList):
  ∃out,Instr.fill place cur (parts.map fun(i,x)=>(i,e x)).toList=some out/\aH ρ r out.toList:=by
 have e1:(parts.map fun(i,x)=>(i,e x)).toList=parts.toList.map fun p=>(p.1,e p.2):=by simp
 rw [e1];exact QS (rI ev parts) _ cells cur h hd (by simp [rI,Function.comp_def]) (QU he parts.toList)
def QV:∀(fs:List Field),(fs.all fun f=>(en P f.type).isSome)=true->∃ps:List (Nat×Nat),fs.mapM (fun f=>(P.info? f.type).map fun i=>(f.offset,i.size))=some ps/\∀i:Nat,ps[i]? =(fs[i]?).bind fun(f:Field)=>(en P f.type).map fun s=>(f.offset,s)
 |[],_=>⟨[],by simp,by simp⟩
 |f::fs,h=>by
  simp only [List.all_cons,ae]at h;obtain⟨ps,h1,h2⟩:=QV fs h.2;obtain⟨s,hs⟩:=Option.isSome_iff_exists.1 h.1;obtain⟨inf,hi,rfl⟩:=xx hs;refine⟨(f.offset,inf.size)::ps, ?_, ?_⟩
  .rw [List.mapM_cons];simp [hi,h1]
  .intro i;cases i with
   |zero=>simp [hs]
   |succ i=>simpa using h2 i
def aam (hH:bh P B ρ H w) (he:∀x,Den ρ (ev x) (e x)) {t:TypeId} {parts:Array (Nat×Operand)} (ho:o.op= .build t parts):cN P B ρ H w ((execOp e o).run P w) (tw t parts P o ev H):=by
 refine l8 hH fun v hv=> ?_
 unfold IZ at hv;simp only [dH]at hv;obtain⟨z,hz,hv⟩:=hv;obtain⟨inf,hi,o6⟩:=Jn hz;have fin:∀(out:Array Value) (cs:List af),P.built t (parts.map fun(i,x)=>(i,e x)).toList=some out->aH ρ cs out.toList->v= .agg cs->∃eH y,(execOp e o).run P w= .ok eH w/\tG eH y/\Den ρ v y:=by
  intro out cs h1 h2 h3;subst h3;have hr:=run_build w t _ out h1;refine lz (y:= .agg out) ?_ (by simpa using Den.agg h2);simp [execOp,ho,hr]
 split at hv
 .rename_i fs hu;simp only [dH]at hv;obtain⟨cs,hc,hv⟩:=hv;cases hall:(fs.toList.all fun f=>(en P f.type).isSome)with
  |false=>rw [hall]at hv;cases hv
  |true=>
   rw [hall]at hv;cases hv;obtain⟨ps,h1,h2⟩:=QV fs.toList hall;obtain⟨out,g1,g2⟩:=lE he parts hc (Ce z.cells);refine fin out cs ?_ g2 rfl;unfold Program.built;rw [hi,hu];simp only [o6,h1];rw [<-g1];congr 1;funext i;have:=h2 i;simp only [Qf];simpa using this
 .rename_i n el hu;simp only [dH,am]at hv;obtain⟨s,hs,cs,hc,rfl⟩:=hv;obtain⟨ie,hie,rfl⟩:=xx hs;obtain⟨out,g1,g2⟩:=lE he parts hc (Ce z.cells);refine fin out cs ?_ g2 rfl;unfold Program.built;rw [hi,hu];simp only [o6,hie,g1]
 .cases hv
def xB (hH:bh P B ρ H w) {r:Result Next} {v:af} {y:Value} {k:bq} {lC:Obj} (c:Nat) (hr:r= .ok (.value y) (w.alloc lC)) (hd:Den (ρ.put H.next w.heap.size c) v y) (hk:gK P (ρ.put H.next w.heap.size c) H.next k lC):
  cN P B ρ H w r (.ok v (H.new k)):=fun hf=>by
 obtain⟨h1,h2⟩:=tE hH hf c k lC hk;exact⟨_,y,_,_,hr,rfl,hd,h1,h2⟩
def EM {ρ:Env} {i:Nat} {el:TypeId} {cs:List af} {xs:Array Value} {ro:Bool} (h:aH ρ cs xs.toList):gK P ρ i (.cells el cs true false ro) (.cells xs el):=by
 have hl:xs.size=cs.length:=by simpa using h.length
 refine⟨xs,(0,0),rfl,fun _=>rfl, ?_,fun _=>hl,fun hc=>by cases hc⟩;rw [eT (by simp [hl])];exact h
def aan (hH:bh P B ρ H w) {el:TypeId} (ho:o.op= .alloc el):cN P B ρ H w ((execOp e o).run P w) (tu el P o ev H):=by
 unfold tu;cases hz:mT P el with
 |none=>trivial
 |some z=>
  refine xB hH 0 (y:= .pointer (some ⟨w.heap.size,0,none⟩)) ?_ (.ptr (Env.dn ..)) (EM (Ce z.cells));simp [execOp,ho,Instr.alloc,EH hz,newVar,newRow]
def aao (hH:bh P B ρ H w) (he:∀x,Den ρ (ev x) (e x)) {el:TypeId} {x:Operand} (ho:o.op= .box el x):cN P B ρ H w ((execOp e o).run P w) (oU el x P o ev H):=by
 unfold oU;cases nX:(ev x).u5 with
 |true=>trivial
 |false=>
 intro hf;have hn:ρ H.next=none:=hf H.next (aJ _) (fB _);refine xB hH 0 (y:= .pointer (some ⟨w.heap.size,0,none⟩)) ?_ (.ptr (Env.dn ..)) (EM (((he x).cells nX).mono (Env.o5 hn))) hf;simp [execOp,ho,Instr.box,newVar,newRow]
def EO (z:Array Value) (s:Nat) (hs:z.size=s) (h1:1<=s):∀n,((Array.range (n*s)).map (z[· %z.size]!)).toList=(List.replicate n z.toList).flatten
 |0=>by simp
 |n+1=>by
  have ih:=EO z s hs h1 n;simp only [Array.toList_map,Array.toList_range]at ih ⊢;rw [Nat.add_mul,Nat.one_mul,List.range_add,List.map_append,ih,List.replicate_succ',List.flatten_append];congr 1;simp only [List.map_map,List.flatten_cons,List.flatten_nil,List.append_nil];apply List.ext_getElem
  .simp [hs]
  .intro i h2 h3;have hi:i<s:=by simpa using h2
   have e1:(n*s+i)%z.size=i:=by rw [hs,Nat.add_comm,Nat.add_mul_mod_self_right,Nat.mod_eq_of_lt hi]
   simp only [List.getElem_map,List.getElem_range,Function.comp_apply,e1];rw [getElem!_pos z i ω];simp
def Jr (n:Nat) (z:Array Value):(List.replicate n (ig z)).flatten=((List.replicate n z.toList).flatten).map af.raw:=by
 simp [ig,List.map_flatten]
def aap (w:World) (t e:TypeId) (len:Nat) (parts:Array (Nat×Value)) (cells:Array Value) (ie:TypeInfo) (z:Value)
  (hu:P.underlying t=some (.slice e)) (hie:P.info? e=some ie) (hz:ie.zero=some z) (hsmall:¬len*ie.size>2^24) (hs:1<=ie.size)
  (h:Instr.fill (fun i=>some (i*ie.size,ie.size)) ((Array.range (len*ie.size)).map (z.cells[· %z.cells.size]!)) parts.toList=some cells):
  (Instr.buildSlice t len parts).run P w= .ok (.slice (some ⟨w.heap.size,0,none⟩) len len) (w.alloc (.cells cells e)):=by
 by_cases h0:len*ie.size=0
 .have hl:len=0:=by
   rcases Nat.mul_eq_zero.1 h0 with h|h
   .exact h
   .omega
  subst hl;have e1:∀f:Nat->Value,Array.map f (Array.range 0)= #[]:=fun f=>Array.ext τ (fun i _ h2=>by simp at h2)
  rw [Nat.zero_mul,e1]at h;simp [Instr.buildSlice,run_underlying hu,sizeOf,typeInfo,hie,newRow,e1,h]
 .exact run_buildSlice w t e len parts cells ie z hu hie hz hsmall h0 h
section
variable (hH:bh P B ρ H w) (he:∀x,Den ρ (ev x) (e x)) {t:TypeId}
def aaq {len:Nat} {parts:Array (Nat×Operand)} (ho:o.op= .buildSlice t len parts):cN P B ρ H w ((execOp e o).run P w) (zB t len parts P o ev H):=by
 unfold zB;cases hv:oV P ev t len parts H with
 |none=>trivial
 |some q=>
  unfold oV at hv;simp only [dH]at hv;obtain⟨el,hel,s,hs,z,hz,hv⟩:=hv;cases hb:(Nat.ble 1 s&&Nat.ble (len*s) 16777216&&Nat.beq z.cells.size s)with
  |false=>rw [hb]at hv;cases hv
  |true=>
   rw [hb]at hv;simp only [ae]at hb;obtain⟨⟨b1,b2⟩,b3⟩:=hb;have b1:=bU b1;have b2:=bU b2;have b3:=ac b3;simp only [cond_true,am]at hv;obtain⟨cs,hc,rfl⟩:=hv;obtain⟨ie,hie,rfl⟩:=xx hs;obtain⟨atX,QW,o6⟩:=Jn hz;rw [hie]at QW;cases QW;have hs1:1<=ie.size:=b1;have hd:aH ρ (List.replicate len (ig z.cells)).flatten ((Array.range (len*ie.size)).map (z.cells[· %z.cells.size]!)).toList:=by
    rw [EO z.cells ie.size b3 hs1,Jr];exact aH.rL _
   obtain⟨out,g1,g2⟩:=lE he parts hc hd;intro hf;have hn:ρ H.next=none:=hf H.next (aJ _) (fB _);refine xB hH 0 (y:= .slice (some ⟨w.heap.size,0,none⟩) len len) ?_ (.slice (Env.dn ..) rfl (aJ _)) (EM (g2.mono (Env.o5 hn))) hf;have hr:=aap (P:=P) w t el len _ out ie z (xy hel) hie o6 ω hs1 g1;simp [execOp,ho,hr]
def aar {l c:Operand} (ho:o.op= .makeSlice t l c):cN P B ρ H w ((execOp e o).run P w) (dT t l c P o ev H):=by
 unfold dT;cases hv:qd P t (ev l) (ev c) H with
 |none=>trivial
 |some q=>
  unfold qd at hv;simp only [dH]at hv;obtain⟨el,hel,inf,hi,z,hz,ln,hl,vt,hc,hv⟩:=hv;cases hb:(Nat.ble ln vt&&Nat.ble 1 inf.size&&bounded vt inf.bytes&&Nat.beq z.cells.size inf.size)with
  |false=>rw [hb]at hv;cases hv
  |true=>
   rw [hb]at hv;simp only [ae,bounded]at hb;obtain⟨⟨⟨b1,b2⟩,b3,b4⟩,gu⟩:=hb;have b1:=bU b1;have b2:=bU b2;have b3:=bU b3;have b4:=bU b4;have gu:=ac gu;cases hv;obtain⟨kl,hl'⟩:=Ca hl;obtain⟨kc,tK⟩:=Ca hc;have aas:e l= .int kl ln:=by have:=he l;rw [hl']at this;exact this.cc
   have aat:e c= .int kc vt:=by have:=he c;rw [tK]at this;exact this.cc
   have hbz:(inf.bytes:Int)*(vt:Int)<=281474976710656:=by
    have:((inf.bytes*vt:Nat):Int)<=281474976710656:=by rw [Nat.mul_comm];omega
    rwa [Int.natCast_mul]at this
   have hr:=run_make (P:=P) w t el inf z (xy hel) hi hz kl kc ln vt ω ω hbz ω;simp only [Int.toNat_natCast]at hr;refine xB hH 0 (lC:= .cells (madeCells z.cells (vt*inf.size)) el) (y:= .slice (some ⟨w.heap.size,0,none⟩) ln vt) ?_ (.slice (Env.dn ..) rfl b1) (EM ?_)
   .simp [execOp,ho,aas,aat,hr]
   .unfold madeCells;rw [EO z.cells inf.size gu b2,Jr];exact aH.rL _
end
def l9 (hH:bh P B ρ H w) {i b c:Nat} {el:TypeId} {cs:List af} {exact cB ro:Bool} (hi:H.get i=some (.cells el cs exact cB ro)) (hr:ρ i=some (b,c)):
  ∃xs fz,w.heap[b]? =some (.cells xs el fz)/\(cB=false->fz=(0,0))/\aH ρ cs (xs.toList.take cs.length)/\(exact=true->xs.size=cs.length)/\(exact=false->xs.size=c*P.cellsOf el)/\cs.length<=xs.size:=by
 obtain⟨o,h1,h2,_⟩:=hH.at hi hr;obtain⟨xs,fz,rfl,g2,g3,g4,g5⟩:=h2;refine⟨xs,fz,h1,g2,g3,g4,fun hx=> ?_, ?_⟩
 .obtain⟨b',c',e1,e2⟩:=g5 hx;rw [hr]at e1;cases e1;exact e2
 .have:=g3.length;simp at this;omega
def xC {xs:Array Value} {n i:Nat} {y:Value} (h:(xs.toList.take n)[i]? =some y):xs[i]? =some y:=by
 rw [List.getElem?_take]at h;split at h
 .simpa using h
 .cases h
def cell_of {b off:Nat} {xs:Array Value} {el:TypeId} {fz:Nat×Nat} (h:w.heap[b]? =some (.cells xs el fz)):w.cell? ⟨b,off,none⟩=xs[off]? :=by simp [World.cell?,h]
def EP {b off:Nat} {xs:Array Value} {el t:TypeId} {fz:Nat×Nat} {cs:List af} {v:af} (h:w.heap[b]? =some (.cells xs el fz)) (hd:aH ρ cs (xs.toList.take cs.length)) (hv:oR P t cs off=some v):
  ∃y,(loadVar t ⟨b,off,none⟩).run P w= .ok y w/\Den ρ v y:=by
 unfold oR at hv;cases hl:lv P t with
 |no=>rw [hl]at hv;cases hv
 |one=>
  rw [hl]at hv;simp only [zG]at hv;obtain⟨y,h1,h2⟩:=hd.get hv;refine⟨y, ?_,h2⟩;simp [loadVar,EI (Qw hl),run_load,cell_of h,xC h1]
 |agg n=>
  rw [hl]at hv;obtain⟨k1,k2⟩:=Qx hl;cases hb:Nat.ble (Nat.add off n) cs.length with
  |false=>simp only [hb]at hv;cases hv
  |true=>
   simp only [hb]at hv;cases hv;have hr:=run_loadCells_list (P:=P) w ⟨b,off,none⟩ (((xs.toList.take cs.length).drop off).take n) (fun j y hj=>by
    rw [jU,cell_of h];rw [List.getElem?_take]at hj;split at hj
    .rw [List.getElem?_drop]at hj;exact xC hj
    .cases hj)
   have hlen:(((xs.toList.take cs.length).drop off).take n).length=n:=by
    have:=hd.length;have hle:off+n<=cs.length:=bU hb;simp only [eE,nQ,this]at*;omega
   refine⟨.agg (((xs.toList.take cs.length).drop off).take n).toArray, ?_, .agg ((hd.drop off).take n)⟩;rw [hlen]at hr;simp [loadVar,EI k1,jT k2,hr]
def QX {t:TypeId} {x:Operand} {b off:Nat} {y:Value} (ho:o.op= .load t x) (hx:e x= .pointer (some ⟨b,off,none⟩)) (h:(loadVar t ⟨b,off,none⟩).run P w= .ok y w):(execOp e o).run P w= .ok (.value y) w:=by
 simp [execOp,ho,Instr.loadAt,hx,Instr.sureAddr,h]
def aau (hH:bh P B ρ H w) {t:TypeId} {x:Operand} {v:af} (ho:o.op= .load t x) (hx:Den ρ v (e x)):cN P B ρ H w ((execOp e o).run P w) (tr P t v H):=by
 unfold tr;split
 .rename_i u xs k off;obtain⟨b,o',A,h1,h2,h3,h4,h5⟩:=hx.zJ;obtain⟨⟨el,fr,g1⟩,_⟩:=hH.fz b A h1;refine l8 hH fun v hv=> ?_
  have hv:=Qt h4 hv;have hv:=Qs (pre:=(A.toList.take o').map af.raw) (post:=[]) hv;have hpl:((A.toList.take o').map af.raw).length=o':=by simp;omega
  rw [hpl,List.append_nil]at hv;obtain⟨y,k1,k2⟩:=EP g1 (cs:=(A.toList.take o').map af.raw++u.flat xs) (by
   rw [cW,hpl,List.take_add];exact(aH.rL _).append h3) hv
  exact lz (QX ho h5 k1) k2
 .rename_i e' u i k off;cases hb:bz e' u (H.get i) k with
  |false=>trivial
  |true=>
   obtain⟨b1,b2⟩:=vo hb;obtain⟨b,c,h1,h5⟩:=hx.xw;obtain⟨ys,g1,g2,_⟩:=rM hH b1 h1;refine l8 hH fun v hv=> ?_
   obtain⟨y,k1,k2⟩:=EP g1 g2 (Qt b2 hv);exact lz (QX ho h5 k1) k2
 .trivial
def aav (hH:bh P B ρ H w) (he:∀x,Den ρ (ev x) (e x)) {t:TypeId} {x:Operand} (ho:o.op= .load t x):cN P B ρ H w ((execOp e o).run P w) (nU t x P o ev H):=by
 unfold nU;cases hp:iH (ev x)with
 |no=>exact aau hH ho (he x)
 |mk i off=>
  cases hb:s9 (H.get i)with
  |no=>simp only [hb];trivial
  |mk el cs ex cB ro=>
   simp only [hb];have hx:=he x;rw [B9 hp]at hx;obtain⟨b,c,h1,h2⟩:=hx.kH;obtain⟨xs,fz,g1,g2,g3,_⟩:=l9 hH (Qv hb) h1;refine l8 hH fun v hv=> ?_
   obtain⟨y,k1,k2⟩:=EP g1 g3 hv;exact lz (y:=y) (by simp [execOp,ho,Instr.loadAt,h2,Instr.sureAddr,k1]) k2
def QY {α:Type} (L vs:List α) (off n:Nat) (h:off+vs.length<=n) (hn:n<=L.length):
  (L.take off++vs++L.drop (off+vs.length)).take n=(L.take n).take off++vs++(L.take n).drop (off+vs.length):=by
 have e1:(L.take n).take off=L.take off:=by rw [List.take_take,Nat.min_eq_left ω]
 rw [e1,List.take_append,eT (by simp;omega)];congr 1;rw [List.drop_take];congr 1;simp;omega
def ER (hH:bh P B ρ H w) {i b c off:Nat} {el:TypeId} {cs vs cs':List af} {exact:Bool} (hi:H.get i=some (.cells el cs exact false false)) (hr:ρ i=some (b,c)) (hp:ls cs off vs=some cs') {ys:List Value} (hd:aH ρ vs ys) (h1:eU vs=true):
  ∃xs w',w.heap[b]? =some (.cells xs el (0,0))/\(storeCells ⟨b,off,none⟩ ys).run P w= .ok () w'/\bh P B ρ (H.set i (.cells el cs' exact false false)) w'/\bS ρ H w ρ (H.set i (.cells el cs' exact false false)) w':=by
 obtain⟨xs,fz,g1,g2,g3,g4,g5,g6⟩:=l9 hH hi hr;have hfz:=g2 rfl;subst hfz;obtain⟨k1,k2⟩:=B4 hp;have mb:=hd.length;have hst:=run_storeCells_at P b off el ys 0 xs w g1 (by simp only [Nat.add_zero];omega) (hd.one h1);simp only [Nat.add_zero]at hst;obtain⟨q1,aQ⟩:=jj hH hi hr rfl (k:= .cells el cs' exact false false) (w.setRow b (xs.toList.take off++ys++xs.toList.drop (off+ys.length)).toArray)
  (.cells (xs.toList.take off++ys++xs.toList.drop (off+ys.length)).toArray el (0,0)) rfl rfl rfl τ (setRow_heap w b xs _ el (0,0) g1) (fun j hj=>setRow_other w b j _ hj) (by
    have hlen:cs'.length=cs.length:=by rw [k2];simp;omega
    have hsz:(xs.toList.take off++ys++xs.toList.drop (off+ys.length)).toArray.size=xs.size:=by simp;omega
    refine⟨_,_,rfl,fun _=>rfl, ?_,fun hx=>by rw [hsz,hlen];exact g4 hx,fun hx=>⟨b,c,hr,by rw [hsz];exact g5 hx⟩⟩;show aH ρ cs' ((xs.toList.take off++ys++xs.toList.drop (off+ys.length)).take cs'.length);rw [hlen,QY _ _ _ _ ω (by simpa using g6),k2,mb];exact((g3.take off).append hd).append (g3.drop _))
 exact⟨xs,_,g1,hst,q1,aQ⟩
def aaw {cs vs r:List af} {off:Nat} (h:ls cs off vs=some r):r.length=cs.length:=by
 obtain⟨h1,h2⟩:=B4 h;rw [h2];simp;omega
def aax (hH:bh P B ρ H w) {i b c off:Nat} {el:TypeId} {t:av} {xs xs':List t.den} {vs cs':List af} (hi:H.get i=some (.own el t xs)) (hr:ρ i=some (b,c)) (hp:ls (t.flat xs) off vs=some cs') {ys:List Value} (hd:aH ρ vs ys) (h1:eU vs=true)
  (hx:∀zs,aH ρ cs' zs->aH ρ (t.flat xs') zs) (hl:xs'.length=xs.length):
  ∃w',(storeCells ⟨b,off,none⟩ ys).run P w= .ok () w'/\bh P B ρ (H.set i (.own el t xs')) w'/\bS ρ H w ρ (H.set i (.own el t xs')) w':=by
 obtain⟨qm,g1,g3,g5,g6,g7,g8⟩:=rM hH hi hr;have hlen:cs'.length=(t.flat xs).length:=aaw hp;have QZ:(t.flat xs').length=(t.flat xs).length:=by rw [t.iW,t.iW,hl]
 obtain⟨k1,k2⟩:=B4 hp;have mb:=hd.length;have hst:=run_storeCells_at P b off el ys 0 qm w g1 (by simp only [Nat.add_zero];omega) (hd.one h1);simp only [Nat.add_zero]at hst;obtain⟨q1,aQ⟩:=jj hH hi hr rfl (k:= .own el t xs') (w.setRow b (qm.toList.take off++ys++qm.toList.drop (off+ys.length)).toArray)
  (.cells (qm.toList.take off++ys++qm.toList.drop (off+ys.length)).toArray el (0,0)) rfl rfl rfl τ (setRow_heap w b qm _ el (0,0) g1) (fun j hj=>setRow_other w b j _ hj) (by
    have hsz:(qm.toList.take off++ys++qm.toList.drop (off+ys.length)).toArray.size=qm.size:=by simp;omega
    refine⟨⟨_,_,rfl,fun _=>rfl, ?_,fun hh=>Bool.noConfusion hh,fun _=>⟨b,c,hr,hsz.trans g5⟩⟩,g7,g8⟩;show aH ρ (t.flat xs') ((qm.toList.take off++ys++qm.toList.drop (off+ys.length)).take (t.flat xs').length);rw [QZ];refine hx _ ?_;rw [QY _ _ _ _ ω (by simpa using g6),k2,mb];exact((g3.take off).append hd).append (g3.drop _))
 exact⟨_,hst,q1,aQ⟩
def aay {pre mid post vs r:List af} {off:Nat} (h:ls mid off vs=some r):ls (pre++(mid++post)) (pre.length+off) vs=some (pre++(r++post)):=by
 have hh:∀(cs:List af) (o:Nat),o+vs.length<=cs.length->ls cs o vs=some (cs.take o++vs++cs.drop (o+vs.length)):=fun cs o ho=>by
  unfold ls;split
  .rename_i v;have ho':o<cs.length:=by simp at ho;omega
   rw [Jg,if_pos ho',ne _ _ _ ho'];rfl
  .rw [fA ho];rfl
 obtain⟨h1,h2⟩:=B4 h;rw [hh _ _ (by simp;omega),h2];congr 1;rw [List.take_append,eT ω,show pre.length+off-pre.length=off by omega,List.take_append,show off-mid.length=0 by omega];rw [List.drop_append,List.drop_eq_nil_of_le ω,List.nil_append,show pre.length+off+vs.length-pre.length=off+vs.length by omega,List.drop_append,show off+vs.length-mid.length=0 by omega];simp
def aaz {t:TypeId} {x y:Operand} {b off n:Nat} {w':World} (ho:o.op= .store t x y) (hx:e x= .pointer (some ⟨b,off,none⟩)) (hn:en P t=some n) (hsz:(e y).cells.size=n) (h:(storeCells ⟨b,off,none⟩ (e y).cells.toList).run P w= .ok () w'):(execOp e o).run P w= .ok .skip w':=by
 simp [execOp,ho,Instr.storeAt,storeVar,hx,Instr.sureAddr,jT hn,hsz,h]
def aaA (hH:bh P B ρ H w) {t:TypeId} {x y:Operand} {v u:af} (ho:o.op= .store t x y) (hx:Den ρ v (e x)) (hy:Den ρ u (e y)):cN P B ρ H w ((execOp e o).run P w) (nq P t v u H):=by
 unfold nq;split
 .rename_i e' ty i k off;cases hb:bz e' ty (H.get i) k with
  |false=>trivial
  |true=>
   obtain⟨b1,b2⟩:=vo hb;obtain⟨b,c,h1,h5⟩:=hx.xw;cases hc:(eU u.cells&&tv P t u.cells.length)with
   |false=>trivial
   |true=>
    simp only [cond_true];rw [ae]at hc;obtain⟨c1,c2⟩:=hc;unfold tv at c2;split at c2
    .rename_i n hn;have c2:=ac c2;split
     .rename_i d hd;simp only [dH]at hd;obtain⟨cs',p1,p2⟩:=hd;have nX:=QT c1;generalize hxs:bQ ty (H.get i)=xs at*;have hput:=aay (pre:=ty.flat (xs.take k)) (post:=ty.flat (xs.drop (k+1))) p1;rw [<-ty.Qq xs k b2,ty.Qr xs k b2]at hput;obtain⟨w',q1,aQ,b8⟩:=aax (xs':=xs.set k d) hH b1 h1 hput (hy.cells nX) c1 (fun zs hz=>by
       have e1:ty.flat (xs.set k d)=ty.flat (xs.take k)++(ty.cells d++ty.flat (xs.drop (k+1))):=by
        rw [List.set_eq_take_append_cons_drop,if_pos b2,av.B7,av.zI]
       rw [e1];have vu:(ty.flat (xs.take k)).length<=zs.length:=by rw [hz.length];simp
       have dx:=hz.take (ty.flat (xs.take k)).length;have z2:=hz.drop (ty.flat (xs.take k)).length;simp only [List.take_left',List.drop_left']at dx z2;have z3:=z2.take cs'.length;have z4:=z2.drop cs'.length;simp only [List.take_left',List.drop_left']at z3 z4;have z5:=av.ZA p2 z3;have:=dx.append (z5.append z4);rwa [List.take_append_drop,List.take_append_drop]at this) τ
      have hsz:(e y).cells.size=n:=by rw [<-c2,<-(hy.cells nX).length];simp
      exact fun _=>⟨ρ,undef,w', .skip,aaz ho h5 hn hsz q1,rfl, .raw _,aQ,b8⟩
     .trivial
    .cases c2
 .trivial
def aaB (hH:bh P B ρ H w) (he:∀x,Den ρ (ev x) (e x)) {t:TypeId} {x y:Operand} (ho:o.op= .store t x y):cN P B ρ H w ((execOp e o).run P w) (qf t x y P o ev H):=by
 unfold qf;cases hp:iH (ev x)with
 |no=>exact aaA hH ho (he x) (he y)
 |mk i off=>
  cases hb:s9 (H.get i)with
  |no=>simp only [hb];trivial
  |mk el cs ex cB ro=>
   simp only [hb];cases ro with
   |true=>trivial
   |false=>
    cases cB with
    |true=>trivial
    |false=>
     have hx:=he x;rw [B9 hp]at hx;obtain⟨b,c,h1,h2⟩:=hx.kH;show cN P B ρ H w _ (eu (BX P t i off (ev y) H el cs ex));cases hv:BX P t i off (ev y) H el cs ex with
     |none=>trivial
     |some q=>
      unfold BX at hv;cases hc:(eU (ev y).cells&&tv P t (ev y).cells.length)with
      |false=>rw [hc]at hv;cases hv
      |true=>
       rw [hc]at hv;simp only [cond_true,am]at hv;obtain⟨cs',hp',rfl⟩:=hv;rw [ae]at hc;obtain⟨c1,c2⟩:=hc;unfold tv at c2;split at c2
       .rename_i n hn;have c2:=ac c2;have nX:=QT c1;obtain⟨xs,w',_,k2,dG,mg⟩:=ER hH (Qv hb) h1 hp' ((he y).cells nX) c1;have hsz:(e y).cells.size=n:=by rw [<-c2,<-((he y).cells nX).length];simp
        exact fun _=>⟨ρ,undef,w', .skip,by simp [execOp,ho,Instr.storeAt,storeVar,h2,Instr.sureAddr,jT hn,hsz,k2],rfl, .raw _,dG,mg⟩
       .cases c2
end
section
variable {P:Program} {B:Nat} {ρ:Env} {H:ai} {w:World} {o:Oper} {ev:dJ} {e:Operand->Value}
def run_getObj_map {b:Nat} {es:Array MapEntry} {c:Nat} (h:w.heap[b]? =some (.map es c)):(getObj b).run P w= .ok (.map es c) w:=by
 simp [getObj,Sem.run,h]
def aaC {t:TypeId} {es:Array MapEntry} {c:Nat} {kv v:Value} {ok:Bool} {b:Nat} (h:IW P t es kv ok=some v) (hb:w.heap[b]? =some (.map es c)):(Instr.lookup t (.map (some b)) kv ok).run P w= .ok v w:=by
 unfold IW at h;split at h
 .rename_i kt et hu;simp only [dH]at h;obtain⟨_,h1,r,h2,h3⟩:=h;have e1:=nV _ w h1;have e2:=nV _ w h2;cases r with
  |none=>
   simp only [am]at h3;obtain⟨z,hz,rfl⟩:=h3;simp only [Instr.lookup,Sem.run_bind,dw hu,Result.andThen_ok,run_getObj_map hb,Sem.run_pure,e1,e2,EH hz]
  |some p=>
   obtain⟨i,v'⟩:=p;simp only [s8]at h3;subst h3;simp only [Instr.lookup,Sem.run_bind,dw hu,Result.andThen_ok,run_getObj_map hb,Sem.run_pure,e1,e2]
 .cases h
def aaD (hH:bh P B ρ H w) (he:∀x,Den ρ (ev x) (e x)) {t:TypeId} {m k:Operand} {ok:Bool} (ho:o.op= .lookup t m k ok):cN P B ρ H w ((execOp e o).run P w) (BW t m k ok P o ev H):=by
 refine l8 hH fun v hv=> ?_
 unfold I6 at hv;split at hv
 .rename_i i kv hm hk;have hm':=he m;rw [hm]at hm';obtain⟨b,c,h1,h2⟩:=hm'.vk;split at hv
  .rename_i es clock hg;simp only [am]at hv;obtain⟨y,hy,rfl⟩:=hv;obtain⟨lC,g1,g2,_⟩:=hH.at hg h1;have g2:lC= .map es clock:=g2;subst g2;refine lz (y:=y) ?_ (.raw y);simp [execOp,ho,h2,(he k).fh hk,aaC hy g1]
  .cases hv
 .exact vp he (by rw [ho];rfl) hv w
def Js {b:Nat} {es:Array MapEntry} {c:Nat} (h:w.heap[b]? =some (.map es c)) (o':Obj):(setObj b o').run P w= .ok () {w with heap:=w.heap.setIfInBounds b o'}:=by
 simp [setObj,Sem.run,h]
def aaE {t:TypeId} {es es':Array MapEntry} {c c':Nat} {kv xv:Value} {b:Nat} (h:IX P t es c kv xv=some (es',c')) (hb:w.heap[b]? =some (.map es c)):
  (Instr.mapUpdate t (.map (some b)) kv xv).run P w= .ok () {w with heap:=w.heap.setIfInBounds b (.map es' c')}:=by
 unfold IX at h;split at h
 .rename_i kt et hu;simp only [dH]at h;obtain⟨_,h1,r,h2,h3⟩:=h;have e1:=nV _ w h1;have e2:=nV _ w h2;cases r with
  |none=>
   simp only [s8,Prod.mk.injEq]at h3;obtain⟨rfl,rfl⟩:=h3;simp only [Instr.mapUpdate,Sem.run_bind,dw hu,Result.andThen_ok,run_getObj_map hb,e1,e2,Js hb]
  |some p=>
   obtain⟨i,v'⟩:=p;simp only [am,Prod.mk.injEq]at h3;obtain⟨k,hk,rfl,rfl⟩:=h3;have e3:=nV _ w hk;simp only [Instr.mapUpdate,Sem.run_bind,dw hu,Result.andThen_ok,run_getObj_map hb,e1,e2,e3,Js hb]
 .cases h
def Jt {b j:Nat} (o':Obj) (h:j≠b):(w.heap.setIfInBounds b o')[j]? =w.heap[j]? :=by
 simp [Ne.symm h]
def Ju {b:Nat} {o0:Obj} (o':Obj) (h:w.heap[b]? =some o0):(w.heap.setIfInBounds b o')[b]? =some o':=by
 have:=(dz.1 h).1;simp [this]
def aaF {t:TypeId} {kv xv:Value} {b:Nat} (h:EB P t kv=true) (hb:w.heap[b]? =some (.map #[] 0)):
  (Instr.mapUpdate t (.map (some b)) kv xv).run P w= .ok () {w with heap:=w.heap.setIfInBounds b (.map #[{key:=kv,val:=xv,born:=0}] 1)}:=by
 unfold EB at h;split at h
 .rename_i kt et hu;split at h
  .rename_i h1 h2;have e1:=nV _ w h1;have e2:=nV _ w h2;simp only [Instr.mapUpdate,Sem.run_bind,dw hu,Result.andThen_ok,run_getObj_map hb,e1,e2,Js hb];rfl
  .cases h
 .cases h
section
variable (hH:bh P B ρ H w) (he:∀x,Den ρ (ev x) (e x)) {t:TypeId}
def Q0 {m k x:Operand} {r:Result Next} (hr:∀u w',(Instr.mapUpdate t (e m) (e k) (e x)).run P w= .ok u w'->r= .ok .skip w'):cN P B ρ H w r (oW t m k x P o ev H):=by
 unfold oW;cases hv:BZ P t (ev m) (ev k) (ev x) H with
 |none=>trivial
 |some q=>
  unfold BZ at hv;split at hv
  .rename_i i kv xv hm hk hx;have hm':=he m;rw [hm]at hm';obtain⟨b,c,h1,h2⟩:=hm'.vk;split at hv
   .rename_i es clock hg;simp only [am]at hv;obtain⟨p,hy,rfl⟩:=hv;obtain⟨es',clock'⟩:=p;obtain⟨lC,g1,g2,_⟩:=hH.at hg h1;have g2:lC= .map es clock:=g2;subst g2;have Jv:=aaE (w:=w) hy g1;have hr':=hr _ _ (by rw [h2,(he k).fh hk,(he x).fh hx];exact Jv);obtain⟨q1,aQ⟩:=jj hH hg h1 rfl (k:= .map es' clock') {w with heap:=w.heap.setIfInBounds b (.map es' clock')} (.map es' clock') rfl rfl rfl τ (Ju _ g1) (fun j hj=>Jt _ hj) rfl;exact fun _=>⟨ρ,undef,_, .skip,hr',rfl, .raw _,q1,aQ⟩
   .cases hv
  .rename_i hx;unfold I7 at hv;split at hv
   .rename_i i kv hm hk;have hm':=he m;rw [hm]at hm';obtain⟨b,c,h1,h2⟩:=hm'.vk;split at hv
    .rename_i hg;obtain⟨lC,g1,g2,_⟩:=hH.at hg h1;have g2:lC= .map #[] 0:=g2;subst g2;cases ho:EB P t kv with
     |false=>rw [ho]at hv;cases hv
     |true=>
      rw [ho]at hv;cases hv;have Jv:=aaF (w:=w) (xv:=e x) ho g1;have hr':=hr _ _ (by rw [h2,(he k).fh hk];exact Jv);obtain⟨q1,aQ⟩:=jj hH hg h1 rfl (k:= .one kv (ev x)) {w with heap:=w.heap.setIfInBounds b (.map #[{key:=kv,val:=e x,born:=0}] 1)} (.map #[{key:=kv,val:=e x,born:=0}] 1) rfl rfl rfl τ (Ju _ g1) (fun j hj=>Jt _ hj) ⟨_,rfl,he x⟩;exact fun _=>⟨ρ,undef,_, .skip,hr',rfl, .raw _,q1,aQ⟩
    .cases hv
   .cases hv
  .cases hv
def aaG {m k x:Operand} (ho:o.op= .mapUpdate t m k x):cN P B ρ H w ((execOp e o).run P w) (oW t m k x P o ev H):=
 Q0 hH he fun u w' h=>by simp [execOp,ho,h]
def aaH {m k x:Operand} (ho:o.op= .insert t m k x):cN P B ρ H w ((execOp e o).run P w) (oW t m k x P o ev H):=
 Q0 hH he fun u w' h=>by simp [execOp,ho,h]
def aaI {r:Option Operand} (ho:o.op= .makeMap t r):cN P B ρ H w ((execOp e o).run P w) (zC t r P o ev H):=by
 unfold zC;have fin:(execOp e o).run P w= .ok (.value (.map (some w.heap.size))) (w.alloc (.map #[] 0))->cN P B ρ H w ((execOp e o).run P w) (.ok (.map H.next) (H.new (.map #[] 0))):=fun h=>
  xB hH 0 h (.map (Env.dn ..)) rfl
 unfold rJ;split
 .exact fin (by simp [execOp,ho,Instr.makeMap])
 .rename_i x;split
  .rename_i kt et eG n hu hx;have:=he x;rw [hx]at this;have ex:=this.cc;exact fin (by simp [execOp,ho,Instr.makeMap,dw hu,ex,asInt,asIntOf])
  .trivial
end
section
variable {b s l:Nat} {m:Option Nat} {q:Array Nat}
def ES (h:w.heap[b]? =some (.mapIter m s q l)):(getObj b).run P w= .ok (.mapIter m s q l) w:=by
 simp [getObj,Sem.run,h]
def aaJ (h:w.heap[b]? =some (.mapIter m s q l)) (o':Obj):(setObj b o').run P w= .ok () {w with heap:=w.heap.setIfInBounds b o'}:=by
 simp [setObj,Sem.run,h]
end
def Q1 {i j b q:Nat} (h:i≠j):(ρ.put j b q) i=ρ i:=by simp [Env.put,h]
def aaK (hH:bh P B ρ H w) (he:∀x,Den ρ (ev x) (e x)) {t:TypeId} {x:Operand} (ho:o.op= .range t x):cN P B ρ H w ((execOp e o).run P w) (zD t x P o ev H):=by
 unfold zD EC;split
 .rename_i kt et i hu hx;have hx':=he x;rw [hx]at hx';obtain⟨b,q,h1,h2⟩:=hx'.vk;have fin:∀(es:Array MapEntry) (c:Nat),w.heap[b]? =some (.map es c)->(execOp e o).run P w= .ok (.value (.pointer (some ⟨w.heap.size,0,none⟩))) (w.alloc (.mapIter (some b) c #[] c)):=fun es c hb=>by
   simp only [execOp,ho,Instr.range,Sem.run_bind,dw hu,Result.andThen_ok,h2,run_getObj_map hb,Sem.run_pure];simp [newObj,Sem.run]
  split
  .rename_i hg;obtain⟨lC,g1,g2,_⟩:=hH.at hg h1;have g2:lC= .map #[] 0:=g2;subst g2;exact xB hH 0 (fin _ _ g1) (.ptr (Env.dn ..)) ⟨b,q,(Q1 (Nat.ne_of_lt (hH.lt _ _ hg))).trans h1,rfl⟩
  .rename_i kv v hg;obtain⟨lC,g1,⟨xv,g2,_⟩,_⟩:=hH.at hg h1;subst g2;exact xB hH 0 (fin _ _ g1) (.ptr (Env.dn ..)) ⟨b,q,(Q1 (Nat.ne_of_lt (hH.lt _ _ hg))).trans h1,rfl⟩
  .trivial
 .trivial
section
variable {b r:Nat} {t:TypeId}
def aaL (h1:w.heap[r]? =some (.mapIter (some b) 0 #[] 0)) (h2:w.heap[b]? =some (.map #[] 0)):(Instr.next (.pointer (some ⟨r,0,none⟩)) false t).run P w= .ok (.tuple #[.bool false]) w:=by
 simp [Instr.next,ES h1,run_getObj_map h2,Question.forced]
def aaM {k x:Value} (h1:w.heap[r]? =some (.mapIter (some b) 1 #[] 1)) (h2:w.heap[b]? =some (.map #[{key:=k,val:=x,born:=0}] 1)):
  (Instr.next (.pointer (some ⟨r,0,none⟩)) false t).run P w= .ok (.tuple #[.bool true,k,x]) {w with heap:=w.heap.setIfInBounds r (.mapIter (some b) 1 #[0] 1)}:=by
 simp [Instr.next,ES h1,run_getObj_map h2,aaJ h1,Question.forced]
def GT {k x:Value} (h1:w.heap[r]? =some (.mapIter (some b) 1 #[0] 1)) (h2:w.heap[b]? =some (.map #[{key:=k,val:=x,born:=0}] 1)):
  (Instr.next (.pointer (some ⟨r,0,none⟩)) false t).run P w= .ok (.tuple #[.bool false]) w:=by
 simp [Instr.next,ES h1,run_getObj_map h2,Question.forced]
end
def aaN {b r:Nat} {k x:Value} (h1:w.heap[r]? =some (.mapIter (some b) 1 #[0] 1)) (h2:w.heap[b]? =some (.map #[{key:=k,val:=x,born:=0}] 1)):
  (Instr.entry (.pointer (some ⟨r,0,none⟩))).run P w= .ok (.tuple #[k,x]) w:=by
 simp [Instr.entry,ES h1,run_getObj_map h2]
section
variable (hH:bh P B ρ H w) (he:∀x,Den ρ (ev x) (e x)) {x:Operand}
def aaO {s:Bool} (ho:o.op= .next x s):cN P B ρ H w ((execOp e o).run P w) (wn x s P o ev H):=by
 unfold wn ED;split
 .rename_i j hx;have hx':=he x;rw [hx]at hx';obtain⟨r,qo,r1,r2⟩:=hx'.kH;have hrun:∀y w',(Instr.next (.pointer (some ⟨r,0,none⟩)) false o.type).run P w= .ok y w'->(execOp e o).run P w= .ok (.value y) w':=fun y w' h=>by simp [execOp,ho,r2,h]
  unfold I8;split
  .rename_i i hj;obtain⟨oj,j1,⟨b,q,j2,tL⟩,_⟩:=hH.at hj r1;subst tL;split
   .rename_i hi;obtain⟨oi,i1,i2,_⟩:=hH.at hi j2;have i2:oi= .map #[] 0:=i2;subst i2;exact fQ hH (hrun _ _ (aaL j1 i1)) (.tuple (.cons (.raw _) .nil))
   .trivial
  .rename_i i hj;obtain⟨oj,j1,⟨b,q,j2,tL⟩,_⟩:=hH.at hj r1;subst tL;split
   .rename_i kv v hi;obtain⟨oi,i1,⟨xv,i2,i3⟩,_⟩:=hH.at hi j2;subst i2;obtain⟨q1,aQ⟩:=jj hH hj r1 rfl (k:= .iter i 1 true) {w with heap:=w.heap.setIfInBounds r (.mapIter (some b) 1 #[0] 1)} (.mapIter (some b) 1 #[0] 1) rfl rfl rfl τ (Ju _ j1) (fun j hj=>Jt _ hj) ⟨b,q,j2,rfl⟩;exact fun _=>⟨ρ,_,_,_,hrun _ _ (aaM j1 i1),rfl, .tuple (.cons (.raw _) (.cons (.raw _) (.cons i3 .nil))),q1,aQ⟩
   .trivial
  .rename_i i hj;obtain⟨oj,j1,⟨b,q,j2,tL⟩,_⟩:=hH.at hj r1;subst tL;split
   .rename_i kv v hi;obtain⟨oi,i1,⟨xv,i2,i3⟩,_⟩:=hH.at hi j2;subst i2;exact fQ hH (hrun _ _ (GT j1 i1)) (.tuple (.cons (.raw _) .nil))
   .trivial
  .trivial
 .trivial
def aaP (ho:o.op= .entry x):cN P B ρ H w ((execOp e o).run P w) (B0 x P o ev H):=by
 refine l8 hH fun v hv=> ?_
 unfold Qj at hv;split at hv
 .rename_i j hx;have hx':=he x;rw [hx]at hx';obtain⟨r,qo,r1,r2⟩:=hx'.kH;unfold Qi at hv;split at hv
  .rename_i i hj;obtain⟨oj,j1,⟨b,q,j2,tL⟩,_⟩:=hH.at hj r1;subst tL;split at hv
   .rename_i kv v' hi;obtain⟨oi,i1,⟨xv,i2,i3⟩,_⟩:=hH.at hi j2;subst i2;cases hv;exact lz (y:= .tuple #[kv,xv]) (by simp [execOp,ho,r2,aaN j1 i1]) (.tuple (.cons (.raw _) (.cons i3 .nil)))
   .cases hv
  .cases hv
 .cases hv
end
def Jw:∀{cs:List af} {bs:List UInt8} {xs:List Value},bytesOf cs=some bs->aH ρ cs xs->xs=bs.map fun b=>Value.int .u8 b.toNat
 |[],bs,_,h, .nil=>by simp [bytesOf]at h;simp [h]
 |v::cs,bs,_,h, .cons hv hs=>by
  unfold bytesOf at h;split at h
  .cases ‹_::_=[]›
  .rename_i n l hl;cases hl;cases hb:Nat.ble (n+1) 256 with
   |false=>rw [hb]at h;cases h
   |true=>
    rw [hb]at h;have hb:=bU hb;simp only [cond_true,am]at h;obtain⟨r,hr,rfl⟩:=h;have:=Jw hr hs;rw [hv.cc,this,List.map_cons];congr 2;have:(UInt8.ofNat n).toNat=n:=by simp;omega
    rw [this];rfl
  .cases h
def ET {b off:Nat} {xs:Array Value} {el:TypeId} {fz:Nat×Nat} {n k:Nat} (h:w.heap[b]? =some (.cells xs el fz)):∀(j:Nat) (y:Value),(((xs.toList.take n).drop off).take k)[j]? =some y->w.cell? ((⟨b,off,none⟩:Addr).add j)=some y:=fun j y hj=>by
 rw [jU,cell_of h];rw [List.getElem?_take]at hj;split at hj
 .rw [List.getElem?_drop]at hj;exact xC hj
 .cases hj
def nz {cs:List af} {xs:List Value} {off n:Nat} (hd:aH ρ cs xs) (h:off+n<=cs.length):((xs.drop off).take n).length=n:=by
 have:=hd.length;simp only [eE,nQ];omega
def Jx {b:Nat} {xs:Array Value} {el:TypeId} {fz:Nat×Nat} (h:w.heap[b]? =some (.cells xs el fz)):w.shape? b=some (el,xs.size):=by simp [World.shape?,h]
def aaQ (hH:bh P B ρ H w) (he:∀x,Den ρ (ev x) (e x)) {s d:TypeId} {x:Operand} (ho:o.op= .convert s d x):cN P B ρ H w ((execOp e o).run P w) (zA s d x P o ev H):=by
 have hp:qj o.op=true:=by rw [ho];rfl
 have hx:=he x;have Q2:cN P B ρ H w ((execOp e o).run P w) (eu ((gen P o ev).map fun v=>(v,H))):=by
  have:=vq (P:=P) (w:=w) hH he hp;cases hg:gen P o ev with
  |none=>trivial
  |some v=>rw [hg]at this;exact this
 have hrun:∀y w',(convert s d (e x)).run P w= .ok y w'->(execOp e o).run P w= .ok (.value y) w':=fun y w' h=>by simp [execOp,ho,h]
 unfold zA;unfold qc;split
 .rename_i i off len cap gq;rw [gq]at hx;obtain⟨b,c,k,h1,hc,hl,h2⟩:=hx.ij;split
  .rename_i el e' cs ex cB ro hs hd hg;split
   .rename_i hel;cases hb:Nat.ble (off+len) cs.length with
    |false=>trivial
    |true=>
     have hb:=bU hb;simp only [cond_true];cases lD:bytesOf (cut cs off len)with
     |none=>trivial
     |some bs=>
      obtain⟨xs,fz,g1,_,g3,_⟩:=l9 hH hg h1;have q1:=Jw lD ((g3.drop off).take len);have hlen:bs.length=len:=by have:=nz g3 hb;rw [q1]at this;simpa using this
      subst hlen;refine fQ hH (y:= .string ⟨bs.toArray⟩) (hrun _ _ ?_) (.raw _);rw [h2];refine run_convert_bytes_back w s d el ⟨b,off,none⟩ k bs hs hel hd fun j hj=> ?_
      have hcut:=ET (n:=cs.length) (k:=bs.length) (off:=off) g1 j (.int .u8 bs[j].toNat);rw [q1]at hcut;exact hcut (by simp [hj])
   .trivial
  .trivial
 .rename_i i off gq;rw [gq]at hx;obtain⟨b,c,h1,h2⟩:=hx.kH;split
  .rename_i t el cs ex cB ro hs hd hg;split
   .rename_i n hn;cases hb:Nat.ble (off+1) cs.length with
    |false=>trivial
    |true=>
     have hb:=bU hb;obtain⟨xs,fz,g1,_,g3,_,_,g6⟩:=l9 hH hg h1;obtain⟨inf,hi,hsz⟩:=xx hn;refine fQ hH (y:= .pointer (some ⟨b,off,none⟩)) (hrun _ _ ?_) (.ptr h1);rw [h2];exact run_convert_to_unsafe (t:=t) hs hd (by simp [hi,hsz]) (v:=xs[off]'ω) (by rw [cell_of g1];exact Array.getElem?_eq_getElem ω)
   .trivial
  .rename_i u el cs cB ro hs hd hg;cases hb:((en P u).isSome&&liesAt P P.depth el (cs.length/P.cellsOf el) off u 1)with
   |false=>trivial
   |true=>
    rw [ae]at hb;obtain⟨ju,hb⟩:=hb;obtain⟨n,hn⟩:=Option.isSome_iff_exists.1 ju;obtain⟨xs,fz,g1,_,g3,g4,_,g6⟩:=l9 hH hg h1;have hsz:=g4 rfl;refine fQ hH (y:= .pointer (some ⟨b,off,none⟩)) (hrun _ _ ?_) (.ptr h1);rw [h2];have hsh:=Jx g1;rw [hsz]at hsh;simp [convert,dw hs,dw hd,Conv.unsafePointer,Conv.seenAt,viewAt,hsh,jT hn,variablesAt,hb]
  .trivial
 .rename_i iY gq;split
  .rename_i el hs hd;split
   .rename_i hel;cases hb:Nat.beq (P.cellsOf el) 1 with
    |false=>trivial
    |true=>
     have hb:=ac hb;rw [gq]at hx;have ex:=hx.cc;intro hf;have hr:=run_bytes_of_string (P:=P) w s d el iY hs hd hel;obtain⟨q1,aQ⟩:=tE hH.drew hf (grownCap w iY.size 0 el) (.cells el (iY.data.toList.map fun x=> .raw (.int .u8 x.toNat)) false true false)
      (.cells (bytesRow iY (grownCap w iY.size 0 el)) el ((bytesRow iY (grownCap w iY.size 0 el)).size,(bytesRow iY (grownCap w iY.size 0 el)).size+1)) (by
        have hge:=grownCap_ge w iY.size 0 el;refine⟨_,_,rfl,(fun h=>by cases h), ?_,(fun h=>by cases h),fun _=>⟨_,_,Env.dn .., ?_⟩⟩
        .have e1:(bytesRow iY (grownCap w iY.size 0 el)).toList.take (iY.data.toList.map fun x=>af.raw (.int .u8 x.toNat)).length=iY.data.toList.map fun x=>Value.int .u8 x.toNat:=by
          simp only [bytesRow,Array.toList_append,Array.toList_map,zk];rw [List.take_left' τ]
         rw [e1];have:=aH.rL (ρ:=ρ.put H.next w.drew.heap.size (grownCap w iY.size 0 el)) (iY.data.toList.map fun x=>Value.int .u8 x.toNat);simpa [List.map_map,Function.comp_def]using this
        .rw [hb,Nat.mul_one];have hsz:iY.data.size=iY.size:=rfl;simp only [bytesRow,Array.size_append,Array.size_map,Array.size_replicate,hsz];omega)
     refine⟨_, .slice (some ⟨w.heap.size,0,none⟩) iY.size (grownCap w iY.size 0 el),_,_,hrun _ _ (by rw [ex];exact hr),rfl, ?_,q1,aQ.drew⟩;exact .slice (Env.dn ..) rfl (grownCap_ge w iY.size 0 el)
   .trivial
  .exact Q2
 .exact Q2
end
section
variable {P:Program} {B:Nat} {ρ:Env} {H:ai} {w:World} {o:Oper} {ev:dJ} {e:Operand->Value}
def Q3 (hH:bh P B ρ H w) {s n:Nat} {x:af} {y:Value} {news:List af} {tx:TypeId} (hk:(∃e',P.underlying tx=some (.slice e'))\/P.underlying tx=some .string) (h:src H s x=some (news,n)) (hx:Den ρ x y):
  ∃ys,aH ρ news ys/\ys.length=n*s/\((∀u∈ys,u.oneCell'=true)->Go.Src P s tx y n ys w):=by
 unfold src at h;split at h
 .rename_i c;cases h;have:=hx.cc;subst this;exact⟨[], .nil,by simp,fun _=>⟨hk,fun _=>rfl,run_firstCells_none w s 0 0 c,run_firstCells_none w.drew s 0 0 c,by simp,fun _ h=>by cases h⟩⟩
 .rename_i b;cases hs:Nat.beq s 1 with
  |false=>rw [hs]at h;cases h
  |true=>
   rw [hs]at h;cases h;have hs:=ac hs;subst hs;have:=hx.cc;subst this;have hd:=aH.rL (ρ:=ρ) (byteCells b);refine⟨byteCells b, ?_,by rw [byteCells_length,Nat.mul_one],fun h1=>⟨hk,fun _=>rfl,firstCells_string b w,firstCells_string b w.drew,by rw [byteCells_length,Nat.mul_one],h1⟩⟩;simpa [byteCells,List.map_map,Function.comp_def]using hd
 .rename_i i off len cap;split at h
  .rename_i el cs ex cB ro hg;cases hb:Nat.ble (off+len*s) cs.length with
   |false=>rw [hb]at h;cases h
   |true=>
    rw [hb]at h;cases h;have hb:=bU hb;obtain⟨b,c,k,h1,_,_,rfl⟩:=hx.ij;obtain⟨xs,fz,g1,_,g3,_⟩:=l9 hH hg h1;have hl:=nz g3 hb;refine⟨_,(g3.drop off).take (n*s),hl,fun ho=>⟨hk,fun _=>rfl,run_firstCells_some w s n ⟨b,off,none⟩ n k _ hl (ET g1),run_firstCells_some w.drew s n ⟨b,off,none⟩ n k _ hl (ET (w:=w.drew) g1),hl,ho⟩⟩
  .cases h
 .cases h
section
variable {t tx ty el:TypeId} {i:TypeInfo} (ht:P.underlying t=some (.slice el))
def EU (hi:P.info? el=some i) {y:Value} (hs:Go.Src P i.size tx y 0 [] w) (base:Option Addr) {len k:Nat} (hl:len<=k):
  (Builtin.append_ #[t,tx] ty #[.slice base len k,y]).run P w= .ok (.slice base len k) w:=by
 rcases hs.kind with⟨e',hk⟩|hk<;>cases base<;>simp [Builtin.append_,run_underlying ht,run_underlying hk,sizeOf,typeInfo,hi,hs.len,hs.cells,hl,storeCells]
def Q4 (hi:P.info? el=some i) {y:Value} {n:Nat} {ys:List Value} (hs:Go.Src P i.size tx y n ys w) {b len k:Nat} (hr:len+n<=k) {w':World}
  (hst:(storeCells ⟨b,len*i.size,none⟩ ys).run P w= .ok () w'):(Builtin.append_ #[t,tx] ty #[.slice (some ⟨b,0,none⟩) len k,y]).run P w= .ok (.slice (some ⟨b,0,none⟩) (len+n) k) w':=by
 rcases hs.kind with⟨e',hk⟩|hk<;>simp [Builtin.append_,run_underlying ht,run_underlying hk,sizeOf,typeInfo,hi,hs.len,hr,hs.cells,Addr.add_lit,hst]
end
def rN {b:Builtin} {args:Array Operand} {argTypes:Array TypeId} (ho:o.op= .call {callee:= .builtin b,args,argTypes}) {eH:Next} {w':World}
  (h:∀cs,(builtin b argTypes o.type cs (args.map e)).run P w= .ok eH w'):(execOp e o).run P w= .ok eH w':=by
 simp only [execOp,ho,resolve,Sem.run_bind,Sem.run_pure,Result.andThen_ok,invoke];exact h _
def aaR {ρ:Env} {i b c:Nat} {el:TypeId} {cs:List af} {xs:Array Value} {zs:Array Value} (hr:ρ i=some (b,c)) (h:aH ρ cs xs.toList) (hsz:(xs++zs).size=c*P.cellsOf el):gK P ρ i (.cells el cs false false false) (.cells (xs++zs) el):=by
 refine⟨_,(0,0),rfl,fun _=>rfl, ?_,(fun h=>by cases h),fun _=>⟨b,c,hr,hsz⟩⟩;rw [Array.toList_append,List.take_left' h.length];exact h
def Jy {el:TypeId} {i:TypeInfo} (hi:P.info? el=some i):P.cellsOf el=i.size:=by simp [Program.cellsOf,hi]
def Jz (hH:bh P B ρ H w) (hf:Fr ρ H.next (H.next+1)) {el:TypeId} {i:TypeInfo} {z:Value} (hi:P.info? el=some i) (hz:z.cells.size=i.size) {cs:List af} {xs:List Value} (hd:aH ρ cs xs) {need old:Nat} (hl:xs.length=need*i.size):
  bh P B (ρ.put H.next w.heap.size (grownCap w need old el)) (H.new (.cells el cs false false false)) (w.drew.alloc (.cells (xs.toArray++Builtin.zeroCells z.cells (grownCap w need old el-need)) el))/\
   bS ρ H w (ρ.put H.next w.heap.size (grownCap w need old el)) (H.new (.cells el cs false false false)) (w.drew.alloc (.cells (xs.toArray++Builtin.zeroCells z.cells (grownCap w need old el-need)) el)):=by
 have hn:ρ H.next=none:=hf H.next (aJ _) (fB _);obtain⟨q1,aQ⟩:=tE hH.drew hf (grownCap w need old el) (.cells el cs false false false) (.cells (xs.toArray++Builtin.zeroCells z.cells (grownCap w need old el-need)) el)
  (aaR (P:=P) (Env.dn ..) ((show aH ρ cs xs.toArray.toList by simpa using hd).mono (Env.o5 hn)) (by
    have hge:=grownCap_ge w need old el;rw [Jy hi];simp only [Array.size_append,List.size_toArray,size_zeroCells,hz,hl,<-Nat.add_mul];congr 1;omega))
 exact⟨q1,aQ.drew⟩
def JA {need old bytes:Nat} (h:old<need) (hb:need*bytes<=140737488355328):Builtin.nextslicecap need old*bytes<=281474976710656:=growslice_fits h hb
section
variable (hH:bh P B ρ H w)
def As {t tx ty el:TypeId} {i:TypeInfo} {z:Value} (ht:P.underlying t=some (.slice el)) (hi:P.info? el=some i) (hz:i.zero=some z) (hzs:z.cells.size=i.size) {y:Value} {n:Nat} {ys:List Value} (hs:Go.Src P i.size tx y n ys w)
  {news:List af} (hd:aH ρ news ys) (h1:eU news=true) {id len:Nat} {cap:aZ} {xv:Value} (hx:Den ρ (.slice id 0 len cap) xv) {q:af×ai} (hv:xe el i.size i.bytes id len cap news n H=some q) (hf:Fr ρ H.next q.2.next):
  ∃ρ' x w',(Builtin.append_ #[t,tx] ty #[xv,y]).run P w= .ok x w'/\Den ρ' q.1 x/\bh P B ρ' q.2 w'/\bS ρ H w ρ' q.2 w':=by
 unfold xe at hv;cases hb:bounded (len+n) i.bytes with
 |false=>rw [hb]at hv;cases hv
 |true=>
  rw [hb]at hv;simp only [bounded,ae]at hb;have b1:=bU hb.1;have b2:=bU hb.2;simp only [cond_true]at hv;split at hv
  .rename_i e' cs Q5 hg;cases Cf:(Nat.beq el e'&&Nat.ble (len*i.size) cs.length)with
   |false=>rw [Cf]at hv;cases hv
   |true=>
    rw [Cf]at hv;rw [ae]at Cf;have b3:=ac Cf.1;have b4:=bU Cf.2;subst b3;simp only [cond_true]at hv;obtain⟨b,c,k,g1,gc,gl,rfl⟩:=hx.ij;obtain⟨xs,fz,k1,k2,dG,mg,o7,xD⟩:=l9 hH hg g1;have hfz:=k2 rfl;subst hfz
    -- the elements that were there
    have Q6:((xs.toList.take cs.length).take (len*i.size)).length=len*i.size:=by
     have:=dG.length;rw [eE,this];omega
    have hold:aH ρ (cs.take (len*i.size)) ((xs.toList.take cs.length).take (len*i.size)):=dG.take _;have aaS:=run_firstCells_some (P:=P) w.drew i.size len ⟨b,0,none⟩ len k _ Q6 (fun j v hj=>by
     rw [List.take_take]at hj;have:=xC (n:=min (len*i.size) cs.length) hj;rw [jU];show w.cell? _=_;rw [cell_of k1];simpa using this)
    have hys:=hs.newsLen
    -- the way that lays a new row
    have grow:k<len+n->∀H0:ai,bh P B ρ H0 w->bS ρ H w ρ H0 w->H0.next=H.next->q=(.slice H0.next 0 (len+n) .full,H0.new (.cells el (cs.take (len*i.size)++news) false false false))->
      ∃ρ' x w',(Builtin.append_ #[t,tx] ty #[.slice (some ⟨b,0,none⟩) len k,y]).run P w= .ok x w'/\Den ρ' q.1 x/\bh P B ρ' q.2 w'/\bS ρ H w ρ' q.2 w':=by
     intro hlt H0 EV aaT hnx hq;subst hq;have hf':Fr ρ H0.next (H0.next+1):=by rw [hnx];have:(H0.new (.cells el (cs.take (len*i.size)++news) false false false)).next=H0.next+1:=rfl;rw [this,hnx]at hf;exact hf
     have hr:=run_append_grow_src (P:=P) w t tx ty el i z ht hi hz (some ⟨b,0,none⟩) len k _ aaS y n ys hs hlt ω (JA hlt b1);obtain⟨q1,aQ⟩:=Jz EV hf' (need:=len+n) (old:=k) hi hzs (hold.append hd) (by rw [cW,Q6,hys,Nat.add_mul]);exact⟨_,_,_,hr, .slice (Env.dn ..) rfl (grownCap_ge w (len+n) k el),q1,aaT.trans aQ⟩
    cases cap with
    |known c'=>
     have hkc:k=c':=gc;subst hkc;simp only at hv;cases Cg:Nat.ble (len+n) k with
     |true=>
      rw [Cg]at hv;have gu:=bU Cg;simp only [cond_true,am]at hv;obtain⟨cs',hp,rfl⟩:=hv;obtain⟨_,w',_,r2,r3,mh⟩:=ER hH hg g1 hp hd h1;exact⟨ρ,_,w',Q4 ht hi hs gu r2, .slice g1 rfl gu,r3,mh⟩
     |false=>
      rw [Cg]at hv;simp only [cond_false,s8]at hv;have hlt:k<len+n:=by
       refine Nat.lt_of_not_le fun hh=> ?_
       rw [fA hh]at Cg;cases Cg
      exact grow hlt H hH (bS.refl _ _ _) rfl hv.symm
    |full=>
     have hkc:k=c:=gc;subst hkc;cases Q5 with
     |true=>cases hv
     |false=>
      simp only [cond_false,s8]at hv;by_cases hlt:k<len+n
      .obtain⟨d1,d2⟩:=Qp hH id;exact grow hlt (H.drop id) d1 d2 rfl hv.symm
      .have hle:len+n<=k:=Nat.le_of_not_lt hlt;subst hv;have hxs:=o7 rfl;have hsz:len*i.size+ys.length<=xs.size:=by
        rw [hxs,Jy hi,hys,<-Nat.add_mul];exact Nat.mul_le_mul_right _ hle
       have hst:=run_storeCells_at P b (len*i.size) el ys 0 xs w k1 (by simpa using hsz) hs.one;simp only [Nat.add_zero]at hst;have hn:ρ H.next=none:=hf H.next (aJ _) (fB _);obtain⟨r3,mh⟩:=Zz hH hf hg g1 rfl (k:= .cells el (cs.take (len*i.size)++news) false false false) (w.setRow b (xs.toList.take (len*i.size)++ys++xs.toList.drop (len*i.size+ys.length)).toArray)
        (.cells (xs.toList.take (len*i.size)++ys++xs.toList.drop (len*i.size+ys.length)).toArray el (0,0)) rfl rfl rfl τ (setRow_heap w b xs _ el (0,0) k1) (fun j hj=>setRow_other w b j _ hj) (by
          refine⟨_,_,rfl,fun _=>rfl, ?_,(fun h=>by cases h),fun _=>⟨b,k,Env.dn .., ?_⟩⟩
          .have e1:(xs.toList.take cs.length).take (len*i.size)=xs.toList.take (len*i.size):=by rw [List.take_take,Nat.min_eq_left b4]
           have hd':=(hold.append hd);rw [e1]at hd';have e2:((xs.toList.take (len*i.size)++ys++xs.toList.drop (len*i.size+ys.length)).toArray.toList).take (cs.take (len*i.size)++news).length=xs.toList.take (len*i.size)++ys:=by
            show(xs.toList.take (len*i.size)++ys++xs.toList.drop (len*i.size+ys.length)).take _=_;exact List.take_left' hd'.length
           rw [e2];exact hd'.mono (Env.o5 hn)
          .rw [<-hxs];simp;omega)
       exact⟨_,_,_,Q4 ht hi hs hle hst, .slice (Env.dn ..) rfl hle,r3,mh⟩
    |any=>cases hv
  .cases hv
def aaU {t tx ty:TypeId} (hk:(∃e',P.underlying tx=some (.slice e'))\/P.underlying tx=some .string) {s x:af} {sv y:Value} (hs:Den ρ s sv) (hx:Den ρ x y) {q:af×ai} (hv:zv P t s x H=some q) (hf:Fr ρ H.next q.2.next):
  ∃ρ' r w',(Builtin.append_ #[t,tx] ty #[sv,y]).run P w= .ok r w'/\Den ρ' q.1 r/\bh P B ρ' q.2 w'/\bS ρ H w ρ' q.2 w':=by
 unfold zv at hv;simp only [dH]at hv;obtain⟨el,hel,i,hi,z,hz,hv⟩:=hv;have ht:=xy hel;cases hb:(Nat.beq z.cells.size i.size&&Nat.ble 1 i.size)with
 |false=>rw [hb]at hv;cases hv
 |true=>
  rw [hb]at hv;rw [ae]at hb;have b1:=ac hb.1;have b2:=bU hb.2;simp only [cond_true,dH]at hv;obtain⟨sn,mY,hv⟩:=hv;obtain⟨news,n⟩:=sn;obtain⟨ys,g1,g2,g3⟩:=Q3 hH hk mY hx;cases lF:Nat.beq n 0 with
  |true=>
   simp only [lF,cond_true]at hv;have hn:=ac lF;subst hn;have hys:ys=[]:=List.eq_nil_of_length_eq_zero (by simpa using g2);subst hys;have hs':=g3 (fun _ h=>by cases h);split at hv
   .cases hv;have:=hs.cc;subst this;exact⟨ρ,_,w,EU ht hi hs' none (aJ 0), .raw _,hH,bS.refl _ _ _⟩
   .cases hv;obtain⟨b,c,k,k1,_,k2,rfl⟩:=hs.ij;exact⟨ρ,_,w,EU ht hi hs' _ k2,hs,hH,bS.refl _ _ _⟩
   .cases hv
  |false=>
   simp only [lF,cond_false]at hv;cases h1:eU news with
   |false=>simp only [h1,cond_false]at hv;cases hv
   |true=>
    simp only [h1,cond_true]at hv;have hs':=g3 (g1.one h1);split at hv
    .have:=hs.cc;subst this;cases hbd:bounded n i.bytes with
     |false=>rw [hbd]at hv;cases hv
     |true=>
      rw [hbd]at hv;cases hv;simp only [bounded,ae]at hbd;have c1:=bU hbd.1;have c2:=bU hbd.2;have hn0:0<n:=Nat.pos_of_ne_zero fun hh=>by subst hh;cases lF
      have hr:=run_append_grow_src (P:=P) w t tx ty el i z ht hi hz none 0 0 [] (run_firstCells_none w.drew i.size 0 0 0) y n ys hs' ω ω (JA ω (by simpa using c1));obtain⟨q1,aQ⟩:=Jz hH hf (need:=n) (old:=0) hi b1 g1 g2;simp only [aw,List.nil_append]at hr;exact⟨_,_,_,hr, .slice (Env.dn ..) rfl (grownCap_ge w n 0 el),q1,aQ⟩
    .exact As hH ht hi hz b1 hs' g1 h1 hs hv hf
    .cases hv
def aaV {t tx ty:TypeId} {d x:af} {dv y:Value} (hd:Den ρ d dv) (hx:Den ρ x y) {q:af×ai} (hv:zx P t d x H=some q):
  ∃r w',(Builtin.copy_ #[t,tx] ty #[dv,y]).run P w= .ok r w'/\Den ρ q.1 r/\bh P B ρ q.2 w'/\bS ρ H w ρ q.2 w':=by
 unfold zx at hv;simp only [dH]at hv;obtain⟨el,hel,s,hs,hv⟩:=hv;have ht:=xy hel;obtain⟨i,hi,rfl⟩:=xx hs;split at hv
 .rename_i j rG n cl id off len cap;simp only [dH]at hv;obtain⟨sn,mY,hv⟩:=hv;obtain⟨news,n'⟩:=sn;split at hv
  .rename_i e' cs ex hg;cases h1:eU (news.take (Nat.min n len*i.size))with
   |false=>simp only [h1,cond_false]at hv;cases hv
   |true=>
    simp only [h1,cond_true,am]at hv;obtain⟨cs',hp,rfl⟩:=hv
    -- the source
    unfold src at mY;simp only at mY;split at mY
    .rename_i atY zO atZ at0 at1 hg2;cases hb:Nat.ble (rG+n*i.size) zO.length with
     |false=>rw [hb]at mY;cases mY
     |true=>
      rw [hb]at mY;cases mY;have hb:=bU hb;obtain⟨b2,c2,k2,p1,_,_,rfl⟩:=hx.ij;obtain⟨b,c,k,g1,_,_,rfl⟩:=hd.ij;obtain⟨aaW,at2,m1,_,m3,_⟩:=l9 hH hg2 p1;have hmin:Nat.min n len*i.size<=n*i.size:=Nat.mul_le_mul_right _ (Nat.min_le_left _ _);have hcut:(cut zO rG (n*i.size)).take (Nat.min n len*i.size)=cut zO rG (Nat.min n len*i.size):=by
       simp only [cut];rw [List.take_take,Nat.min_eq_left hmin]
      rw [hcut]at hp h1;have hdn:aH ρ (cut zO rG (Nat.min n len*i.size)) (((aaW.toList.take zO.length).drop rG).take (Nat.min n len*i.size)):=(m3.drop rG).take _;have hl:=nz m3 (off:=rG) (n:=Nat.min n len*i.size) ω;have hf:=run_firstCells_some (P:=P) w i.size (Nat.min n len) ⟨b2,rG,none⟩ n k2 _ hl (ET m1);obtain⟨_,w',_,r2,r3,mh⟩:=ER hH hg g1 hp hdn h1;refine⟨goInt (Nat.min n len),w', ?_, .raw _,r3,mh⟩;simp [Builtin.copy_,dw ht,Builtin.lenOf,jT hs,hf,r2]
    .cases mY
  .cases hv
 .rename_i id off len cap;cases hv;obtain⟨b,c,k,g1,_,_,rfl⟩:=hd.ij;have:=hx.cc;subst this;exact⟨goInt 0,w,by simp [Builtin.copy_,dw ht,Builtin.lenOf,Builtin.firstCells,jT hs,storeCells], .raw _,hH,bS.refl _ _ _⟩
 .cases hv
def aaX {t ty:TypeId} {j off len:Nat} {cap:aZ} {dv:Value} (hd:Den ρ (.slice j off len cap) dv) {q:af×ai} (hv:th P t j off len H=some q):
  ∃r w',(Builtin.clear_ #[t] ty #[dv]).run P w= .ok r w'/\Den ρ q.1 r/\bh P B ρ q.2 w'/\bS ρ H w ρ q.2 w':=by
 unfold th at hv;simp only [dH]at hv;obtain⟨el,hel,s,hs,z,hz,hv⟩:=hv;have ht:=xy hel;split at hv
 .rename_i e' cs ex hg;cases hb:(Nat.ble 1 len&&Nat.beq z.cells.size s&&eU (List.replicate len (ig z.cells)).flatten)with
  |false=>rw [hb]at hv;cases hv
  |true=>
   rw [hb]at hv;simp only [ae]at hb;obtain⟨⟨b1,b2⟩,b3⟩:=hb;have b1:=bU b1;simp only [cond_true,am]at hv;obtain⟨cs',hp,rfl⟩:=hv;obtain⟨b,c,k,g1,_,_,rfl⟩:=hd.ij;obtain⟨inf,_,rfl⟩:=xx hs;have b2:=ac b2;have hzl:(Builtin.zeroCells z.cells len).toList=((Array.range (len*inf.size)).map (z.cells[· %z.cells.size]!)).toList:=by unfold Builtin.zeroCells;rw [b2]
   have hdn:aH ρ (List.replicate len (ig z.cells)).flatten (Builtin.zeroCells z.cells len).toList:=by
    by_cases h0:1<=inf.size
    .rw [hzl,EO z.cells inf.size b2 h0,Jr];exact aH.rL _
    .have lF:inf.size=0:=by omega
     have Ch:z.cells= #[]:=Array.eq_empty_of_size_eq_zero (b2.trans lF);rw [Ch];have e1:(List.replicate len (ig #[])).flatten=[]:=by simp [ig]
     have e2:(Builtin.zeroCells #[] len).toList=[]:=by unfold Builtin.zeroCells;simp
     rw [e1,e2];exact .nil
   obtain⟨_,w',_,r2,r3,mh⟩:=ER hH hg g1 hp hdn b3;refine⟨.tuple #[],w', ?_, .raw _,r3,mh⟩;obtain⟨n,rfl⟩:∃n,len=n+1:=⟨len-1,by omega⟩;have aaY:(zeroValue el).run P w= .ok z w:=EH hz w;simp [Builtin.clear_,dw ht,aaY,r2]
 .cases hv
end
def qp {α:Type} {b:Bool} {x:Option α} {q:α} (h:cond b x none=some q):b=true/\x=some q:=by
 cases b
 .cases h
 .exact⟨rfl,h⟩
def Q7 {b n:Nat} {xs:Array Value} {el:TypeId} {fz:Nat×Nat} (h:w.heap[b]? =some (.cells xs el fz)):(∃xE,(w.freeze ⟨b,0,none⟩ n).heap[b]? =some (.cells xs el xE))/\∀j,j≠b->(w.freeze ⟨b,0,none⟩ n).heap[j]? =w.heap[j]? :=by
 unfold World.freeze;split
 .exact⟨⟨fz,h⟩,fun _ _=>rfl⟩
 .obtain⟨lo,hi⟩:=fz;refine⟨⟨_,by simp only [Array.getElem?_modify,h];rfl⟩,fun j hj=> ?_⟩;simp only [Array.getElem?_modify];rw [if_neg (Ne.symm hj)]
def Q8 (n:Nat) (a:Addr):(w.freeze a n).os=w.os/\(w.freeze a n).tape=w.tape/\(w.freeze a n).output=w.output/\(w.freeze a n).heap.size=w.heap.size:=by
 unfold World.freeze;split<;>simp
def aaZ (hH:bh P B ρ H w) {pt it ty:TypeId} {x n:af} {y aB:Value} (hx:Den ρ x y) (hn:Den ρ n aB) {q:af×ai} (hv:vg P pt x n H=some q):
  ∃r w',(Builtin.unsafeString_ #[pt,it] ty #[y,aB]).run P w= .ok r w'/\Den ρ q.1 r/\bh P B ρ q.2 w'/\bS ρ H w ρ q.2 w':=by
 unfold vg at hv;split at hv
 .rename_i i;split at hv
  .rename_i m;split at hv
   .rename_i el e' cs ex cB hp hg;cases hb:(Nat.beq el e'&&Nat.beq (P.cellsOf el) 1&&Nat.ble 1 m&&Nat.ble m cs.length&&Nat.ble m 140737488355328)with
    |false=>rw [hb]at hv;cases hv
    |true=>
     rw [hb]at hv;simp only [ae]at hb;obtain⟨⟨⟨⟨b1,b2⟩,b3⟩,b4⟩,gu⟩:=hb;have b1:=ac b1;have b2:=ac b2;have b3:=bU b3;have b4:=bU b4;have gu:=bU gu;subst b1;simp only [cond_true,am]at hv;obtain⟨bs,lD,rfl⟩:=hv;obtain⟨b,c,h1,rfl⟩:=hx.kH;have:=hn.cc;subst this;obtain⟨xs,fz,g1,_,g3,g4,g5,g6⟩:=l9 hH hg h1;have q1:=Jw lD (g3.take m);have hlen:bs.length=m:=by
      have h9:=congrArg List.length q1;have:=g3.length;rw [eE,this,zk]at h9;omega
     subst hlen;have hr:=Lib.run_unsafeString_row (P:=P) w pt it ty el hp b2 b xs.size (Jx g1) bs (by intro hh;subst hh;simp at b3) ω ω (fun j x hj=>by
      rw [jU,cell_of g1];refine xC (n:=cs.length) ?_;have h9:((xs.toList.take cs.length).take bs.length)[j]? =some (.int .u8 x.toNat):=by rw [q1];simp [hj]
      rw [List.getElem?_take]at h9;split at h9
      .simpa using h9
      .cases h9)
     obtain⟨⟨xE,f1⟩,f2⟩:=Q7 (n:=bs.length) g1;obtain⟨e1,e2,e3,bV⟩:=Q8 (w:=w) bs.length ⟨b,0,none⟩;obtain⟨r3,mh⟩:=jj hH hg h1 rfl (k:= .cells el cs ex true false) _ _ e1 e2 e3 bV f1 f2 ⟨xs,xE,rfl,(fun h=>by cases h),g3,g4,fun hx=>⟨b,c,h1,g5 hx⟩⟩;exact⟨_,_,hr, .raw _,r3,mh⟩
   .cases hv
  .cases hv
 .rename_i e' u i;split at hv
  .rename_i m;obtain⟨hb,hv⟩:=qp hv;cases hv;simp only [ae]at hb;obtain⟨b1,b2,b3,b4,gu⟩:=hb;have b2:=bU b2;have b3:=bU b3;unfold EE at b1;split at b1
   .rename_i el hp;simp only [ae]at b1;obtain⟨a1,a2,a3⟩:=b1;have a1:=ac a1;have a2:=ac a2;have a3:=ap a3;subst a1;subst a3;obtain⟨d1,d2⟩:=vo b4;obtain⟨b,c,h1,rfl⟩:=hx.xw;have:=hn.cc;subst this;generalize bQ (av.int .u8) (H.get i)=xs at*;obtain⟨ys,g1,g2,_,g4,_,_⟩:=rM hH d1 h1;have gu:dN (oX (xs.take m))=xs.take m:=ap gu;have hfl:(av.flat (.int .u8) xs).length=xs.length:=by rw [av.iW];exact Nat.mul_one _
    have iq:(oX (xs.take m)).data.toList.length=m:=by
     have:=congrArg List.length gu;unfold dN at this;rw [zk,eE]at this;omega
    have key:∀(j:Nat) (x:UInt8),(oX (xs.take m)).data.toList[j]? =some x->ys.toList[j]? =some (.int .u8 x.toNat):=fun j x hj=>by
     have hjm:j<m:=by rw [<-iq];exact(List.getElem?_eq_some_iff.1 hj).1
     have e1:(dN (oX (xs.take m)))[j]? =some (x.toNat:Int):=by unfold dN;rw [List.getElem?_map,hj];rfl
     rw [gu,List.getElem?_take,if_pos hjm]at e1;have e2:(av.flat (.int .u8) xs)[j]? =some (.raw (.int .u8 (x.toNat:Int))):=by
      have:∀l:List Int,av.flat (.int .u8) l=l.map fun z=>af.raw (.int .u8 z):=fun l=>by
       induction l with
       |nil=>rfl
       |cons z l ih=>exact congrArg (af.raw (.int .u8 z):: ·) ih
      rw [this,List.getElem?_map,e1];rfl
     obtain⟨y,y1,y2⟩:=g2.get e2;have:=y2.cc;subst this;rw [List.getElem?_take]at y1;split at y1
     .exact y1
     .cases y1
    have hr:=Lib.run_unsafeString_row (P:=P) w pt it ty el hp a2 b ys.size (Jx g1) (oX (xs.take m)).data.toList (by intro hh;rw [hh]at iq;simp at iq;omega) ω ω (fun j x hj=>by
     rw [jU,cell_of g1];have:=key j x hj;rw [aw,<-Array.getElem?_toList];exact this)
    rw [iq]at hr;obtain⟨⟨xE,f1⟩,f2⟩:=Q7 (n:=m) g1;obtain⟨e1,e2,e3,bV⟩:=Q8 (w:=w) m ⟨b,0,none⟩;obtain⟨r3,mh⟩:=Zy hH d1 h1 rfl _ e1 e2 e3 bV f2;refine⟨_,_, ?_, .raw _,r3,mh⟩;simpa using hr
   .cases b1
  .cases hv
 .cases hv
structure e7 (P:Program):Prop where
 EW:∀(f:FuncId) (fn:Func),P.funcs[f]? =some fn->fn.body.isSome=true->(fn.name== "runtime.NumGoroutine")=false
 Q9:∀(f:FuncId) (fn:Func),P.funcs[f]? =some fn->fn.body=none->(fn.name== "internal/abi.NoEscape")=true->∀x w,(callFunc f #[x]).run P w= .ok (.value x) w
 makeNoZero:∀(f:FuncId) (fn:Func) (t el:TypeId),P.funcs[f]? =some fn->fn.body=none->(fn.name== "internal/bytealg.MakeNoZero")=true->fn.resultTypes[0]? =some t->P.underlying t=some (.slice el)->∀(n:Nat) w,n<=140737488355328->
  ∃cs:Array Value,n<=cs.size/\(callFunc f #[.int .i64 n]).run P w= .ok (.value (.slice (some ⟨w.heap.size,0,none⟩) n cs.size)) (w.drew.drew.alloc (.cells cs el))
def JB (hK:e7 P) {f:FuncId} {fn:Func} {c:Code} (hf:P.funcs[f]? =some fn) (hb:fn.body=some c) (args:Array Value) (w:World):(callFunc f args).run P w= .ok (.enter f args) w:=by
 have h1:¬fn.name= "runtime.NumGoroutine" :=by simpa using hK.EW f fn hf (by simp [hb])
 simp [callFunc,hf,h1,hb]
section
variable (hK:e7 P) (hH:bh P B ρ H w)
def aa0 {f:FuncId} {fn:Func} (hf:P.funcs[f]? =some fn) (hb:fn.body=none) {args:List af} {xs:List Value} (hd:aH ρ args xs):cN P B ρ H w ((callFunc f xs.toArray).run P w) (eu (zy P f fn args H)):=by
 unfold zy;cases hr:af.kG args with
 |some vs=>
  have hxs:=hd.kG hr;subst hxs;simp only;split
  .rename_i v hv;exact fQ hH (nV _ w hv) (.raw v)
  .cases hn:fn.name== "internal/bytealg.MakeNoZero" with
   |false=>simp only [cond_false];trivial
   |true=>
    simp only [cond_true];split
    .rename_i n t ht;cases hel:ik P t with
     |none=>trivial
     |some el=>
      simp only [Option.bind_some];cases hbb:(Nat.ble n 140737488355328&&Nat.beq (P.cellsOf el) 1)with
      |false=>simp only [cond_false];trivial
      |true=>
       simp only [cond_true];rw [ae]at hbb;have b1:=bU hbb.1;have b2:=ac hbb.2;have hx:xs=[.int .i64 n]:=by
        cases hd with
        |cons h1 h2=>cases h2 with
         |nil=>rw [h1.cc];rfl
       subst hx;obtain⟨cs,c1,c2⟩:=hK.makeNoZero f fn t el hf hb hn ht (xy hel) n w b1;intro hfr;obtain⟨q1,aQ⟩:=tE hH.drew.drew hfr cs.size (.cells el [] false false false) (.cells cs el) ⟨cs,(0,0),rfl,fun _=>rfl,by simpa using aH.nil,(fun h=>by cases h),fun _=>⟨_,_,Env.dn ..,by rw [b2,Nat.mul_one]⟩⟩;exact⟨_,_,_,_,c2,rfl, .slice (Env.dn ..) rfl c1,q1,aQ.drew.drew⟩
    .trivial
 |none=>
  simp only;split
  .rename_i x;cases hn:fn.name== "internal/abi.NoEscape" with
   |false=>simp only [cond_false];trivial
   |true=>
    simp only [cond_true];cases hd with
    |cons h1 h2=>cases h2 with
     |nil=>exact fQ hH (hK.Q9 f fn hf hb hn _ w) h1
  .trivial
def JC {f:FuncId} {args:List af} {xs:List Value} (hd:aH ρ args xs):cN P B ρ H w ((callFunc f xs.toArray).run P w) (kp P f args H):=by
 unfold kp;cases hf:P.funcs[f]? with
 |none=>trivial
 |some fn=>
  simp only;cases hb:fn.body with
  |none=>exact aa0 hK hH hf hb hd
  |some c=>exact⟨rfl,xs,JB hK hf hb xs.toArray w,hd⟩
def EX {fv:af} {v:Value} (hv:Den ρ fv v) {args:List af} {xs:List Value} (hd:aH ρ args xs) {r:Result Next}
  (hr:∀fn (first captured:Array Value),v= .func fn first captured->r=(invoke (.fn fn captured) (first++xs.toArray)).run P w):cN P B ρ H w r (lZ P fv args H):=by
 have arr:∀a b c:List Value,a.toArray++b.toArray++c.toArray=(a++b++c).toArray:=fun a b c=>by simp
 unfold lZ;split
 .rename_i x;have:=hv.cc;subst this;cases hg:xh v with
  |fn f=>
   simp only;unfold xh at hg;split at hg
   .rename_i fn;unfold Qe at hg;split at hg
    .rename_i f';cases hg;rw [hr _ _ _ rfl];have e1:(⟨[]⟩:Array Value)++xs.toArray=xs.toArray:=by apply Array.ext';simp
     have e2:xs.toArray++(⟨[]⟩:Array Value)=xs.toArray:=by apply Array.ext';simp
     show cN P B ρ H w ((callFunc f ((⟨[]⟩:Array Value)++xs.toArray++(⟨[]⟩:Array Value))).run P w) _;rw [e1,e2];exact JC hK hH hd
    .cases hg
   .cases hg
  |no=>
   simp only;split
   .rename_i f first captured
    rw [hr _ _ _ rfl];show cN P B ρ H w ((callFunc f (first++xs.toArray++captured)).run P w) _;have e1:first++xs.toArray++captured=(first.toList++xs++captured.toList).toArray:=by apply Array.ext';simp
    rw [e1];exact JC hK hH (((Ce first).append hd).append (Ce captured))
   .trivial
 .rename_i f first captured
  obtain⟨fs,cs,g1,g2,rfl⟩:=hv.B5;rw [hr _ _ _ rfl];show cN P B ρ H w ((callFunc f (fs.toArray++xs.toArray++cs.toArray)).run P w) _;rw [arr];exact JC hK hH ((g1.append hd).append g2)
 .rename_i i;obtain⟨b,c,g1,rfl⟩:=hv.Jh;refine⟨rfl,b,c,xs,g1, ?_,hd⟩;rw [hr _ _ _ rfl];have e1:(#[]:Array Value)++xs.toArray=xs.toArray:=by apply Array.ext';simp
  rw [e1];rfl
 .trivial
end
end
section
variable {P:Program} {H:ai} {w:World} {B:Nat} {ρ ρ':Env}
def aa1 {cs:List af} {ys:List Value} {m:Nat} {v v':af} (hl:cA ρ ρ') (h:aH ρ cs ys) (hm:cs[m]? =some v) (hv:∀y,Den ρ v y->Den ρ' v' y):aH ρ' (cs.set m v') ys:=by
 refine aH.Qn (by rw [b9];exact h.length) fun i u y hi hy=> ?_
 by_cases him:m=i
 .subst him;have hlt:m<cs.length:=(List.getElem?_eq_some_iff.1 hm).1;rw [List.getElem?_set_self hlt]at hi;cases hi;obtain⟨y',h1,h2⟩:=h.get hm;rw [hy]at h1;cases h1;exact hv y h2
 .rw [List.getElem?_set_ne him]at hi;obtain⟨y',h1,h2⟩:=h.get hi;rw [hy]at h1;cases h1;exact h2.mono hl
def JD (H:ai) (i j k:Nat) (b:bq):((H.drop i).set j b).get k=if j=k then some b else if i=k then none else H.get k:=by
 rw [ai.fY,ai.o4]
def JE {i j m:Nat} {e:TypeId} {cs:List af} {x f r:Bool} {v v':af} (hH:bh P B ρ H w) (hl:cA ρ ρ') (ha:∀i,ρ' i=ρ i) (hj:H.get j=some (.cells e cs x f r)) (hij:i≠j) (hm:cs[m]? =some v) (hv:∀y,Den ρ v y->Den ρ' v' y)
  (hfz:∀b A,ρ'.fz b=some A->(∃e fr,w.heap[b]? =some (.cells A e fr))/\∀k kk c,k≠i->H.get k=some kk->ρ k=some (b,c)->kk.eO=true):
  bh P B ρ' ((H.drop i).set j (.cells e (cs.set m v') x f r)) w:=by
 have key:∀k kk,((H.drop i).set j (.cells e (cs.set m v') x f r)).get k=some kk->k≠i/\∃k0,H.get k=some k0/\k0.eO=kk.eO/\∀o,gK P ρ k k0 o->gK P ρ' k kk o:=fun k kk h=>by
  rw [JD]at h;split at h
  .rename_i hjk;subst hjk;cases h;refine⟨fun h=>hij h.symm,_,hj,rfl,fun o ho=> ?_⟩;obtain⟨zs,fz,h1,h2,h3,h4,h5⟩:=ho;refine⟨zs,fz,h1,h2, ?_,by rw [b9];exact h4,fun hx=> ?_⟩
   .rw [b9];exact aa1 hl h3 hm hv
   .obtain⟨b,c,g1,g2⟩:=h5 hx;exact⟨b,c,by rw [ha];exact g1,g2⟩
  .split at h
   .cases h
   .rename_i h1 h2;exact⟨fun h=>h2 h.symm,_,h,rfl,fun o ho=>ho.mono hl⟩
 refine⟨fun k kk h=> ?_,fun i1 i2 k1 k2 b c1 c2 g1 g2 g3 g4=> ?_,fun k kk h=> ?_,hH.base,fun b A h=>⟨(hfz b A h).1,fun k kk c g1 g2=> ?_⟩⟩
 .obtain⟨_,k0,h1,h2,h3⟩:=key k kk h;obtain⟨b,c,o,e1,e2,e3,bV⟩:=hH.blk k k0 h1;exact⟨b,c,o,by rw [ha];exact e1,e2,h3 o e3,fun hr=>bV (by rw [h2];exact hr)⟩
 .obtain⟨_,q1,h1,_⟩:=key _ _ g1;obtain⟨_,aQ,h2,_⟩:=key _ _ g2;rw [ha]at g3 g4;exact hH.inj _ _ _ _ _ _ _ h1 h2 g3 g4
 .obtain⟨_,k0,h1,_⟩:=key k kk h;exact hH.lt k k0 h1
 .obtain⟨hne,k0,h1,h2,_⟩:=key k kk g1;rw [ha]at g2;rw [<-h2];exact(hfz b A h).2 k k0 c hne h1 g2
section
variable {i j:Nat} {e:TypeId} {cs cs':List af} {x f r:Bool} {ρ':Env} (ha:∀i,ρ' i=ρ i)
def JF (hj:H.get j=some (.cells e cs x f r)) {b:Nat} (h:Own ρ' ((H.drop i).set j (.cells e cs' x f r)) b):Own ρ H b:=by
 obtain⟨k,kk,c,h1,h2,h3⟩:=h;rw [ha]at h3;rw [JD]at h1;split at h1
 .rename_i hjk;subst hjk;cases h1;exact⟨j,_,c,hj,h2,h3⟩
 .split at h1
  .cases h1
  .exact⟨k,kk,c,h1,h2,h3⟩
def aa2 (hj:H.get j=some (.cells e cs x f r)) {b:Nat} (h:oZ ρ' ((H.drop i).set j (.cells e cs' x f r)) b):oZ ρ H b:=by
 obtain⟨k,kk,c,h1,h3⟩:=h;rw [ha]at h3;rw [JD]at h1;split at h1
 .rename_i hjk;subst hjk;cases h1;exact⟨j,_,c,hj,h3⟩
 .split at h1
  .cases h1
  .exact⟨k,kk,c,h1,h3⟩
end
def aa3 {ty:av} {x:af} {b:Bool} {H':ai} (h:xg ty x H=some (b,H')):H'.next=H.next:=by
 unfold xg at h;split at h
 .split at h
  .split at h
   .split at h
    .split at h
     .obtain⟨_,h2⟩:=Prod.mk.inj (jP h);rw [<-h2];rfl
     .cases h
    .cases h
   .cases h
  .cases h
 .cases h
def aa4 {ty:av} {x:af} {H':ai} (hH:bh P B ρ H w) (h:xg ty x H=some (true,H')):∃ρ',(∀i,ρ' i=ρ i)/\bh P B ρ' H' w/\bS ρ H w ρ' H' w/\H'.next=H.next:=by
 unfold xg at h;split at h
 .rename_i u j off c;split at h
  .rename_i e cs ex f r hj;split at h
   .rename_i e2 u2 i len cap hm;split at h
    .rename_i e3 u3 xs hi;split at h
     .rename_i hb;simp only [ae,bA,Bool.not_eq_true']at hb;obtain⟨rfl,b2,b3⟩:=hb;have b2:=ac b2;subst b2;have hij:i≠j:=fun e=>by subst e;simp at b3
      obtain⟨h1,h2⟩:=Prod.mk.inj (jP h);have hl:=ac h1;subst hl;rw [zG]at hm;obtain⟨b,c',o,hib,ho,_,hB⟩:=hH.blk i _ hi;obtain⟨zs,dx,z2,z3,z4,z5,Ra⟩:=rM hH hi hib;have hnf:ρ.fz b=none:=by
       cases hz:ρ.fz b with
       |none=>rfl
       |some A=>
        have:=(hH.fz b A hz).2 i _ c' hi hib;cases this
      have hle:cA ρ ⟨ρ.at',fun q=>if q=b then some zs else ρ.fz q⟩:=⟨fun _ _ h=>h,fun q A h=>by
       show(if q=b then some zs else ρ.fz q)=some A;by_cases hq:q=b
       .subst hq;rw [hnf]at h;cases h
       .rw [if_neg hq];exact h⟩
      have hd:=JE (ρ':=⟨ρ.at',fun q=>if q=b then some zs else ρ.fz q⟩) (m:=off) (v':= .bt false u2 xs) hH hle (fun _=>rfl) hj hij hm (fun y hy=>by
       rcases hy.jt with⟨h0,a,rfl⟩|⟨b',c2,kc,g1,_,g3,rfl⟩
       .have hx:xs=[]:=List.eq_nil_of_length_eq_zero h0;subst hx;exact .e6 fun e=>by cases e
       .rw [hib]at g1;cases g1;refine .bt (A:=zs) (b:=b) (off:=0*u2.size) (by show(if b=b then some zs else _)=_;rw [if_pos rfl]) (by rw [Nat.zero_mul,aw];exact z4) rfl ?_ g3 (fun e=>by cases e);rw [Nat.zero_mul,List.drop_zero];exact z2.mono hle) (fun q A h=>by
       have h:(if q=b then some zs else ρ.fz q)=some A:=h;by_cases hq:q=b
       .subst hq;rw [if_pos rfl]at h;cases h;exact⟨⟨_,_,dx⟩,fun k kk c' hne g1 g2=>absurd (hH.inj k i kk _ q _ _ g1 hi g2 hib) hne⟩
       .rw [if_neg hq]at h;exact⟨(hH.fz q A h).1,fun k kk c _ g1 g2=>(hH.fz q A h).2 k kk c g1 g2⟩)
      rw [h2]at hd;refine⟨⟨ρ.at',fun q=>if q=b then some zs else ρ.fz q⟩,fun _=>rfl,hd,⟨hle,fun _ _=>rfl,Nat.le_of_eq (by rw [<-h2];rfl),aJ _,rfl,rfl,rfl,fun _ _ _=>rfl,fun q _ hh=> ?_,fun q _ hh=> ?_,fun q A h=> ?_⟩,by rw [<-h2];rfl⟩
      .rw [<-h2]at hh;exact JF (fun _=>rfl) hj hh
      .rw [<-h2]at hh;exact aa2 (fun _=>rfl) hj hh
      .have h:(if q=b then some zs else ρ.fz q)=some A:=h;by_cases hq:q=b
       .subst hq;exact .inr (.inr ⟨i,_,c',hi,rfl,hib⟩)
       .rw [if_neg hq]at h;exact .inl h
     .cases h
    .cases h
   .cases h
  .cases h
 .cases h
end
section
variable {P:Program} {B:Nat} {ρ:Env} {H:ai} {w:World}
structure Same (P:Program) (ρ:Env) (K K':ai):Prop where
 next:K'.next=K.next
 to:∀j k,K.get j=some k->∃k',K'.get j=some k'/\k'.eO=k.eO/\∀o,gK P ρ j k o->gK P ρ j k' o
 none:∀j,K.get j=none->K'.get j=none
def Same.from {K K':ai} (h:Same P ρ K K') {j:Nat} {k':bq} (hj:K'.get j=some k'):∃k,K.get j=some k/\k'.eO=k.eO/\∀o,gK P ρ j k o->gK P ρ j k' o:=by
 cases hk:K.get j with
 |none=>rw [h.none j hk]at hj;cases hj
 |some k=>
  obtain⟨k2,h1,h2,h3⟩:=h.to j k hk;rw [hj]at h1;cases h1;exact⟨k,rfl,h2,h3⟩
def Same.lB {K K':ai} (h:Same P ρ K K') (hH:bh P B ρ K w):bh P B ρ K' w where
 blk i k hi:=by
  obtain⟨k0,h1,h2,h3⟩:=h.from hi;obtain⟨b,c,o,e1,e2,e3,bV⟩:=hH.blk i k0 h1;exact⟨b,c,o,e1,e2,h3 o e3,fun e=>bV (h2 ▸ e)⟩
 inj i j eG eW b ci cl hi hj js fD:=by
  obtain⟨aa5,h1,_⟩:=h.from hi;obtain⟨aa6,h2,_⟩:=h.from hj;exact hH.inj i j aa5 aa6 b ci cl h1 h2 js fD
 lt i k hi:=by
  obtain⟨k0,h1,_⟩:=h.from hi;rw [h.next];exact hH.lt i k0 h1
 base:=hH.base
 fz b A hb:=⟨(hH.fz b A hb).1,fun i k c hi hr=>by
  obtain⟨k0,h1,h2,_⟩:=h.from hi;rw [h2];exact(hH.fz b A hb).2 i k0 c h1 hr⟩
def Same.own {K K':ai} (h:Same P ρ K K') {b:Nat} (ρ':Env):Own ρ' K b↔Own ρ' K' b:=by
 constructor
 .rintro⟨i,k,c,h1,h2,h3⟩;obtain⟨k',g1,g2,_⟩:=h.to i k h1;exact⟨i,k',c,g1,g2 ▸ h2,h3⟩
 .rintro⟨i,k,c,h1,h2,h3⟩;obtain⟨k',g1,g2,_⟩:=h.from h1;exact⟨i,k',c,g1,g2 ▸ h2,h3⟩
def Same.l6 {K K':ai} (h:Same P ρ K K') {b:Nat} (ρ':Env):oZ ρ' K b↔oZ ρ' K' b:=by
 constructor
 .rintro⟨i,k,c,h1,h3⟩;obtain⟨k',g1,_⟩:=h.to i k h1;exact⟨i,k',c,g1,h3⟩
 .rintro⟨i,k,c,h1,h3⟩;obtain⟨k',g1,_⟩:=h.from h1;exact⟨i,k',c,g1,h3⟩
def Same.EY {K K':ai} (h:Same P ρ K K'):bS ρ K w ρ K' w:=
 ⟨cA.refl _,fun _ _=>rfl,Nat.le_of_eq h.next.symm,aJ _,rfl,rfl,rfl,fun _ _ _=>rfl,fun _ _ ho=>(h.own ρ).2 ho,fun _ _ ho=>(h.l6 ρ).2 ho,fun _ _ h=> .inl h⟩
def JG:∀(t:av) (d:t.den),eU (t.cells d)=true
 | .int _,_=>rfl
 | .bool,_=>rfl
 | .str,_=>rfl
 | .list _ _,_=>rfl
 | .pair a b,d=>by
   have h:∀l m:List af,eU l=true->eU m=true->eU (l++m)=true:=fun l m h1 h2=>by
    induction l with
    |nil=>exact h2
    |cons v l ih=>
     obtain⟨q1,aQ⟩:=lA h1;simp [eU,q1,ih aQ]
   exact h _ _ (JG a d.1) (JG b d.2)
 | .ptr _,_=>rfl
 | .unit,_=>rfl
def zP (t:av):∀(ds:List t.den),eU (t.flat ds)=true
 |[]=>rfl
 |d::ds=>by
  have h:∀l m:List af,eU l=true->eU m=true->eU (l++m)=true:=fun l m h1 h2=>by
   induction l with
   |nil=>exact h2
   |cons v l ih=>
    obtain⟨q1,aQ⟩:=lA h1;simp [eU,q1,ih aQ]
  rw [av.zI];exact h _ _ (JG t d) (zP t ds)
def aa7 (hH:bh P B ρ H w) {ty:av} {n:Nat} {x:af} {y:Value} {ds:List ty.den} {tx:TypeId} (hk:(∃e',P.underlying tx=some (.slice e'))\/P.underlying tx=some .string) (h:zw H ty ty.size x=some (ds,n)) (hx:Den ρ x y):
  ∃ys,aH ρ (ty.flat ds) ys/\ds.length=n/\Go.Src P ty.size tx y n ys w:=by
 unfold zw at h;split at h
 .cases h;have:=hx.cc;subst this;exact⟨[], .nil,rfl,⟨hk,fun _=>rfl,run_firstCells_none w _ 0 0 _,run_firstCells_none w.drew _ 0 0 _,by simp,fun _ h=>by cases h⟩⟩
 .rename_i b;split at h
  .rename_i hu;subst hu;cases h;have:=hx.cc;subst this;have hd:aH ρ ((av.int .u8).flat (dN b)) (byteCells b):=by
    have e:(av.int .u8).flat (dN b)=(byteCells b).map af.raw:=by
     unfold dN byteCells;induction b.data.toList with
     |nil=>rfl
     |cons x l ih=>exact congrArg (af.raw (.int .u8 x.toNat):: ·) ih
    rw [e];exact aH.rL _
   exact⟨byteCells b,hd,by simp [dN],⟨hk,fun _=>rfl,firstCells_string b w,firstCells_string b w.drew,by rw [byteCells_length];exact(Nat.mul_one _).symm,hd.one (zP (av.int .u8) _)⟩⟩
  .cases h
 .rename_i z u ys;split at h
  .rename_i hu;subst hu;cases h;rcases hx.tF with⟨rfl,a,k,rfl,_⟩|⟨b,off,k,A,h1,h2,h3,h4,rfl,_⟩
   .refine⟨[], .nil,rfl, ?_⟩;cases a with
    |none=>exact⟨hk,fun _=>rfl,run_firstCells_none w _ 0 0 _,run_firstCells_none w.drew _ 0 0 _,by simp,fun _ h=>by cases h⟩
    |some a=>exact⟨hk,fun _=>rfl,run_firstCells_some w _ 0 a 0 k [] τ τ,run_firstCells_some w.drew _ 0 a 0 k [] τ τ,by simp,fun _ h=>by cases h⟩
   .obtain⟨⟨el,fr,g1⟩,_⟩:=hH.fz b A h1;have hl:((A.toList.drop off).take (u.flat ys).length).length=ys.length*u.size:=by rw [h3.length,u.iW]
    have hc:∀(w':World),w'.heap[b]? =some (.cells A el fr)->∀(j:Nat) (v:Value),((A.toList.drop off).take (u.flat ys).length)[j]? =some v->w'.cell? ((⟨b,off,none⟩:Addr).add j)=some v:=fun w' hw j v hj=>by
     rw [jU,cell_of hw];rw [List.getElem?_take]at hj;split at hj
     .rw [List.getElem?_drop]at hj;simpa using hj
     .cases hj
    exact⟨_,h3,rfl,⟨hk,fun _=>rfl,run_firstCells_some w _ _ ⟨b,off,none⟩ _ k _ hl (hc w g1),run_firstCells_some w.drew _ _ ⟨b,off,none⟩ _ k _ hl (hc w.drew g1),hl,h3.one (zP u ys)⟩⟩
  .cases h
 .rename_i e' u j k len cap;cases hc:(decide (u=ty)&&(Nat.beq len 0||bz e' ty (H.get j) (k+len-1)))with
  |false=>rw [hc]at h;cases h
  |true=>
   rw [hc]at h;obtain⟨rfl,rfl⟩:=Prod.mk.inj (jP h);rw [ae,Bool.or_eq_true]at hc;obtain⟨hu,hc⟩:=hc;have hu:=ap hu;subst hu;by_cases hn:len=0
   .subst hn;refine⟨[],by simpa [av.flat]using aH.nil,by simp, ?_⟩;rcases hx.jt with⟨_,a,rfl⟩|⟨b,c,kc,_,_,_,rfl⟩
    .cases a with
     |none=>exact⟨hk,fun _=>rfl,run_firstCells_none w _ 0 0 _,run_firstCells_none w.drew _ 0 0 _,by simp,fun _ h=>by cases h⟩
     |some a=>exact⟨hk,fun _=>rfl,run_firstCells_some w _ 0 a 0 0 [] τ τ,run_firstCells_some w.drew _ 0 a 0 0 [] τ τ,by simp,fun _ h=>by cases h⟩
    .exact⟨hk,fun _=>rfl,run_firstCells_some w _ 0 _ 0 kc [] τ τ,run_firstCells_some w.drew _ 0 _ 0 kc [] τ τ,by simp,fun _ h=>by cases h⟩
   .rcases hc with hc|hc
    .exact absurd (ac hc) hn
    .obtain⟨b1,b2⟩:=vo hc;generalize bQ u (H.get j)=xs at b1 b2 ⊢;rcases hx.jt with⟨rfl,_⟩|⟨b,c,kc,g1,_,g3,rfl⟩
     .exact absurd rfl hn
     .obtain⟨ys,q1,aQ,_⟩:=rM hH b1 g1;have hle:k+len<=xs.length:=by omega
      have e1:(xs.drop k).take len=(xs.take (k+len)).drop k:=by rw [List.take_drop]
      have gL:=Cd (off:=0) (A:=ys.toList) (l:=k) (h:=k+len) (by simpa using aQ) ω hle;rw [aw]at gL;have hfl:(u.flat ((xs.take (k+len)).drop k)).length=len*u.size:=by rw [u.iW];congr 1;simp;omega
      rw [hfl]at gL;have hl:((ys.toList.drop (k*u.size)).take (len*u.size)).length=len*u.size:=by rw [gL.length,hfl]
      have hc:∀(w':World),w'.heap[b]? =some (.cells ys e' (0,0))->∀(j:Nat) (v:Value),((ys.toList.drop (k*u.size)).take (len*u.size))[j]? =some v->w'.cell? ((⟨b,k*u.size,none⟩:Addr).add j)=some v:=fun w' hw j v hj=>by
       rw [jU,cell_of hw];rw [List.getElem?_take]at hj;split at hj
       .rw [List.getElem?_drop]at hj;simpa using hj
       .cases hj
      refine⟨_,by rw [e1];exact gL,by simp;omega,⟨hk,fun _=>rfl,run_firstCells_some w _ _ ⟨b,k*u.size,none⟩ _ kc _ hl (hc w q1),run_firstCells_some w.drew _ _ ⟨b,k*u.size,none⟩ _ kc _ hl (hc w.drew q1),hl,gL.one (zP u _)⟩⟩
 .rename_i j off n' cap;simp only [dH,am]at h;obtain⟨sn,h1,ds',h2,h3⟩:=h;cases h3;obtain⟨news,n2⟩:=sn;have hn2:n2=n:=by
   unfold src at h1;simp only at h1;split at h1
   .have h1:=(qp h1).2;cases h1;rfl
   .cases h1
  subst hn2;obtain⟨ys,g1,g2,g3⟩:=Q3 hH hk h1 hx;obtain⟨g4,g5⟩:=av.B8 h2 g1;exact⟨ys,g4,g5,g3 (g4.one (zP ty _))⟩
 .cases h
def JH {ρ:Env} {e:TypeId} {t:av} {i len b c kc:Nat} {cap:aZ} (h:ρ i=some (b,c)) (hc:zH cap c kc) (hl:len<=kc):Den ρ (.bT e t i 0 len cap) (.slice (some ⟨b,0,none⟩) len kc):=by
 have:=Den.bT (e:=e) (t:=t) (k:=0) h hc hl;rwa [Nat.zero_mul]at this
def JI (hH:bh P B ρ H w) {t tx rt:TypeId} (hk:(∃e',P.underlying tx=some (.slice e'))\/P.underlying tx=some .string) {e:TypeId} {ty:av} {i k len:Nat} {cap:aZ} {x:af} {sv y:Value} (hs:Den ρ (.bT e ty i k len cap) sv) (hx:Den ρ x y) {q:af×ai}
  {sk:Bool} (hv:rF P t e ty i k len cap sk x H=some q) (hf:Fr ρ H.next q.2.next):
  ∃ρ' r w',(Builtin.append_ #[t,tx] rt #[sv,y]).run P w= .ok r w'/\Den ρ' q.1 r/\bh P B ρ' q.2 w'/\bS ρ H w ρ' q.2 w':=by
 unfold rF at hv;simp only [dH]at hv;obtain⟨el,hel,inf,hi,z,hz,hv⟩:=hv;have ht:=xy hel;obtain⟨hb,hv⟩:=qp hv;simp only [ae]at hb;obtain⟨⟨⟨⟨b1,b2⟩,b3⟩,b4⟩,gu⟩:=hb;have b1:=ac b1;have b2:=bU b2;have b3:=ac b3;have b4:=ac b4;have gu:=ac gu;subst b3;subst gu;simp only [dH]at hv;obtain⟨⟨ds,n⟩,mY,hv⟩:=hv;rw [<-b4]at mY;obtain⟨ys,g1,g2,g3⟩:=aa7 hH hk mY hx;rw [b4]at g3;cases lF:Nat.beq n 0 with
 |true=>
  simp only [lF,cond_true]at hv;cases hv;have hn:=ac lF;subst hn;have hys:ys=[]:=by
   have:=g1.length;rw [List.eq_nil_of_length_eq_zero g2]at this;exact List.eq_nil_of_length_eq_zero (by simpa [av.flat]using this)
  subst hys;have hsk:bh P B ρ (cond sk H.skip H) w/\bS ρ H w ρ (cond sk H.skip H) w:=by
   cases sk with
   |false=>exact⟨hH,bS.refl _ _ _⟩
   |true=>
    refine⟨⟨hH.blk,hH.inj,fun j k hj=>Nat.lt_succ_of_lt (hH.lt j k hj),hH.base,hH.fz⟩,⟨cA.refl _,fun _ _=>rfl,Nat.le_succ _,aJ _,rfl,rfl,rfl,fun _ _ _=>rfl,fun _ _ h=>h,fun _ _ h=>h,fun _ _ h=> .inl h⟩⟩
  rcases hs.jt with⟨rfl,a,rfl⟩|⟨b,c,kc,h1,h2,h3,rfl⟩
  .exact⟨ρ,_,w,EU ht hi g3 a (aJ 0), .qi,hsk.1,hsk.2⟩
  .exact⟨ρ,_,w,EU ht hi g3 _ h3, .bT h1 h2 h3,hsk.1,hsk.2⟩
 |false=>
  simp only [lF,cond_false]at hv;obtain⟨hc,hv⟩:=qp hv;rw [ae]at hc;obtain⟨hc1,hc2⟩:=hc;cases hv;have hn0:0<n:=Nat.pos_of_ne_zero fun hh=>by subst hh;cases lF
  have same:∀(K:ai) (ρ':Env) (n0:Nat) (cs:List af) (xs:List ty.den),cs=ty.flat xs->Same P ρ' (K.new (.cells el cs false false false)) (K.new (.own el ty xs)):=fun K ρ' n0 cs xs hcs=>⟨rfl,fun j k hj=>by
   rw [ai.gA]at hj ⊢;by_cases hjn:K.next=j
   .rw [if_pos hjn]at hj ⊢;cases hj;refine⟨_,rfl,rfl,fun o ho=> ?_⟩;subst hcs;exact⟨ho,by rw [Jy hi];exact b4.symm,by rw [b4];exact b2⟩
   .rw [if_neg hjn]at hj ⊢;exact⟨k,hj,rfl,fun _ h=>h⟩,fun j hj=>by
   rw [ai.gA]at hj ⊢;by_cases hjn:K.next=j
   .rw [if_pos hjn]at hj;cases hj
   .rw [if_neg hjn]at hj ⊢;exact hj⟩
  simp only [bounded,ae]at hc2;have c1:=bU hc2.1;have c2:=bU hc2.2;have JJ:∀a,len=0->bQ ty (H.get i)=[]->sv= .slice a 0 0->∃ρ' r w',(Builtin.append_ #[t,tx] rt #[sv,y]).run P w= .ok r w'/\Den ρ' (.bT el ty H.next 0 (len+n) .full) r/\bh P B ρ' ((H.drop i).new (.own el ty (bQ ty (H.get i)++ds))) w'/\bS ρ H w ρ' ((H.drop i).new (.own el ty (bQ ty (H.get i)++ds))) w':=by
   intro a hl hxs tM;subst hl;subst tM;rw [hxs,List.nil_append];obtain⟨d1,d2⟩:=Qp hH i;have hold:(Builtin.firstCells inf.size 0 (.slice a 0 0)).run P w.drew= .ok #[] w.drew:=by
    cases a with
    |none=>exact run_firstCells_none w.drew _ 0 0 0
    |some a=>exact run_firstCells_some w.drew _ 0 a 0 0 [] τ τ
   have hr:=run_append_grow_src (P:=P) w t tx rt el inf z ht hi hz a 0 0 [] hold y n ys g3 ω ω (JA ω (by simpa using c1));obtain⟨q1,aQ⟩:=Jz (H:=H.drop i) d1 hf (need:=n) (old:=0) hi b1 g1 g3.newsLen;have kK:=same (H.drop i) (ρ.put (H.drop i).next w.heap.size (grownCap w n 0 el)) 0 (ty.flat ds) ds rfl;simp only [aw,List.nil_append]at hr ⊢;refine⟨_,_,_,hr, ?_,kK.lB q1,d2.trans (aQ.trans kK.EY)⟩;exact JH (Env.dn ..) rfl (grownCap_ge w n 0 el)
  rcases ZB hc1 with⟨hnone,hl,hxs,hcap⟩|⟨hsome,hlen,hcap⟩
  . -- nothing lies there yet
    subst hcap;rcases hs.jt with⟨_,a,tM⟩|⟨b,c,kc,h1,h2,h3,tM⟩
    .exact JJ a hl hxs tM
    .have h2:kc=0:=h2;subst h2;subst hl;exact JJ _ rfl hxs tM
  .subst hcap;rcases hs.jt with⟨hl,a,tM⟩|⟨b,c,kc,h1,h2,h3,tM⟩
   .exact JJ a hl (List.eq_nil_of_length_eq_zero (hlen.trans hl)) tM
   .generalize bQ ty (H.get i)=xs at hsome hlen ⊢;have hS:Same P ρ H (H.set i (.cells el (ty.flat xs) false false false)):=⟨rfl,fun j k hj=>by
     rw [ai.fY];split
     .rename_i e;subst e;rw [hsome]at hj;cases hj;exact⟨_,rfl,rfl,fun o ho=>ho.1⟩
     .exact⟨k,hj,rfl,fun _ h=>h⟩,fun j hj=>by
     rw [ai.fY];split
     .rename_i e;subst e;rw [hsome]at hj;cases hj
     .exact hj⟩
    have hfl:(ty.flat xs).length=len*inf.size:=by rw [ty.iW,hlen,b4]
    have hx2:Den ρ (.slice i 0 len .full) sv:=by rw [tM,Nat.zero_mul];exact .slice h1 h2 h3
    have hag:xe el inf.size inf.bytes i len .full (ty.flat ds) n (H.set i (.cells el (ty.flat xs) false false false))=some (.slice H.next 0 (len+n) .full,((H.set i (.cells el (ty.flat xs) false false false)).drop i).new (.cells el (ty.flat xs++ty.flat ds) false false false)):=by
     unfold xe;have hbd:bounded (len+n) inf.bytes=true:=by simp only [bounded,ae];exact hc2
     have hg:(H.set i (.cells el (ty.flat xs) false false false)).get i=some (.cells el (ty.flat xs) false false false):=by rw [ai.fY,if_pos rfl]
     have aa8:(Nat.beq el el&&Nat.ble (len*inf.size) (ty.flat xs).length)=true:=by rw [hfl];simp
     rw [hbd,hg];simp only [cond_true,aa8,cond_false];rw [eT ω];rfl
    obtain⟨ρ',r,w',r1,r2,r3,mh⟩:=As (hS.lB hH) ht hi hz b1 g3 g1 (zP ty ds) hx2 hag hf;have kK:=same ((H.set i (.cells el (ty.flat xs) false false false)).drop i) ρ' 0 (ty.flat xs++ty.flat ds) (xs++ds) (av.B7 _ _ _).symm;have heq:Same P ρ' (((H.set i (.cells el (ty.flat xs) false false false)).drop i).new (.own el ty (xs++ds))) ((H.drop i).new (.own el ty (xs++ds))):=by
     have Rb:∀j,((H.drop i).new (.own el ty (xs++ds))).get j=(((H.set i (.cells el (ty.flat xs) false false false)).drop i).new (.own el ty (xs++ds))).get j:=fun j=>by
      rw [ai.gA,ai.gA,ai.o4,ai.o4,ai.fY];show(if H.next=j then _ else _)=(if H.next=j then _ else _);by_cases h1:H.next=j
      .rw [if_pos h1,if_pos h1]
      .rw [if_neg h1,if_neg h1];by_cases h2:i=j
       .rw [if_pos h2,if_pos h2]
       .rw [if_neg h2,if_neg h2,if_neg h2]
     exact⟨rfl,fun j k hj=>⟨k,by rw [Rb];exact hj,rfl,fun _ h=>h⟩,fun j hj=>by rw [Rb];exact hj⟩
    refine⟨ρ',r,w',r1, ?_,heq.lB (kK.lB r3),((hS.EY.trans mh).trans kK.EY).trans heq.EY⟩;obtain⟨b',c',k',e1,e2,e3,rfl⟩:=r2.ij;exact JH e1 e2 e3
def aa9 {s:af} {sv:Value} (h:Ew s=true) (hs:Den ρ s sv):∃a,sv= .slice a 0 0:=by
 unfold Ew at h;split at h
 .rename_i i off n c;rw [ae]at h;have h1:=ac h.1;have h2:=ac h.2;subst h1;subst h2;obtain⟨b,c,k,_,hc,_,rfl⟩:=hs.ij;have hc:k=0:=hc;subst hc;exact⟨_,rfl⟩
 .exact⟨none,hs.cc⟩
 .cases h
def aba (hH:bh P B ρ H w) {t tx ty:TypeId} (hk:(∃e',P.underlying tx=some (.slice e'))\/P.underlying tx=some .string) {s x:af} {sv y:Value} (hs:Den ρ s sv) (hx:Den ρ x y) {q:af×ai} (hv:lY P t s x H=some q) (hf:Fr ρ H.next q.2.next):
  ∃ρ' r w',(Builtin.append_ #[t,tx] ty #[sv,y]).run P w= .ok r w'/\Den ρ' q.1 r/\bh P B ρ' q.2 w'/\bS ρ H w ρ' q.2 w':=by
 unfold lY at hv;split at hv
 .unfold lw at hv;split at hv
  .rename_i b H1 ht;obtain⟨rfl,hv⟩:=qp hv;obtain⟨cL,ha,h1,h2,h3⟩:=aa4 hH ht;obtain⟨ρ',r,w',q1,aQ,b8,eo⟩:=JI (ty:=_) h1 hk (hs.mono h2.le) (hx.mono h2.le) hv (fun i g1 g2=>by rw [ha];exact hf i (by rw [<-h3];exact g1) g2);exact⟨ρ',r,w',q1,aQ,b8,h2.trans eo⟩
  .exact JI hH hk hs hx hv hf
 .split at hv
  .obtain⟨he,hv⟩:=qp hv;unfold Ex at hv;split at hv
   .obtain⟨a,rfl⟩:=aa9 he hs;exact JI hH hk .qi hx hv hf
   .cases hv
  .exact aaU hH hk hs hx hv hf
def JK {t:TypeId} {e:TypeId} {ty:av} {i k len:Nat} {cap:aZ} {sk:Bool} {x:af} {q:af×ai} (h:rF P t e ty i k len cap sk x H=some q):H.next<=q.2.next:=by
  unfold rF at h;simp only [dH]at h;obtain⟨el,hel,inf,hi,z,hz,h⟩:=h;obtain⟨_,h⟩:=qp h;simp only [dH]at h;obtain⟨sn,_,h⟩:=h;cases lF:Nat.beq sn.2 0 with
  |true=>
   rw [lF]at h;cases h;cases sk with
   |false=>exact aJ _
   |true=>exact Nat.le_succ _
  |false=>
   rw [lF]at h;obtain⟨_,h⟩:=qp h;cases h;exact Nat.le_succ _
def nf {t:TypeId} {s x:af} {q:af×ai} (ha:∀{q},zv P t s x H=some q->H.next<=q.2.next) (h:lY P t s x H=some q):H.next<=q.2.next:=by
 unfold lY at h;split at h
 .unfold lw at h;split at h
  .rename_i b H1 ht;obtain⟨rfl,h⟩:=qp h;have:=JK h;rwa [aa3 ht]at this
  .exact JK h
 .split at h
  .obtain⟨_,h⟩:=qp h;unfold Ex at h;split at h
   .exact JK h
   .cases h
  .exact ha h
end
section
variable {P:Program} {B:Nat} {ρ:Env} {H:ai} {w:World} {o:Oper} {ev:dJ} {e:Operand->Value}
def zQ {l:List Operand} {a:af} (h:l.map ev=[a]):∃x,l=[x]/\ev x=a:=by
 match l,h with
 |[x],h=>exact⟨x,rfl,by simpa using h⟩
def JL {l:List Operand} {a b:af} (h:l.map ev=[a,b]):∃x y,l=[x,y]/\ev x=a/\ev y=b:=by
 match l,h with
 |[x,y],h=>exact⟨x,y,rfl,by simpa using h⟩
def At {α:Type} {a:Array α} {x:α} (h:a.toList=[x]):a= #[x]:=by apply Array.ext';simpa using h
def zR {α:Type} {a:Array α} {x y:α} (h:a.toList=[x,y]):a= #[x,y]:=by apply Array.ext';simpa using h
section
variable {argTypes:Array TypeId} {ty:TypeId} {v r:af} {x:Value}
def abb (hv:Ja P argTypes[0]? v=some r) (hx:Den ρ v x) (w:World):∃y,(Builtin.len_ argTypes ty #[x]).run P w= .ok y w/\Den ρ r y:=by
 unfold Ja at hv;simp only [dH]at hv;obtain⟨t,ht,hv⟩:=hv;split at hv
 .rename_i el i off len cap hu;cases hv;obtain⟨b,c,k,_,_,_,rfl⟩:=hx.ij;exact⟨.int .i64 len,by simp [Builtin.len_,ht,dw hu,goInt], .raw _⟩
 .rename_i el z u xs hu;cases hv;rcases hx.tF with⟨rfl,a,k,rfl,_⟩|⟨b,off,k,A,_,_,_,_,rfl,_⟩
  .exact⟨.int .i64 (0:Nat),by simp [Builtin.len_,ht,dw hu,goInt], .raw _⟩
  .exact⟨.int .i64 xs.length,by simp [Builtin.len_,ht,dw hu,goInt], .raw _⟩
 .rename_i el e' u i k len cap hu;cases hv;rcases hx.jt with⟨rfl,a,rfl⟩|⟨b,c,kc,_,_,_,rfl⟩
  .exact⟨.int .i64 (0:Nat),by simp [Builtin.len_,ht,dw hu,goInt], .raw _⟩
  .exact⟨.int .i64 len,by simp [Builtin.len_,ht,dw hu,goInt], .raw _⟩
 .rename_i n el cs hu;cases hv;exact⟨.int .i64 n,by simp [Builtin.len_,ht,dw hu,goInt], .raw _⟩
 .rename_i b hu;cases hv;have:=hx.cc;subst this;exact⟨.int .i64 b.size,by simp [Builtin.len_,ht,dw hu,goInt], .raw _⟩
 .cases hv
def abc (hv:Jb P argTypes[0]? v=some r) (hx:Den ρ v x) (w:World):∃y,(Builtin.cap_ argTypes ty #[x]).run P w= .ok y w/\Den ρ r y:=by
 unfold Jb at hv;simp only [dH]at hv;obtain⟨t,ht,hv⟩:=hv;split at hv
 .rename_i el i off len n hu;cases hv;obtain⟨b,c,k,_,hc,_,rfl⟩:=hx.ij;have hc:k=n:=hc;subst hc;exact⟨.int .i64 k,by simp [Builtin.cap_,ht,dw hu,goInt], .raw _⟩
 .cases hv
end
def abd (hH:bh P B ρ H w) {argTypes:Array TypeId} {ty:TypeId} {v r:af} {x:Value} (hv:B1 P argTypes[0]? v H=some r) (hx:Den ρ v x):
  ∃y,(Builtin.len_ argTypes ty #[x]).run P w= .ok y w/\Den ρ r y:=by
 unfold B1 at hv;simp only [dH]at hv;obtain⟨t,ht,hv⟩:=hv;split at hv
 .rename_i kt et i hu;obtain⟨b,q,h1,rfl⟩:=hx.vk;unfold Qk at hv;split at hv
  .rename_i es c hg;cases hv;obtain⟨lC,g1,g2,_⟩:=hH.at hg h1;have g2:lC= .map es c:=g2;subst g2;exact⟨.int .i64 es.size,by simp [Builtin.len_,ht,dw hu,goInt,run_getObj_map g1], .raw _⟩
  .rename_i kv y hg;cases hv;obtain⟨lC,g1,⟨xv,g2,_⟩,_⟩:=hH.at hg h1;subst g2;exact⟨.int .i64 (1:Nat),by simp [Builtin.len_,ht,dw hu,goInt,run_getObj_map g1], .raw _⟩
  .cases hv
 .cases hv
def abe (hH:bh P B ρ H w) (he:∀x,Den ρ (ev x) (e x)) {b:Builtin} {args:Array Operand} {argTypes:Array TypeId} (ho:o.op= .call {callee:= .builtin b,args,argTypes}):
  cN P B ρ H w ((execOp e o).run P w) (dE P o ev b argTypes (args.toList.map ev) H):=by
 have hp:qj o.op=true:=by rw [ho];rfl
 have hg:=vq (P:=P) (w:=w) hH he hp;have lift:∀{q:af×ai},(Fr ρ H.next q.2.next->∃ρ' r w',(execOp e o).run P w= .ok (.value r) w'/\Den ρ' q.1 r/\bh P B ρ' q.2 w'/\bS ρ H w ρ' q.2 w')->cN P B ρ H w ((execOp e o).run P w) (eu (some q)):=
  fun h hf=>by obtain⟨ρ',r,w',h1,h2,h3,h4⟩:=h hf;exact⟨ρ',r,w', .value r,h1,rfl,h2,h3,h4⟩
 unfold dE;split
 .rename_i v hm;obtain⟨x,hx,rfl⟩:=zQ hm;have ha:=At hx;subst ha;split
  .rename_i r hr;obtain⟨y,h1,h2⟩:=abd (ty:=o.type) hH hr (he x);exact fQ hH (rN ho fun cs=>by simp [builtin,h1]) h2
  .split
   .rename_i r hr;obtain⟨y,h1,h2⟩:=abb (ty:=o.type) hr (he x) w;exact fQ hH (rN ho fun cs=>by simp [builtin,h1]) h2
   .exact hg
 .rename_i v hm;obtain⟨x,hx,rfl⟩:=zQ hm;have ha:=At hx;subst ha;split
  .rename_i r hr;obtain⟨y,h1,h2⟩:=abc (ty:=o.type) hr (he x) w;exact fQ hH (rN ho fun cs=>by simp [builtin,h1]) h2
  .exact hg
 .rename_i s x hm;obtain⟨xs,tN,hx,rfl,rfl⟩:=JL hm;have ha:=zR hx;subst ha;split
  .rename_i t t' ht;have ki:=zR ht;subst ki;have main:((∃e',P.underlying t'=some (.slice e'))\/P.underlying t'=some .string)->cN P B ρ H w ((execOp e o).run P w) (eu (lY P t (ev xs) (ev tN) H)):=by
    intro hk;cases hv:lY P t (ev xs) (ev tN) H with
    |none=>trivial
    |some q=>
     refine lift fun hf=> ?_
     obtain⟨ρ',r,w',h1,h2,h3,h4⟩:=aba (ty:=o.type) hH hk (he xs) (he tN) hv hf;exact⟨ρ',r,w',rN ho fun cs=>by simp [builtin,h1],h2,h3,h4⟩
   split
   .rename_i el hu;exact main (.inl ⟨el,hu⟩)
   .rename_i hu;exact main (.inr hu)
   .trivial
  .trivial
 .rename_i d x hm;obtain⟨xs,tN,hx,rfl,rfl⟩:=JL hm;have ha:=zR hx;subst ha;split
  .rename_i t t' ht;have ki:=zR ht;subst ki;cases hv:zx P t (ev xs) (ev tN) H with
   |none=>trivial
   |some q=>
    refine lift fun hf=> ?_
    obtain⟨r,w',h1,h2,h3,h4⟩:=aaV (tx:=t') (ty:=o.type) hH (he xs) (he tN) hv;exact⟨ρ,r,w',rN ho fun cs=>by simp [builtin,h1],h2,h3,h4⟩
  .trivial
 .rename_i i off len cap hm;obtain⟨x,hx,gq⟩:=zQ hm;have ha:=At hx;subst ha;have xF:=he x;rw [gq]at xF;split
  .rename_i t ht;have ki:=At ht;subst ki;cases hv:th P t i off (len+1) H with
   |none=>trivial
   |some q=>
    refine lift fun hf=> ?_
    obtain⟨r,w',h1,h2,h3,h4⟩:=aaX (ty:=o.type) hH xF hv;exact⟨ρ,r,w',rN ho fun cs=>by simp [builtin,h1],h2,h3,h4⟩
  .trivial
 .rename_i i off cap hm;obtain⟨x,hx,gq⟩:=zQ hm;have ha:=At hx;subst ha;have xF:=he x;rw [gq]at xF;obtain⟨b,c,k,_,_,_,xF⟩:=xF.ij;split
  .rename_i t ht;have ki:=At ht;subst ki;split
   .rename_i el hu;have hc:(Builtin.clear_ #[t] o.type #[e x]).run P w= .ok (.tuple #[]) w:=by
     rw [xF];simp [Builtin.clear_,dw hu]
    exact fQ hH (rN ho fun cs=>by simp [builtin,hc]) (.raw _)
   .trivial
  .trivial
 .rename_i p n hm;obtain⟨xs,tN,hx,rfl,rfl⟩:=JL hm;have ha:=zR hx;subst ha;split
  .rename_i t t' ht;have ki:=zR ht;subst ki;cases hv:vg P t (ev xs) (ev tN) H with
   |none=>trivial
   |some q=>
    refine lift fun hf=> ?_
    obtain⟨r,w',h1,h2,h3,h4⟩:=aaZ (it:=t') (ty:=o.type) hH (he xs) (he tN) hv;exact⟨ρ,r,w',rN ho fun cs=>by simp [builtin,h1],h2,h3,h4⟩
  .trivial
 .rename_i i off len cap hm;obtain⟨x,hx,gq⟩:=zQ hm;have ha:=At hx;subst ha;cases hb:Nat.ble 1 len with
  |false=>trivial
  |true=>
   have hb:=bU hb;have hx:=he x;rw [gq]at hx;obtain⟨b,c,k,h1,_,h2,h3⟩:=hx.ij;have hr:=Lib.run_unsafeSliceData_row (P:=P) w argTypes o.type ⟨b,off,none⟩ len k ω;exact fQ hH (rN ho fun cs=>by simp [builtin,h3,hr]) (.ptr h1)
 .rename_i el t i k len cap hm;obtain⟨x,hx,gq⟩:=zQ hm;have ha:=At hx;subst ha;cases hb:Nat.ble 1 len with
  |false=>trivial
  |true=>
   have hb:=bU hb;have hx:=he x;rw [gq]at hx;rcases hx.jt with⟨h0,_⟩|⟨b,c,kc,h1,_,h2,h3⟩
   .omega
   .have hr:=Lib.run_unsafeSliceData_row (P:=P) w argTypes o.type ⟨b,k*t.size,none⟩ len kc ω;exact fQ hH (rN ho fun cs=>by simp [builtin,h3,hr]) (.dA h1)
 .exact hg
section
variable (hK:e7 P) (hH:bh P B ρ H w) (he:∀x,Den ρ (ev x) (e x))
def abf {c:Call} (ho:o.op= .call c):cN P B ρ H w ((execOp e o).run P w) (iV c P o ev H):=by
 obtain⟨callee,args,argTypes⟩:=c;have hl:∀l:List Operand,aH ρ (l.map ev) (l.map e):=fun l=>by
  induction l with
  |nil=>exact .nil
  |cons x l ih=>exact .cons (he x) ih
 have ea:args.map e=(args.toList.map e).toArray:=by apply Array.ext';simp
 cases callee with
 |value f=>
  refine EX hK hH (he f) (hl args.toList) fun fn first captured hf=> ?_
  simp only [execOp,ho,resolve,Deferred.ofValue,hf,Sem.run_bind,Sem.run_pure,Result.andThen_ok,ea]
 |invoke r m=>trivial
 |builtin b=>exact abe hH he ho
def abg:cN P B ρ H w ((execOp e o).run P w) (e5 o.op P o ev H):=by
 cases ho:o.op with
 |move x=>exact ZJ hH he ho
 |assign x=>exact ZK hH he ho
 |pick c a b=>exact ZL hH he ho
 |alloc t=>exact aan (ev:=ev) hH ho
 |box t x=>exact aao hH he ho
 |build t ps=>exact aam hH he ho
 |buildSlice t l ps=>exact aaq hH he ho
 |insert t m k v=>exact aaH hH he ho
 |load t x=>exact aav hH he ho
 |store t x y=>exact aaB hH he ho
 |nilCheck x=>exact ZM hH he ho
 |binOp op t x y ah=>exact aaf hH he ho
 |unOp op t x=>exact vq hH he (by rw [ho];rfl)
 |convert s d x=>exact aaQ hH he ho
 |makeInterface t x=>exact ZO hH he ho
 |makeFunc fn a c=>exact ZN hH he ho
 |makeMap t r=>exact aaI hH he ho
 |makeSlice t l c=>exact aar hH he ho
 |slice t x l h m=>exact aak hH he ho
 |fieldAddr s x f=>exact ZQ hH he ho
 |field t x f=>exact ZU hH he ho
 |indexAddr t x i=>exact ZT hH he ho
 |index t x i=>exact ZV hH he ho
 |lookup t m k ok=>exact aaD hH he ho
 |mapUpdate t m k v=>exact aaG hH he ho
 |typeAssert x a b c=>exact vq hH he (by rw [ho];rfl)
 |extract x i=>exact ZW hH he ho
 |call c=>exact abf hK hH he ho
 |range t x=>exact aaK hH he ho
 |next x b=>exact aaO hH he ho
 |entry x=>exact aaP hH he ho
 |_=>trivial
end
def aM.mono (H:ai):aM->Prop
 | .no=>True
 | .ok _ H'| .enter _ _ H'| .round _ _ H'=>H.next<=H'.next
def ir (x:Option af):aM.mono H (ag H x):=by cases x<;>simp [ag,aM.mono]
def mj {x:Option (af×ai)} (h:∀q,x=some q->H.next<=q.2.next):aM.mono H (eu x):=by
 cases x with
 |none=>trivial
 |some q=>exact h q rfl
def abh {gH n:Nat} {x:af}:aM.mono H (lr gH n x H):=by
 unfold lr;split
 .cases Nat.ble 1 n<;>first |trivial |exact aJ _
 .cases Nat.ble 1 n<;>first |trivial |exact aJ _
 .trivial
def abi {k n s:Nat} {x:af}:aM.mono H (u6 k n s x H):=by
 unfold u6;split
 .cases Nat.ble (k+1) n<;>first |trivial |exact aJ _
 .cases Nat.ble (k+1) n<;>first |trivial |exact aJ _
 .trivial
def abj {k s:Nat} {x:af}:aM.mono H (rC k s x H):=by
 unfold rC;split
 .rename_i t xs;cases (Nat.beq t.size s&&Nat.ble (k+1) xs.length)<;>first |trivial |exact aJ _
 .rename_i e t i k0 len cap;cases (Nat.beq t.size s&&Nat.ble (k+1) len)<;>first |trivial |exact aJ _
 .trivial
def abk {t:TypeId} {x:af}:aM.mono H (tr P t x H):=by
 unfold tr;split
 .exact ir _
 .rename_i e u i k off;cases bz e u (H.get i) k<;>first |trivial |exact ir _
 .trivial
def abl {t:TypeId} {x y:af}:aM.mono H (nq P t x y H):=by
 unfold nq;split
 .rename_i e u i k off;cases bz e u (H.get i) k with
  |false=>trivial
  |true=>
   cases (eU y.cells&&tv P t y.cells.length)with
   |false=>trivial
   |true=>
    simp only [cond_true];split
    .exact aJ _
    .trivial
 .trivial
def nY (b:bq):H.next<=(H.new b).next:=Nat.le_succ _
def jW {α:Type} {b:Bool} {x:Option α} {q:α} (h:cond b x none=some q):x=some q:=by cases b<;>first |exact h|cases h
def vv (i:Nat) (b:bq):H.next<=(H.set i b).next:=aJ _
def abm {el:TypeId} {sz bytes i len n:Nat} {cap:aZ} {news:List af} {q:af×ai} (h:xe el sz bytes i len cap news n H=some q):H.next<=q.2.next:=by
 unfold xe at h;have h:=jW h;split at h
 .rename_i e' cs ex hg;have h:=jW h;cases cap with
  |known c=>
   simp only at h;cases hb:Nat.ble (len+n) c with
   |true=>
    rw [hb]at h;simp only [cond_true,am]at h;obtain⟨_,_,rfl⟩:=h;exact vv _ _
   |false=>rw [hb]at h;cases h;exact nY _
  |full=>
   cases ex with
   |false=>cases h;exact nY (H:=H.drop i) _
   |true=>cases h
  |any=>cases h
 .cases h
def Rc {t:TypeId} {s x:af} {q:af×ai} (h:zv P t s x H=some q):H.next<=q.2.next:=by
 unfold zv at h;simp only [dH]at h;obtain⟨el,_,i,_,z,_,h⟩:=h;have h:=jW h;simp only [dH]at h;obtain⟨sn,_,h⟩:=h;cases hz:Nat.beq sn.2 0 with
 |true=>
  rw [hz]at h;simp only [cond_true]at h;split at h
  .cases h;exact aJ _
  .cases h;exact aJ _
  .cases h
 |false=>
  rw [hz]at h;simp only [cond_false]at h;have h:=jW h;split at h
  .have h:=jW h;cases h;exact nY _
  .exact abm h
  .cases h
def abn {t:TypeId} {d x:af} {q:af×ai} (h:zx P t d x H=some q):H.next<=q.2.next:=by
 unfold zx at h;simp only [dH]at h;obtain⟨el,_,s,_,h⟩:=h;split at h
 .simp only [dH]at h;obtain⟨sn,_,h⟩:=h;split at h
  .have h:=jW h;simp only [am]at h;obtain⟨_,_,rfl⟩:=h;exact vv _ _
  .cases h
 .cases h;exact aJ _
 .cases h
def abo {pt:TypeId} {x n:af} {q:af×ai} (h:vg P pt x n H=some q):H.next<=q.2.next:=by
 unfold vg at h;split at h
 .split at h
  .split at h
   .have h:=jW h;simp only [am]at h;obtain⟨_,_,rfl⟩:=h;exact vv _ _
   .cases h
  .cases h
 .split at h
  .cases (qp h).2;exact aJ _
  .cases h
 .cases h
def Ax {t:TypeId} {i off len:Nat} {q:af×ai} (h:th P t i off len H=some q):H.next<=q.2.next:=by
 unfold th at h;simp only [dH]at h;obtain⟨_,_,_,_,_,_,h⟩:=h;split at h
 .have h:=jW h;simp only [am]at h;obtain⟨_,_,rfl⟩:=h;exact vv _ _
 .cases h
def Re {t:TypeId} {m k x:af} {q:af×ai} (h:BZ P t m k x H=some q):H.next<=q.2.next:=by
 unfold BZ at h;split at h
 .split at h
  .simp only [am]at h;obtain⟨_,_,rfl⟩:=h;exact vv _ _
  .cases h
 .unfold I7 at h;split at h
  .split at h
   .have h:=jW h;cases h;exact vv _ _
   .cases h
  .cases h
 .cases h
def abp {t:TypeId} {x:af} {q:af×ai} (h:EC P t x H=some q):H.next<=q.2.next:=by
 unfold EC at h;split at h
 .split at h
  .cases h;exact nY _
  .cases h;exact nY _
  .cases h
 .cases h
def abq {x:af} {s:Bool} {q:af×ai} (h:ED x s H=some q):H.next<=q.2.next:=by
 unfold ED at h;split at h
 .unfold I8 at h;split at h
  .split at h
   .cases h;exact aJ _
   .cases h
  .split at h
   .cases h;exact vv _ _
   .cases h
  .split at h
   .cases h;exact aJ _
   .cases h
  .cases h
 .cases h
def abr {b:Builtin} {argTypes:Array TypeId} {args:List af}:aM.mono H (dE P o ev b argTypes args H):=by
 unfold dE;split
 .split
  .exact aJ _
  .split
   .exact aJ _
   .exact ir _
 .split
  .exact aJ _
  .exact ir _
 .split
  .split
   .exact mj fun q h=>nf Rc h
   .exact mj fun q h=>nf Rc h
   .trivial
  .trivial
 .split
  .exact mj fun q h=>abn h
  .trivial
 .split
  .exact mj fun q h=>Ax h
  .trivial
 .split
  .split
   .exact aJ _
   .trivial
  .trivial
 .split
  .exact mj fun q h=>abo h
  .trivial
 .rename_i i off len cap;show aM.mono H (@Bool.rec (fun _=>aM) .no (.ok (.ptr i off) H) (Nat.ble 1 len))
  generalize Nat.ble 1 len=bb;cases bb
  .trivial
  .exact aJ _
 .rename_i e u i k len cap;show aM.mono H (@Bool.rec (fun _=>aM) .no (.ok (.dA e u i k 0) H) (Nat.ble 1 len))
  generalize Nat.ble 1 len=bb;cases bb
  .trivial
  .exact aJ _
 .exact ir _
def abt {f:FuncId} {fn:Func} {args:List af} {q:af×ai} (h:zy P f fn args H=some q):H.next<=q.2.next:=by
 unfold zy at h;split at h
 .split at h
  .cases h;exact aJ _
  .have h:=jW h;split at h
   .simp only [dH]at h;obtain⟨el,_,h⟩:=h;have h:=jW h;cases h;exact nY _
   .cases h
 .split at h
  .have h:=jW h;cases h;exact aJ _
  .cases h
def JM {f:FuncId} {args:List af}:aM.mono H (kp P f args H):=by
 unfold kp;cases hf:P.funcs[f]? with
 |none=>trivial
 |some fn=>
  simp only;cases hb:fn.body with
  |none=>exact mj fun q h=>abt h
  |some c=>exact aJ _
def abu {fv:af} {args:List af}:aM.mono H (lZ P fv args H):=by
 unfold lZ;split
 .rename_i v;cases hg:xh v with
  |fn f=>exact JM
  |no=>
   simp only;split
   .exact JM
   .trivial
 .exact JM
 .exact aJ _
 .trivial
def abv {s d:TypeId} {x:af} {q:af×ai} (h:qc P o ev s d x H=some q):H.next<=q.2.next:=by
 have hm:∀{g:Option af},g.map (fun v=>(v,H))=some q->H.next<=q.2.next:=fun h=>by
  simp only [am]at h;obtain⟨_,_,rfl⟩:=h;exact aJ _
 unfold qc at h;split at h
 .split at h
  .split at h
   .have h:=jW h;simp only [am]at h;obtain⟨_,_,rfl⟩:=h;exact aJ _
   .cases h
  .cases h
 .split at h
  .split at h
   .have h:=jW h;cases h;exact aJ _
   .cases h
  .have h:=jW h;cases h;exact aJ _
  .cases h
 .split at h
  .split at h
   .have h:=jW h;cases h;exact nY _
   .cases h
  .exact hm h
 .exact hm h
def abw:aM.mono H (e5 o.op P o ev H):=by
 cases ho:o.op with
 |move x=>exact aJ _
 |assign x=>exact aJ _
 |pick c a b=>
  show aM.mono H (nT c a b P o ev H);unfold nT;cases gI (ev c)with
  |no=>trivial
  |mk b=>cases b<;>exact aJ _
 |alloc t=>
  show aM.mono H (tu t P o ev H);unfold tu;cases mT P t with
  |none=>trivial
  |some z=>exact nY _
 |box t x=>
  show aM.mono H (oU t x P o ev H);unfold oU;cases (ev x).u5 with
  |true=>trivial
  |false=>exact nY _
 |build t ps=>exact ir _
 |buildSlice t l ps=>
  refine mj fun q h=> ?_
  unfold oV at h;simp only [dH]at h;obtain⟨_,_,_,_,_,_,h⟩:=h;have h:=jW h;simp only [am]at h;obtain⟨_,_,rfl⟩:=h;exact nY _
 |insert t m k v=>
  exact mj fun q h=>Re h
 |load t x=>
  show aM.mono H (nU t x P o ev H);unfold nU;cases iH (ev x)with
  |no=>exact abk
  |mk i off=>
   cases hb:s9 (H.get i)with
   |no=>simp only [hb];trivial
   |mk a b c d f=>simp only [hb];exact ir _
 |store t x y=>
  show aM.mono H (qf t x y P o ev H);unfold qf;cases iH (ev x)with
  |no=>exact abl
  |mk i off=>
   cases hb:s9 (H.get i)with
   |no=>simp only [hb];trivial
   |mk a b c d f=>
    simp only [hb];cases f<;>first |trivial |(cases d<;>first |trivial |skip)
    refine mj fun q h=> ?_
    unfold BX at h;have h:=jW h;simp only [am]at h;obtain⟨_,_,rfl⟩:=h;exact vv _ _
 |nilCheck x=>
  show aM.mono H (tz x P o ev H);unfold tz;cases iH (ev x)with
  |no=>exact ir _
  |mk i off=>exact aJ _
 |binOp op t x y ah=>
  show aM.mono H (iU op t x y ah P o ev H);unfold iU;cases iG (ev x)with
  |no=>exact ir _
  |int k a=>
   cases iG (ev y)with
   |no=>exact ir _
   |int k' b=>
    cases hf:jr op k k' a b with
    |none=>simp only [hf];exact ir _
    |some v=>simp only [hf];exact aJ _
 |unOp op t x=>exact ir _
 |convert s d x=>exact mj fun q h=>abv h
 |makeInterface t x=>exact ir _
 |makeFunc fn a c=>exact aJ _
 |makeMap t r=>
  refine mj fun q h=> ?_
  unfold rJ at h;split at h
  .cases h;exact nY _
  .split at h
   .cases h;exact nY _
   .cases h
 |makeSlice t l c=>
  refine mj fun q h=> ?_
  unfold qd at h;simp only [dH]at h;obtain⟨_,_,_,_,_,_,_,_,_,_,h⟩:=h;have h:=jW h;cases h;exact nY _
 |slice t x l h m=>exact ir _
 |fieldAddr s x f=>
  show aM.mono H (p9 s x f P o ev H);unfold p9;cases fv P s f with
  |no=>trivial
  |mk a n t=>
   cases iH (ev x)with
   |no=>exact abh
   |mk i off=>
    cases hb:Nat.ble 1 n with
    |false=>simp only [hb];trivial
    |true=>simp only [hb];exact aJ _
 |field t x f=>
  show aM.mono H (qa t x f P o ev H);unfold qa;cases rD (ev x)with
  |none=>exact ir _
  |some cs=>
   cases fv P t f with
   |no=>trivial
   |mk a n t=>exact ir _
 |indexAddr t x i=>
  show aM.mono H (mV t x i P o ev H);unfold mV;cases nS (ev i)with
  |no=>trivial
  |mk k=>
   cases nR P t with
   |no=>trivial
   |arr n s=>
    cases iH (ev x)with
    |no=>exact abi
    |mk i off=>
     cases hb:Nat.ble (Nat.succ k) n with
     |false=>simp only [hb];trivial
     |true=>simp only [hb];exact aJ _
   |sl s=>
    cases xd (ev x)with
    |no=>exact abj
    |mk i off len cap=>
     cases hb:Nat.ble (Nat.succ k) len with
     |false=>simp only [hb];trivial
     |true=>simp only [hb];exact aJ _
 |index t x i=>
  show aM.mono H (l5 t x i P o ev H);unfold l5;cases rD (ev x)with
  |none=>exact ir _
  |some cs=>exact ir _
 |lookup t m k ok=>exact ir _
 |mapUpdate t m k v=>
  exact mj fun q h=>Re h
 |typeAssert x a b c=>exact ir _
 |extract x i=>
  show aM.mono H (qb x i P o ev H);unfold qb;cases zl (ev x)with
  |none=>exact ir _
  |some cs=>exact ir _
 |call c=>
  obtain⟨callee,args,argTypes⟩:=c;cases callee with
  |value f=>exact abu
  |invoke r m=>trivial
  |builtin b=>exact abr
 |range t x=>exact mj fun q h=>abp h
 |next x b=>exact mj fun q h=>abq h
 |entry x=>exact ir _
 |_=>trivial
end
end Go.Proofs.YtibikmmdbdlafaaGreatDoor.Sv
