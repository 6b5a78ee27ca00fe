import Derived.Test.YtibikmmdbdlafaaGreatDoorZcSvOp3
import Derived.Great.BuildSlice
import Derived.Deep.AppendSrc
import Derived.Lib.UnsafeStr
import Derived.Laws.IdiomStrings
import Derived.Laws.LoneSync
set_option linter.defProp false
set_option linter.unusedSimpArgs false
namespace Go.Proofs.YtibikmmdbdlafaaGreatDoor.Sv
open Go.RowKit
section
variable {P:Program} {B:Nat} {ρ:Env} {H:ai} {w:World} {o:Oper} {ev:dP} {e:Operand->Value}
def QY (off:Nat):∀(zs:List Value) (k:Nat) (cur:Array Value),off+k+zs.length<=cur.size->
  ((zs.zipIdx k).foldl (fun cs (p:Value×Nat)=>cs.setIfInBounds (off+p.2) p.1) cur).toList=cur.toList.take (off+k)++zs++cur.toList.drop (off+k+zs.length)
 |[],k,cur,_=>by simp
 |z::zs,k,cur,h=>by
  have h':off+(k+1)+zs.length<=(cur.setIfInBounds (off+k) z).size:=by simp at h ⊢;omega
  rw [List.zipIdx_cons,List.foldl_cons,QY off zs (k+1) _ h'];have e:=list_seg_step cur.toList (off+k) z zs (by simp at h ⊢;omega);simpa [Array.toList_setIfInBounds,Nat.add_assoc]using e
def QZ {place:Nat->Option (Nat×Nat)}:∀(parts:List (Nat×aa)) (jc:List (Nat×Value)) (cells:List aa) (cur:Array Value) {r:List aa},rN place cells parts=some r->aG ρ cells cur.toList->
  jc.map Prod.fst=parts.map Prod.fst->aG ρ (parts.map Prod.snd) (jc.map Prod.snd)->∃out,Instr.fill place cur jc=some out/\aG ρ r out.toList
 |[],jc,cells,cur,r,h,hd,hi,_=>by
  have:jc=[]:=by cases jc<;>simp_all
  subst this;simp [rN]at h;subst h;exact⟨cur,rfl,hd⟩
 |(i,v)::parts,[],cells,cur,r,h,hd,hi,_=>by simp at hi
 |(i,v)::parts,(j,x)::jc,cells,cur,r,h,hd,hi,hv=>by
  simp only [List.map_cons,List.cons.injEq]at hi;obtain⟨rfl,hi⟩:=hi;cases hv with
  |cons hx hv=>
  simp only [rN,dO]at h;obtain⟨p,hp,h⟩:=h;cases n6:v.vD with
  |true=>rw [n6]at h;cases h
  |false=>
  cases hb:Nat.beq v.cells.length p.2 with
  |false=>rw [n6,hb]at h;cases h
  |true=>
   rw [n6,hb]at h;simp only [cond_true,cond_false,dO]at h;obtain⟨cells',hc,h⟩:=h;obtain⟨h1,h2⟩:=Cs hc;have hl:=hd.length;have hvl:=(hx.cells n6).length;have hsz:x.cells.size=p.2:=by rw [<-ac hb,<-hvl];simp
   have hfit:p.1+x.cells.size<=cur.size:=by
    have e1:x.cells.size=v.cells.length:=by rw [<-hvl];simp
    have e2:cur.size=cells.length:=by rw [<-hl];simp
    omega
   have hstep:=QY p.1 x.cells.toList 0 cur (by simpa using hfit);obtain⟨out,g1,g2⟩:=QZ parts jc cells' (x.cells.zipIdx.foldl (fun cs (c,j)=>cs.setIfInBounds (p.1+j) c) cur) h (by
    have e3:(x.cells.zipIdx.foldl (fun cs (c,j)=>cs.setIfInBounds (p.1+j) c) cur)=(x.cells.toList.zipIdx 0).foldl (fun cs (p':Value×Nat)=>cs.setIfInBounds (p.1+p'.2) p'.1) cur:=by
     rw [<-Array.foldl_toList,Array.toList_zipIdx]
    rw [e3,hstep,h2];simp only [Nat.add_zero];rw [show x.cells.toList.length=v.cells.length from hvl];exact((hd.take p.1).append (hx.cells n6)).append (hd.drop _)) hi hv
   refine⟨out, ?_,g2⟩;obtain⟨p1,p2⟩:=p;simp only [Instr.fill,hp];rw [if_neg (by simp only [Bool.or_eq_true,bE,not_or];exact⟨by simpa using hsz,by omega⟩)];exact g1
def Q0 {v:aa} (h:eW v.cells=true):v.vD=false:=by
 cases v<;>first |rfl |(simp [aa.cells,eW,aa.one]at h)
def CA (a:Array Value):aG ρ (ic a) a.toList:=aG.rT _
def Q1 (he:∀x,Den ρ (ev x) (e x)):∀(l:List (Nat×Operand)),aG ρ ((l.map fun p=>(p.1,ev p.2)).map Prod.snd) ((l.map fun p=>(p.1,e p.2)).map Prod.snd)
 |[]=> .nil
 |p::l=> .cons (he p.2) (Q1 he l)
def Jv {place:Nat->Option (Nat×Nat)} (he:∀x,Den ρ (ev x) (e x)) (parts:Array (Nat×Operand)) {cells:List aa} {cur:Array Value} {r:List aa} (h:rN place cells (rQ ev parts)=some r) (hd:aG ρ cells cur.toList):
  ∃out,Instr.fill place cur (parts.map fun(i,x)=>(i,e x)).toList=some out/\aG ρ r out.toList:=by
 have e1:(parts.map fun(i,x)=>(i,e x)).toList=parts.toList.map fun p=>(p.1,e p.2):=by simp
 rw [e1];exact QZ (rQ ev parts) _ cells cur h hd (by simp [rQ,Function.comp_def]) (Q1 he parts.toList)
def Q2:∀(fs:List Field),(fs.all fun f=>(ey P f.type).isSome)=true->∃ps:List (Nat×Nat),fs.mapM (fun f=>(P.info? f.type).map fun i=>(f.offset,i.size))=some ps/\∀i:Nat,ps[i]? =(fs[i]?).bind fun(f:Field)=>(ey P f.type).map fun s=>(f.offset,s)
 |[],_=>⟨[],by simp,by simp⟩
 |f::fs,h=>by
  simp only [List.all_cons,ae]at h;obtain⟨ps,h1,h2⟩:=Q2 fs h.2;obtain⟨s,hs⟩:=Option.isSome_iff_exists.1 h.1;obtain⟨inf,hi,rfl⟩:=xX hs;refine⟨(f.offset,inf.size)::ps, ?_, ?_⟩
  .rw [List.mapM_cons];simp [hi,h1]
  .intro i;cases i with
   |zero=>simp [hs]
   |succ i=>simpa using h2 i
def aaD (hH:aZ P B ρ H w) (he:∀x,Den ρ (ev x) (e x)) {t:TypeId} {parts:Array (Nat×Operand)} (ho:o.op= .build t parts):cR P B ρ H w ((execOp e o).run P w) (Ce t parts P o ev H):=by
 refine mz hH fun v hv=> ?_
 unfold I6 at hv;simp only [dO]at hv;obtain⟨z,hz,hv⟩:=hv;obtain⟨inf,hi,o6⟩:=Jt hz;have fin:∀(out:Array Value) (cs:List aa),P.built t (parts.map fun(i,x)=>(i,e x)).toList=some out->aG ρ cs out.toList->v= .agg cs->∃eM y,(execOp e o).run P w= .ok eM w/\tS eM y/\Den ρ v y:=by
  intro out cs h1 h2 h3;subst h3;have hr:=run_build w t _ out h1;refine fg (y:= .agg out) ?_ (by simpa using Den.agg h2);simp [execOp,ho,hr]
 split at hv
 .rename_i fs hu;simp only [dO]at hv;obtain⟨cs,hc,hv⟩:=hv;cases hall:(fs.toList.all fun f=>(ey P f.type).isSome)with
  |false=>rw [hall]at hv;cases hv
  |true=>
   rw [hall]at hv;cases hv;obtain⟨ps,h1,h2⟩:=Q2 fs.toList hall;obtain⟨out,g1,g2⟩:=Jv he parts hc (CA z.cells);refine fin out cs ?_ g2 rfl;unfold Program.built;rw [hi,hu];simp only [o6,h1];rw [<-g1];congr 1;funext i;have:=h2 i;simp only [Qo];simpa using this
 .rename_i n el hu;simp only [dO,am]at hv;obtain⟨s,hs,cs,hc,rfl⟩:=hv;obtain⟨ie,hie,rfl⟩:=xX hs;obtain⟨out,g1,g2⟩:=Jv he parts hc (CA z.cells);refine fin out cs ?_ g2 rfl;unfold Program.built;rw [hi,hu];simp only [o6,hie,g1]
 .cases hv
def x5 (hH:aZ P B ρ H w) {r:Result Next} {v:aa} {y:Value} {k:bl} {lJ:Obj} (c:Nat) (hr:r= .ok (.value y) (w.alloc lJ)) (hd:Den (ρ.put H.next w.heap.size c) v y) (hk:gM P (ρ.put H.next w.heap.size c) H.next k lJ):
  cR P B ρ H w r (.ok v (H.new k)):=fun hf=>by
 obtain⟨h1,h2⟩:=tQ hH hf c k lJ hk;exact⟨_,y,_,_,hr,rfl,hd,h1,h2⟩
def E8 {ρ:Env} {i:Nat} {el:TypeId} {cs:List aa} {xs:Array Value} {ro:Bool} (h:aG ρ cs xs.toList):gM P ρ i (.cells el cs true false ro) (.cells xs el):=by
 have hl:xs.size=cs.length:=by simpa using h.length
 refine⟨xs,(0,0),rfl,fun _=>rfl, ?_,fun _=>hl,fun hc=>by cases hc⟩;rw [eH (by simp [hl])];exact h
def aaE (hH:aZ P B ρ H w) {el:TypeId} (ho:o.op= .alloc el):cR P B ρ H w ((execOp e o).run P w) (tI el P o ev H):=by
 unfold tI;cases hz:nk P el with
 |none=>trivial
 |some z=>
  refine x5 hH 0 (y:= .pointer (some ⟨w.heap.size,0,none⟩)) ?_ (.ptr (Env.dA ..)) (E8 (CA z.cells));simp [execOp,ho,Instr.alloc,E2 hz,newVar,newRow]
def aaF (hH:aZ P B ρ H w) (he:∀x,Den ρ (ev x) (e x)) {el:TypeId} {x:Operand} (ho:o.op= .box el x):cR P B ρ H w ((execOp e o).run P w) (oU el x P o ev H):=by
 unfold oU;cases n6:(ev x).vD with
 |true=>trivial
 |false=>
 intro hf;have hn:ρ H.next=none:=hf H.next (aI _) (fG _);refine x5 hH 0 (y:= .pointer (some ⟨w.heap.size,0,none⟩)) ?_ (.ptr (Env.dA ..)) (E8 (((he x).cells n6).mono (Env.o5 hn))) hf;simp [execOp,ho,Instr.box,newVar,newRow]
def E9 (z:Array Value) (s:Nat) (hs:z.size=s) (h1:1<=s):∀n,((Array.range (n*s)).map (z[· %z.size]!)).toList=(List.replicate n z.toList).flatten
 |0=>by simp
 |n+1=>by
  have ih:=E9 z s hs h1 n;simp only [Array.toList_map,Array.toList_range]at ih ⊢;rw [Nat.add_mul,Nat.one_mul,List.range_add,List.map_append,ih,List.replicate_succ',List.flatten_append];congr 1;simp only [List.map_map,List.flatten_cons,List.flatten_nil,List.append_nil];apply List.ext_getElem
  .simp [hs]
  .intro i h2 h3;have hi:i<s:=by simpa using h2
   have e1:(n*s+i)%z.size=i:=by rw [hs,Nat.add_comm,Nat.add_mul_mod_self_right,Nat.mod_eq_of_lt hi]
   simp only [List.getElem_map,List.getElem_range,Function.comp_apply,e1];rw [getElem!_pos z i ω];simp
def qe (n:Nat) (z:Array Value):(List.replicate n (ic z)).flatten=((List.replicate n z.toList).flatten).map aa.raw:=by
 simp [ic,List.map_flatten]
def aaG (w:World) (t e:TypeId) (len:Nat) (parts:Array (Nat×Value)) (cells:Array Value) (ie:TypeInfo) (z:Value)
  (hu:P.underlying t=some (.slice e)) (hie:P.info? e=some ie) (hz:ie.zero=some z) (hsmall:¬len*ie.size>2^24) (hs:1<=ie.size)
  (h:Instr.fill (fun i=>some (i*ie.size,ie.size)) ((Array.range (len*ie.size)).map (z.cells[· %z.cells.size]!)) parts.toList=some cells):
  (Instr.buildSlice t len parts).run P w= .ok (.slice (some ⟨w.heap.size,0,none⟩) len len) (w.alloc (.cells cells e)):=by
 by_cases h0:len*ie.size=0
 .have hl:len=0:=by
   rcases Nat.mul_eq_zero.1 h0 with h|h
   .exact h
   .omega
  subst hl;have e1:∀f:Nat->Value,Array.map f (Array.range 0)= #[]:=fun f=>Array.ext τ (fun i _ h2=>by simp at h2)
  rw [Nat.zero_mul,e1]at h;simp [Instr.buildSlice,run_underlying hu,sizeOf,typeInfo,hie,newRow,e1,h]
 .exact run_buildSlice w t e len parts cells ie z hu hie hz hsmall h0 h
section
variable (hH:aZ P B ρ H w) (he:∀x,Den ρ (ev x) (e x)) {t:TypeId}
def aaH {len:Nat} {parts:Array (Nat×Operand)} (ho:o.op= .buildSlice t len parts):cR P B ρ H w ((execOp e o).run P w) (z1 t len parts P o ev H):=by
 unfold z1;cases hv:oV P ev t len parts H with
 |none=>trivial
 |some q=>
  unfold oV at hv;simp only [dO]at hv;obtain⟨el,hel,s,hs,z,hz,hv⟩:=hv;cases hb:(Nat.ble 1 s&&Nat.ble (len*s) 16777216&&Nat.beq z.cells.size s)with
  |false=>rw [hb]at hv;cases hv
  |true=>
   rw [hb]at hv;simp only [ae]at hb;obtain⟨⟨b1,b2⟩,b3⟩:=hb;have b1:=bT b1;have b2:=bT b2;have b3:=ac b3;simp only [cond_true,am]at hv;obtain⟨cs,hc,rfl⟩:=hv;obtain⟨ie,hie,rfl⟩:=xX hs;obtain⟨atU,Q3,o6⟩:=Jt hz;rw [hie]at Q3;cases Q3;have hs1:1<=ie.size:=b1;have hd:aG ρ (List.replicate len (ic z.cells)).flatten ((Array.range (len*ie.size)).map (z.cells[· %z.cells.size]!)).toList:=by
    rw [E9 z.cells ie.size b3 hs1,qe];exact aG.rT _
   obtain⟨out,g1,g2⟩:=Jv he parts hc hd;intro hf;have hn:ρ H.next=none:=hf H.next (aI _) (fG _);refine x5 hH 0 (y:= .slice (some ⟨w.heap.size,0,none⟩) len len) ?_ (.slice (Env.dA ..) rfl (aI _)) (E8 (g2.mono (Env.o5 hn))) hf;have hr:=aaG (P:=P) w t el len _ out ie z (xY hel) hie o6 ω hs1 g1;simp [execOp,ho,hr]
def aaI {l c:Operand} (ho:o.op= .makeSlice t l c):cR P B ρ H w ((execOp e o).run P w) (tJ t l c P o ev H):=by
 unfold tJ;cases hv:qo P t (ev l) (ev c) H with
 |none=>trivial
 |some q=>
  unfold qo at hv;simp only [dO]at hv;obtain⟨el,hel,inf,hi,z,hz,ln,hl,vS,hc,hv⟩:=hv;cases hb:(Nat.ble ln vS&&Nat.ble 1 inf.size&&bounded vS inf.bytes&&Nat.beq z.cells.size inf.size)with
  |false=>rw [hb]at hv;cases hv
  |true=>
   rw [hb]at hv;simp only [ae,bounded]at hb;obtain⟨⟨⟨b1,b2⟩,b3,b4⟩,gy⟩:=hb;have b1:=bT b1;have b2:=bT b2;have b3:=bT b3;have b4:=bT b4;have gy:=ac gy;cases hv;obtain⟨kl,hl'⟩:=Cy hl;obtain⟨kc,tV⟩:=Cy hc;have aaJ:e l= .int kl ln:=by have:=he l;rw [hl']at this;exact this.cg
   have aaK:e c= .int kc vS:=by have:=he c;rw [tV]at this;exact this.cg
   have hbz:(inf.bytes:Int)*(vS:Int)<=281474976710656:=by
    have:((inf.bytes*vS:Nat):Int)<=281474976710656:=by rw [Nat.mul_comm];omega
    rwa [Int.natCast_mul]at this
   have hr:=run_make (P:=P) w t el inf z (xY hel) hi hz kl kc ln vS ω ω hbz ω;simp only [Int.toNat_natCast]at hr;refine x5 hH 0 (lJ:= .cells (madeCells z.cells (vS*inf.size)) el) (y:= .slice (some ⟨w.heap.size,0,none⟩) ln vS) ?_ (.slice (Env.dA ..) rfl b1) (E8 ?_)
   .simp [execOp,ho,aaJ,aaK,hr]
   .unfold madeCells;rw [E9 z.cells inf.size gy b2,qe];exact aG.rT _
end
def mA (hH:aZ P B ρ H w) {i b c:Nat} {el:TypeId} {cs:List aa} {exact cD ro:Bool} (hi:H.get i=some (.cells el cs exact cD ro)) (hr:ρ i=some (b,c)):
  ∃xs fz,w.heap[b]? =some (.cells xs el fz)/\(cD=false->fz=(0,0))/\aG ρ cs (xs.toList.take cs.length)/\(exact=true->xs.size=cs.length)/\(exact=false->xs.size=c*P.cellsOf el)/\cs.length<=xs.size:=by
 obtain⟨o,h1,h2,_⟩:=hH.at hi hr;obtain⟨xs,fz,rfl,g2,g3,g4,g5⟩:=h2;refine⟨xs,fz,h1,g2,g3,g4,fun hx=> ?_, ?_⟩
 .obtain⟨b',c',e1,e2⟩:=g5 hx;rw [hr]at e1;cases e1;exact e2
 .have:=g3.length;simp at this;omega
def x6 {xs:Array Value} {n i:Nat} {y:Value} (h:(xs.toList.take n)[i]? =some y):xs[i]? =some y:=by
 rw [List.getElem?_take]at h;split at h
 .simpa using h
 .cases h
def cell_of {b off:Nat} {xs:Array Value} {el:TypeId} {fz:Nat×Nat} (h:w.heap[b]? =some (.cells xs el fz)):w.cell? ⟨b,off,none⟩=xs[off]? :=by simp [World.cell?,h]
def Fa {b off:Nat} {xs:Array Value} {el t:TypeId} {fz:Nat×Nat} {cs:List aa} {v:aa} (h:w.heap[b]? =some (.cells xs el fz)) (hd:aG ρ cs (xs.toList.take cs.length)) (hv:oQ P t cs off=some v):
  ∃y,(loadVar t ⟨b,off,none⟩).run P w= .ok y w/\Den ρ v y:=by
 unfold oQ at hv;cases hl:lv P t with
 |no=>rw [hl]at hv;cases hv
 |one=>
  rw [hl]at hv;simp only [Ab]at hv;obtain⟨y,h1,h2⟩:=hd.get hv;refine⟨y, ?_,h2⟩;simp [loadVar,E3 (QE hl),run_load,cell_of h,x6 h1]
 |agg n=>
  rw [hl]at hv;obtain⟨k1,k2⟩:=QF hl;cases hb:Nat.ble (Nat.add off n) cs.length with
  |false=>simp only [hb]at hv;cases hv
  |true=>
   simp only [hb]at hv;cases hv;have hr:=run_loadCells_list (P:=P) w ⟨b,off,none⟩ (((xs.toList.take cs.length).drop off).take n) (fun j y hj=>by
    rw [j0,cell_of h];rw [List.getElem?_take]at hj;split at hj
    .rw [List.getElem?_drop]at hj;exact x6 hj
    .cases hj)
   have hlen:(((xs.toList.take cs.length).drop off).take n).length=n:=by
    have:=hd.length;have hle:off+n<=cs.length:=bT hb;simp only [ek,mb,this]at*;omega
   refine⟨.agg (((xs.toList.take cs.length).drop off).take n).toArray, ?_, .agg ((hd.drop off).take n)⟩;rw [hlen]at hr;simp [loadVar,E3 k1,jZ k2,hr]
def Q4 {t:TypeId} {x:Operand} {b off:Nat} {y:Value} (ho:o.op= .load t x) (hx:e x= .pointer (some ⟨b,off,none⟩)) (h:(loadVar t ⟨b,off,none⟩).run P w= .ok y w):(execOp e o).run P w= .ok (.value y) w:=by
 simp [execOp,ho,Instr.loadAt,hx,Instr.sureAddr,h]
def aaL (hH:aZ P B ρ H w) {t:TypeId} {x:Operand} {v:aa} (ho:o.op= .load t x) (hx:Den ρ v (e x)):cR P B ρ H w ((execOp e o).run P w) (tH P t v H):=by
 unfold tH;split
 .rename_i u xs k off;obtain⟨b,o',A,h1,h2,h3,h4,h5⟩:=hx.Ae;obtain⟨⟨el,fr,g1⟩,_⟩:=hH.fz b A h1;refine mz hH fun v hv=> ?_
  have hv:=QB h4 hv;have hv:=QA (pre:=(A.toList.take o').map aa.raw) (post:=[]) hv;have hpl:((A.toList.take o').map aa.raw).length=o':=by simp;omega
  rw [hpl,List.append_nil]at hv;obtain⟨y,k1,k2⟩:=Fa g1 (cs:=(A.toList.take o').map aa.raw++u.flat xs) (by
   rw [cQ,hpl,List.take_add];exact(aG.rT _).append h3) hv
  exact fg (Q4 ho h5 k1) k2
 .rename_i e' u i k off;cases hb:bz e' u (H.get i) k with
  |false=>trivial
  |true=>
   obtain⟨b1,b2⟩:=vN hb;obtain⟨b,c,h1,h5⟩:=hx.xV;obtain⟨ys,g1,g2,_⟩:=rU hH b1 h1;refine mz hH fun v hv=> ?_
   obtain⟨y,k1,k2⟩:=Fa g1 g2 (QB b2 hv);exact fg (Q4 ho h5 k1) k2
 .trivial
def aaM (hH:aZ P B ρ H w) (he:∀x,Den ρ (ev x) (e x)) {t:TypeId} {x:Operand} (ho:o.op= .load t x):cR P B ρ H w ((execOp e o).run P w) (nY t x P o ev H):=by
 unfold nY;cases hp:iJ (ev x)with
 |no=>exact aaL hH ho (he x)
 |mk i off=>
  cases hb:tD (H.get i)with
  |no=>simp only [hb];trivial
  |mk el cs ex cD ro=>
   simp only [hb];have hx:=he x;rw [Cx hp]at hx;obtain⟨b,c,h1,h2⟩:=hx.kN;obtain⟨xs,fz,g1,g2,g3,_⟩:=mA hH (Fd hb) h1;refine mz hH fun v hv=> ?_
   obtain⟨y,k1,k2⟩:=Fa g1 g3 hv;exact fg (y:=y) (by simp [execOp,ho,Instr.loadAt,h2,Instr.sureAddr,k1]) k2
def Q5 {α:Type} (L vs:List α) (off n:Nat) (h:off+vs.length<=n) (hn:n<=L.length):
  (L.take off++vs++L.drop (off+vs.length)).take n=(L.take n).take off++vs++(L.take n).drop (off+vs.length):=by
 have e1:(L.take n).take off=L.take off:=by rw [List.take_take,Nat.min_eq_left ω]
 rw [e1,List.take_append,eH (by simp;omega)];congr 1;rw [List.drop_take];congr 1;simp;omega
def Fb (hH:aZ P B ρ H w) {i b c off:Nat} {el:TypeId} {cs vs cs':List aa} {exact:Bool} (hi:H.get i=some (.cells el cs exact false false)) (hr:ρ i=some (b,c)) (hp:lj cs off vs=some cs') {ys:List Value} (hd:aG ρ vs ys) (h1:eW vs=true):
  ∃xs w',w.heap[b]? =some (.cells xs el (0,0))/\(storeCells ⟨b,off,none⟩ ys).run P w= .ok () w'/\aZ P B ρ (H.set i (.cells el cs' exact false false)) w'/\bQ ρ H w ρ (H.set i (.cells el cs' exact false false)) w':=by
 obtain⟨xs,fz,g1,g2,g3,g4,g5,g6⟩:=mA hH hi hr;have hfz:=g2 rfl;subst hfz;obtain⟨k1,k2⟩:=Cs hp;have mB:=hd.length;have hst:=run_storeCells_at P b off el ys 0 xs w g1 (by simp only [Nat.add_zero];omega) (hd.one h1);simp only [Nat.add_zero]at hst;obtain⟨q1,aQ⟩:=vL hH hi hr rfl (k:= .cells el cs' exact false false) (w.setRow b (xs.toList.take off++ys++xs.toList.drop (off+ys.length)).toArray)
  (.cells (xs.toList.take off++ys++xs.toList.drop (off+ys.length)).toArray el (0,0)) rfl rfl rfl τ (setRow_heap w b xs _ el (0,0) g1) (fun j hj=>setRow_other w b j _ hj) (by
    have hlen:cs'.length=cs.length:=by rw [k2];simp;omega
    have hsz:(xs.toList.take off++ys++xs.toList.drop (off+ys.length)).toArray.size=xs.size:=by simp;omega
    refine⟨_,_,rfl,fun _=>rfl, ?_,fun hx=>by rw [hsz,hlen];exact g4 hx,fun hx=>⟨b,c,hr,by rw [hsz];exact g5 hx⟩⟩;show aG ρ cs' ((xs.toList.take off++ys++xs.toList.drop (off+ys.length)).take cs'.length);rw [hlen,Q5 _ _ _ _ ω (by simpa using g6),k2,mB];exact((g3.take off).append hd).append (g3.drop _))
 exact⟨xs,_,g1,hst,q1,aQ⟩
def aaN {cs vs r:List aa} {off:Nat} (h:lj cs off vs=some r):r.length=cs.length:=by
 obtain⟨h1,h2⟩:=Cs h;rw [h2];simp;omega
def aaO (hH:aZ P B ρ H w) {i b c off:Nat} {el:TypeId} {t:av} {xs xs':List t.den} {vs cs':List aa} (hi:H.get i=some (.own el t xs)) (hr:ρ i=some (b,c)) (hp:lj (t.flat xs) off vs=some cs') {ys:List Value} (hd:aG ρ vs ys) (h1:eW vs=true)
  (hx:∀zs,aG ρ cs' zs->aG ρ (t.flat xs') zs) (hl:xs'.length=xs.length):
  ∃w',(storeCells ⟨b,off,none⟩ ys).run P w= .ok () w'/\aZ P B ρ (H.set i (.own el t xs')) w'/\bQ ρ H w ρ (H.set i (.own el t xs')) w':=by
 obtain⟨qw,g1,g3,g5,g6,g7,g8⟩:=rU hH hi hr;have hlen:cs'.length=(t.flat xs).length:=aaN hp;have Q6:(t.flat xs').length=(t.flat xs).length:=by rw [t.jb,t.jb,hl]
 obtain⟨k1,k2⟩:=Cs hp;have mB:=hd.length;have hst:=run_storeCells_at P b off el ys 0 qw w g1 (by simp only [Nat.add_zero];omega) (hd.one h1);simp only [Nat.add_zero]at hst;obtain⟨q1,aQ⟩:=vL hH hi hr rfl (k:= .own el t xs') (w.setRow b (qw.toList.take off++ys++qw.toList.drop (off+ys.length)).toArray)
  (.cells (qw.toList.take off++ys++qw.toList.drop (off+ys.length)).toArray el (0,0)) rfl rfl rfl τ (setRow_heap w b qw _ el (0,0) g1) (fun j hj=>setRow_other w b j _ hj) (by
    have hsz:(qw.toList.take off++ys++qw.toList.drop (off+ys.length)).toArray.size=qw.size:=by simp;omega
    refine⟨⟨_,_,rfl,fun _=>rfl, ?_,fun hh=>Bool.noConfusion hh,fun _=>⟨b,c,hr,hsz.trans g5⟩⟩,g7,g8⟩;show aG ρ (t.flat xs') ((qw.toList.take off++ys++qw.toList.drop (off+ys.length)).take (t.flat xs').length);rw [Q6];refine hx _ ?_;rw [Q5 _ _ _ _ ω (by simpa using g6),k2,mB];exact((g3.take off).append hd).append (g3.drop _))
 exact⟨_,hst,q1,aQ⟩
def aaP {pre mid post vs r:List aa} {off:Nat} (h:lj mid off vs=some r):lj (pre++(mid++post)) (pre.length+off) vs=some (pre++(r++post)):=by
 have hh:∀(cs:List aa) (o:Nat),o+vs.length<=cs.length->lj cs o vs=some (cs.take o++vs++cs.drop (o+vs.length)):=fun cs o ho=>by
  unfold lj;split
  .rename_i v;have ho':o<cs.length:=by simp at ho;omega
   rw [Jl,if_pos ho',m8 _ _ _ ho'];rfl
  .rw [fF ho];rfl
 obtain⟨h1,h2⟩:=Cs h;rw [hh _ _ (by simp;omega),h2];congr 1;rw [List.take_append,eH ω,show pre.length+off-pre.length=off by omega,List.take_append,show off-mid.length=0 by omega];rw [List.drop_append,List.drop_eq_nil_of_le ω,List.nil_append,show pre.length+off+vs.length-pre.length=off+vs.length by omega,List.drop_append,show off+vs.length-mid.length=0 by omega];simp
def aaQ {t:TypeId} {x y:Operand} {b off n:Nat} {w':World} (ho:o.op= .store t x y) (hx:e x= .pointer (some ⟨b,off,none⟩)) (hn:ey P t=some n) (hsz:(e y).cells.size=n) (h:(storeCells ⟨b,off,none⟩ (e y).cells.toList).run P w= .ok () w'):(execOp e o).run P w= .ok .skip w':=by
 simp [execOp,ho,Instr.storeAt,storeVar,hx,Instr.sureAddr,jZ hn,hsz,h]
def aaR (hH:aZ P B ρ H w) {t:TypeId} {x y:Operand} {v u:aa} (ho:o.op= .store t x y) (hx:Den ρ v (e x)) (hy:Den ρ u (e y)):cR P B ρ H w ((execOp e o).run P w) (nn P t v u H):=by
 unfold nn;split
 .rename_i e' ty i k off;cases hb:bz e' ty (H.get i) k with
  |false=>trivial
  |true=>
   obtain⟨b1,b2⟩:=vN hb;obtain⟨b,c,h1,h5⟩:=hx.xV;cases hc:(eW u.cells&&tK P t u.cells.length)with
   |false=>trivial
   |true=>
    simp only [cond_true];rw [ae]at hc;obtain⟨c1,c2⟩:=hc;unfold tK at c2;split at c2
    .rename_i n hn;have c2:=ac c2;split
     .rename_i d hd;simp only [dO]at hd;obtain⟨cs',p1,p2⟩:=hd;have n6:=Q0 c1;generalize hxs:bN ty (H.get i)=xs at*;have hput:=aaP (pre:=ty.flat (xs.take k)) (post:=ty.flat (xs.drop (k+1))) p1;rw [<-ty.Qy xs k b2,ty.Qz xs k b2]at hput;obtain⟨w',q1,aQ,b7⟩:=aaO (xs':=xs.set k d) hH b1 h1 hput (hy.cells n6) c1 (fun zs hz=>by
       have e1:ty.flat (xs.set k d)=ty.flat (xs.take k)++(ty.cells d++ty.flat (xs.drop (k+1))):=by
        rw [List.set_eq_take_append_cons_drop,if_pos b2,av.Cv,av.Ad]
       rw [e1];have tW:(ty.flat (xs.take k)).length<=zs.length:=by rw [hz.length];simp
       have dD:=hz.take (ty.flat (xs.take k)).length;have z2:=hz.drop (ty.flat (xs.take k)).length;simp only [List.take_left',List.drop_left']at dD z2;have z3:=z2.take cs'.length;have z4:=z2.drop cs'.length;simp only [List.take_left',List.drop_left']at z3 z4;have z5:=av.ZQ p2 z3;have:=dD.append (z5.append z4);rwa [List.take_append_drop,List.take_append_drop]at this) τ
      have hsz:(e y).cells.size=n:=by rw [<-c2,<-(hy.cells n6).length];simp
      exact fun _=>⟨ρ,undef,w', .skip,aaQ ho h5 hn hsz q1,rfl, .raw _,aQ,b7⟩
     .trivial
    .cases c2
 .trivial
def aaS (hH:aZ P B ρ H w) (he:∀x,Den ρ (ev x) (e x)) {t:TypeId} {x y:Operand} (ho:o.op= .store t x y):cR P B ρ H w ((execOp e o).run P w) (qp t x y P o ev H):=by
 unfold qp;cases hp:iJ (ev x)with
 |no=>exact aaR hH ho (he x) (he y)
 |mk i off=>
  cases hb:tD (H.get i)with
  |no=>simp only [hb];trivial
  |mk el cs ex cD ro=>
   simp only [hb];cases ro with
   |true=>trivial
   |false=>
    cases cD with
    |true=>trivial
    |false=>
     have hx:=he x;rw [Cx hp]at hx;obtain⟨b,c,h1,h2⟩:=hx.kN;show cR P B ρ H w _ (eS (Cm P t i off (ev y) H el cs ex));cases hv:Cm P t i off (ev y) H el cs ex with
     |none=>trivial
     |some q=>
      unfold Cm at hv;cases hc:(eW (ev y).cells&&tK P t (ev y).cells.length)with
      |false=>rw [hc]at hv;cases hv
      |true=>
       rw [hc]at hv;simp only [cond_true,am]at hv;obtain⟨cs',hp',rfl⟩:=hv;rw [ae]at hc;obtain⟨c1,c2⟩:=hc;unfold tK at c2;split at c2
       .rename_i n hn;have c2:=ac c2;have n6:=Q0 c1;obtain⟨xs,w',_,k2,dN,mC⟩:=Fb hH (Fd hb) h1 hp' ((he y).cells n6) c1;have hsz:(e y).cells.size=n:=by rw [<-c2,<-((he y).cells n6).length];simp
        exact fun _=>⟨ρ,undef,w', .skip,by simp [execOp,ho,Instr.storeAt,storeVar,h2,Instr.sureAddr,jZ hn,hsz,k2],rfl, .raw _,dN,mC⟩
       .cases c2
end
section
variable {P:Program} {B:Nat} {ρ:Env} {H:ai} {w:World} {o:Oper} {ev:dP} {e:Operand->Value}
def run_getObj_map {b:Nat} {es:Array MapEntry} {c:Nat} (h:w.heap[b]? =some (.map es c)):(getObj b).run P w= .ok (.map es c) w:=by
 simp [getObj,Sem.run,h]
def aaT {t:TypeId} {es:Array MapEntry} {c:Nat} {kv v:Value} {ok:Bool} {b:Nat} (h:I3 P t es kv ok=some v) (hb:w.heap[b]? =some (.map es c)):(Instr.lookup t (.map (some b)) kv ok).run P w= .ok v w:=by
 unfold I3 at h;split at h
 .rename_i kt et hu;simp only [dO]at h;obtain⟨_,h1,r,h2,h3⟩:=h;have e1:=n4 _ w h1;have e2:=n4 _ w h2;cases r with
  |none=>
   simp only [am]at h3;obtain⟨z,hz,rfl⟩:=h3;simp only [Instr.lookup,Sem.run_bind,dB hu,Result.andThen_ok,run_getObj_map hb,Sem.run_pure,e1,e2,E2 hz]
  |some p=>
   obtain⟨i,v'⟩:=p;simp only [tC]at h3;subst h3;simp only [Instr.lookup,Sem.run_bind,dB hu,Result.andThen_ok,run_getObj_map hb,Sem.run_pure,e1,e2]
 .cases h
def aaU (hH:aZ P B ρ H w) (he:∀x,Den ρ (ev x) (e x)) {t:TypeId} {m k:Operand} {ok:Bool} (ho:o.op= .lookup t m k ok):cR P B ρ H w ((execOp e o).run P w) (Ck t m k ok P o ev H):=by
 refine mz hH fun v hv=> ?_
 unfold Jd at hv;split at hv
 .rename_i i kv hm hk;have hm':=he m;rw [hm]at hm';obtain⟨b,c,h1,h2⟩:=hm'.vK;split at hv
  .rename_i es clock hg;simp only [am]at hv;obtain⟨y,hy,rfl⟩:=hv;obtain⟨lJ,g1,g2,_⟩:=hH.at hg h1;have g2:lJ= .map es clock:=g2;subst g2;refine fg (y:=y) ?_ (.raw y);simp [execOp,ho,h2,(he k).fA hk,aaT hy g1]
  .cases hv
 .exact vO he (by rw [ho];rfl) hv w
def Jw {b:Nat} {es:Array MapEntry} {c:Nat} (h:w.heap[b]? =some (.map es c)) (o':Obj):(setObj b o').run P w= .ok () {w with heap:=w.heap.setIfInBounds b o'}:=by
 simp [setObj,Sem.run,h]
def aaV {t:TypeId} {es es':Array MapEntry} {c c':Nat} {kv xv:Value} {b:Nat} (h:I4 P t es c kv xv=some (es',c')) (hb:w.heap[b]? =some (.map es c)):
  (Instr.mapUpdate t (.map (some b)) kv xv).run P w= .ok () {w with heap:=w.heap.setIfInBounds b (.map es' c')}:=by
 unfold I4 at h;split at h
 .rename_i kt et hu;simp only [dO]at h;obtain⟨_,h1,r,h2,h3⟩:=h;have e1:=n4 _ w h1;have e2:=n4 _ w h2;cases r with
  |none=>
   simp only [tC,Prod.mk.injEq]at h3;obtain⟨rfl,rfl⟩:=h3;simp only [Instr.mapUpdate,Sem.run_bind,dB hu,Result.andThen_ok,run_getObj_map hb,e1,e2,Jw hb]
  |some p=>
   obtain⟨i,v'⟩:=p;simp only [am,Prod.mk.injEq]at h3;obtain⟨k,hk,rfl,rfl⟩:=h3;have e3:=n4 _ w hk;simp only [Instr.mapUpdate,Sem.run_bind,dB hu,Result.andThen_ok,run_getObj_map hb,e1,e2,e3,Jw hb]
 .cases h
def Jx {b j:Nat} (o':Obj) (h:j≠b):(w.heap.setIfInBounds b o')[j]? =w.heap[j]? :=by
 simp [Ne.symm h]
def Jy {b:Nat} {o0:Obj} (o':Obj) (h:w.heap[b]? =some o0):(w.heap.setIfInBounds b o')[b]? =some o':=by
 have:=(dJ.1 h).1;simp [this]
def aaW {t:TypeId} {kv xv:Value} {b:Nat} (h:EV P t kv=true) (hb:w.heap[b]? =some (.map #[] 0)):
  (Instr.mapUpdate t (.map (some b)) kv xv).run P w= .ok () {w with heap:=w.heap.setIfInBounds b (.map #[{key:=kv,val:=xv,born:=0}] 1)}:=by
 unfold EV at h;split at h
 .rename_i kt et hu;split at h
  .rename_i h1 h2;have e1:=n4 _ w h1;have e2:=n4 _ w h2;simp only [Instr.mapUpdate,Sem.run_bind,dB hu,Result.andThen_ok,run_getObj_map hb,e1,e2,Jw hb];rfl
  .cases h
 .cases h
section
variable (hH:aZ P B ρ H w) (he:∀x,Den ρ (ev x) (e x)) {t:TypeId}
def Q7 {m k x:Operand} {r:Result Next} (hr:∀u w',(Instr.mapUpdate t (e m) (e k) (e x)).run P w= .ok u w'->r= .ok .skip w'):cR P B ρ H w r (oW t m k x P o ev H):=by
 unfold oW;cases hv:Cn P t (ev m) (ev k) (ev x) H with
 |none=>trivial
 |some q=>
  unfold Cn at hv;split at hv
  .rename_i i kv xv hm hk hx;have hm':=he m;rw [hm]at hm';obtain⟨b,c,h1,h2⟩:=hm'.vK;split at hv
   .rename_i es clock hg;simp only [am]at hv;obtain⟨p,hy,rfl⟩:=hv;obtain⟨es',clock'⟩:=p;obtain⟨lJ,g1,g2,_⟩:=hH.at hg h1;have g2:lJ= .map es clock:=g2;subst g2;have Jz:=aaV (w:=w) hy g1;have hr':=hr _ _ (by rw [h2,(he k).fA hk,(he x).fA hx];exact Jz);obtain⟨q1,aQ⟩:=vL hH hg h1 rfl (k:= .map es' clock') {w with heap:=w.heap.setIfInBounds b (.map es' clock')} (.map es' clock') rfl rfl rfl τ (Jy _ g1) (fun j hj=>Jx _ hj) rfl;exact fun _=>⟨ρ,undef,_, .skip,hr',rfl, .raw _,q1,aQ⟩
   .cases hv
  .rename_i hx;unfold Je at hv;split at hv
   .rename_i i kv hm hk;have hm':=he m;rw [hm]at hm';obtain⟨b,c,h1,h2⟩:=hm'.vK;split at hv
    .rename_i hg;obtain⟨lJ,g1,g2,_⟩:=hH.at hg h1;have g2:lJ= .map #[] 0:=g2;subst g2;cases ho:EV P t kv with
     |false=>rw [ho]at hv;cases hv
     |true=>
      rw [ho]at hv;cases hv;have Jz:=aaW (w:=w) (xv:=e x) ho g1;have hr':=hr _ _ (by rw [h2,(he k).fA hk];exact Jz);obtain⟨q1,aQ⟩:=vL hH hg h1 rfl (k:= .one kv (ev x)) {w with heap:=w.heap.setIfInBounds b (.map #[{key:=kv,val:=e x,born:=0}] 1)} (.map #[{key:=kv,val:=e x,born:=0}] 1) rfl rfl rfl τ (Jy _ g1) (fun j hj=>Jx _ hj) ⟨_,rfl,he x⟩;exact fun _=>⟨ρ,undef,_, .skip,hr',rfl, .raw _,q1,aQ⟩
    .cases hv
   .cases hv
  .cases hv
def aaX {m k x:Operand} (ho:o.op= .mapUpdate t m k x):cR P B ρ H w ((execOp e o).run P w) (oW t m k x P o ev H):=
 Q7 hH he fun u w' h=>by simp [execOp,ho,h]
def aaY {m k x:Operand} (ho:o.op= .insert t m k x):cR P B ρ H w ((execOp e o).run P w) (oW t m k x P o ev H):=
 Q7 hH he fun u w' h=>by simp [execOp,ho,h]
def aaZ {r:Option Operand} (ho:o.op= .makeMap t r):cR P B ρ H w ((execOp e o).run P w) (z6 t r P o ev H):=by
 unfold z6;have fin:(execOp e o).run P w= .ok (.value (.map (some w.heap.size))) (w.alloc (.map #[] 0))->cR P B ρ H w ((execOp e o).run P w) (.ok (.map H.next) (H.new (.map #[] 0))):=fun h=>
  x5 hH 0 h (.map (Env.dA ..)) rfl
 unfold rR;split
 .exact fin (by simp [execOp,ho,Instr.makeMap])
 .rename_i x;split
  .rename_i kt et eL n hu hx;have:=he x;rw [hx]at this;have ex:=this.cg;exact fin (by simp [execOp,ho,Instr.makeMap,dB hu,ex,asInt,asIntOf])
  .trivial
end
section
variable {b s l:Nat} {m:Option Nat} {q:Array Nat}
def Fc (h:w.heap[b]? =some (.mapIter m s q l)):(getObj b).run P w= .ok (.mapIter m s q l) w:=by
 simp [getObj,Sem.run,h]
def Ax (h:w.heap[b]? =some (.mapIter m s q l)) (o':Obj):(setObj b o').run P w= .ok () {w with heap:=w.heap.setIfInBounds b o'}:=by
 simp [setObj,Sem.run,h]
end
def Q8 {i j b q:Nat} (h:i≠j):(ρ.put j b q) i=ρ i:=by simp [Env.put,h]
def aa0 (hH:aZ P B ρ H w) (he:∀x,Den ρ (ev x) (e x)) {t:TypeId} {x:Operand} (ho:o.op= .range t x):cR P B ρ H w ((execOp e o).run P w) (tL t x P o ev H):=by
 unfold tL EW;split
 .rename_i kt et i hu hx;have hx':=he x;rw [hx]at hx';obtain⟨b,q,h1,h2⟩:=hx'.vK;have fin:∀(es:Array MapEntry) (c:Nat),w.heap[b]? =some (.map es c)->(execOp e o).run P w= .ok (.value (.pointer (some ⟨w.heap.size,0,none⟩))) (w.alloc (.mapIter (some b) c #[] c)):=fun es c hb=>by
   simp only [execOp,ho,Instr.range,Sem.run_bind,dB hu,Result.andThen_ok,h2,run_getObj_map hb,Sem.run_pure];simp [newObj,Sem.run]
  split
  .rename_i hg;obtain⟨lJ,g1,g2,_⟩:=hH.at hg h1;have g2:lJ= .map #[] 0:=g2;subst g2;exact x5 hH 0 (fin _ _ g1) (.ptr (Env.dA ..)) ⟨b,q,(Q8 (Nat.ne_of_lt (hH.lt _ _ hg))).trans h1,rfl⟩
  .rename_i kv v hg;obtain⟨lJ,g1,⟨xv,g2,_⟩,_⟩:=hH.at hg h1;subst g2;exact x5 hH 0 (fin _ _ g1) (.ptr (Env.dA ..)) ⟨b,q,(Q8 (Nat.ne_of_lt (hH.lt _ _ hg))).trans h1,rfl⟩
  .trivial
 .trivial
section
variable {b r:Nat} {t:TypeId}
def aa1 (h1:w.heap[r]? =some (.mapIter (some b) 0 #[] 0)) (h2:w.heap[b]? =some (.map #[] 0)):(Instr.next (.pointer (some ⟨r,0,none⟩)) false t).run P w= .ok (.tuple #[.bool false]) w:=by
 simp [Instr.next,Fc h1,run_getObj_map h2,Question.forced]
def aa2 {k x:Value} (h1:w.heap[r]? =some (.mapIter (some b) 1 #[] 1)) (h2:w.heap[b]? =some (.map #[{key:=k,val:=x,born:=0}] 1)):
  (Instr.next (.pointer (some ⟨r,0,none⟩)) false t).run P w= .ok (.tuple #[.bool true,k,x]) {w with heap:=w.heap.setIfInBounds r (.mapIter (some b) 1 #[0] 1)}:=by
 simp [Instr.next,Fc h1,run_getObj_map h2,Ax h1,Question.forced]
def aa3 {k x:Value} (h1:w.heap[r]? =some (.mapIter (some b) 1 #[0] 1)) (h2:w.heap[b]? =some (.map #[{key:=k,val:=x,born:=0}] 1)):
  (Instr.next (.pointer (some ⟨r,0,none⟩)) false t).run P w= .ok (.tuple #[.bool false]) w:=by
 simp [Instr.next,Fc h1,run_getObj_map h2,Question.forced]
end
def aa4 {b r:Nat} {k x:Value} (h1:w.heap[r]? =some (.mapIter (some b) 1 #[0] 1)) (h2:w.heap[b]? =some (.map #[{key:=k,val:=x,born:=0}] 1)):
  (Instr.entry (.pointer (some ⟨r,0,none⟩))).run P w= .ok (.tuple #[k,x]) w:=by
 simp [Instr.entry,Fc h1,run_getObj_map h2]
section
variable (hH:aZ P B ρ H w) (he:∀x,Den ρ (ev x) (e x)) {x:Operand}
def aa5 {s:Bool} (ho:o.op= .next x s):cR P B ρ H w ((execOp e o).run P w) (z7 x s P o ev H):=by
 unfold z7 EX;split
 .rename_i j hx;have hx':=he x;rw [hx]at hx';obtain⟨r,qx,r1,r2⟩:=hx'.kN;have hrun:∀y w',(Instr.next (.pointer (some ⟨r,0,none⟩)) false o.type).run P w= .ok y w'->(execOp e o).run P w= .ok (.value y) w':=fun y w' h=>by simp [execOp,ho,r2,h]
  unfold Jf;split
  .rename_i i hj;obtain⟨oj,j1,⟨b,q,j2,qy⟩,_⟩:=hH.at hj r1;subst qy;split
   .rename_i hi;obtain⟨oi,i1,i2,_⟩:=hH.at hi j2;have i2:oi= .map #[] 0:=i2;subst i2;exact fV hH (hrun _ _ (aa1 j1 i1)) (.tuple (.cons (.raw _) .nil))
   .trivial
  .rename_i i hj;obtain⟨oj,j1,⟨b,q,j2,qy⟩,_⟩:=hH.at hj r1;subst qy;split
   .rename_i kv v hi;obtain⟨oi,i1,⟨xv,i2,i3⟩,_⟩:=hH.at hi j2;subst i2;obtain⟨q1,aQ⟩:=vL hH hj r1 rfl (k:= .iter i 1 true) {w with heap:=w.heap.setIfInBounds r (.mapIter (some b) 1 #[0] 1)} (.mapIter (some b) 1 #[0] 1) rfl rfl rfl τ (Jy _ j1) (fun j hj=>Jx _ hj) ⟨b,q,j2,rfl⟩;exact fun _=>⟨ρ,_,_,_,hrun _ _ (aa2 j1 i1),rfl, .tuple (.cons (.raw _) (.cons (.raw _) (.cons i3 .nil))),q1,aQ⟩
   .trivial
  .rename_i i hj;obtain⟨oj,j1,⟨b,q,j2,qy⟩,_⟩:=hH.at hj r1;subst qy;split
   .rename_i kv v hi;obtain⟨oi,i1,⟨xv,i2,i3⟩,_⟩:=hH.at hi j2;subst i2;exact fV hH (hrun _ _ (aa3 j1 i1)) (.tuple (.cons (.raw _) .nil))
   .trivial
  .trivial
 .trivial
def Ha (ho:o.op= .entry x):cR P B ρ H w ((execOp e o).run P w) (Co x P o ev H):=by
 refine mz hH fun v hv=> ?_
 unfold Qs at hv;split at hv
 .rename_i j hx;have hx':=he x;rw [hx]at hx';obtain⟨r,qx,r1,r2⟩:=hx'.kN;unfold Qr at hv;split at hv
  .rename_i i hj;obtain⟨oj,j1,⟨b,q,j2,qy⟩,_⟩:=hH.at hj r1;subst qy;split at hv
   .rename_i kv v' hi;obtain⟨oi,i1,⟨xv,i2,i3⟩,_⟩:=hH.at hi j2;subst i2;cases hv;exact fg (y:= .tuple #[kv,xv]) (by simp [execOp,ho,r2,aa4 j1 i1]) (.tuple (.cons (.raw _) (.cons i3 .nil)))
   .cases hv
  .cases hv
 .cases hv
end
def JA:∀{cs:List aa} {bs:List UInt8} {xs:List Value},bytesOf cs=some bs->aG ρ cs xs->xs=bs.map fun b=>Value.int .u8 b.toNat
 |[],bs,_,h, .nil=>by simp [bytesOf]at h;simp [h]
 |v::cs,bs,_,h, .cons hv hs=>by
  unfold bytesOf at h;split at h
  .cases ‹_::_=[]›
  .rename_i n l hl;cases hl;cases hb:Nat.ble (n+1) 256 with
   |false=>rw [hb]at h;cases h
   |true=>
    rw [hb]at h;have hb:=bT hb;simp only [cond_true,am]at h;obtain⟨r,hr,rfl⟩:=h;have:=JA hr hs;rw [hv.cg,this,List.map_cons];congr 2;have:(UInt8.ofNat n).toNat=n:=by simp;omega
    rw [this];rfl
  .cases h
def Fe {b off:Nat} {xs:Array Value} {el:TypeId} {fz:Nat×Nat} {n k:Nat} (h:w.heap[b]? =some (.cells xs el fz)):∀(j:Nat) (y:Value),(((xs.toList.take n).drop off).take k)[j]? =some y->w.cell? ((⟨b,off,none⟩:Addr).add j)=some y:=fun j y hj=>by
 rw [j0,cell_of h];rw [List.getElem?_take]at hj;split at hj
 .rw [List.getElem?_drop]at hj;exact x6 hj
 .cases hj
def JB {cs:List aa} {xs:List Value} {off n:Nat} (hd:aG ρ cs xs) (h:off+n<=cs.length):((xs.drop off).take n).length=n:=by
 have:=hd.length;simp only [ek,mb];omega
def JC {b:Nat} {xs:Array Value} {el:TypeId} {fz:Nat×Nat} (h:w.heap[b]? =some (.cells xs el fz)):w.shape? b=some (el,xs.size):=by simp [World.shape?,h]
def aa6 (hH:aZ P B ρ H w) (he:∀x,Den ρ (ev x) (e x)) {s d:TypeId} {x:Operand} (ho:o.op= .convert s d x):cR P B ρ H w ((execOp e o).run P w) (zZ s d x P o ev H):=by
 have hp:qu o.op=true:=by rw [ho];rfl
 have hx:=he x;have Q9:cR P B ρ H w ((execOp e o).run P w) (eS ((gen P o ev).map fun v=>(v,H))):=by
  have:=vP (P:=P) (w:=w) hH he hp;cases hg:gen P o ev with
  |none=>trivial
  |some v=>rw [hg]at this;exact this
 have hrun:∀y w',(convert s d (e x)).run P w= .ok y w'->(execOp e o).run P w= .ok (.value y) w':=fun y w' h=>by simp [execOp,ho,h]
 unfold zZ;unfold Cl;split
 .rename_i i off len cap gx;rw [gx]at hx;obtain⟨b,c,k,h1,hc,hl,h2⟩:=hx.ig;split
  .rename_i el e' cs ex cD ro hs hd hg;split
   .rename_i hel;cases hb:Nat.ble (off+len) cs.length with
    |false=>trivial
    |true=>
     have hb:=bT hb;simp only [cond_true];cases lK:bytesOf (cut cs off len)with
     |none=>trivial
     |some bs=>
      obtain⟨xs,fz,g1,_,g3,_⟩:=mA hH hg h1;have q1:=JA lK ((g3.drop off).take len);have hlen:bs.length=len:=by have:=JB g3 hb;rw [q1]at this;simpa using this
      subst hlen;refine fV hH (y:= .string ⟨bs.toArray⟩) (hrun _ _ ?_) (.raw _);rw [h2];refine run_convert_bytes_back w s d el ⟨b,off,none⟩ k bs hs hel hd fun j hj=> ?_
      have hcut:=Fe (n:=cs.length) (k:=bs.length) (off:=off) g1 j (.int .u8 bs[j].toNat);rw [q1]at hcut;exact hcut (by simp [hj])
   .trivial
  .trivial
 .rename_i i off gx;rw [gx]at hx;obtain⟨b,c,h1,h2⟩:=hx.kN;split
  .rename_i t el cs ex cD ro hs hd hg;split
   .rename_i n hn;cases hb:Nat.ble (off+1) cs.length with
    |false=>trivial
    |true=>
     have hb:=bT hb;obtain⟨xs,fz,g1,_,g3,_,_,g6⟩:=mA hH hg h1;obtain⟨inf,hi,hsz⟩:=xX hn;refine fV hH (y:= .pointer (some ⟨b,off,none⟩)) (hrun _ _ ?_) (.ptr h1);rw [h2];exact run_convert_to_unsafe (t:=t) hs hd (by simp [hi,hsz]) (v:=xs[off]'ω) (by rw [cell_of g1];exact Array.getElem?_eq_getElem ω)
   .trivial
  .rename_i u el cs cD ro hs hd hg;cases hb:((ey P u).isSome&&liesAt P P.depth el (cs.length/P.cellsOf el) off u 1)with
   |false=>trivial
   |true=>
    rw [ae]at hb;obtain⟨jy,hb⟩:=hb;obtain⟨n,hn⟩:=Option.isSome_iff_exists.1 jy;obtain⟨xs,fz,g1,_,g3,g4,_,g6⟩:=mA hH hg h1;have hsz:=g4 rfl;refine fV hH (y:= .pointer (some ⟨b,off,none⟩)) (hrun _ _ ?_) (.ptr h1);rw [h2];have hsh:=JC g1;rw [hsz]at hsh;simp [convert,dB hs,dB hd,Conv.unsafePointer,Conv.seenAt,viewAt,hsh,jZ hn,variablesAt,hb]
  .trivial
 .rename_i jd gx;split
  .rename_i el hs hd;split
   .rename_i hel;cases hb:Nat.beq (P.cellsOf el) 1 with
    |false=>trivial
    |true=>
     have hb:=ac hb;rw [gx]at hx;have ex:=hx.cg;intro hf;have hr:=run_bytes_of_string (P:=P) w s d el jd hs hd hel;obtain⟨q1,aQ⟩:=tQ hH.drew hf (grownCap w jd.size 0 el) (.cells el (jd.data.toList.map fun x=> .raw (.int .u8 x.toNat)) false true false)
      (.cells (bytesRow jd (grownCap w jd.size 0 el)) el ((bytesRow jd (grownCap w jd.size 0 el)).size,(bytesRow jd (grownCap w jd.size 0 el)).size+1)) (by
        have hge:=grownCap_ge w jd.size 0 el;refine⟨_,_,rfl,(fun h=>by cases h), ?_,(fun h=>by cases h),fun _=>⟨_,_,Env.dA .., ?_⟩⟩
        .have e1:(bytesRow jd (grownCap w jd.size 0 el)).toList.take (jd.data.toList.map fun x=>aa.raw (.int .u8 x.toNat)).length=jd.data.toList.map fun x=>Value.int .u8 x.toNat:=by
          simp only [bytesRow,Array.toList_append,Array.toList_map,kL];rw [List.take_left' τ]
         rw [e1];have:=aG.rT (ρ:=ρ.put H.next w.drew.heap.size (grownCap w jd.size 0 el)) (jd.data.toList.map fun x=>Value.int .u8 x.toNat);simpa [List.map_map,Function.comp_def]using this
        .rw [hb,Nat.mul_one];have hsz:jd.data.size=jd.size:=rfl;simp only [bytesRow,Array.size_append,Array.size_map,Array.size_replicate,hsz];omega)
     refine⟨_, .slice (some ⟨w.heap.size,0,none⟩) jd.size (grownCap w jd.size 0 el),_,_,hrun _ _ (by rw [ex];exact hr),rfl, ?_,q1,aQ.drew⟩;exact .slice (Env.dA ..) rfl (grownCap_ge w jd.size 0 el)
   .trivial
  .exact Q9
 .exact Q9
end
section
variable {P:Program} {B:Nat} {ρ:Env} {H:ai} {w:World} {o:Oper} {ev:dP} {e:Operand->Value}
def Ra (hH:aZ P B ρ H w) {s n:Nat} {x:aa} {y:Value} {news:List aa} {tx:TypeId} (hk:(∃e',P.underlying tx=some (.slice e'))\/P.underlying tx=some .string) (h:src H s x=some (news,n)) (hx:Den ρ x y):
  ∃ys,aG ρ news ys/\ys.length=n*s/\((∀u∈ys,u.oneCell'=true)->Go.Src P s tx y n ys w):=by
 unfold src at h;split at h
 .rename_i c;cases h;have:=hx.cg;subst this;exact⟨[], .nil,by simp,fun _=>⟨hk,fun _=>rfl,run_firstCells_none w s 0 0 c,run_firstCells_none w.drew s 0 0 c,by simp,fun _ h=>by cases h⟩⟩
 .rename_i b;cases hs:Nat.beq s 1 with
  |false=>rw [hs]at h;cases h
  |true=>
   rw [hs]at h;cases h;have hs:=ac hs;subst hs;have:=hx.cg;subst this;have hd:=aG.rT (ρ:=ρ) (byteCells b);refine⟨byteCells b, ?_,by rw [byteCells_length,Nat.mul_one],fun h1=>⟨hk,fun _=>rfl,firstCells_string b w,firstCells_string b w.drew,by rw [byteCells_length,Nat.mul_one],h1⟩⟩;simpa [byteCells,List.map_map,Function.comp_def]using hd
 .rename_i i off len cap;split at h
  .rename_i el cs ex cD ro hg;cases hb:Nat.ble (off+len*s) cs.length with
   |false=>rw [hb]at h;cases h
   |true=>
    rw [hb]at h;cases h;have hb:=bT hb;obtain⟨b,c,k,h1,_,_,rfl⟩:=hx.ig;obtain⟨xs,fz,g1,_,g3,_⟩:=mA hH hg h1;have hl:=JB g3 hb;refine⟨_,(g3.drop off).take (n*s),hl,fun ho=>⟨hk,fun _=>rfl,run_firstCells_some w s n ⟨b,off,none⟩ n k _ hl (Fe g1),run_firstCells_some w.drew s n ⟨b,off,none⟩ n k _ hl (Fe (w:=w.drew) g1),hl,ho⟩⟩
  .cases h
 .cases h
section
variable {t tx ty el:TypeId} {i:TypeInfo} (ht:P.underlying t=some (.slice el))
def jj (hi:P.info? el=some i) {y:Value} (hs:Go.Src P i.size tx y 0 [] w) (base:Option Addr) {len k:Nat} (hl:len<=k):
  (Builtin.append_ #[t,tx] ty #[.slice base len k,y]).run P w= .ok (.slice base len k) w:=by
 rcases hs.kind with⟨e',hk⟩|hk<;>cases base<;>simp [Builtin.append_,run_underlying ht,run_underlying hk,sizeOf,typeInfo,hi,hs.len,hs.cells,hl,storeCells]
def Rb (hi:P.info? el=some i) {y:Value} {n:Nat} {ys:List Value} (hs:Go.Src P i.size tx y n ys w) {b len k:Nat} (hr:len+n<=k) {w':World}
  (hst:(storeCells ⟨b,len*i.size,none⟩ ys).run P w= .ok () w'):(Builtin.append_ #[t,tx] ty #[.slice (some ⟨b,0,none⟩) len k,y]).run P w= .ok (.slice (some ⟨b,0,none⟩) (len+n) k) w':=by
 rcases hs.kind with⟨e',hk⟩|hk<;>simp [Builtin.append_,run_underlying ht,run_underlying hk,sizeOf,typeInfo,hi,hs.len,hr,hs.cells,Addr.add_lit,hst]
end
def rV {b:Builtin} {args:Array Operand} {argTypes:Array TypeId} (ho:o.op= .call {callee:= .builtin b,args,argTypes}) {eM:Next} {w':World}
  (h:∀cs,(builtin b argTypes o.type cs (args.map e)).run P w= .ok eM w'):(execOp e o).run P w= .ok eM w':=by
 simp only [execOp,ho,resolve,Sem.run_bind,Sem.run_pure,Result.andThen_ok,invoke];exact h _
def aa7 {ρ:Env} {i b c:Nat} {el:TypeId} {cs:List aa} {xs:Array Value} {zs:Array Value} (hr:ρ i=some (b,c)) (h:aG ρ cs xs.toList) (hsz:(xs++zs).size=c*P.cellsOf el):gM P ρ i (.cells el cs false false false) (.cells (xs++zs) el):=by
 refine⟨_,(0,0),rfl,fun _=>rfl, ?_,(fun h=>by cases h),fun _=>⟨b,c,hr,hsz⟩⟩;rw [Array.toList_append,List.take_left' h.length];exact h
def JD {el:TypeId} {i:TypeInfo} (hi:P.info? el=some i):P.cellsOf el=i.size:=by simp [Program.cellsOf,hi]
def JE (hH:aZ P B ρ H w) (hf:Fr ρ H.next (H.next+1)) {el:TypeId} {i:TypeInfo} {z:Value} (hi:P.info? el=some i) (hz:z.cells.size=i.size) {cs:List aa} {xs:List Value} (hd:aG ρ cs xs) {need old:Nat} (hl:xs.length=need*i.size):
  aZ P B (ρ.put H.next w.heap.size (grownCap w need old el)) (H.new (.cells el cs false false false)) (w.drew.alloc (.cells (xs.toArray++Builtin.zeroCells z.cells (grownCap w need old el-need)) el))/\
   bQ ρ H w (ρ.put H.next w.heap.size (grownCap w need old el)) (H.new (.cells el cs false false false)) (w.drew.alloc (.cells (xs.toArray++Builtin.zeroCells z.cells (grownCap w need old el-need)) el)):=by
 have hn:ρ H.next=none:=hf H.next (aI _) (fG _);obtain⟨q1,aQ⟩:=tQ hH.drew hf (grownCap w need old el) (.cells el cs false false false) (.cells (xs.toArray++Builtin.zeroCells z.cells (grownCap w need old el-need)) el)
  (aa7 (P:=P) (Env.dA ..) ((show aG ρ cs xs.toArray.toList by simpa using hd).mono (Env.o5 hn)) (by
    have hge:=grownCap_ge w need old el;rw [JD hi];simp only [Array.size_append,List.size_toArray,size_zeroCells,hz,hl,<-Nat.add_mul];congr 1;omega))
 exact⟨q1,aQ.drew⟩
def ub {need old bytes:Nat} (h:old<need) (hb:need*bytes<=140737488355328):Builtin.nextslicecap need old*bytes<=281474976710656:=growslice_fits h hb
section
variable (hH:aZ P B ρ H w)
def Rc {t tx ty el:TypeId} {i:TypeInfo} {z:Value} (ht:P.underlying t=some (.slice el)) (hi:P.info? el=some i) (hz:i.zero=some z) (hzs:z.cells.size=i.size) {y:Value} {n:Nat} {ys:List Value} (hs:Go.Src P i.size tx y n ys w)
  {news:List aa} (hd:aG ρ news ys) (h1:eW news=true) {id len:Nat} {cap:aX} {xv:Value} (hx:Den ρ (.slice id 0 len cap) xv) {q:aa×ai} (hv:xK el i.size i.bytes id len cap news n H=some q) (hf:Fr ρ H.next q.2.next):
  ∃ρ' x w',(Builtin.append_ #[t,tx] ty #[xv,y]).run P w= .ok x w'/\Den ρ' q.1 x/\aZ P B ρ' q.2 w'/\bQ ρ H w ρ' q.2 w':=by
 unfold xK at hv;cases hb:bounded (len+n) i.bytes with
 |false=>rw [hb]at hv;cases hv
 |true=>
  rw [hb]at hv;simp only [bounded,ae]at hb;have b1:=bT hb.1;have b2:=bT hb.2;simp only [cond_true]at hv;split at hv
  .rename_i e' cs Re hg;cases CB:(Nat.beq el e'&&Nat.ble (len*i.size) cs.length)with
   |false=>rw [CB]at hv;cases hv
   |true=>
    rw [CB]at hv;rw [ae]at CB;have b3:=ac CB.1;have b4:=bT CB.2;subst b3;simp only [cond_true]at hv;obtain⟨b,c,k,g1,gc,gl,rfl⟩:=hx.ig;obtain⟨xs,fz,k1,k2,dN,mC,o7,x7⟩:=mA hH hg g1;have hfz:=k2 rfl;subst hfz
    -- the elements that were there
    have Rf:((xs.toList.take cs.length).take (len*i.size)).length=len*i.size:=by
     have:=dN.length;rw [ek,this];omega
    have hold:aG ρ (cs.take (len*i.size)) ((xs.toList.take cs.length).take (len*i.size)):=dN.take _;have aa8:=run_firstCells_some (P:=P) w.drew i.size len ⟨b,0,none⟩ len k _ Rf (fun j v hj=>by
     rw [List.take_take]at hj;have:=x6 (n:=min (len*i.size) cs.length) hj;rw [j0];show w.cell? _=_;rw [cell_of k1];simpa using this)
    have hys:=hs.newsLen
    -- the way that lays a new row
    have grow:k<len+n->∀H0:ai,aZ P B ρ H0 w->bQ ρ H w ρ H0 w->H0.next=H.next->q=(.slice H0.next 0 (len+n) .full,H0.new (.cells el (cs.take (len*i.size)++news) false false false))->
      ∃ρ' x w',(Builtin.append_ #[t,tx] ty #[.slice (some ⟨b,0,none⟩) len k,y]).run P w= .ok x w'/\Den ρ' q.1 x/\aZ P B ρ' q.2 w'/\bQ ρ H w ρ' q.2 w':=by
     intro hlt H0 Ff aa9 hnx hq;subst hq;have hf':Fr ρ H0.next (H0.next+1):=by rw [hnx];have:(H0.new (.cells el (cs.take (len*i.size)++news) false false false)).next=H0.next+1:=rfl;rw [this,hnx]at hf;exact hf
     have hr:=run_append_grow_src (P:=P) w t tx ty el i z ht hi hz (some ⟨b,0,none⟩) len k _ aa8 y n ys hs hlt ω (ub hlt b1);obtain⟨q1,aQ⟩:=JE Ff hf' (need:=len+n) (old:=k) hi hzs (hold.append hd) (by rw [cQ,Rf,hys,Nat.add_mul]);exact⟨_,_,_,hr, .slice (Env.dA ..) rfl (grownCap_ge w (len+n) k el),q1,aa9.trans aQ⟩
    cases cap with
    |known c'=>
     have hkc:k=c':=gc;subst hkc;simp only at hv;cases CC:Nat.ble (len+n) k with
     |true=>
      rw [CC]at hv;have gy:=bT CC;simp only [cond_true,am]at hv;obtain⟨cs',hp,rfl⟩:=hv;obtain⟨_,w',_,r2,r3,mD⟩:=Fb hH hg g1 hp hd h1;exact⟨ρ,_,w',Rb ht hi hs gy r2, .slice g1 rfl gy,r3,mD⟩
     |false=>
      rw [CC]at hv;simp only [cond_false,tC]at hv;have hlt:k<len+n:=by
       refine Nat.lt_of_not_le fun hh=> ?_
       rw [fF hh]at CC;cases CC
      exact grow hlt H hH (bQ.refl _ _ _) rfl hv.symm
    |full=>
     have hkc:k=c:=gc;subst hkc;cases Re with
     |true=>cases hv
     |false=>
      simp only [cond_false,tC]at hv;by_cases hlt:k<len+n
      .obtain⟨d1,d2⟩:=Qx hH id;exact grow hlt (H.drop id) d1 d2 rfl hv.symm
      .have hle:len+n<=k:=Nat.le_of_not_lt hlt;subst hv;have hxs:=o7 rfl;have hsz:len*i.size+ys.length<=xs.size:=by
        rw [hxs,JD hi,hys,<-Nat.add_mul];exact Nat.mul_le_mul_right _ hle
       have hst:=run_storeCells_at P b (len*i.size) el ys 0 xs w k1 (by simpa using hsz) hs.one;simp only [Nat.add_zero]at hst;have hn:ρ H.next=none:=hf H.next (aI _) (fG _);obtain⟨r3,mD⟩:=ZP hH hf hg g1 rfl (k:= .cells el (cs.take (len*i.size)++news) false false false) (w.setRow b (xs.toList.take (len*i.size)++ys++xs.toList.drop (len*i.size+ys.length)).toArray)
        (.cells (xs.toList.take (len*i.size)++ys++xs.toList.drop (len*i.size+ys.length)).toArray el (0,0)) rfl rfl rfl τ (setRow_heap w b xs _ el (0,0) k1) (fun j hj=>setRow_other w b j _ hj) (by
          refine⟨_,_,rfl,fun _=>rfl, ?_,(fun h=>by cases h),fun _=>⟨b,k,Env.dA .., ?_⟩⟩
          .have e1:(xs.toList.take cs.length).take (len*i.size)=xs.toList.take (len*i.size):=by rw [List.take_take,Nat.min_eq_left b4]
           have hd':=(hold.append hd);rw [e1]at hd';have e2:((xs.toList.take (len*i.size)++ys++xs.toList.drop (len*i.size+ys.length)).toArray.toList).take (cs.take (len*i.size)++news).length=xs.toList.take (len*i.size)++ys:=by
            show(xs.toList.take (len*i.size)++ys++xs.toList.drop (len*i.size+ys.length)).take _=_;exact List.take_left' hd'.length
           rw [e2];exact hd'.mono (Env.o5 hn)
          .rw [<-hxs];simp;omega)
       exact⟨_,_,_,Rb ht hi hs hle hst, .slice (Env.dA ..) rfl hle,r3,mD⟩
    |any=>cases hv
  .cases hv
def aba {t tx ty:TypeId} (hk:(∃e',P.underlying tx=some (.slice e'))\/P.underlying tx=some .string) {s x:aa} {sv y:Value} (hs:Den ρ s sv) (hx:Den ρ x y) {q:aa×ai} (hv:mu P t s x H=some q) (hf:Fr ρ H.next q.2.next):
  ∃ρ' r w',(Builtin.append_ #[t,tx] ty #[sv,y]).run P w= .ok r w'/\Den ρ' q.1 r/\aZ P B ρ' q.2 w'/\bQ ρ H w ρ' q.2 w':=by
 unfold mu at hv;simp only [dO]at hv;obtain⟨el,hel,i,hi,z,hz,hv⟩:=hv;have ht:=xY hel;cases hb:(Nat.beq z.cells.size i.size&&Nat.ble 1 i.size)with
 |false=>rw [hb]at hv;cases hv
 |true=>
  rw [hb]at hv;rw [ae]at hb;have b1:=ac hb.1;have b2:=bT hb.2;simp only [cond_true,dO]at hv;obtain⟨sn,nw,hv⟩:=hv;obtain⟨news,n⟩:=sn;obtain⟨ys,g1,g2,g3⟩:=Ra hH hk nw hx;cases lM:Nat.beq n 0 with
  |true=>
   simp only [lM,cond_true]at hv;have hn:=ac lM;subst hn;have hys:ys=[]:=List.eq_nil_of_length_eq_zero (by simpa using g2);subst hys;have hs':=g3 (fun _ h=>by cases h);split at hv
   .cases hv;have:=hs.cg;subst this;exact⟨ρ,_,w,jj ht hi hs' none (aI 0), .raw _,hH,bQ.refl _ _ _⟩
   .cases hv;obtain⟨b,c,k,k1,_,k2,rfl⟩:=hs.ig;exact⟨ρ,_,w,jj ht hi hs' _ k2,hs,hH,bQ.refl _ _ _⟩
   .cases hv
  |false=>
   simp only [lM,cond_false]at hv;cases h1:eW news with
   |false=>simp only [h1,cond_false]at hv;cases hv
   |true=>
    simp only [h1,cond_true]at hv;have hs':=g3 (g1.one h1);split at hv
    .have:=hs.cg;subst this;cases hbd:bounded n i.bytes with
     |false=>rw [hbd]at hv;cases hv
     |true=>
      rw [hbd]at hv;cases hv;simp only [bounded,ae]at hbd;have c1:=bT hbd.1;have c2:=bT hbd.2;have hn0:0<n:=Nat.pos_of_ne_zero fun hh=>by subst hh;cases lM
      have hr:=run_append_grow_src (P:=P) w t tx ty el i z ht hi hz none 0 0 [] (run_firstCells_none w.drew i.size 0 0 0) y n ys hs' ω ω (ub ω (by simpa using c1));obtain⟨q1,aQ⟩:=JE hH hf (need:=n) (old:=0) hi b1 g1 g2;simp only [aw,List.nil_append]at hr;exact⟨_,_,_,hr, .slice (Env.dA ..) rfl (grownCap_ge w n 0 el),q1,aQ⟩
    .exact Rc hH ht hi hz b1 hs' g1 h1 hs hv hf
    .cases hv
def abb {t tx ty:TypeId} {d x:aa} {dv y:Value} (hd:Den ρ d dv) (hx:Den ρ x y) {q:aa×ai} (hv:wx P t d x H=some q):
  ∃r w',(Builtin.copy_ #[t,tx] ty #[dv,y]).run P w= .ok r w'/\Den ρ q.1 r/\aZ P B ρ q.2 w'/\bQ ρ H w ρ q.2 w':=by
 unfold wx at hv;simp only [dO]at hv;obtain⟨el,hel,s,hs,hv⟩:=hv;have ht:=xY hel;obtain⟨i,hi,rfl⟩:=xX hs;split at hv
 .rename_i j rP n ck id off len cap;simp only [dO]at hv;obtain⟨sn,nw,hv⟩:=hv;obtain⟨news,n'⟩:=sn;split at hv
  .rename_i e' cs ex hg;cases h1:eW (news.take (Nat.min n len*i.size))with
   |false=>simp only [h1,cond_false]at hv;cases hv
   |true=>
    simp only [h1,cond_true,am]at hv;obtain⟨cs',hp,rfl⟩:=hv
    -- the source
    unfold src at nw;simp only at nw;split at nw
    .rename_i atV Ai atW atX atY hg2;cases hb:Nat.ble (rP+n*i.size) Ai.length with
     |false=>rw [hb]at nw;cases nw
     |true=>
      rw [hb]at nw;cases nw;have hb:=bT hb;obtain⟨b2,c2,k2,p1,_,_,rfl⟩:=hx.ig;obtain⟨b,c,k,g1,_,_,rfl⟩:=hd.ig;obtain⟨abc,atZ,m1,_,m3,_⟩:=mA hH hg2 p1;have hmin:Nat.min n len*i.size<=n*i.size:=Nat.mul_le_mul_right _ (Nat.min_le_left _ _);have hcut:(cut Ai rP (n*i.size)).take (Nat.min n len*i.size)=cut Ai rP (Nat.min n len*i.size):=by
       simp only [cut];rw [List.take_take,Nat.min_eq_left hmin]
      rw [hcut]at hp h1;have hdn:aG ρ (cut Ai rP (Nat.min n len*i.size)) (((abc.toList.take Ai.length).drop rP).take (Nat.min n len*i.size)):=(m3.drop rP).take _;have hl:=JB m3 (off:=rP) (n:=Nat.min n len*i.size) ω;have hf:=run_firstCells_some (P:=P) w i.size (Nat.min n len) ⟨b2,rP,none⟩ n k2 _ hl (Fe m1);obtain⟨_,w',_,r2,r3,mD⟩:=Fb hH hg g1 hp hdn h1;refine⟨goInt (Nat.min n len),w', ?_, .raw _,r3,mD⟩;simp [Builtin.copy_,dB ht,Builtin.lenOf,jZ hs,hf,r2]
    .cases nw
  .cases hv
 .rename_i id off len cap;cases hv;obtain⟨b,c,k,g1,_,_,rfl⟩:=hd.ig;have:=hx.cg;subst this;exact⟨goInt 0,w,by simp [Builtin.copy_,dB ht,Builtin.lenOf,Builtin.firstCells,jZ hs,storeCells], .raw _,hH,bQ.refl _ _ _⟩
 .cases hv
def Hb {t ty:TypeId} {j off len:Nat} {cap:aX} {dv:Value} (hd:Den ρ (.slice j off len cap) dv) {q:aa×ai} (hv:zX P t j off len H=some q):
  ∃r w',(Builtin.clear_ #[t] ty #[dv]).run P w= .ok r w'/\Den ρ q.1 r/\aZ P B ρ q.2 w'/\bQ ρ H w ρ q.2 w':=by
 unfold zX at hv;simp only [dO]at hv;obtain⟨el,hel,s,hs,z,hz,hv⟩:=hv;have ht:=xY hel;split at hv
 .rename_i e' cs ex hg;cases hb:(Nat.ble 1 len&&Nat.beq z.cells.size s&&eW (List.replicate len (ic z.cells)).flatten)with
  |false=>rw [hb]at hv;cases hv
  |true=>
   rw [hb]at hv;simp only [ae]at hb;obtain⟨⟨b1,b2⟩,b3⟩:=hb;have b1:=bT b1;simp only [cond_true,am]at hv;obtain⟨cs',hp,rfl⟩:=hv;obtain⟨b,c,k,g1,_,_,rfl⟩:=hd.ig;obtain⟨inf,_,rfl⟩:=xX hs;have b2:=ac b2;have hzl:(Builtin.zeroCells z.cells len).toList=((Array.range (len*inf.size)).map (z.cells[· %z.cells.size]!)).toList:=by unfold Builtin.zeroCells;rw [b2]
   have hdn:aG ρ (List.replicate len (ic z.cells)).flatten (Builtin.zeroCells z.cells len).toList:=by
    by_cases h0:1<=inf.size
    .rw [hzl,E9 z.cells inf.size b2 h0,qe];exact aG.rT _
    .have lM:inf.size=0:=by omega
     have CD:z.cells= #[]:=Array.eq_empty_of_size_eq_zero (b2.trans lM);rw [CD];have e1:(List.replicate len (ic #[])).flatten=[]:=by simp [ic]
     have e2:(Builtin.zeroCells #[] len).toList=[]:=by unfold Builtin.zeroCells;simp
     rw [e1,e2];exact .nil
   obtain⟨_,w',_,r2,r3,mD⟩:=Fb hH hg g1 hp hdn b3;refine⟨.tuple #[],w', ?_, .raw _,r3,mD⟩;obtain⟨n,rfl⟩:∃n,len=n+1:=⟨len-1,by omega⟩;have abd:(zeroValue el).run P w= .ok z w:=E2 hz w;simp [Builtin.clear_,dB ht,abd,r2]
 .cases hv
end
def qz {α:Type} {b:Bool} {x:Option α} {q:α} (h:cond b x none=some q):b=true/\x=some q:=by
 cases b
 .cases h
 .exact⟨rfl,h⟩
def Rg {b n:Nat} {xs:Array Value} {el:TypeId} {fz:Nat×Nat} (h:w.heap[b]? =some (.cells xs el fz)):(∃x8,(w.freeze ⟨b,0,none⟩ n).heap[b]? =some (.cells xs el x8))/\∀j,j≠b->(w.freeze ⟨b,0,none⟩ n).heap[j]? =w.heap[j]? :=by
 unfold World.freeze;split
 .exact⟨⟨fz,h⟩,fun _ _=>rfl⟩
 .obtain⟨lo,hi⟩:=fz;refine⟨⟨_,by simp only [Array.getElem?_modify,h];rfl⟩,fun j hj=> ?_⟩;simp only [Array.getElem?_modify];rw [if_neg (Ne.symm hj)]
def uc (n:Nat) (a:Addr):(w.freeze a n).os=w.os/\(w.freeze a n).tape=w.tape/\(w.freeze a n).output=w.output/\(w.freeze a n).heap.size=w.heap.size:=by
 unfold World.freeze;split<;>simp
def abe (hH:aZ P B ρ H w) {pt it ty:TypeId} {x n:aa} {y aA:Value} (hx:Den ρ x y) (hn:Den ρ n aA) {q:aa×ai} (hv:vI P pt x n H=some q):
  ∃r w',(Builtin.unsafeString_ #[pt,it] ty #[y,aA]).run P w= .ok r w'/\Den ρ q.1 r/\aZ P B ρ q.2 w'/\bQ ρ H w ρ q.2 w':=by
 unfold vI at hv;split at hv
 .rename_i i;split at hv
  .rename_i m;split at hv
   .rename_i el e' cs ex cD hp hg;cases hb:(Nat.beq el e'&&Nat.beq (P.cellsOf el) 1&&Nat.ble 1 m&&Nat.ble m cs.length&&Nat.ble m 140737488355328)with
    |false=>rw [hb]at hv;cases hv
    |true=>
     rw [hb]at hv;simp only [ae]at hb;obtain⟨⟨⟨⟨b1,b2⟩,b3⟩,b4⟩,gy⟩:=hb;have b1:=ac b1;have b2:=ac b2;have b3:=bT b3;have b4:=bT b4;have gy:=bT gy;subst b1;simp only [cond_true,am]at hv;obtain⟨bs,lK,rfl⟩:=hv;obtain⟨b,c,h1,rfl⟩:=hx.kN;have:=hn.cg;subst this;obtain⟨xs,fz,g1,_,g3,g4,g5,g6⟩:=mA hH hg h1;have q1:=JA lK (g3.take m);have hlen:bs.length=m:=by
      have h9:=congrArg List.length q1;have:=g3.length;rw [ek,this,kL]at h9;omega
     subst hlen;have hr:=Lib.run_unsafeString_row (P:=P) w pt it ty el hp b2 b xs.size (JC g1) bs (by intro hh;subst hh;simp at b3) ω ω (fun j x hj=>by
      rw [j0,cell_of g1];refine x6 (n:=cs.length) ?_;have h9:((xs.toList.take cs.length).take bs.length)[j]? =some (.int .u8 x.toNat):=by rw [q1];simp [hj]
      rw [List.getElem?_take]at h9;split at h9
      .simpa using h9
      .cases h9)
     obtain⟨⟨x8,f1⟩,f2⟩:=Rg (n:=bs.length) g1;obtain⟨e1,e2,e3,bV⟩:=uc (w:=w) bs.length ⟨b,0,none⟩;obtain⟨r3,mD⟩:=vL hH hg h1 rfl (k:= .cells el cs ex true false) _ _ e1 e2 e3 bV f1 f2 ⟨xs,x8,rfl,(fun h=>by cases h),g3,g4,fun hx=>⟨b,c,h1,g5 hx⟩⟩;exact⟨_,_,hr, .raw _,r3,mD⟩
   .cases hv
  .cases hv
 .rename_i e' u i;split at hv
  .rename_i m;obtain⟨hb,hv⟩:=qz hv;cases hv;simp only [ae]at hb;obtain⟨b1,b2,b3,b4,gy⟩:=hb;have b2:=bT b2;have b3:=bT b3;unfold EY at b1;split at b1
   .rename_i el hp;simp only [ae]at b1;obtain⟨a1,a2,a3⟩:=b1;have a1:=ac a1;have a2:=ac a2;have a3:=ap a3;subst a1;subst a3;obtain⟨d1,d2⟩:=vN b4;obtain⟨b,c,h1,rfl⟩:=hx.xV;have:=hn.cg;subst this;generalize bN (av.int .u8) (H.get i)=xs at*;obtain⟨ys,g1,g2,_,g4,_,_⟩:=rU hH d1 h1;have gy:dV (oX (xs.take m))=xs.take m:=ap gy;have hfl:(av.flat (.int .u8) xs).length=xs.length:=by rw [av.jb];exact Nat.mul_one _
    have ij:(oX (xs.take m)).data.toList.length=m:=by
     have:=congrArg List.length gy;unfold dV at this;rw [kL,ek]at this;omega
    have key:∀(j:Nat) (x:UInt8),(oX (xs.take m)).data.toList[j]? =some x->ys.toList[j]? =some (.int .u8 x.toNat):=fun j x hj=>by
     have hjm:j<m:=by rw [<-ij];exact(List.getElem?_eq_some_iff.1 hj).1
     have e1:(dV (oX (xs.take m)))[j]? =some (x.toNat:Int):=by unfold dV;rw [List.getElem?_map,hj];rfl
     rw [gy,List.getElem?_take,if_pos hjm]at e1;have e2:(av.flat (.int .u8) xs)[j]? =some (.raw (.int .u8 (x.toNat:Int))):=by
      have:∀l:List Int,av.flat (.int .u8) l=l.map fun z=>aa.raw (.int .u8 z):=fun l=>by
       induction l with
       |nil=>rfl
       |cons z l ih=>exact congrArg (aa.raw (.int .u8 z):: ·) ih
      rw [this,List.getElem?_map,e1];rfl
     obtain⟨y,y1,y2⟩:=g2.get e2;have:=y2.cg;subst this;rw [List.getElem?_take]at y1;split at y1
     .exact y1
     .cases y1
    have hr:=Lib.run_unsafeString_row (P:=P) w pt it ty el hp a2 b ys.size (JC g1) (oX (xs.take m)).data.toList (by intro hh;rw [hh]at ij;simp at ij;omega) ω ω (fun j x hj=>by
     rw [j0,cell_of g1];have:=key j x hj;rw [aw,<-Array.getElem?_toList];exact this)
    rw [ij]at hr;obtain⟨⟨x8,f1⟩,f2⟩:=Rg (n:=m) g1;obtain⟨e1,e2,e3,bV⟩:=uc (w:=w) m ⟨b,0,none⟩;obtain⟨r3,mD⟩:=ZO hH d1 h1 rfl _ e1 e2 e3 bV f2;refine⟨_,_, ?_, .raw _,r3,mD⟩;simpa using hr
   .cases b1
  .cases hv
 .cases hv
structure fe (P:Program):Prop where
 Fg:∀(f:FuncId) (fn:Func),P.funcs[f]? =some fn->fn.body.isSome=true->(fn.name== "runtime.NumGoroutine")=false
 Rh:∀(f:FuncId) (fn:Func),P.funcs[f]? =some fn->fn.body=none->(fn.name== "internal/abi.NoEscape")=true->∀x w,(callFunc f #[x]).run P w= .ok (.value x) w
 makeNoZero:∀(f:FuncId) (fn:Func) (t el:TypeId),P.funcs[f]? =some fn->fn.body=none->(fn.name== "internal/bytealg.MakeNoZero")=true->fn.resultTypes[0]? =some t->P.underlying t=some (.slice el)->∀(n:Nat) w,n<=140737488355328->
  ∃cs:Array Value,n<=cs.size/\(callFunc f #[.int .i64 n]).run P w= .ok (.value (.slice (some ⟨w.heap.size,0,none⟩) n cs.size)) (w.drew.drew.alloc (.cells cs el))
def abf (hK:fe P) {f:FuncId} {fn:Func} {c:Code} (hf:P.funcs[f]? =some fn) (hb:fn.body=some c) (args:Array Value) (w:World):(callFunc f args).run P w= .ok (.enter f args) w:=by
 have h1:¬fn.name= "runtime.NumGoroutine" :=by simpa using hK.Fg f fn hf (by simp [hb])
 simp [callFunc,hf,h1,hb]
section
variable (hK:fe P) (hH:aZ P B ρ H w)
def abg {f:FuncId} {fn:Func} (hf:P.funcs[f]? =some fn) (hb:fn.body=none) {args:List aa} {xs:List Value} (hd:aG ρ args xs):cR P B ρ H w ((callFunc f xs.toArray).run P w) (eS (mw P f fn args H)):=by
 unfold mw;cases hr:aa.kM args with
 |some vs=>
  have hxs:=hd.kM hr;subst hxs;simp only;split
  .rename_i v hv;exact fV hH (n4 _ w hv) (.raw v)
  .cases hn:fn.name== "internal/bytealg.MakeNoZero" with
   |false=>simp only [cond_false];trivial
   |true=>
    simp only [cond_true];split
    .rename_i n t ht;cases hel:il P t with
     |none=>trivial
     |some el=>
      simp only [Option.bind_some];cases hbb:(Nat.ble n 140737488355328&&Nat.beq (P.cellsOf el) 1)with
      |false=>simp only [cond_false];trivial
      |true=>
       simp only [cond_true];rw [ae]at hbb;have b1:=bT hbb.1;have b2:=ac hbb.2;have hx:xs=[.int .i64 n]:=by
        cases hd with
        |cons h1 h2=>cases h2 with
         |nil=>rw [h1.cg];rfl
       subst hx;obtain⟨cs,c1,c2⟩:=hK.makeNoZero f fn t el hf hb hn ht (xY hel) n w b1;intro hfr;obtain⟨q1,aQ⟩:=tQ hH.drew.drew hfr cs.size (.cells el [] false false false) (.cells cs el) ⟨cs,(0,0),rfl,fun _=>rfl,by simpa using aG.nil,(fun h=>by cases h),fun _=>⟨_,_,Env.dA ..,by rw [b2,Nat.mul_one]⟩⟩;exact⟨_,_,_,_,c2,rfl, .slice (Env.dA ..) rfl c1,q1,aQ.drew.drew⟩
    .trivial
 |none=>
  simp only;split
  .rename_i x;cases hn:fn.name== "internal/abi.NoEscape" with
   |false=>simp only [cond_false];trivial
   |true=>
    simp only [cond_true];cases hd with
    |cons h1 h2=>cases h2 with
     |nil=>exact fV hH (hK.Rh f fn hf hb hn _ w) h1
  .trivial
def JF {f:FuncId} {args:List aa} {xs:List Value} (hd:aG ρ args xs):cR P B ρ H w ((callFunc f xs.toArray).run P w) (kd P f args H):=by
 unfold kd;cases hf:P.funcs[f]? with
 |none=>trivial
 |some fn=>
  simp only;cases hb:fn.body with
  |none=>exact abg hK hH hf hb hd
  |some c=>exact⟨rfl,xs,abf hK hf hb xs.toArray w,hd⟩
def kw {fv:aa} {v:Value} (hv:Den ρ fv v) {args:List aa} {xs:List Value} (hd:aG ρ args xs) {r:Result Next}
  (hr:∀fn (first captured:Array Value),v= .func fn first captured->r=(invoke (.fn fn captured) (first++xs.toArray)).run P w):cR P B ρ H w r (mj P fv args H):=by
 have arr:∀a b c:List Value,a.toArray++b.toArray++c.toArray=(a++b++c).toArray:=fun a b c=>by simp
 unfold mj;split
 .rename_i x;have:=hv.cg;subst this;cases hg:xM v with
  |fn f=>
   simp only;unfold xM at hg;split at hg
   .rename_i fn;unfold Qn at hg;split at hg
    .rename_i f';cases hg;rw [hr _ _ _ rfl];have e1:(⟨[]⟩:Array Value)++xs.toArray=xs.toArray:=by apply Array.ext';simp
     have e2:xs.toArray++(⟨[]⟩:Array Value)=xs.toArray:=by apply Array.ext';simp
     show cR P B ρ H w ((callFunc f ((⟨[]⟩:Array Value)++xs.toArray++(⟨[]⟩:Array Value))).run P w) _;rw [e1,e2];exact JF hK hH hd
    .cases hg
   .cases hg
  |no=>
   simp only;split
   .rename_i f first captured
    rw [hr _ _ _ rfl];show cR P B ρ H w ((callFunc f (first++xs.toArray++captured)).run P w) _;have e1:first++xs.toArray++captured=(first.toList++xs++captured.toList).toArray:=by apply Array.ext';simp
    rw [e1];exact JF hK hH (((CA first).append hd).append (CA captured))
   .trivial
 .rename_i f first captured
  obtain⟨fs,cs,g1,g2,rfl⟩:=hv.Ct;rw [hr _ _ _ rfl];show cR P B ρ H w ((callFunc f (fs.toArray++xs.toArray++cs.toArray)).run P w) _;rw [arr];exact JF hK hH ((g1.append hd).append g2)
 .rename_i i;obtain⟨b,c,g1,rfl⟩:=hv.Jm;refine⟨rfl,b,c,xs,g1, ?_,hd⟩;rw [hr _ _ _ rfl];have e1:(#[]:Array Value)++xs.toArray=xs.toArray:=by apply Array.ext';simp
  rw [e1];rfl
 .trivial
end
end
section
variable {P:Program} {H:ai} {w:World} {B:Nat} {ρ ρ':Env}
def abh {cs:List aa} {ys:List Value} {m:Nat} {v v':aa} (hl:cB ρ ρ') (h:aG ρ cs ys) (hm:cs[m]? =some v) (hv:∀y,Den ρ v y->Den ρ' v' y):aG ρ' (cs.set m v') ys:=by
 refine aG.Qv (by rw [b6];exact h.length) fun i u y hi hy=> ?_
 by_cases him:m=i
 .subst him;have hlt:m<cs.length:=(List.getElem?_eq_some_iff.1 hm).1;rw [List.getElem?_set_self hlt]at hi;cases hi;obtain⟨y',h1,h2⟩:=h.get hm;rw [hy]at h1;cases h1;exact hv y h2
 .rw [List.getElem?_set_ne him]at hi;obtain⟨y',h1,h2⟩:=h.get hi;rw [hy]at h1;cases h1;exact h2.mono hl
def JG (H:ai) (i j k:Nat) (b:bl):((H.drop i).set j b).get k=if j=k then some b else if i=k then none else H.get k:=by
 rw [ai.gj,ai.o4]
def JH {i j m:Nat} {e:TypeId} {cs:List aa} {x f r:Bool} {v v':aa} (hH:aZ P B ρ H w) (hl:cB ρ ρ') (ha:∀i,ρ' i=ρ i) (hj:H.get j=some (.cells e cs x f r)) (hij:i≠j) (hm:cs[m]? =some v) (hv:∀y,Den ρ v y->Den ρ' v' y)
  (hfz:∀b A,ρ'.fz b=some A->(∃e fr,w.heap[b]? =some (.cells A e fr))/\∀k kk c,k≠i->H.get k=some kk->ρ k=some (b,c)->kk.eT=true):
  aZ P B ρ' ((H.drop i).set j (.cells e (cs.set m v') x f r)) w:=by
 have key:∀k kk,((H.drop i).set j (.cells e (cs.set m v') x f r)).get k=some kk->k≠i/\∃k0,H.get k=some k0/\k0.eT=kk.eT/\∀o,gM P ρ k k0 o->gM P ρ' k kk o:=fun k kk h=>by
  rw [JG]at h;split at h
  .rename_i hjk;subst hjk;cases h;refine⟨fun h=>hij h.symm,_,hj,rfl,fun o ho=> ?_⟩;obtain⟨zs,fz,h1,h2,h3,h4,h5⟩:=ho;refine⟨zs,fz,h1,h2, ?_,by rw [b6];exact h4,fun hx=> ?_⟩
   .rw [b6];exact abh hl h3 hm hv
   .obtain⟨b,c,g1,g2⟩:=h5 hx;exact⟨b,c,by rw [ha];exact g1,g2⟩
  .split at h
   .cases h
   .rename_i h1 h2;exact⟨fun h=>h2 h.symm,_,h,rfl,fun o ho=>ho.mono hl⟩
 refine⟨fun k kk h=> ?_,fun i1 i2 k1 k2 b c1 c2 g1 g2 g3 g4=> ?_,fun k kk h=> ?_,hH.base,fun b A h=>⟨(hfz b A h).1,fun k kk c g1 g2=> ?_⟩⟩
 .obtain⟨_,k0,h1,h2,h3⟩:=key k kk h;obtain⟨b,c,o,e1,e2,e3,bV⟩:=hH.blk k k0 h1;exact⟨b,c,o,by rw [ha];exact e1,e2,h3 o e3,fun hr=>bV (by rw [h2];exact hr)⟩
 .obtain⟨_,q1,h1,_⟩:=key _ _ g1;obtain⟨_,aQ,h2,_⟩:=key _ _ g2;rw [ha]at g3 g4;exact hH.inj _ _ _ _ _ _ _ h1 h2 g3 g4
 .obtain⟨_,k0,h1,_⟩:=key k kk h;exact hH.lt k k0 h1
 .obtain⟨hne,k0,h1,h2,_⟩:=key k kk g1;rw [ha]at g2;rw [<-h2];exact(hfz b A h).2 k k0 c hne h1 g2
section
variable {i j:Nat} {e:TypeId} {cs cs':List aa} {x f r:Bool} {ρ':Env} (ha:∀i,ρ' i=ρ i)
def JI (hj:H.get j=some (.cells e cs x f r)) {b:Nat} (h:Own ρ' ((H.drop i).set j (.cells e cs' x f r)) b):Own ρ H b:=by
 obtain⟨k,kk,c,h1,h2,h3⟩:=h;rw [ha]at h3;rw [JG]at h1;split at h1
 .rename_i hjk;subst hjk;cases h1;exact⟨j,_,c,hj,h2,h3⟩
 .split at h1
  .cases h1
  .exact⟨k,kk,c,h1,h2,h3⟩
def abi (hj:H.get j=some (.cells e cs x f r)) {b:Nat} (h:oZ ρ' ((H.drop i).set j (.cells e cs' x f r)) b):oZ ρ H b:=by
 obtain⟨k,kk,c,h1,h3⟩:=h;rw [ha]at h3;rw [JG]at h1;split at h1
 .rename_i hjk;subst hjk;cases h1;exact⟨j,_,c,hj,h3⟩
 .split at h1
  .cases h1
  .exact⟨k,kk,c,h1,h3⟩
end
def Hc {ty:av} {x:aa} {b:Bool} {H':ai} (h:xL ty x H=some (b,H')):H'.next=H.next:=by
 unfold xL at h;split at h
 .split at h
  .split at h
   .split at h
    .split at h
     .obtain⟨_,h2⟩:=Prod.mk.inj (jV h);rw [<-h2];rfl
     .cases h
    .cases h
   .cases h
  .cases h
 .cases h
def abj {ty:av} {x:aa} {H':ai} (hH:aZ P B ρ H w) (h:xL ty x H=some (true,H')):∃ρ',(∀i,ρ' i=ρ i)/\aZ P B ρ' H' w/\bQ ρ H w ρ' H' w/\H'.next=H.next:=by
 unfold xL at h;split at h
 .rename_i u j off c;split at h
  .rename_i e cs ex f r hj;split at h
   .rename_i e2 u2 i len cap hm;split at h
    .rename_i e3 u3 xs hi;split at h
     .rename_i hb;simp only [ae,bE,Bool.not_eq_true']at hb;obtain⟨rfl,b2,b3⟩:=hb;have b2:=ac b2;subst b2;have hij:i≠j:=fun e=>by subst e;simp at b3
      obtain⟨h1,h2⟩:=Prod.mk.inj (jV h);have hl:=ac h1;subst hl;rw [Ab]at hm;obtain⟨b,c',o,hib,ho,_,hB⟩:=hH.blk i _ hi;obtain⟨zs,dD,z2,z3,z4,z5,Ri⟩:=rU hH hi hib;have hnf:ρ.fz b=none:=by
       cases hz:ρ.fz b with
       |none=>rfl
       |some A=>
        have:=(hH.fz b A hz).2 i _ c' hi hib;cases this
      have hle:cB ρ ⟨ρ.at',fun q=>if q=b then some zs else ρ.fz q⟩:=⟨fun _ _ h=>h,fun q A h=>by
       show(if q=b then some zs else ρ.fz q)=some A;by_cases hq:q=b
       .subst hq;rw [hnf]at h;cases h
       .rw [if_neg hq];exact h⟩
      have hd:=JH (ρ':=⟨ρ.at',fun q=>if q=b then some zs else ρ.fz q⟩) (m:=off) (v':= .bn false u2 xs) hH hle (fun _=>rfl) hj hij hm (fun y hy=>by
       rcases hy.jx with⟨h0,a,rfl⟩|⟨b',c2,kc,g1,_,g3,rfl⟩
       .have hx:xs=[]:=List.eq_nil_of_length_eq_zero h0;subst hx;exact .fc fun e=>by cases e
       .rw [hib]at g1;cases g1;refine .bn (A:=zs) (b:=b) (off:=0*u2.size) (by show(if b=b then some zs else _)=_;rw [if_pos rfl]) (by rw [Nat.zero_mul,aw];exact z4) rfl ?_ g3 (fun e=>by cases e);rw [Nat.zero_mul,List.drop_zero];exact z2.mono hle) (fun q A h=>by
       have h:(if q=b then some zs else ρ.fz q)=some A:=h;by_cases hq:q=b
       .subst hq;rw [if_pos rfl]at h;cases h;exact⟨⟨_,_,dD⟩,fun k kk c' hne g1 g2=>absurd (hH.inj k i kk _ q _ _ g1 hi g2 hib) hne⟩
       .rw [if_neg hq]at h;exact⟨(hH.fz q A h).1,fun k kk c _ g1 g2=>(hH.fz q A h).2 k kk c g1 g2⟩)
      rw [h2]at hd;refine⟨⟨ρ.at',fun q=>if q=b then some zs else ρ.fz q⟩,fun _=>rfl,hd,⟨hle,fun _ _=>rfl,Nat.le_of_eq (by rw [<-h2];rfl),aI _,rfl,rfl,rfl,fun _ _ _=>rfl,fun q _ hh=> ?_,fun q _ hh=> ?_,fun q A h=> ?_⟩,by rw [<-h2];rfl⟩
      .rw [<-h2]at hh;exact JI (fun _=>rfl) hj hh
      .rw [<-h2]at hh;exact abi (fun _=>rfl) hj hh
      .have h:(if q=b then some zs else ρ.fz q)=some A:=h;by_cases hq:q=b
       .subst hq;exact .inr (.inr ⟨i,_,c',hi,rfl,hib⟩)
       .rw [if_neg hq]at h;exact .inl h
     .cases h
    .cases h
   .cases h
  .cases h
 .cases h
end
section
variable {P:Program} {B:Nat} {ρ:Env} {H:ai} {w:World}
structure Same (P:Program) (ρ:Env) (K K':ai):Prop where
 next:K'.next=K.next
 to:∀j k,K.get j=some k->∃k',K'.get j=some k'/\k'.eT=k.eT/\∀o,gM P ρ j k o->gM P ρ j k' o
 none:∀j,K.get j=none->K'.get j=none
def Same.from {K K':ai} (h:Same P ρ K K') {j:Nat} {k':bl} (hj:K'.get j=some k'):∃k,K.get j=some k/\k'.eT=k.eT/\∀o,gM P ρ j k o->gM P ρ j k' o:=by
 cases hk:K.get j with
 |none=>rw [h.none j hk]at hj;cases hj
 |some k=>
  obtain⟨k2,h1,h2,h3⟩:=h.to j k hk;rw [hj]at h1;cases h1;exact⟨k,rfl,h2,h3⟩
def Same.lI {K K':ai} (h:Same P ρ K K') (hH:aZ P B ρ K w):aZ P B ρ K' w where
 blk i k hi:=by
  obtain⟨k0,h1,h2,h3⟩:=h.from hi;obtain⟨b,c,o,e1,e2,e3,bV⟩:=hH.blk i k0 h1;exact⟨b,c,o,e1,e2,h3 o e3,fun e=>bV (h2 ▸ e)⟩
 inj i j eL eY b ci ck hi hj jw fI:=by
  obtain⟨abk,h1,_⟩:=h.from hi;obtain⟨abl,h2,_⟩:=h.from hj;exact hH.inj i j abk abl b ci ck h1 h2 jw fI
 lt i k hi:=by
  obtain⟨k0,h1,_⟩:=h.from hi;rw [h.next];exact hH.lt i k0 h1
 base:=hH.base
 fz b A hb:=⟨(hH.fz b A hb).1,fun i k c hi hr=>by
  obtain⟨k0,h1,h2,_⟩:=h.from hi;rw [h2];exact(hH.fz b A hb).2 i k0 c h1 hr⟩
def Same.own {K K':ai} (h:Same P ρ K K') {b:Nat} (ρ':Env):Own ρ' K b↔Own ρ' K' b:=by
 constructor
 .rintro⟨i,k,c,h1,h2,h3⟩;obtain⟨k',g1,g2,_⟩:=h.to i k h1;exact⟨i,k',c,g1,g2 ▸ h2,h3⟩
 .rintro⟨i,k,c,h1,h2,h3⟩;obtain⟨k',g1,g2,_⟩:=h.from h1;exact⟨i,k',c,g1,g2 ▸ h2,h3⟩
def Same.mo {K K':ai} (h:Same P ρ K K') {b:Nat} (ρ':Env):oZ ρ' K b↔oZ ρ' K' b:=by
 constructor
 .rintro⟨i,k,c,h1,h3⟩;obtain⟨k',g1,_⟩:=h.to i k h1;exact⟨i,k',c,g1,h3⟩
 .rintro⟨i,k,c,h1,h3⟩;obtain⟨k',g1,_⟩:=h.from h1;exact⟨i,k',c,g1,h3⟩
def Same.Fh {K K':ai} (h:Same P ρ K K'):bQ ρ K w ρ K' w:=
 ⟨cB.refl _,fun _ _=>rfl,Nat.le_of_eq h.next.symm,aI _,rfl,rfl,rfl,fun _ _ _=>rfl,fun _ _ ho=>(h.own ρ).2 ho,fun _ _ ho=>(h.mo ρ).2 ho,fun _ _ h=> .inl h⟩
def lE:∀(t:av) (d:t.den),eW (t.cells d)=true
 | .int _,_=>rfl
 | .bool,_=>rfl
 | .str,_=>rfl
 | .list _ _,_=>rfl
 | .pair a b,d=>by
   have h:∀l m:List aa,eW l=true->eW m=true->eW (l++m)=true:=fun l m h1 h2=>by
    induction l with
    |nil=>exact h2
    |cons v l ih=>
     obtain⟨q1,aQ⟩:=lw h1;simp [eW,q1,ih aQ]
   exact h _ _ (lE a d.1) (lE b d.2)
 | .ptr _,_=>rfl
 | .unit,_=>rfl
def Aj (t:av):∀(ds:List t.den),eW (t.flat ds)=true
 |[]=>rfl
 |d::ds=>by
  have h:∀l m:List aa,eW l=true->eW m=true->eW (l++m)=true:=fun l m h1 h2=>by
   induction l with
   |nil=>exact h2
   |cons v l ih=>
    obtain⟨q1,aQ⟩:=lw h1;simp [eW,q1,ih aQ]
  rw [av.Ad];exact h _ _ (lE t d) (Aj t ds)
def abm (hH:aZ P B ρ H w) {ty:av} {n:Nat} {x:aa} {y:Value} {ds:List ty.den} {tx:TypeId} (hk:(∃e',P.underlying tx=some (.slice e'))\/P.underlying tx=some .string) (h:zW H ty ty.size x=some (ds,n)) (hx:Den ρ x y):
  ∃ys,aG ρ (ty.flat ds) ys/\ds.length=n/\Go.Src P ty.size tx y n ys w:=by
 unfold zW at h;split at h
 .cases h;have:=hx.cg;subst this;exact⟨[], .nil,rfl,⟨hk,fun _=>rfl,run_firstCells_none w _ 0 0 _,run_firstCells_none w.drew _ 0 0 _,by simp,fun _ h=>by cases h⟩⟩
 .rename_i b;split at h
  .rename_i hu;subst hu;cases h;have:=hx.cg;subst this;have hd:aG ρ ((av.int .u8).flat (dV b)) (byteCells b):=by
    have e:(av.int .u8).flat (dV b)=(byteCells b).map aa.raw:=by
     unfold dV byteCells;induction b.data.toList with
     |nil=>rfl
     |cons x l ih=>exact congrArg (aa.raw (.int .u8 x.toNat):: ·) ih
    rw [e];exact aG.rT _
   exact⟨byteCells b,hd,by simp [dV],⟨hk,fun _=>rfl,firstCells_string b w,firstCells_string b w.drew,by rw [byteCells_length];exact(Nat.mul_one _).symm,hd.one (Aj (av.int .u8) _)⟩⟩
  .cases h
 .rename_i z u ys;split at h
  .rename_i hu;subst hu;cases h;rcases hx.tR with⟨rfl,a,k,rfl,_⟩|⟨b,off,k,A,h1,h2,h3,h4,rfl,_⟩
   .refine⟨[], .nil,rfl, ?_⟩;cases a with
    |none=>exact⟨hk,fun _=>rfl,run_firstCells_none w _ 0 0 _,run_firstCells_none w.drew _ 0 0 _,by simp,fun _ h=>by cases h⟩
    |some a=>exact⟨hk,fun _=>rfl,run_firstCells_some w _ 0 a 0 k [] τ τ,run_firstCells_some w.drew _ 0 a 0 k [] τ τ,by simp,fun _ h=>by cases h⟩
   .obtain⟨⟨el,fr,g1⟩,_⟩:=hH.fz b A h1;have hl:((A.toList.drop off).take (u.flat ys).length).length=ys.length*u.size:=by rw [h3.length,u.jb]
    have hc:∀(w':World),w'.heap[b]? =some (.cells A el fr)->∀(j:Nat) (v:Value),((A.toList.drop off).take (u.flat ys).length)[j]? =some v->w'.cell? ((⟨b,off,none⟩:Addr).add j)=some v:=fun w' hw j v hj=>by
     rw [j0,cell_of hw];rw [List.getElem?_take]at hj;split at hj
     .rw [List.getElem?_drop]at hj;simpa using hj
     .cases hj
    exact⟨_,h3,rfl,⟨hk,fun _=>rfl,run_firstCells_some w _ _ ⟨b,off,none⟩ _ k _ hl (hc w g1),run_firstCells_some w.drew _ _ ⟨b,off,none⟩ _ k _ hl (hc w.drew g1),hl,h3.one (Aj u ys)⟩⟩
  .cases h
 .rename_i e' u j k len cap;cases hc:(decide (u=ty)&&(Nat.beq len 0||bz e' ty (H.get j) (k+len-1)))with
  |false=>rw [hc]at h;cases h
  |true=>
   rw [hc]at h;obtain⟨rfl,rfl⟩:=Prod.mk.inj (jV h);rw [ae,Bool.or_eq_true]at hc;obtain⟨hu,hc⟩:=hc;have hu:=ap hu;subst hu;by_cases hn:len=0
   .subst hn;refine⟨[],by simpa [av.flat]using aG.nil,by simp, ?_⟩;rcases hx.jx with⟨_,a,rfl⟩|⟨b,c,kc,_,_,_,rfl⟩
    .cases a with
     |none=>exact⟨hk,fun _=>rfl,run_firstCells_none w _ 0 0 _,run_firstCells_none w.drew _ 0 0 _,by simp,fun _ h=>by cases h⟩
     |some a=>exact⟨hk,fun _=>rfl,run_firstCells_some w _ 0 a 0 0 [] τ τ,run_firstCells_some w.drew _ 0 a 0 0 [] τ τ,by simp,fun _ h=>by cases h⟩
    .exact⟨hk,fun _=>rfl,run_firstCells_some w _ 0 _ 0 kc [] τ τ,run_firstCells_some w.drew _ 0 _ 0 kc [] τ τ,by simp,fun _ h=>by cases h⟩
   .rcases hc with hc|hc
    .exact absurd (ac hc) hn
    .obtain⟨b1,b2⟩:=vN hc;generalize bN u (H.get j)=xs at b1 b2 ⊢;rcases hx.jx with⟨rfl,_⟩|⟨b,c,kc,g1,_,g3,rfl⟩
     .exact absurd rfl hn
     .obtain⟨ys,q1,aQ,_⟩:=rU hH b1 g1;have hle:k+len<=xs.length:=by omega
      have e1:(xs.drop k).take len=(xs.take (k+len)).drop k:=by rw [List.take_drop]
      have gN:=lA (off:=0) (A:=ys.toList) (l:=k) (h:=k+len) (by simpa using aQ) ω hle;rw [aw]at gN;have hfl:(u.flat ((xs.take (k+len)).drop k)).length=len*u.size:=by rw [u.jb];congr 1;simp;omega
      rw [hfl]at gN;have hl:((ys.toList.drop (k*u.size)).take (len*u.size)).length=len*u.size:=by rw [gN.length,hfl]
      have hc:∀(w':World),w'.heap[b]? =some (.cells ys e' (0,0))->∀(j:Nat) (v:Value),((ys.toList.drop (k*u.size)).take (len*u.size))[j]? =some v->w'.cell? ((⟨b,k*u.size,none⟩:Addr).add j)=some v:=fun w' hw j v hj=>by
       rw [j0,cell_of hw];rw [List.getElem?_take]at hj;split at hj
       .rw [List.getElem?_drop]at hj;simpa using hj
       .cases hj
      refine⟨_,by rw [e1];exact gN,by simp;omega,⟨hk,fun _=>rfl,run_firstCells_some w _ _ ⟨b,k*u.size,none⟩ _ kc _ hl (hc w q1),run_firstCells_some w.drew _ _ ⟨b,k*u.size,none⟩ _ kc _ hl (hc w.drew q1),hl,gN.one (Aj u _)⟩⟩
 .rename_i j off n' cap;simp only [dO,am]at h;obtain⟨sn,h1,ds',h2,h3⟩:=h;cases h3;obtain⟨news,n2⟩:=sn;have hn2:n2=n:=by
   unfold src at h1;simp only at h1;split at h1
   .have h1:=(qz h1).2;cases h1;rfl
   .cases h1
  subst hn2;obtain⟨ys,g1,g2,g3⟩:=Ra hH hk h1 hx;obtain⟨g4,g5⟩:=av.Cw h2 g1;exact⟨ys,g4,g5,g3 (g4.one (Aj ty _))⟩
 .cases h
def JJ {ρ:Env} {e:TypeId} {t:av} {i len b c kc:Nat} {cap:aX} (h:ρ i=some (b,c)) (hc:Ac cap c kc) (hl:len<=kc):Den ρ (.bR e t i 0 len cap) (.slice (some ⟨b,0,none⟩) len kc):=by
 have:=Den.bR (e:=e) (t:=t) (k:=0) h hc hl;rwa [Nat.zero_mul]at this
def nz (hH:aZ P B ρ H w) {t tx rt:TypeId} (hk:(∃e',P.underlying tx=some (.slice e'))\/P.underlying tx=some .string) {e:TypeId} {ty:av} {i k len:Nat} {cap:aX} {x:aa} {sv y:Value} (hs:Den ρ (.bR e ty i k len cap) sv) (hx:Den ρ x y) {q:aa×ai}
  {sk:Bool} (hv:rO P t e ty i k len cap sk x H=some q) (hf:Fr ρ H.next q.2.next):
  ∃ρ' r w',(Builtin.append_ #[t,tx] rt #[sv,y]).run P w= .ok r w'/\Den ρ' q.1 r/\aZ P B ρ' q.2 w'/\bQ ρ H w ρ' q.2 w':=by
 unfold rO at hv;simp only [dO]at hv;obtain⟨el,hel,inf,hi,z,hz,hv⟩:=hv;have ht:=xY hel;obtain⟨hb,hv⟩:=qz hv;simp only [ae]at hb;obtain⟨⟨⟨⟨b1,b2⟩,b3⟩,b4⟩,gy⟩:=hb;have b1:=ac b1;have b2:=bT b2;have b3:=ac b3;have b4:=ac b4;have gy:=ac gy;subst b3;subst gy;simp only [dO]at hv;obtain⟨⟨ds,n⟩,nw,hv⟩:=hv;rw [<-b4]at nw;obtain⟨ys,g1,g2,g3⟩:=abm hH hk nw hx;rw [b4]at g3;cases lM:Nat.beq n 0 with
 |true=>
  simp only [lM,cond_true]at hv;cases hv;have hn:=ac lM;subst hn;have hys:ys=[]:=by
   have:=g1.length;rw [List.eq_nil_of_length_eq_zero g2]at this;exact List.eq_nil_of_length_eq_zero (by simpa [av.flat]using this)
  subst hys;have hsk:aZ P B ρ (cond sk H.skip H) w/\bQ ρ H w ρ (cond sk H.skip H) w:=by
   cases sk with
   |false=>exact⟨hH,bQ.refl _ _ _⟩
   |true=>
    refine⟨⟨hH.blk,hH.inj,fun j k hj=>Nat.lt_succ_of_lt (hH.lt j k hj),hH.base,hH.fz⟩,⟨cB.refl _,fun _ _=>rfl,Nat.le_succ _,aI _,rfl,rfl,rfl,fun _ _ _=>rfl,fun _ _ h=>h,fun _ _ h=>h,fun _ _ h=> .inl h⟩⟩
  rcases hs.jx with⟨rfl,a,rfl⟩|⟨b,c,kc,h1,h2,h3,rfl⟩
  .exact⟨ρ,_,w,jj ht hi g3 a (aI 0), .qt,hsk.1,hsk.2⟩
  .exact⟨ρ,_,w,jj ht hi g3 _ h3, .bR h1 h2 h3,hsk.1,hsk.2⟩
 |false=>
  simp only [lM,cond_false]at hv;obtain⟨hc,hv⟩:=qz hv;rw [ae]at hc;obtain⟨hc1,hc2⟩:=hc;cases hv;have hn0:0<n:=Nat.pos_of_ne_zero fun hh=>by subst hh;cases lM
  have same:∀(K:ai) (ρ':Env) (n0:Nat) (cs:List aa) (xs:List ty.den),cs=ty.flat xs->Same P ρ' (K.new (.cells el cs false false false)) (K.new (.own el ty xs)):=fun K ρ' n0 cs xs hcs=>⟨rfl,fun j k hj=>by
   rw [ai.gD]at hj ⊢;by_cases hjn:K.next=j
   .rw [if_pos hjn]at hj ⊢;cases hj;refine⟨_,rfl,rfl,fun o ho=> ?_⟩;subst hcs;exact⟨ho,by rw [JD hi];exact b4.symm,by rw [b4];exact b2⟩
   .rw [if_neg hjn]at hj ⊢;exact⟨k,hj,rfl,fun _ h=>h⟩,fun j hj=>by
   rw [ai.gD]at hj ⊢;by_cases hjn:K.next=j
   .rw [if_pos hjn]at hj;cases hj
   .rw [if_neg hjn]at hj ⊢;exact hj⟩
  simp only [bounded,ae]at hc2;have c1:=bT hc2.1;have c2:=bT hc2.2;have JK:∀a,len=0->bN ty (H.get i)=[]->sv= .slice a 0 0->∃ρ' r w',(Builtin.append_ #[t,tx] rt #[sv,y]).run P w= .ok r w'/\Den ρ' (.bR el ty H.next 0 (len+n) .full) r/\aZ P B ρ' ((H.drop i).new (.own el ty (bN ty (H.get i)++ds))) w'/\bQ ρ H w ρ' ((H.drop i).new (.own el ty (bN ty (H.get i)++ds))) w':=by
   intro a hl hxs tX;subst hl;subst tX;rw [hxs,List.nil_append];obtain⟨d1,d2⟩:=Qx hH i;have hold:(Builtin.firstCells inf.size 0 (.slice a 0 0)).run P w.drew= .ok #[] w.drew:=by
    cases a with
    |none=>exact run_firstCells_none w.drew _ 0 0 0
    |some a=>exact run_firstCells_some w.drew _ 0 a 0 0 [] τ τ
   have hr:=run_append_grow_src (P:=P) w t tx rt el inf z ht hi hz a 0 0 [] hold y n ys g3 ω ω (ub ω (by simpa using c1));obtain⟨q1,aQ⟩:=JE (H:=H.drop i) d1 hf (need:=n) (old:=0) hi b1 g1 g3.newsLen;have kQ:=same (H.drop i) (ρ.put (H.drop i).next w.heap.size (grownCap w n 0 el)) 0 (ty.flat ds) ds rfl;simp only [aw,List.nil_append]at hr ⊢;refine⟨_,_,_,hr, ?_,kQ.lI q1,d2.trans (aQ.trans kQ.Fh)⟩;exact JJ (Env.dA ..) rfl (grownCap_ge w n 0 el)
  rcases ZR hc1 with⟨hnone,hl,hxs,hcap⟩|⟨hsome,hlen,hcap⟩
  . -- nothing lies there yet
    subst hcap;rcases hs.jx with⟨_,a,tX⟩|⟨b,c,kc,h1,h2,h3,tX⟩
    .exact JK a hl hxs tX
    .have h2:kc=0:=h2;subst h2;subst hl;exact JK _ rfl hxs tX
  .subst hcap;rcases hs.jx with⟨hl,a,tX⟩|⟨b,c,kc,h1,h2,h3,tX⟩
   .exact JK a hl (List.eq_nil_of_length_eq_zero (hlen.trans hl)) tX
   .generalize bN ty (H.get i)=xs at hsome hlen ⊢;have hS:Same P ρ H (H.set i (.cells el (ty.flat xs) false false false)):=⟨rfl,fun j k hj=>by
     rw [ai.gj];split
     .rename_i e;subst e;rw [hsome]at hj;cases hj;exact⟨_,rfl,rfl,fun o ho=>ho.1⟩
     .exact⟨k,hj,rfl,fun _ h=>h⟩,fun j hj=>by
     rw [ai.gj];split
     .rename_i e;subst e;rw [hsome]at hj;cases hj
     .exact hj⟩
    have hfl:(ty.flat xs).length=len*inf.size:=by rw [ty.jb,hlen,b4]
    have hx2:Den ρ (.slice i 0 len .full) sv:=by rw [tX,Nat.zero_mul];exact .slice h1 h2 h3
    have hag:xK el inf.size inf.bytes i len .full (ty.flat ds) n (H.set i (.cells el (ty.flat xs) false false false))=some (.slice H.next 0 (len+n) .full,((H.set i (.cells el (ty.flat xs) false false false)).drop i).new (.cells el (ty.flat xs++ty.flat ds) false false false)):=by
     unfold xK;have hbd:bounded (len+n) inf.bytes=true:=by simp only [bounded,ae];exact hc2
     have hg:(H.set i (.cells el (ty.flat xs) false false false)).get i=some (.cells el (ty.flat xs) false false false):=by rw [ai.gj,if_pos rfl]
     have JL:(Nat.beq el el&&Nat.ble (len*inf.size) (ty.flat xs).length)=true:=by rw [hfl];simp
     rw [hbd,hg];simp only [cond_true,JL,cond_false];rw [eH ω];rfl
    obtain⟨ρ',r,w',r1,r2,r3,mD⟩:=Rc (hS.lI hH) ht hi hz b1 g3 g1 (Aj ty ds) hx2 hag hf;have kQ:=same ((H.set i (.cells el (ty.flat xs) false false false)).drop i) ρ' 0 (ty.flat xs++ty.flat ds) (xs++ds) (av.Cv _ _ _).symm;have heq:Same P ρ' (((H.set i (.cells el (ty.flat xs) false false false)).drop i).new (.own el ty (xs++ds))) ((H.drop i).new (.own el ty (xs++ds))):=by
     have Rj:∀j,((H.drop i).new (.own el ty (xs++ds))).get j=(((H.set i (.cells el (ty.flat xs) false false false)).drop i).new (.own el ty (xs++ds))).get j:=fun j=>by
      rw [ai.gD,ai.gD,ai.o4,ai.o4,ai.gj];show(if H.next=j then _ else _)=(if H.next=j then _ else _);by_cases h1:H.next=j
      .rw [if_pos h1,if_pos h1]
      .rw [if_neg h1,if_neg h1];by_cases h2:i=j
       .rw [if_pos h2,if_pos h2]
       .rw [if_neg h2,if_neg h2,if_neg h2]
     exact⟨rfl,fun j k hj=>⟨k,by rw [Rj];exact hj,rfl,fun _ h=>h⟩,fun j hj=>by rw [Rj];exact hj⟩
    refine⟨ρ',r,w',r1, ?_,heq.lI (kQ.lI r3),((hS.Fh.trans mD).trans kQ.Fh).trans heq.Fh⟩;obtain⟨b',c',k',e1,e2,e3,rfl⟩:=r2.ig;exact JJ e1 e2 e3
def abn {s:aa} {sv:Value} (h:EP s=true) (hs:Den ρ s sv):∃a,sv= .slice a 0 0:=by
 unfold EP at h;split at h
 .rename_i i off n c;rw [ae]at h;have h1:=ac h.1;have h2:=ac h.2;subst h1;subst h2;obtain⟨b,c,k,_,hc,_,rfl⟩:=hs.ig;have hc:k=0:=hc;subst hc;exact⟨_,rfl⟩
 .exact⟨none,hs.cg⟩
 .cases h
def abo (hH:aZ P B ρ H w) {t tx ty:TypeId} (hk:(∃e',P.underlying tx=some (.slice e'))\/P.underlying tx=some .string) {s x:aa} {sv y:Value} (hs:Den ρ s sv) (hx:Den ρ x y) {q:aa×ai} (hv:dT P t s x H=some q) (hf:Fr ρ H.next q.2.next):
  ∃ρ' r w',(Builtin.append_ #[t,tx] ty #[sv,y]).run P w= .ok r w'/\Den ρ' q.1 r/\aZ P B ρ' q.2 w'/\bQ ρ H w ρ' q.2 w':=by
 unfold dT at hv;split at hv
 .unfold ll at hv;split at hv
  .rename_i b H1 ht;obtain⟨rfl,hv⟩:=qz hv;obtain⟨cN,ha,h1,h2,h3⟩:=abj hH ht;obtain⟨ρ',r,w',q1,aQ,b7,ez⟩:=nz (ty:=_) h1 hk (hs.mono h2.le) (hx.mono h2.le) hv (fun i g1 g2=>by rw [ha];exact hf i (by rw [<-h3];exact g1) g2);exact⟨ρ',r,w',q1,aQ,b7,h2.trans ez⟩
  .exact nz hH hk hs hx hv hf
 .split at hv
  .obtain⟨he,hv⟩:=qz hv;unfold ER at hv;split at hv
   .obtain⟨a,rfl⟩:=abn he hs;exact nz hH hk .qt hx hv hf
   .cases hv
  .exact aba hH hk hs hx hv hf
def JM {t:TypeId} {e:TypeId} {ty:av} {i k len:Nat} {cap:aX} {sk:Bool} {x:aa} {q:aa×ai} (h:rO P t e ty i k len cap sk x H=some q):H.next<=q.2.next:=by
  unfold rO at h;simp only [dO]at h;obtain⟨el,hel,inf,hi,z,hz,h⟩:=h;obtain⟨_,h⟩:=qz h;simp only [dO]at h;obtain⟨sn,_,h⟩:=h;cases lM:Nat.beq sn.2 0 with
  |true=>
   rw [lM]at h;cases h;cases sk with
   |false=>exact aI _
   |true=>exact Nat.le_succ _
  |false=>
   rw [lM]at h;obtain⟨_,h⟩:=qz h;cases h;exact Nat.le_succ _
def m9 {t:TypeId} {s x:aa} {q:aa×ai} (ha:∀{q},mu P t s x H=some q->H.next<=q.2.next) (h:dT P t s x H=some q):H.next<=q.2.next:=by
 unfold dT at h;split at h
 .unfold ll at h;split at h
  .rename_i b H1 ht;obtain⟨rfl,h⟩:=qz h;have:=JM h;rwa [Hc ht]at this
  .exact JM h
 .split at h
  .obtain⟨_,h⟩:=qz h;unfold ER at h;split at h
   .exact JM h
   .cases h
  .exact ha h
end
section
variable {P:Program} {B:Nat} {ρ:Env} {H:ai} {w:World} {o:Oper} {ev:dP} {e:Operand->Value}
def Hd {l:List Operand} {a:aa} (h:l.map ev=[a]):∃x,l=[x]/\ev x=a:=by
 match l,h with
 |[x],h=>exact⟨x,rfl,by simpa using h⟩
def JN {l:List Operand} {a b:aa} (h:l.map ev=[a,b]):∃x y,l=[x,y]/\ev x=a/\ev y=b:=by
 match l,h with
 |[x,y],h=>exact⟨x,y,rfl,by simpa using h⟩
def vT {α:Type} {a:Array α} {x:α} (h:a.toList=[x]):a= #[x]:=by apply Array.ext';simpa using h
def Ak {α:Type} {a:Array α} {x y:α} (h:a.toList=[x,y]):a= #[x,y]:=by apply Array.ext';simpa using h
section
variable {argTypes:Array TypeId} {ty:TypeId} {v r:aa} {x:Value}
def abp (hv:Jh P argTypes[0]? v=some r) (hx:Den ρ v x) (w:World):∃y,(Builtin.len_ argTypes ty #[x]).run P w= .ok y w/\Den ρ r y:=by
 unfold Jh at hv;simp only [dO]at hv;obtain⟨t,ht,hv⟩:=hv;split at hv
 .rename_i el i off len cap hu;cases hv;obtain⟨b,c,k,_,_,_,rfl⟩:=hx.ig;exact⟨.int .i64 len,by simp [Builtin.len_,ht,dB hu,goInt], .raw _⟩
 .rename_i el z u xs hu;cases hv;rcases hx.tR with⟨rfl,a,k,rfl,_⟩|⟨b,off,k,A,_,_,_,_,rfl,_⟩
  .exact⟨.int .i64 (0:Nat),by simp [Builtin.len_,ht,dB hu,goInt], .raw _⟩
  .exact⟨.int .i64 xs.length,by simp [Builtin.len_,ht,dB hu,goInt], .raw _⟩
 .rename_i el e' u i k len cap hu;cases hv;rcases hx.jx with⟨rfl,a,rfl⟩|⟨b,c,kc,_,_,_,rfl⟩
  .exact⟨.int .i64 (0:Nat),by simp [Builtin.len_,ht,dB hu,goInt], .raw _⟩
  .exact⟨.int .i64 len,by simp [Builtin.len_,ht,dB hu,goInt], .raw _⟩
 .rename_i n el cs hu;cases hv;exact⟨.int .i64 n,by simp [Builtin.len_,ht,dB hu,goInt], .raw _⟩
 .rename_i b hu;cases hv;have:=hx.cg;subst this;exact⟨.int .i64 b.size,by simp [Builtin.len_,ht,dB hu,goInt], .raw _⟩
 .cases hv
def abq (hv:Ji P argTypes[0]? v=some r) (hx:Den ρ v x) (w:World):∃y,(Builtin.cap_ argTypes ty #[x]).run P w= .ok y w/\Den ρ r y:=by
 unfold Ji at hv;simp only [dO]at hv;obtain⟨t,ht,hv⟩:=hv;split at hv
 .rename_i el i off len n hu;cases hv;obtain⟨b,c,k,_,hc,_,rfl⟩:=hx.ig;have hc:k=n:=hc;subst hc;exact⟨.int .i64 k,by simp [Builtin.cap_,ht,dB hu,goInt], .raw _⟩
 .cases hv
end
def abr (hH:aZ P B ρ H w) {argTypes:Array TypeId} {ty:TypeId} {v r:aa} {x:Value} (hv:Cp P argTypes[0]? v H=some r) (hx:Den ρ v x):
  ∃y,(Builtin.len_ argTypes ty #[x]).run P w= .ok y w/\Den ρ r y:=by
 unfold Cp at hv;simp only [dO]at hv;obtain⟨t,ht,hv⟩:=hv;split at hv
 .rename_i kt et i hu;obtain⟨b,q,h1,rfl⟩:=hx.vK;unfold Qt at hv;split at hv
  .rename_i es c hg;cases hv;obtain⟨lJ,g1,g2,_⟩:=hH.at hg h1;have g2:lJ= .map es c:=g2;subst g2;exact⟨.int .i64 es.size,by simp [Builtin.len_,ht,dB hu,goInt,run_getObj_map g1], .raw _⟩
  .rename_i kv y hg;cases hv;obtain⟨lJ,g1,⟨xv,g2,_⟩,_⟩:=hH.at hg h1;subst g2;exact⟨.int .i64 (1:Nat),by simp [Builtin.len_,ht,dB hu,goInt,run_getObj_map g1], .raw _⟩
  .cases hv
 .cases hv
def AC (hH:aZ P B ρ H w) (he:∀x,Den ρ (ev x) (e x)) {b:Builtin} {args:Array Operand} {argTypes:Array TypeId} (ho:o.op= .call {callee:= .builtin b,args,argTypes}):
  cR P B ρ H w ((execOp e o).run P w) (nZ P o ev b argTypes (args.toList.map ev) H):=by
 have hp:qu o.op=true:=by rw [ho];rfl
 have hg:=vP (P:=P) (w:=w) hH he hp;have lift:∀{q:aa×ai},(Fr ρ H.next q.2.next->∃ρ' r w',(execOp e o).run P w= .ok (.value r) w'/\Den ρ' q.1 r/\aZ P B ρ' q.2 w'/\bQ ρ H w ρ' q.2 w')->cR P B ρ H w ((execOp e o).run P w) (eS (some q)):=
  fun h hf=>by obtain⟨ρ',r,w',h1,h2,h3,h4⟩:=h hf;exact⟨ρ',r,w', .value r,h1,rfl,h2,h3,h4⟩
 unfold nZ;split
 .rename_i v hm;obtain⟨x,hx,rfl⟩:=Hd hm;have ha:=vT hx;subst ha;split
  .rename_i r hr;obtain⟨y,h1,h2⟩:=abr (ty:=o.type) hH hr (he x);exact fV hH (rV ho fun cs=>by simp [builtin,h1]) h2
  .split
   .rename_i r hr;obtain⟨y,h1,h2⟩:=abp (ty:=o.type) hr (he x) w;exact fV hH (rV ho fun cs=>by simp [builtin,h1]) h2
   .exact hg
 .rename_i v hm;obtain⟨x,hx,rfl⟩:=Hd hm;have ha:=vT hx;subst ha;split
  .rename_i r hr;obtain⟨y,h1,h2⟩:=abq (ty:=o.type) hr (he x) w;exact fV hH (rV ho fun cs=>by simp [builtin,h1]) h2
  .exact hg
 .rename_i s x hm;obtain⟨xs,tY,hx,rfl,rfl⟩:=JN hm;have ha:=Ak hx;subst ha;split
  .rename_i t t' ht;have jz:=Ak ht;subst jz;have main:((∃e',P.underlying t'=some (.slice e'))\/P.underlying t'=some .string)->cR P B ρ H w ((execOp e o).run P w) (eS (dT P t (ev xs) (ev tY) H)):=by
    intro hk;cases hv:dT P t (ev xs) (ev tY) H with
    |none=>trivial
    |some q=>
     refine lift fun hf=> ?_
     obtain⟨ρ',r,w',h1,h2,h3,h4⟩:=abo (ty:=o.type) hH hk (he xs) (he tY) hv hf;exact⟨ρ',r,w',rV ho fun cs=>by simp [builtin,h1],h2,h3,h4⟩
   split
   .rename_i el hu;exact main (.inl ⟨el,hu⟩)
   .rename_i hu;exact main (.inr hu)
   .trivial
  .trivial
 .rename_i d x hm;obtain⟨xs,tY,hx,rfl,rfl⟩:=JN hm;have ha:=Ak hx;subst ha;split
  .rename_i t t' ht;have jz:=Ak ht;subst jz;cases hv:wx P t (ev xs) (ev tY) H with
   |none=>trivial
   |some q=>
    refine lift fun hf=> ?_
    obtain⟨r,w',h1,h2,h3,h4⟩:=abb (tx:=t') (ty:=o.type) hH (he xs) (he tY) hv;exact⟨ρ,r,w',rV ho fun cs=>by simp [builtin,h1],h2,h3,h4⟩
  .trivial
 .rename_i i off len cap hm;obtain⟨x,hx,gx⟩:=Hd hm;have ha:=vT hx;subst ha;have x9:=he x;rw [gx]at x9;split
  .rename_i t ht;have jz:=vT ht;subst jz;cases hv:zX P t i off (len+1) H with
   |none=>trivial
   |some q=>
    refine lift fun hf=> ?_
    obtain⟨r,w',h1,h2,h3,h4⟩:=Hb (ty:=o.type) hH x9 hv;exact⟨ρ,r,w',rV ho fun cs=>by simp [builtin,h1],h2,h3,h4⟩
  .trivial
 .rename_i i off cap hm;obtain⟨x,hx,gx⟩:=Hd hm;have ha:=vT hx;subst ha;have x9:=he x;rw [gx]at x9;obtain⟨b,c,k,_,_,_,x9⟩:=x9.ig;split
  .rename_i t ht;have jz:=vT ht;subst jz;split
   .rename_i el hu;have hc:(Builtin.clear_ #[t] o.type #[e x]).run P w= .ok (.tuple #[]) w:=by
     rw [x9];simp [Builtin.clear_,dB hu]
    exact fV hH (rV ho fun cs=>by simp [builtin,hc]) (.raw _)
   .trivial
  .trivial
 .rename_i p n hm;obtain⟨xs,tY,hx,rfl,rfl⟩:=JN hm;have ha:=Ak hx;subst ha;split
  .rename_i t t' ht;have jz:=Ak ht;subst jz;cases hv:vI P t (ev xs) (ev tY) H with
   |none=>trivial
   |some q=>
    refine lift fun hf=> ?_
    obtain⟨r,w',h1,h2,h3,h4⟩:=abe (it:=t') (ty:=o.type) hH (he xs) (he tY) hv;exact⟨ρ,r,w',rV ho fun cs=>by simp [builtin,h1],h2,h3,h4⟩
  .trivial
 .rename_i i off len cap hm;obtain⟨x,hx,gx⟩:=Hd hm;have ha:=vT hx;subst ha;cases hb:Nat.ble 1 len with
  |false=>trivial
  |true=>
   have hb:=bT hb;have hx:=he x;rw [gx]at hx;obtain⟨b,c,k,h1,_,h2,h3⟩:=hx.ig;have hr:=Lib.run_unsafeSliceData_row (P:=P) w argTypes o.type ⟨b,off,none⟩ len k ω;exact fV hH (rV ho fun cs=>by simp [builtin,h3,hr]) (.ptr h1)
 .rename_i el t i k len cap hm;obtain⟨x,hx,gx⟩:=Hd hm;have ha:=vT hx;subst ha;cases hb:Nat.ble 1 len with
  |false=>trivial
  |true=>
   have hb:=bT hb;have hx:=he x;rw [gx]at hx;rcases hx.jx with⟨h0,_⟩|⟨b,c,kc,h1,_,h2,h3⟩
   .omega
   .have hr:=Lib.run_unsafeSliceData_row (P:=P) w argTypes o.type ⟨b,k*t.size,none⟩ len kc ω;exact fV hH (rV ho fun cs=>by simp [builtin,h3,hr]) (.dL h1)
 .exact hg
section
variable (hK:fe P) (hH:aZ P B ρ H w) (he:∀x,Den ρ (ev x) (e x))
def abt {c:Call} (ho:o.op= .call c):cR P B ρ H w ((execOp e o).run P w) (fj c P o ev H):=by
 obtain⟨callee,args,argTypes⟩:=c;have hl:∀l:List Operand,aG ρ (l.map ev) (l.map e):=fun l=>by
  induction l with
  |nil=>exact .nil
  |cons x l ih=>exact .cons (he x) ih
 have ea:args.map e=(args.toList.map e).toArray:=by apply Array.ext';simp
 cases callee with
 |value f=>
  refine kw hK hH (he f) (hl args.toList) fun fn first captured hf=> ?_
  simp only [execOp,ho,resolve,Deferred.ofValue,hf,Sem.run_bind,Sem.run_pure,Result.andThen_ok,ea]
 |invoke r m=>trivial
 |builtin b=>exact AC hH he ho
def abu:cR P B ρ H w ((execOp e o).run P w) (e9 o.op P o ev H):=by
 cases ho:o.op with
 |move x=>exact ZZ hH he ho
 |assign x=>exact Z0 hH he ho
 |pick c a b=>exact Z1 hH he ho
 |alloc t=>exact aaE (ev:=ev) hH ho
 |box t x=>exact aaF hH he ho
 |build t ps=>exact aaD hH he ho
 |buildSlice t l ps=>exact aaH hH he ho
 |insert t m k v=>exact aaY hH he ho
 |load t x=>exact aaM hH he ho
 |store t x y=>exact aaS hH he ho
 |nilCheck x=>exact Z2 hH he ho
 |binOp op t x y ah=>exact aaw hH he ho
 |unOp op t x=>exact vP hH he (by rw [ho];rfl)
 |convert s d x=>exact aa6 hH he ho
 |makeInterface t x=>exact Z4 hH he ho
 |makeFunc fn a c=>exact Z3 hH he ho
 |makeMap t r=>exact aaZ hH he ho
 |makeSlice t l c=>exact aaI hH he ho
 |slice t x l h m=>exact aaB hH he ho
 |fieldAddr s x f=>exact Z6 hH he ho
 |field t x f=>exact aaa hH he ho
 |indexAddr t x i=>exact Z9 hH he ho
 |index t x i=>exact aab hH he ho
 |lookup t m k ok=>exact aaU hH he ho
 |mapUpdate t m k v=>exact aaX hH he ho
 |typeAssert x a b c=>exact vP hH he (by rw [ho];rfl)
 |extract x i=>exact As hH he ho
 |call c=>exact abt hK hH he ho
 |range t x=>exact aa0 hH he ho
 |next x b=>exact aa5 hH he ho
 |entry x=>exact Ha hH he ho
 |_=>trivial
end
def aL.mono (H:ai):aL->Prop
 | .no=>True
 | .ok _ H'| .enter _ _ H'| .round _ _ H'=>H.next<=H'.next
def iq (x:Option aa):aL.mono H (ag H x):=by cases x<;>simp [ag,aL.mono]
def mE {x:Option (aa×ai)} (h:∀q,x=some q->H.next<=q.2.next):aL.mono H (eS x):=by
 cases x with
 |none=>trivial
 |some q=>exact h q rfl
def abv {gJ n:Nat} {x:aa}:aL.mono H (li gJ n x H):=by
 unfold li;split
 .cases Nat.ble 1 n<;>first |trivial |exact aI _
 .cases Nat.ble 1 n<;>first |trivial |exact aI _
 .trivial
def abw {k n s:Nat} {x:aa}:aL.mono H (vE k n s x H):=by
 unfold vE;split
 .cases Nat.ble (k+1) n<;>first |trivial |exact aI _
 .cases Nat.ble (k+1) n<;>first |trivial |exact aI _
 .trivial
def abx {k s:Nat} {x:aa}:aL.mono H (rK k s x H):=by
 unfold rK;split
 .rename_i t xs;cases (Nat.beq t.size s&&Nat.ble (k+1) xs.length)<;>first |trivial |exact aI _
 .rename_i e t i k0 len cap;cases (Nat.beq t.size s&&Nat.ble (k+1) len)<;>first |trivial |exact aI _
 .trivial
def aby {t:TypeId} {x:aa}:aL.mono H (tH P t x H):=by
 unfold tH;split
 .exact iq _
 .rename_i e u i k off;cases bz e u (H.get i) k<;>first |trivial |exact iq _
 .trivial
def abz {t:TypeId} {x y:aa}:aL.mono H (nn P t x y H):=by
 unfold nn;split
 .rename_i e u i k off;cases bz e u (H.get i) k with
  |false=>trivial
  |true=>
   cases (eW y.cells&&tK P t y.cells.length)with
   |false=>trivial
   |true=>
    simp only [cond_true];split
    .exact aI _
    .trivial
 .trivial
def n7 (b:bl):H.next<=(H.new b).next:=Nat.le_succ _
def ce {α:Type} {b:Bool} {x:Option α} {q:α} (h:cond b x none=some q):x=some q:=by cases b<;>first |exact h|cases h
def vU (i:Nat) (b:bl):H.next<=(H.set i b).next:=aI _
def abA {el:TypeId} {sz bytes i len n:Nat} {cap:aX} {news:List aa} {q:aa×ai} (h:xK el sz bytes i len cap news n H=some q):H.next<=q.2.next:=by
 unfold xK at h;have h:=ce h;split at h
 .rename_i e' cs ex hg;have h:=ce h;cases cap with
  |known c=>
   simp only at h;cases hb:Nat.ble (len+n) c with
   |true=>
    rw [hb]at h;simp only [cond_true,am]at h;obtain⟨_,_,rfl⟩:=h;exact vU _ _
   |false=>rw [hb]at h;cases h;exact n7 _
  |full=>
   cases ex with
   |false=>cases h;exact n7 (H:=H.drop i) _
   |true=>cases h
  |any=>cases h
 .cases h
def Rk {t:TypeId} {s x:aa} {q:aa×ai} (h:mu P t s x H=some q):H.next<=q.2.next:=by
 unfold mu at h;simp only [dO]at h;obtain⟨el,_,i,_,z,_,h⟩:=h;have h:=ce h;simp only [dO]at h;obtain⟨sn,_,h⟩:=h;cases hz:Nat.beq sn.2 0 with
 |true=>
  rw [hz]at h;simp only [cond_true]at h;split at h
  .cases h;exact aI _
  .cases h;exact aI _
  .cases h
 |false=>
  rw [hz]at h;simp only [cond_false]at h;have h:=ce h;split at h
  .have h:=ce h;cases h;exact n7 _
  .exact abA h
  .cases h
def abB {t:TypeId} {d x:aa} {q:aa×ai} (h:wx P t d x H=some q):H.next<=q.2.next:=by
 unfold wx at h;simp only [dO]at h;obtain⟨el,_,s,_,h⟩:=h;split at h
 .simp only [dO]at h;obtain⟨sn,_,h⟩:=h;split at h
  .have h:=ce h;simp only [am]at h;obtain⟨_,_,rfl⟩:=h;exact vU _ _
  .cases h
 .cases h;exact aI _
 .cases h
def abC {pt:TypeId} {x n:aa} {q:aa×ai} (h:vI P pt x n H=some q):H.next<=q.2.next:=by
 unfold vI at h;split at h
 .split at h
  .split at h
   .have h:=ce h;simp only [am]at h;obtain⟨_,_,rfl⟩:=h;exact vU _ _
   .cases h
  .cases h
 .split at h
  .cases (qz h).2;exact aI _
  .cases h
 .cases h
def abD {t:TypeId} {i off len:Nat} {q:aa×ai} (h:zX P t i off len H=some q):H.next<=q.2.next:=by
 unfold zX at h;simp only [dO]at h;obtain⟨_,_,_,_,_,_,h⟩:=h;split at h
 .have h:=ce h;simp only [am]at h;obtain⟨_,_,rfl⟩:=h;exact vU _ _
 .cases h
def Rl {t:TypeId} {m k x:aa} {q:aa×ai} (h:Cn P t m k x H=some q):H.next<=q.2.next:=by
 unfold Cn at h;split at h
 .split at h
  .simp only [am]at h;obtain⟨_,_,rfl⟩:=h;exact vU _ _
  .cases h
 .unfold Je at h;split at h
  .split at h
   .have h:=ce h;cases h;exact vU _ _
   .cases h
  .cases h
 .cases h
def abE {t:TypeId} {x:aa} {q:aa×ai} (h:EW P t x H=some q):H.next<=q.2.next:=by
 unfold EW at h;split at h
 .split at h
  .cases h;exact n7 _
  .cases h;exact n7 _
  .cases h
 .cases h
def abF {x:aa} {s:Bool} {q:aa×ai} (h:EX x s H=some q):H.next<=q.2.next:=by
 unfold EX at h;split at h
 .unfold Jf at h;split at h
  .split at h
   .cases h;exact aI _
   .cases h
  .split at h
   .cases h;exact vU _ _
   .cases h
  .split at h
   .cases h;exact aI _
   .cases h
  .cases h
 .cases h
def v6 {b:Builtin} {argTypes:Array TypeId} {args:List aa}:aL.mono H (nZ P o ev b argTypes args H):=by
 unfold nZ;split
 .split
  .exact aI _
  .split
   .exact aI _
   .exact iq _
 .split
  .exact aI _
  .exact iq _
 .split
  .split
   .exact mE fun q h=>m9 Rk h
   .exact mE fun q h=>m9 Rk h
   .trivial
  .trivial
 .split
  .exact mE fun q h=>abB h
  .trivial
 .split
  .exact mE fun q h=>abD h
  .trivial
 .split
  .split
   .exact aI _
   .trivial
  .trivial
 .split
  .exact mE fun q h=>abC h
  .trivial
 .rename_i i off len cap;show aL.mono H (@Bool.rec (fun _=>aL) .no (.ok (.ptr i off) H) (Nat.ble 1 len))
  generalize Nat.ble 1 len=bb;cases bb
  .trivial
  .exact aI _
 .rename_i e u i k len cap;show aL.mono H (@Bool.rec (fun _=>aL) .no (.ok (.dL e u i k 0) H) (Nat.ble 1 len))
  generalize Nat.ble 1 len=bb;cases bb
  .trivial
  .exact aI _
 .exact iq _
def abG {f:FuncId} {fn:Func} {args:List aa} {q:aa×ai} (h:mw P f fn args H=some q):H.next<=q.2.next:=by
 unfold mw at h;split at h
 .split at h
  .cases h;exact aI _
  .have h:=ce h;split at h
   .simp only [dO]at h;obtain⟨el,_,h⟩:=h;have h:=ce h;cases h;exact n7 _
   .cases h
 .split at h
  .have h:=ce h;cases h;exact aI _
  .cases h
def JO {f:FuncId} {args:List aa}:aL.mono H (kd P f args H):=by
 unfold kd;cases hf:P.funcs[f]? with
 |none=>trivial
 |some fn=>
  simp only;cases hb:fn.body with
  |none=>exact mE fun q h=>abG h
  |some c=>exact aI _
def yr {fv:aa} {args:List aa}:aL.mono H (mj P fv args H):=by
 unfold mj;split
 .rename_i v;cases hg:xM v with
  |fn f=>exact JO
  |no=>
   simp only;split
   .exact JO
   .trivial
 .exact JO
 .exact aI _
 .trivial
def abH {s d:TypeId} {x:aa} {q:aa×ai} (h:Cl P o ev s d x H=some q):H.next<=q.2.next:=by
 have hm:∀{g:Option aa},g.map (fun v=>(v,H))=some q->H.next<=q.2.next:=fun h=>by
  simp only [am]at h;obtain⟨_,_,rfl⟩:=h;exact aI _
 unfold Cl at h;split at h
 .split at h
  .split at h
   .have h:=ce h;simp only [am]at h;obtain⟨_,_,rfl⟩:=h;exact aI _
   .cases h
  .cases h
 .split at h
  .split at h
   .have h:=ce h;cases h;exact aI _
   .cases h
  .have h:=ce h;cases h;exact aI _
  .cases h
 .split at h
  .split at h
   .have h:=ce h;cases h;exact n7 _
   .cases h
  .exact hm h
 .exact hm h
def abI:aL.mono H (e9 o.op P o ev H):=by
 cases ho:o.op with
 |move x=>exact aI _
 |assign x=>exact aI _
 |pick c a b=>
  show aL.mono H (nX c a b P o ev H);unfold nX;cases gK (ev c)with
  |no=>trivial
  |mk b=>cases b<;>exact aI _
 |alloc t=>
  show aL.mono H (tI t P o ev H);unfold tI;cases nk P t with
  |none=>trivial
  |some z=>exact n7 _
 |box t x=>
  show aL.mono H (oU t x P o ev H);unfold oU;cases (ev x).vD with
  |true=>trivial
  |false=>exact n7 _
 |build t ps=>exact iq _
 |buildSlice t l ps=>
  refine mE fun q h=> ?_
  unfold oV at h;simp only [dO]at h;obtain⟨_,_,_,_,_,_,h⟩:=h;have h:=ce h;simp only [am]at h;obtain⟨_,_,rfl⟩:=h;exact n7 _
 |insert t m k v=>
  exact mE fun q h=>Rl h
 |load t x=>
  show aL.mono H (nY t x P o ev H);unfold nY;cases iJ (ev x)with
  |no=>exact aby
  |mk i off=>
   cases hb:tD (H.get i)with
   |no=>simp only [hb];trivial
   |mk a b c d f=>simp only [hb];exact iq _
 |store t x y=>
  show aL.mono H (qp t x y P o ev H);unfold qp;cases iJ (ev x)with
  |no=>exact abz
  |mk i off=>
   cases hb:tD (H.get i)with
   |no=>simp only [hb];trivial
   |mk a b c d f=>
    simp only [hb];cases f<;>first |trivial |(cases d<;>first |trivial |skip)
    refine mE fun q h=> ?_
    unfold Cm at h;have h:=ce h;simp only [am]at h;obtain⟨_,_,rfl⟩:=h;exact vU _ _
 |nilCheck x=>
  show aL.mono H (qi x P o ev H);unfold qi;cases iJ (ev x)with
  |no=>exact iq _
  |mk i off=>exact aI _
 |binOp op t x y ah=>
  show aL.mono H (iZ op t x y ah P o ev H);unfold iZ;cases iI (ev x)with
  |no=>exact iq _
  |int k a=>
   cases iI (ev y)with
   |no=>exact iq _
   |int k' b=>
    cases hf:ju op k k' a b with
    |none=>simp only [hf];exact iq _
    |some v=>simp only [hf];exact aI _
 |unOp op t x=>exact iq _
 |convert s d x=>exact mE fun q h=>abH h
 |makeInterface t x=>exact iq _
 |makeFunc fn a c=>exact aI _
 |makeMap t r=>
  refine mE fun q h=> ?_
  unfold rR at h;split at h
  .cases h;exact n7 _
  .split at h
   .cases h;exact n7 _
   .cases h
 |makeSlice t l c=>
  refine mE fun q h=> ?_
  unfold qo at h;simp only [dO]at h;obtain⟨_,_,_,_,_,_,_,_,_,_,h⟩:=h;have h:=ce h;cases h;exact n7 _
 |slice t x l h m=>exact iq _
 |fieldAddr s x f=>
  show aL.mono H (qj s x f P o ev H);unfold qj;cases fv P s f with
  |no=>trivial
  |mk a n t=>
   cases iJ (ev x)with
   |no=>exact abv
   |mk i off=>
    cases hb:Nat.ble 1 n with
    |false=>simp only [hb];trivial
    |true=>simp only [hb];exact aI _
 |field t x f=>
  show aL.mono H (ql t x f P o ev H);unfold ql;cases rL (ev x)with
  |none=>exact iq _
  |some cs=>
   cases fv P t f with
   |no=>trivial
   |mk a n t=>exact iq _
 |indexAddr t x i=>
  show aL.mono H (nt t x i P o ev H);unfold nt;cases nW (ev i)with
  |no=>trivial
  |mk k=>
   cases nV P t with
   |no=>trivial
   |arr n s=>
    cases iJ (ev x)with
    |no=>exact abw
    |mk i off=>
     cases hb:Nat.ble (Nat.succ k) n with
     |false=>simp only [hb];trivial
     |true=>simp only [hb];exact aI _
   |sl s=>
    cases xJ (ev x)with
    |no=>exact abx
    |mk i off len cap=>
     cases hb:Nat.ble (Nat.succ k) len with
     |false=>simp only [hb];trivial
     |true=>simp only [hb];exact aI _
 |index t x i=>
  show aL.mono H (mm t x i P o ev H);unfold mm;cases rL (ev x)with
  |none=>exact iq _
  |some cs=>exact iq _
 |lookup t m k ok=>exact iq _
 |mapUpdate t m k v=>
  exact mE fun q h=>Rl h
 |typeAssert x a b c=>exact iq _
 |extract x i=>
  show aL.mono H (qm x i P o ev H);unfold qm;cases zS (ev x)with
  |none=>exact iq _
  |some cs=>exact iq _
 |call c=>
  obtain⟨callee,args,argTypes⟩:=c;cases callee with
  |value f=>exact yr
  |invoke r m=>trivial
  |builtin b=>exact v6
 |range t x=>exact mE fun q h=>abE h
 |next x b=>exact mE fun q h=>abF h
 |entry x=>exact iq _
 |_=>trivial
end
end Go.Proofs.YtibikmmdbdlafaaGreatDoor.Sv
