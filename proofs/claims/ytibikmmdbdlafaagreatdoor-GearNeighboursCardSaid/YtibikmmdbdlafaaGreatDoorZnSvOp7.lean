import Derived.Test.YtibikmmdbdlafaaGreatDoorZnSvOp3
import Derived.Great.BuildSlice
import Derived.Deep.AppendSrc
import Derived.Lib.UnsafeStr
import Derived.Laws.IdiomStrings
import Derived.Laws.LoneSync
set_option linter.defProp false
set_option linter.unusedSimpArgs false
namespace Go.Proofs.YtibikmmdbdlafaaGreatDoor.Sv
open Go.RowKit
section
variable {P:Program} {B:Nat} {ρ:Env} {H:ai} {w:World} {o:Oper} {ev:dO} {e:Operand->Value}
def QB (off:Nat):∀(zs:List Value) (k:Nat) (cur:Array Value),off+k+zs.length<=cur.size->
  ((zs.zipIdx k).foldl (fun cs (p:Value×Nat)=>cs.setIfInBounds (off+p.2) p.1) cur).toList=cur.toList.take (off+k)++zs++cur.toList.drop (off+k+zs.length)
 |[],k,cur,_=>by simp
 |z::zs,k,cur,h=>by
  have h':off+(k+1)+zs.length<=(cur.setIfInBounds (off+k) z).size:=by simp at h ⊢;omega
  rw [List.zipIdx_cons,List.foldl_cons,QB off zs (k+1) _ h'];have e:=list_seg_step cur.toList (off+k) z zs (by simp at h ⊢;omega);simpa [Array.toList_setIfInBounds,Nat.add_assoc]using e
def QC {place:Nat->Option (Nat×Nat)}:∀(parts:List (Nat×af)) (jg:List (Nat×Value)) (cells:List af) (cur:Array Value) {r:List af},nn place cells parts=some r->aI ρ cells cur.toList->
  jg.map Prod.fst=parts.map Prod.fst->aI ρ (parts.map Prod.snd) (jg.map Prod.snd)->∃out,Instr.fill place cur jg=some out/\aI ρ r out.toList
 |[],jg,cells,cur,r,h,hd,hi,_=>by
  have:jg=[]:=by cases jg<;>simp_all
  subst this;simp [nn]at h;subst h;exact⟨cur,rfl,hd⟩
 |(i,v)::parts,[],cells,cur,r,h,hd,hi,_=>by simp at hi
 |(i,v)::parts,(j,x)::jg,cells,cur,r,h,hd,hi,hv=>by
  simp only [List.map_cons,List.cons.injEq]at hi;obtain⟨rfl,hi⟩:=hi;cases hv with
  |cons hx hv=>
  simp only [nn,dN]at h;obtain⟨p,hp,h⟩:=h;cases n7:v.u5 with
  |true=>rw [n7]at h;cases h
  |false=>
  cases hb:Nat.beq v.cells.length p.2 with
  |false=>rw [n7,hb]at h;cases h
  |true=>
   rw [n7,hb]at h;simp only [cond_true,cond_false,dN]at h;obtain⟨cells',hc,h⟩:=h;obtain⟨h1,h2⟩:=B2 hc;have hl:=hd.length;have hvl:=(hx.cells n7).length;have hsz:x.cells.size=p.2:=by rw [<-ac hb,<-hvl];simp
   have hfit:p.1+x.cells.size<=cur.size:=by
    have e1:x.cells.size=v.cells.length:=by rw [<-hvl];simp
    have e2:cur.size=cells.length:=by rw [<-hl];simp
    omega
   have hstep:=QB p.1 x.cells.toList 0 cur (by simpa using hfit);obtain⟨out,g1,g2⟩:=QC parts jg cells' (x.cells.zipIdx.foldl (fun cs (c,j)=>cs.setIfInBounds (p.1+j) c) cur) h (by
    have e3:(x.cells.zipIdx.foldl (fun cs (c,j)=>cs.setIfInBounds (p.1+j) c) cur)=(x.cells.toList.zipIdx 0).foldl (fun cs (p':Value×Nat)=>cs.setIfInBounds (p.1+p'.2) p'.1) cur:=by
     rw [<-Array.foldl_toList,Array.toList_zipIdx]
    rw [e3,hstep,h2];simp only [Nat.add_zero];rw [show x.cells.toList.length=v.cells.length from hvl];exact((hd.take p.1).append (hx.cells n7)).append (hd.drop _)) hi hv
   refine⟨out, ?_,g2⟩;obtain⟨p1,p2⟩:=p;simp only [Instr.fill,hp];rw [if_neg (by simp only [Bool.or_eq_true,bE,not_or];exact⟨by simpa using hsz,by omega⟩)];exact g1
def QD {v:af} (h:co v.cells=true):v.u5=false:=by
 cases v<;>first |rfl |(simp [af.cells,co,af.one]at h)
def Ca (a:Array Value):aI ρ (iS a) a.toList:=aI.rJ _
def QE (he:∀x,Den ρ (ev x) (e x)):∀(l:List (Nat×Operand)),aI ρ ((l.map fun p=>(p.1,ev p.2)).map Prod.snd) ((l.map fun p=>(p.1,e p.2)).map Prod.snd)
 |[]=> .nil
 |p::l=> .cons (he p.2) (QE he l)
def Jl {place:Nat->Option (Nat×Nat)} (he:∀x,Den ρ (ev x) (e x)) (parts:Array (Nat×Operand)) {cells:List af} {cur:Array Value} {r:List af} (h:nn place cells (rG ev parts)=some r) (hd:aI ρ cells cur.toList):
  ∃out,Instr.fill place cur (parts.map fun(i,x)=>(i,e x)).toList=some out/\aI ρ r out.toList:=by
 have e1:(parts.map fun(i,x)=>(i,e x)).toList=parts.toList.map fun p=>(p.1,e p.2):=by simp
 rw [e1];exact QC (rG ev parts) _ cells cur h hd (by simp [rG,Function.comp_def]) (QE he parts.toList)
def QF:∀(fs:List Field),(fs.all fun f=>(ey P f.type).isSome)=true->∃ps:List (Nat×Nat),fs.mapM (fun f=>(P.info? f.type).map fun i=>(f.offset,i.size))=some ps/\∀i:Nat,ps[i]? =(fs[i]?).bind fun(f:Field)=>(ey P f.type).map fun s=>(f.offset,s)
 |[],_=>⟨[],by simp,by simp⟩
 |f::fs,h=>by
  simp only [List.all_cons,ae]at h;obtain⟨ps,h1,h2⟩:=QF fs h.2;obtain⟨s,hs⟩:=Option.isSome_iff_exists.1 h.1;obtain⟨inf,hi,rfl⟩:=xq hs;refine⟨(f.offset,inf.size)::ps, ?_, ?_⟩
  .rw [List.mapM_cons];simp [hi,h1]
  .intro i;cases i with
   |zero=>simp [hs]
   |succ i=>simpa using h2 i
def aaj (hH:bk P B ρ H w) (he:∀x,Den ρ (ev x) (e x)) {t:TypeId} {parts:Array (Nat×Operand)} (ho:o.op= .build t parts):cU P B ρ H w ((execOp e o).run P w) (BN t parts P o ev H):=by
 refine d9 hH fun v hv=> ?_
 unfold IQ at hv;simp only [dN]at hv;obtain⟨z,hz,hv⟩:=hv;obtain⟨inf,hi,pg⟩:=Jh hz;have fin:∀(out:Array Value) (cs:List af),P.built t (parts.map fun(i,x)=>(i,e x)).toList=some out->aI ρ cs out.toList->v= .agg cs->∃eO y,(execOp e o).run P w= .ok eO w/\tJ eO y/\Den ρ v y:=by
  intro out cs h1 h2 h3;subst h3;have hr:=run_build w t _ out h1;refine lH (y:= .agg out) ?_ (by simpa using Den.agg h2);simp [execOp,ho,hr]
 split at hv
 .rename_i fs hu;simp only [dN]at hv;obtain⟨cs,hc,hv⟩:=hv;cases hall:(fs.toList.all fun f=>(ey P f.type).isSome)with
  |false=>rw [hall]at hv;cases hv
  |true=>
   rw [hall]at hv;cases hv;obtain⟨ps,h1,h2⟩:=QF fs.toList hall;obtain⟨out,g1,g2⟩:=Jl he parts hc (Ca z.cells);refine fin out cs ?_ g2 rfl;unfold Program.built;rw [hi,hu];simp only [pg,h1];rw [<-g1];congr 1;funext i;have:=h2 i;simp only [PZ];simpa using this
 .rename_i n el hu;simp only [dN,am]at hv;obtain⟨s,hs,cs,hc,rfl⟩:=hv;obtain⟨ie,hie,rfl⟩:=xq hs;obtain⟨out,g1,g2⟩:=Jl he parts hc (Ca z.cells);refine fin out cs ?_ g2 rfl;unfold Program.built;rw [hi,hu];simp only [pg,hie,g1]
 .cases hv
def xz (hH:bk P B ρ H w) {r:Result Next} {v:af} {y:Value} {k:bq} {lJ:Obj} (c:Nat) (hr:r= .ok (.value y) (w.alloc lJ)) (hd:Den (ρ.put H.next w.heap.size c) v y) (hk:gT P (ρ.put H.next w.heap.size c) H.next k lJ):
  cU P B ρ H w r (.ok v (H.new k)):=fun hf=>by
 obtain⟨h1,h2⟩:=tH hH hf c k lJ hk;exact⟨_,y,_,_,hr,rfl,hd,h1,h2⟩
def EL {ρ:Env} {i:Nat} {el:TypeId} {cs:List af} {xs:Array Value} {ro:Bool} (h:aI ρ cs xs.toList):gT P ρ i (.cells el cs true false ro) (.cells xs el):=by
 have hl:xs.size=cs.length:=by simpa using h.length
 refine⟨xs,(0,0),rfl,fun _=>rfl, ?_,fun _=>hl,fun hc=>by cases hc⟩;rw [eZ (by simp [hl])];exact h
def aak (hH:bk P B ρ H w) {el:TypeId} (ho:o.op= .alloc el):cU P B ρ H w ((execOp e o).run P w) (tC el P o ev H):=by
 unfold tC;cases hz:nh P el with
 |none=>trivial
 |some z=>
  refine xz hH 0 (y:= .pointer (some ⟨w.heap.size,0,none⟩)) ?_ (.ptr (Env.dA ..)) (EL (Ca z.cells));simp [execOp,ho,Instr.alloc,EF hz,newVar,newRow]
def aal (hH:bk P B ρ H w) (he:∀x,Den ρ (ev x) (e x)) {el:TypeId} {x:Operand} (ho:o.op= .box el x):cU P B ρ H w ((execOp e o).run P w) (oY el x P o ev H):=by
 unfold oY;cases n7:(ev x).u5 with
 |true=>trivial
 |false=>
 intro hf;have hn:ρ H.next=none:=hf H.next (aK _) (fL _);refine xz hH 0 (y:= .pointer (some ⟨w.heap.size,0,none⟩)) ?_ (.ptr (Env.dA ..)) (EL (((he x).cells n7).mono (Env.o9 hn))) hf;simp [execOp,ho,Instr.box,newVar,newRow]
def EM (z:Array Value) (s:Nat) (hs:z.size=s) (h1:1<=s):∀n,((Array.range (n*s)).map (z[· %z.size]!)).toList=(List.replicate n z.toList).flatten
 |0=>by simp
 |n+1=>by
  have ih:=EM z s hs h1 n;simp only [Array.toList_map,Array.toList_range]at ih ⊢;rw [Nat.add_mul,Nat.one_mul,List.range_add,List.map_append,ih,List.replicate_succ',List.flatten_append];congr 1;simp only [List.map_map,List.flatten_cons,List.flatten_nil,List.append_nil];apply List.ext_getElem
  .simp [hs]
  .intro i h2 h3;have hi:i<s:=by simpa using h2
   have e1:(n*s+i)%z.size=i:=by rw [hs,Nat.add_comm,Nat.add_mul_mod_self_right,Nat.mod_eq_of_lt hi]
   simp only [List.getElem_map,List.getElem_range,Function.comp_apply,e1];rw [getElem!_pos z i (by omega)];simp
def Jm (n:Nat) (z:Array Value):(List.replicate n (iS z)).flatten=((List.replicate n z.toList).flatten).map af.raw:=by
 simp [iS,List.map_flatten]
def aam (w:World) (t e:TypeId) (len:Nat) (parts:Array (Nat×Value)) (cells:Array Value) (ie:TypeInfo) (z:Value)
  (hu:P.underlying t=some (.slice e)) (hie:P.info? e=some ie) (hz:ie.zero=some z) (hsmall:¬len*ie.size>2^24) (hs:1<=ie.size)
  (h:Instr.fill (fun i=>some (i*ie.size,ie.size)) ((Array.range (len*ie.size)).map (z.cells[· %z.cells.size]!)) parts.toList=some cells):
  (Instr.buildSlice t len parts).run P w= .ok (.slice (some ⟨w.heap.size,0,none⟩) len len) (w.alloc (.cells cells e)):=by
 by_cases h0:len*ie.size=0
 .have hl:len=0:=by
   rcases Nat.mul_eq_zero.1 h0 with h|h
   .exact h
   .omega
  subst hl;have e1:∀f:Nat->Value,Array.map f (Array.range 0)= #[]:=fun f=>Array.ext (by simp) (fun i _ h2=>by simp at h2)
  rw [Nat.zero_mul,e1]at h;simp [Instr.buildSlice,run_underlying hu,sizeOf,typeInfo,hie,newRow,e1,h]
 .exact run_buildSlice w t e len parts cells ie z hu hie hz hsmall h0 h
section
variable (hH:bk P B ρ H w) (he:∀x,Den ρ (ev x) (e x)) {t:TypeId}
def ub {len:Nat} {parts:Array (Nat×Operand)} (ho:o.op= .buildSlice t len parts):cU P B ρ H w ((execOp e o).run P w) (zy t len parts P o ev H):=by
 unfold zy;cases hv:oZ P ev t len parts H with
 |none=>trivial
 |some q=>
  unfold oZ at hv;simp only [dN]at hv;obtain⟨el,hel,s,hs,z,hz,hv⟩:=hv;cases hb:(Nat.ble 1 s&&Nat.ble (len*s) 16777216&&Nat.beq z.cells.size s)with
  |false=>rw [hb]at hv;cases hv
  |true=>
   rw [hb]at hv;simp only [ae]at hb;obtain⟨⟨b1,b2⟩,b3⟩:=hb;have b1:=bV b1;have b2:=bV b2;have b3:=ac b3;simp only [cond_true,am]at hv;obtain⟨cs,hc,rfl⟩:=hv;obtain⟨ie,hie,rfl⟩:=xq hs;obtain⟨aua,QG,pg⟩:=Jh hz;rw [hie]at QG;cases QG;have hs1:1<=ie.size:=b1;have hd:aI ρ (List.replicate len (iS z.cells)).flatten ((Array.range (len*ie.size)).map (z.cells[· %z.cells.size]!)).toList:=by
    rw [EM z.cells ie.size b3 hs1,Jm];exact aI.rJ _
   obtain⟨out,g1,g2⟩:=Jl he parts hc hd;intro hf;have hn:ρ H.next=none:=hf H.next (aK _) (fL _);refine xz hH 0 (y:= .slice (some ⟨w.heap.size,0,none⟩) len len) ?_ (.slice (Env.dA ..) rfl (aK _)) (EL (g2.mono (Env.o9 hn))) hf;have hr:=aam (P:=P) w t el len _ out ie z (xu hel) hie pg (by omega) hs1 g1;simp [execOp,ho,hr]
def aan {l c:Operand} (ho:o.op= .makeSlice t l c):cU P B ρ H w ((execOp e o).run P w) (d8 t l c P o ev H):=by
 unfold d8;cases hv:dj P t (ev l) (ev c) H with
 |none=>trivial
 |some q=>
  unfold dj at hv;simp only [dN]at hv;obtain⟨el,hel,inf,hi,z,hz,ln,hl,vu,hc,hv⟩:=hv;cases hb:(Nat.ble ln vu&&Nat.ble 1 inf.size&&bounded vu inf.bytes&&Nat.beq z.cells.size inf.size)with
  |false=>rw [hb]at hv;cases hv
  |true=>
   rw [hb]at hv;simp only [ae,bounded]at hb;obtain⟨⟨⟨b1,b2⟩,b3,b4⟩,gF⟩:=hb;have b1:=bV b1;have b2:=bV b2;have b3:=bV b3;have b4:=bV b4;have gF:=ac gF;cases hv;obtain⟨kl,hl'⟩:=B8 hl;obtain⟨kc,tM⟩:=B8 hc;have aao:e l= .int kl ln:=by have:=he l;rw [hl']at this;exact this.cc
   have aap:e c= .int kc vu:=by have:=he c;rw [tM]at this;exact this.cc
   have hbz:(inf.bytes:Int)*(vu:Int)<=281474976710656:=by
    have:((inf.bytes*vu:Nat):Int)<=281474976710656:=by rw [Nat.mul_comm];omega
    rwa [Int.natCast_mul]at this
   have hr:=run_make (P:=P) w t el inf z (xu hel) hi hz kl kc ln vu (by omega) (by omega) hbz (by omega);simp only [Int.toNat_natCast]at hr;refine xz hH 0 (lJ:= .cells (madeCells z.cells (vu*inf.size)) el) (y:= .slice (some ⟨w.heap.size,0,none⟩) ln vu) ?_ (.slice (Env.dA ..) rfl b1) (EL ?_)
   .simp [execOp,ho,aao,aap,hr]
   .unfold madeCells;rw [EM z.cells inf.size gF b2,Jm];exact aI.rJ _
end
def dp (hH:bk P B ρ H w) {i b c:Nat} {el:TypeId} {cs:List af} {exact cG ro:Bool} (hi:H.get i=some (.cells el cs exact cG ro)) (hr:ρ i=some (b,c)):
  ∃xs fz,w.heap[b]? =some (.cells xs el fz)/\(cG=false->fz=(0,0))/\aI ρ cs (xs.toList.take cs.length)/\(exact=true->xs.size=cs.length)/\(exact=false->xs.size=c*P.cellsOf el)/\cs.length<=xs.size:=by
 obtain⟨o,h1,h2,_⟩:=hH.at hi hr;obtain⟨xs,fz,rfl,g2,g3,g4,g5⟩:=h2;refine⟨xs,fz,h1,g2,g3,g4,fun hx=> ?_, ?_⟩
 .obtain⟨b',c',e1,e2⟩:=g5 hx;rw [hr]at e1;cases e1;exact e2
 .have:=g3.length;simp at this;omega
def xA {xs:Array Value} {n i:Nat} {y:Value} (h:(xs.toList.take n)[i]? =some y):xs[i]? =some y:=by
 rw [List.getElem?_take]at h;split at h
 .simpa using h
 .cases h
def cell_of {b off:Nat} {xs:Array Value} {el:TypeId} {fz:Nat×Nat} (h:w.heap[b]? =some (.cells xs el fz)):w.cell? ⟨b,off,none⟩=xs[off]? :=by simp [World.cell?,h]
def EN {b off:Nat} {xs:Array Value} {el t:TypeId} {fz:Nat×Nat} {cs:List af} {v:af} (h:w.heap[b]? =some (.cells xs el fz)) (hd:aI ρ cs (xs.toList.take cs.length)) (hv:li P t cs off=some v):
  ∃y,(loadVar t ⟨b,off,none⟩).run P w= .ok y w/\Den ρ v y:=by
 unfold li at hv;cases hl:lv P t with
 |no=>rw [hl]at hv;cases hv
 |one=>
  rw [hl]at hv;simp only [zG]at hv;obtain⟨y,h1,h2⟩:=hd.get hv;refine⟨y, ?_,h2⟩;simp [loadVar,EG (Qj hl),run_load,cell_of h,xA h1]
 |agg n=>
  rw [hl]at hv;obtain⟨k1,k2⟩:=Qk hl;cases hb:Nat.ble (Nat.add off n) cs.length with
  |false=>simp only [hb]at hv;cases hv
  |true=>
   simp only [hb]at hv;cases hv;have hr:=run_loadCells_list (P:=P) w ⟨b,off,none⟩ (((xs.toList.take cs.length).drop off).take n) (fun j y hj=>by
    rw [j0,cell_of h];rw [List.getElem?_take]at hj;split at hj
    .rw [List.getElem?_drop]at hj;exact xA hj
    .cases hj)
   have hlen:(((xs.toList.take cs.length).drop off).take n).length=n:=by
    have:=hd.length;have hle:off+n<=cs.length:=bV hb;simp only [eM,nU,this]at*;omega
   refine⟨.agg (((xs.toList.take cs.length).drop off).take n).toArray, ?_, .agg ((hd.drop off).take n)⟩;rw [hlen]at hr;simp [loadVar,EG k1,jZ k2,hr]
def QH {t:TypeId} {x:Operand} {b off:Nat} {y:Value} (ho:o.op= .load t x) (hx:e x= .pointer (some ⟨b,off,none⟩)) (h:(loadVar t ⟨b,off,none⟩).run P w= .ok y w):(execOp e o).run P w= .ok (.value y) w:=by
 simp [execOp,ho,Instr.loadAt,hx,Instr.sureAddr,h]
def aaq (hH:bk P B ρ H w) {t:TypeId} {x:Operand} {v:af} (ho:o.op= .load t x) (hx:Den ρ v (e x)):cU P B ρ H w ((execOp e o).run P w) (tB P t v H):=by
 unfold tB;split
 .rename_i u xs k off;obtain⟨b,o',A,h1,h2,h3,h4,h5⟩:=hx.zJ;obtain⟨⟨el,fr,g1⟩,_⟩:=hH.fz b A h1;refine d9 hH fun v hv=> ?_
  have hv:=Qf h4 hv;have hv:=Qe (pre:=(A.toList.take o').map af.raw) (post:=[]) hv;have hpl:((A.toList.take o').map af.raw).length=o':=by simp;omega
  rw [hpl,List.append_nil]at hv;obtain⟨y,k1,k2⟩:=EN g1 (cs:=(A.toList.take o').map af.raw++u.flat xs) (by
   rw [dy,hpl,List.take_add];exact(aI.rJ _).append h3) hv
  exact lH (QH ho h5 k1) k2
 .rename_i e' u i k off;cases hb:bA e' u (H.get i) k with
  |false=>trivial
  |true=>
   obtain⟨b1,b2⟩:=vq hb;obtain⟨b,c,h1,h5⟩:=hx.xo;obtain⟨ys,g1,g2,_⟩:=rK hH b1 h1;refine d9 hH fun v hv=> ?_
   obtain⟨y,k1,k2⟩:=EN g1 g2 (Qf b2 hv);exact lH (QH ho h5 k1) k2
 .trivial
def aar (hH:bk P B ρ H w) (he:∀x,Den ρ (ev x) (e x)) {t:TypeId} {x:Operand} (ho:o.op= .load t x):cU P B ρ H w ((execOp e o).run P w) (nY t x P o ev H):=by
 unfold nY;cases hp:iO (ev x)with
 |no=>exact aaq hH ho (he x)
 |mk i off=>
  cases hb:tq (H.get i)with
  |no=>simp only [hb];trivial
  |mk el cs ex cG ro=>
   simp only [hb];have hx:=he x;rw [B7 hp]at hx;obtain⟨b,c,h1,h2⟩:=hx.kR;obtain⟨xs,fz,g1,g2,g3,_⟩:=dp hH (Qi hb) h1;refine d9 hH fun v hv=> ?_
   obtain⟨y,k1,k2⟩:=EN g1 g3 hv;exact lH (y:=y) (by simp [execOp,ho,Instr.loadAt,h2,Instr.sureAddr,k1]) k2
def QI {α:Type} (L vs:List α) (off n:Nat) (h:off+vs.length<=n) (hn:n<=L.length):
  (L.take off++vs++L.drop (off+vs.length)).take n=(L.take n).take off++vs++(L.take n).drop (off+vs.length):=by
 have e1:(L.take n).take off=L.take off:=by rw [List.take_take,Nat.min_eq_left (by omega)]
 rw [e1,List.take_append,eZ (by simp;omega)];congr 1;rw [List.drop_take];congr 1;simp;omega
def EO (hH:bk P B ρ H w) {i b c off:Nat} {el:TypeId} {cs vs cs':List af} {exact:Bool} (hi:H.get i=some (.cells el cs exact false false)) (hr:ρ i=some (b,c)) (hp:kQ cs off vs=some cs') {ys:List Value} (hd:aI ρ vs ys) (h1:co vs=true):
  ∃xs w',w.heap[b]? =some (.cells xs el (0,0))/\(storeCells ⟨b,off,none⟩ ys).run P w= .ok () w'/\bk P B ρ (H.set i (.cells el cs' exact false false)) w'/\bR ρ H w ρ (H.set i (.cells el cs' exact false false)) w':=by
 obtain⟨xs,fz,g1,g2,g3,g4,g5,g6⟩:=dp hH hi hr;have hfz:=g2 rfl;subst hfz;obtain⟨k1,k2⟩:=B2 hp;have mD:=hd.length;have hst:=run_storeCells_at P b off el ys 0 xs w g1 (by simp only [Nat.add_zero];omega) (hd.one h1);simp only [Nat.add_zero]at hst;obtain⟨q1,aP⟩:=vo hH hi hr rfl (k:= .cells el cs' exact false false) (w.setRow b (xs.toList.take off++ys++xs.toList.drop (off+ys.length)).toArray)
  (.cells (xs.toList.take off++ys++xs.toList.drop (off+ys.length)).toArray el (0,0)) rfl rfl rfl (by simp) (setRow_heap w b xs _ el (0,0) g1) (fun j hj=>setRow_other w b j _ hj) (by
    have hlen:cs'.length=cs.length:=by rw [k2];simp;omega
    have hsz:(xs.toList.take off++ys++xs.toList.drop (off+ys.length)).toArray.size=xs.size:=by simp;omega
    refine⟨_,_,rfl,fun _=>rfl, ?_,fun hx=>by rw [hsz,hlen];exact g4 hx,fun hx=>⟨b,c,hr,by rw [hsz];exact g5 hx⟩⟩;show aI ρ cs' ((xs.toList.take off++ys++xs.toList.drop (off+ys.length)).take cs'.length);rw [hlen,QI _ _ _ _ (by omega) (by simpa using g6),k2,mD];exact((g3.take off).append hd).append (g3.drop _))
 exact⟨xs,_,g1,hst,q1,aP⟩
def aas {cs vs r:List af} {off:Nat} (h:kQ cs off vs=some r):r.length=cs.length:=by
 obtain⟨h1,h2⟩:=B2 h;rw [h2];simp;omega
def aat (hH:bk P B ρ H w) {i b c off:Nat} {el:TypeId} {t:av} {xs xs':List t.den} {vs cs':List af} (hi:H.get i=some (.own el t xs)) (hr:ρ i=some (b,c)) (hp:kQ (t.flat xs) off vs=some cs') {ys:List Value} (hd:aI ρ vs ys) (h1:co vs=true)
  (hx:∀zs,aI ρ cs' zs->aI ρ (t.flat xs') zs) (hl:xs'.length=xs.length):
  ∃w',(storeCells ⟨b,off,none⟩ ys).run P w= .ok () w'/\bk P B ρ (H.set i (.own el t xs')) w'/\bR ρ H w ρ (H.set i (.own el t xs')) w':=by
 obtain⟨qp,g1,g3,g5,g6,g7,g8⟩:=rK hH hi hr;have hlen:cs'.length=(t.flat xs).length:=aas hp;have QJ:(t.flat xs').length=(t.flat xs).length:=by rw [t.jf,t.jf,hl]
 obtain⟨k1,k2⟩:=B2 hp;have mD:=hd.length;have hst:=run_storeCells_at P b off el ys 0 qp w g1 (by simp only [Nat.add_zero];omega) (hd.one h1);simp only [Nat.add_zero]at hst;obtain⟨q1,aP⟩:=vo hH hi hr rfl (k:= .own el t xs') (w.setRow b (qp.toList.take off++ys++qp.toList.drop (off+ys.length)).toArray)
  (.cells (qp.toList.take off++ys++qp.toList.drop (off+ys.length)).toArray el (0,0)) rfl rfl rfl (by simp) (setRow_heap w b qp _ el (0,0) g1) (fun j hj=>setRow_other w b j _ hj) (by
    have hsz:(qp.toList.take off++ys++qp.toList.drop (off+ys.length)).toArray.size=qp.size:=by simp;omega
    refine⟨⟨_,_,rfl,fun _=>rfl, ?_,fun hh=>Bool.noConfusion hh,fun _=>⟨b,c,hr,hsz.trans g5⟩⟩,g7,g8⟩;show aI ρ (t.flat xs') ((qp.toList.take off++ys++qp.toList.drop (off+ys.length)).take (t.flat xs').length);rw [QJ];refine hx _ ?_;rw [QI _ _ _ _ (by omega) (by simpa using g6),k2,mD];exact((g3.take off).append hd).append (g3.drop _))
 exact⟨_,hst,q1,aP⟩
def aau {pre mid post vs r:List af} {off:Nat} (h:kQ mid off vs=some r):kQ (pre++(mid++post)) (pre.length+off) vs=some (pre++(r++post)):=by
 have hh:∀(cs:List af) (o:Nat),o+vs.length<=cs.length->kQ cs o vs=some (cs.take o++vs++cs.drop (o+vs.length)):=fun cs o ho=>by
  unfold kQ;split
  .rename_i v;have ho':o<cs.length:=by simp at ho;omega
   rw [I9,if_pos ho',P8 _ _ _ ho'];rfl
  .rw [fK ho];rfl
 obtain⟨h1,h2⟩:=B2 h;rw [hh _ _ (by simp;omega),h2];congr 1;rw [List.take_append,eZ (by omega),show pre.length+off-pre.length=off by omega,List.take_append,show off-mid.length=0 by omega];rw [List.drop_append,List.drop_eq_nil_of_le (by omega),List.nil_append,show pre.length+off+vs.length-pre.length=off+vs.length by omega,List.drop_append,show off+vs.length-mid.length=0 by omega];simp
def aav {t:TypeId} {x y:Operand} {b off n:Nat} {w':World} (ho:o.op= .store t x y) (hx:e x= .pointer (some ⟨b,off,none⟩)) (hn:ey P t=some n) (hsz:(e y).cells.size=n) (h:(storeCells ⟨b,off,none⟩ (e y).cells.toList).run P w= .ok () w'):(execOp e o).run P w= .ok .skip w':=by
 simp [execOp,ho,Instr.storeAt,storeVar,hx,Instr.sureAddr,jZ hn,hsz,h]
def GT (hH:bk P B ρ H w) {t:TypeId} {x y:Operand} {v u:af} (ho:o.op= .store t x y) (hx:Den ρ v (e x)) (hy:Den ρ u (e y)):cU P B ρ H w ((execOp e o).run P w) (xb P t v u H):=by
 unfold xb;split
 .rename_i e' ty i k off;cases hb:bA e' ty (H.get i) k with
  |false=>trivial
  |true=>
   obtain⟨b1,b2⟩:=vq hb;obtain⟨b,c,h1,h5⟩:=hx.xo;cases hc:(co u.cells&&tD P t u.cells.length)with
   |false=>trivial
   |true=>
    simp only [cond_true];rw [ae]at hc;obtain⟨c1,c2⟩:=hc;unfold tD at c2;split at c2
    .rename_i n hn;have c2:=ac c2;split
     .rename_i d hd;simp only [dN]at hd;obtain⟨cs',p1,p2⟩:=hd;have n7:=QD c1;generalize hxs:bP ty (H.get i)=xs at*;have hput:=aau (pre:=ty.flat (xs.take k)) (post:=ty.flat (xs.drop (k+1))) p1;rw [<-ty.Qc xs k b2,ty.Qd xs k b2]at hput;obtain⟨w',q1,aP,b8⟩:=aat (xs':=xs.set k d) hH b1 h1 hput (hy.cells n7) c1 (fun zs hz=>by
       have e1:ty.flat (xs.set k d)=ty.flat (xs.take k)++(ty.cells d++ty.flat (xs.drop (k+1))):=by
        rw [List.set_eq_take_append_cons_drop,if_pos b2,av.B5,av.zI]
       rw [e1];have vv:(ty.flat (xs.take k)).length<=zs.length:=by rw [hz.length];simp
       have cT:=hz.take (ty.flat (xs.take k)).length;have z2:=hz.drop (ty.flat (xs.take k)).length;simp only [List.take_left',List.drop_left']at cT z2;have z3:=z2.take cs'.length;have z4:=z2.drop cs'.length;simp only [List.take_left',List.drop_left']at z3 z4;have z5:=av.Zy p2 z3;have:=cT.append (z5.append z4);rwa [List.take_append_drop,List.take_append_drop]at this) (by simp)
      have hsz:(e y).cells.size=n:=by rw [<-c2,<-(hy.cells n7).length];simp
      exact fun _=>⟨ρ,undef,w', .skip,aav ho h5 hn hsz q1,rfl, .raw _,aP,b8⟩
     .trivial
    .cases c2
 .trivial
def aaw (hH:bk P B ρ H w) (he:∀x,Den ρ (ev x) (e x)) {t:TypeId} {x y:Operand} (ho:o.op= .store t x y):cU P B ρ H w ((execOp e o).run P w) (qi t x y P o ev H):=by
 unfold qi;cases hp:iO (ev x)with
 |no=>exact GT hH ho (he x) (he y)
 |mk i off=>
  cases hb:tq (H.get i)with
  |no=>simp only [hb];trivial
  |mk el cs ex cG ro=>
   simp only [hb];cases ro with
   |true=>trivial
   |false=>
    cases cG with
    |true=>trivial
    |false=>
     have hx:=he x;rw [B7 hp]at hx;obtain⟨b,c,h1,h2⟩:=hx.kR;show cU P B ρ H w _ (eT (BV P t i off (ev y) H el cs ex));cases hv:BV P t i off (ev y) H el cs ex with
     |none=>trivial
     |some q=>
      unfold BV at hv;cases hc:(co (ev y).cells&&tD P t (ev y).cells.length)with
      |false=>rw [hc]at hv;cases hv
      |true=>
       rw [hc]at hv;simp only [cond_true,am]at hv;obtain⟨cs',hp',rfl⟩:=hv;rw [ae]at hc;obtain⟨c1,c2⟩:=hc;unfold tD at c2;split at c2
       .rename_i n hn;have c2:=ac c2;have n7:=QD c1;obtain⟨xs,w',_,k2,c8,jh⟩:=EO hH (Qi hb) h1 hp' ((he y).cells n7) c1;have hsz:(e y).cells.size=n:=by rw [<-c2,<-((he y).cells n7).length];simp
        exact fun _=>⟨ρ,undef,w', .skip,by simp [execOp,ho,Instr.storeAt,storeVar,h2,Instr.sureAddr,jZ hn,hsz,k2],rfl, .raw _,c8,jh⟩
       .cases c2
end
section
variable {P:Program} {B:Nat} {ρ:Env} {H:ai} {w:World} {o:Oper} {ev:dO} {e:Operand->Value}
def run_getObj_map {b:Nat} {es:Array MapEntry} {c:Nat} (h:w.heap[b]? =some (.map es c)):(getObj b).run P w= .ok (.map es c) w:=by
 simp [getObj,Sem.run,h]
def aax {t:TypeId} {es:Array MapEntry} {c:Nat} {kv v:Value} {ok:Bool} {b:Nat} (h:IL P t es kv ok=some v) (hb:w.heap[b]? =some (.map es c)):(Instr.lookup t (.map (some b)) kv ok).run P w= .ok v w:=by
 unfold IL at h;split at h
 .rename_i kt et hu;simp only [dN]at h;obtain⟨_,h1,r,h2,h3⟩:=h;have e1:=n5 _ w h1;have e2:=n5 _ w h2;cases r with
  |none=>
   simp only [am]at h3;obtain⟨z,hz,rfl⟩:=h3;simp only [Instr.lookup,Sem.run_bind,dB hu,Result.andThen_ok,run_getObj_map hb,Sem.run_pure,e1,e2,EF hz]
  |some p=>
   obtain⟨i,v'⟩:=p;simp only [tj]at h3;subst h3;simp only [Instr.lookup,Sem.run_bind,dB hu,Result.andThen_ok,run_getObj_map hb,Sem.run_pure,e1,e2]
 .cases h
def aay (hH:bk P B ρ H w) (he:∀x,Den ρ (ev x) (e x)) {t:TypeId} {m k:Operand} {ok:Bool} (ho:o.op= .lookup t m k ok):cU P B ρ H w ((execOp e o).run P w) (BS t m k ok P o ev H):=by
 refine d9 hH fun v hv=> ?_
 unfold w9 at hv;split at hv
 .rename_i i kv hm hk;have hm':=he m;rw [hm]at hm';obtain⟨b,c,h1,h2⟩:=hm'.vn;split at hv
  .rename_i es clock hg;simp only [am]at hv;obtain⟨y,hy,rfl⟩:=hv;obtain⟨lJ,g1,g2,_⟩:=hH.at hg h1;have g2:lJ= .map es clock:=g2;subst g2;refine lH (y:=y) ?_ (.raw y);simp [execOp,ho,h2,(he k).fC hk,aax hy g1]
  .cases hv
 .exact lO he (by rw [ho];rfl) hv w
def Jn {b:Nat} {es:Array MapEntry} {c:Nat} (h:w.heap[b]? =some (.map es c)) (o':Obj):(setObj b o').run P w= .ok () {w with heap:=w.heap.setIfInBounds b o'}:=by
 simp [setObj,Sem.run,h]
def aaz {t:TypeId} {es es':Array MapEntry} {c c':Nat} {kv xv:Value} {b:Nat} (h:IM P t es c kv xv=some (es',c')) (hb:w.heap[b]? =some (.map es c)):
  (Instr.mapUpdate t (.map (some b)) kv xv).run P w= .ok () {w with heap:=w.heap.setIfInBounds b (.map es' c')}:=by
 unfold IM at h;split at h
 .rename_i kt et hu;simp only [dN]at h;obtain⟨_,h1,r,h2,h3⟩:=h;have e1:=n5 _ w h1;have e2:=n5 _ w h2;cases r with
  |none=>
   simp only [tj,Prod.mk.injEq]at h3;obtain⟨rfl,rfl⟩:=h3;simp only [Instr.mapUpdate,Sem.run_bind,dB hu,Result.andThen_ok,run_getObj_map hb,e1,e2,Jn hb]
  |some p=>
   obtain⟨i,v'⟩:=p;simp only [am,Prod.mk.injEq]at h3;obtain⟨k,hk,rfl,rfl⟩:=h3;have e3:=n5 _ w hk;simp only [Instr.mapUpdate,Sem.run_bind,dB hu,Result.andThen_ok,run_getObj_map hb,e1,e2,e3,Jn hb]
 .cases h
def Jo {b j:Nat} (o':Obj) (h:j≠b):(w.heap.setIfInBounds b o')[j]? =w.heap[j]? :=by
 simp [Ne.symm h]
def Jp {b:Nat} {o0:Obj} (o':Obj) (h:w.heap[b]? =some o0):(w.heap.setIfInBounds b o')[b]? =some o':=by
 have:=(dG.1 h).1;simp [this]
def aaA {t:TypeId} {kv xv:Value} {b:Nat} (h:Ez P t kv=true) (hb:w.heap[b]? =some (.map #[] 0)):
  (Instr.mapUpdate t (.map (some b)) kv xv).run P w= .ok () {w with heap:=w.heap.setIfInBounds b (.map #[{key:=kv,val:=xv,born:=0}] 1)}:=by
 unfold Ez at h;split at h
 .rename_i kt et hu;split at h
  .rename_i h1 h2;have e1:=n5 _ w h1;have e2:=n5 _ w h2;simp only [Instr.mapUpdate,Sem.run_bind,dB hu,Result.andThen_ok,run_getObj_map hb,e1,e2,Jn hb];rfl
  .cases h
 .cases h
section
variable (hH:bk P B ρ H w) (he:∀x,Den ρ (ev x) (e x)) {t:TypeId}
def QK {m k x:Operand} {r:Result Next} (hr:∀u w',(Instr.mapUpdate t (e m) (e k) (e x)).run P w= .ok u w'->r= .ok .skip w'):cU P B ρ H w r (o4 t m k x P o ev H):=by
 unfold o4;cases hv:BW P t (ev m) (ev k) (ev x) H with
 |none=>trivial
 |some q=>
  unfold BW at hv;split at hv
  .rename_i i kv xv hm hk hx;have hm':=he m;rw [hm]at hm';obtain⟨b,c,h1,h2⟩:=hm'.vn;split at hv
   .rename_i es clock hg;simp only [am]at hv;obtain⟨p,hy,rfl⟩:=hv;obtain⟨es',clock'⟩:=p;obtain⟨lJ,g1,g2,_⟩:=hH.at hg h1;have g2:lJ= .map es clock:=g2;subst g2;have Jq:=aaz (w:=w) hy g1;have hr':=hr _ _ (by rw [h2,(he k).fC hk,(he x).fC hx];exact Jq);obtain⟨q1,aP⟩:=vo hH hg h1 rfl (k:= .map es' clock') {w with heap:=w.heap.setIfInBounds b (.map es' clock')} (.map es' clock') rfl rfl rfl (by simp) (Jp _ g1) (fun j hj=>Jo _ hj) rfl;exact fun _=>⟨ρ,undef,_, .skip,hr',rfl, .raw _,q1,aP⟩
   .cases hv
  .rename_i hx;unfold I0 at hv;split at hv
   .rename_i i kv hm hk;have hm':=he m;rw [hm]at hm';obtain⟨b,c,h1,h2⟩:=hm'.vn;split at hv
    .rename_i hg;obtain⟨lJ,g1,g2,_⟩:=hH.at hg h1;have g2:lJ= .map #[] 0:=g2;subst g2;cases ho:Ez P t kv with
     |false=>rw [ho]at hv;cases hv
     |true=>
      rw [ho]at hv;cases hv;have Jq:=aaA (w:=w) (xv:=e x) ho g1;have hr':=hr _ _ (by rw [h2,(he k).fC hk];exact Jq);obtain⟨q1,aP⟩:=vo hH hg h1 rfl (k:= .one kv (ev x)) {w with heap:=w.heap.setIfInBounds b (.map #[{key:=kv,val:=e x,born:=0}] 1)} (.map #[{key:=kv,val:=e x,born:=0}] 1) rfl rfl rfl (by simp) (Jp _ g1) (fun j hj=>Jo _ hj) ⟨_,rfl,he x⟩;exact fun _=>⟨ρ,undef,_, .skip,hr',rfl, .raw _,q1,aP⟩
    .cases hv
   .cases hv
  .cases hv
def aaB {m k x:Operand} (ho:o.op= .mapUpdate t m k x):cU P B ρ H w ((execOp e o).run P w) (o4 t m k x P o ev H):=
 QK hH he fun u w' h=>by simp [execOp,ho,h]
def aaC {m k x:Operand} (ho:o.op= .insert t m k x):cU P B ρ H w ((execOp e o).run P w) (o4 t m k x P o ev H):=
 QK hH he fun u w' h=>by simp [execOp,ho,h]
def AC {r:Option Operand} (ho:o.op= .makeMap t r):cU P B ρ H w ((execOp e o).run P w) (zz t r P o ev H):=by
 unfold zz;have fin:(execOp e o).run P w= .ok (.value (.map (some w.heap.size))) (w.alloc (.map #[] 0))->cU P B ρ H w ((execOp e o).run P w) (.ok (.map H.next) (H.new (.map #[] 0))):=fun h=>
  xz hH 0 h (.map (Env.dA ..)) rfl
 unfold rH;split
 .exact fin (by simp [execOp,ho,Instr.makeMap])
 .rename_i x;split
  .rename_i kt et eN n hu hx;have:=he x;rw [hx]at this;have ex:=this.cc;exact fin (by simp [execOp,ho,Instr.makeMap,dB hu,ex,asInt,asIntOf])
  .trivial
end
section
variable {b s l:Nat} {m:Option Nat} {q:Array Nat}
def EP (h:w.heap[b]? =some (.mapIter m s q l)):(getObj b).run P w= .ok (.mapIter m s q l) w:=by
 simp [getObj,Sem.run,h]
def aaD (h:w.heap[b]? =some (.mapIter m s q l)) (o':Obj):(setObj b o').run P w= .ok () {w with heap:=w.heap.setIfInBounds b o'}:=by
 simp [setObj,Sem.run,h]
end
def QL {i j b q:Nat} (h:i≠j):(ρ.put j b q) i=ρ i:=by simp [Env.put,h]
def aaE (hH:bk P B ρ H w) (he:∀x,Den ρ (ev x) (e x)) {t:TypeId} {x:Operand} (ho:o.op= .range t x):cU P B ρ H w ((execOp e o).run P w) (zB t x P o ev H):=by
 unfold zB zA;split
 .rename_i kt et i hu hx;have hx':=he x;rw [hx]at hx';obtain⟨b,q,h1,h2⟩:=hx'.vn;have fin:∀(es:Array MapEntry) (c:Nat),w.heap[b]? =some (.map es c)->(execOp e o).run P w= .ok (.value (.pointer (some ⟨w.heap.size,0,none⟩))) (w.alloc (.mapIter (some b) c #[] c)):=fun es c hb=>by
   simp only [execOp,ho,Instr.range,Sem.run_bind,dB hu,Result.andThen_ok,h2,run_getObj_map hb,Sem.run_pure];simp [newObj,Sem.run]
  split
  .rename_i hg;obtain⟨lJ,g1,g2,_⟩:=hH.at hg h1;have g2:lJ= .map #[] 0:=g2;subst g2;exact xz hH 0 (fin _ _ g1) (.ptr (Env.dA ..)) ⟨b,q,(QL (Nat.ne_of_lt (hH.lt _ _ hg))).trans h1,rfl⟩
  .rename_i kv v hg;obtain⟨lJ,g1,⟨xv,g2,_⟩,_⟩:=hH.at hg h1;subst g2;exact xz hH 0 (fin _ _ g1) (.ptr (Env.dA ..)) ⟨b,q,(QL (Nat.ne_of_lt (hH.lt _ _ hg))).trans h1,rfl⟩
  .trivial
 .trivial
section
variable {b r:Nat} {t:TypeId}
def aaF (h1:w.heap[r]? =some (.mapIter (some b) 0 #[] 0)) (h2:w.heap[b]? =some (.map #[] 0)):(Instr.next (.pointer (some ⟨r,0,none⟩)) false t).run P w= .ok (.tuple #[.bool false]) w:=by
 simp [Instr.next,EP h1,run_getObj_map h2,Question.forced]
def aaG {k x:Value} (h1:w.heap[r]? =some (.mapIter (some b) 1 #[] 1)) (h2:w.heap[b]? =some (.map #[{key:=k,val:=x,born:=0}] 1)):
  (Instr.next (.pointer (some ⟨r,0,none⟩)) false t).run P w= .ok (.tuple #[.bool true,k,x]) {w with heap:=w.heap.setIfInBounds r (.mapIter (some b) 1 #[0] 1)}:=by
 simp [Instr.next,EP h1,run_getObj_map h2,aaD h1,Question.forced]
def aaH {k x:Value} (h1:w.heap[r]? =some (.mapIter (some b) 1 #[0] 1)) (h2:w.heap[b]? =some (.map #[{key:=k,val:=x,born:=0}] 1)):
  (Instr.next (.pointer (some ⟨r,0,none⟩)) false t).run P w= .ok (.tuple #[.bool false]) w:=by
 simp [Instr.next,EP h1,run_getObj_map h2,Question.forced]
end
def aaI {b r:Nat} {k x:Value} (h1:w.heap[r]? =some (.mapIter (some b) 1 #[0] 1)) (h2:w.heap[b]? =some (.map #[{key:=k,val:=x,born:=0}] 1)):
  (Instr.entry (.pointer (some ⟨r,0,none⟩))).run P w= .ok (.tuple #[k,x]) w:=by
 simp [Instr.entry,EP h1,run_getObj_map h2]
section
variable (hH:bk P B ρ H w) (he:∀x,Den ρ (ev x) (e x)) {x:Operand}
def aaJ {s:Bool} (ho:o.op= .next x s):cU P B ρ H w ((execOp e o).run P w) (zC x s P o ev H):=by
 unfold zC EA;split
 .rename_i j hx;have hx':=he x;rw [hx]at hx';obtain⟨r,nt,r1,r2⟩:=hx'.kR;have hrun:∀y w',(Instr.next (.pointer (some ⟨r,0,none⟩)) false o.type).run P w= .ok y w'->(execOp e o).run P w= .ok (.value y) w':=fun y w' h=>by simp [execOp,ho,r2,h]
  unfold I1;split
  .rename_i i hj;obtain⟨oj,j1,⟨b,q,j2,tN⟩,_⟩:=hH.at hj r1;subst tN;split
   .rename_i hi;obtain⟨oi,i1,i2,_⟩:=hH.at hi j2;have i2:oi= .map #[] 0:=i2;subst i2;exact fY hH (hrun _ _ (aaF j1 i1)) (.tuple (.cons (.raw _) .nil))
   .trivial
  .rename_i i hj;obtain⟨oj,j1,⟨b,q,j2,tN⟩,_⟩:=hH.at hj r1;subst tN;split
   .rename_i kv v hi;obtain⟨oi,i1,⟨xv,i2,i3⟩,_⟩:=hH.at hi j2;subst i2;obtain⟨q1,aP⟩:=vo hH hj r1 rfl (k:= .iter i 1 true) {w with heap:=w.heap.setIfInBounds r (.mapIter (some b) 1 #[0] 1)} (.mapIter (some b) 1 #[0] 1) rfl rfl rfl (by simp) (Jp _ j1) (fun j hj=>Jo _ hj) ⟨b,q,j2,rfl⟩;exact fun _=>⟨ρ,_,_,_,hrun _ _ (aaG j1 i1),rfl, .tuple (.cons (.raw _) (.cons (.raw _) (.cons i3 .nil))),q1,aP⟩
   .trivial
  .rename_i i hj;obtain⟨oj,j1,⟨b,q,j2,tN⟩,_⟩:=hH.at hj r1;subst tN;split
   .rename_i kv v hi;obtain⟨oi,i1,⟨xv,i2,i3⟩,_⟩:=hH.at hi j2;subst i2;exact fY hH (hrun _ _ (aaH j1 i1)) (.tuple (.cons (.raw _) .nil))
   .trivial
  .trivial
 .trivial
def aaK (ho:o.op= .entry x):cU P B ρ H w ((execOp e o).run P w) (BX x P o ev H):=by
 refine d9 hH fun v hv=> ?_
 unfold P4 at hv;split at hv
 .rename_i j hx;have hx':=he x;rw [hx]at hx';obtain⟨r,nt,r1,r2⟩:=hx'.kR;unfold At at hv;split at hv
  .rename_i i hj;obtain⟨oj,j1,⟨b,q,j2,tN⟩,_⟩:=hH.at hj r1;subst tN;split at hv
   .rename_i kv v' hi;obtain⟨oi,i1,⟨xv,i2,i3⟩,_⟩:=hH.at hi j2;subst i2;cases hv;exact lH (y:= .tuple #[kv,xv]) (by simp [execOp,ho,r2,aaI j1 i1]) (.tuple (.cons (.raw _) (.cons i3 .nil)))
   .cases hv
  .cases hv
 .cases hv
end
def Jr:∀{cs:List af} {bs:List UInt8} {xs:List Value},bytesOf cs=some bs->aI ρ cs xs->xs=bs.map fun b=>Value.int .u8 b.toNat
 |[],bs,_,h, .nil=>by simp [bytesOf]at h;simp [h]
 |v::cs,bs,_,h, .cons hv hs=>by
  unfold bytesOf at h;split at h
  .cases ‹_::_=[]›
  .rename_i n l hl;cases hl;cases hb:Nat.ble (n+1) 256 with
   |false=>rw [hb]at h;cases h
   |true=>
    rw [hb]at h;have hb:=bV hb;simp only [cond_true,am]at h;obtain⟨r,hr,rfl⟩:=h;have:=Jr hr hs;rw [hv.cc,this,List.map_cons];congr 2;have:(UInt8.ofNat n).toNat=n:=by simp;omega
    rw [this];rfl
  .cases h
def ER {b off:Nat} {xs:Array Value} {el:TypeId} {fz:Nat×Nat} {n k:Nat} (h:w.heap[b]? =some (.cells xs el fz)):∀(j:Nat) (y:Value),(((xs.toList.take n).drop off).take k)[j]? =some y->w.cell? ((⟨b,off,none⟩:Addr).add j)=some y:=fun j y hj=>by
 rw [j0,cell_of h];rw [List.getElem?_take]at hj;split at hj
 .rw [List.getElem?_drop]at hj;exact xA hj
 .cases hj
def Js {cs:List af} {xs:List Value} {off n:Nat} (hd:aI ρ cs xs) (h:off+n<=cs.length):((xs.drop off).take n).length=n:=by
 have:=hd.length;simp only [eM,nU];omega
def uc {b:Nat} {xs:Array Value} {el:TypeId} {fz:Nat×Nat} (h:w.heap[b]? =some (.cells xs el fz)):w.shape? b=some (el,xs.size):=by simp [World.shape?,h]
def aaL (hH:bk P B ρ H w) (he:∀x,Den ρ (ev x) (e x)) {s d:TypeId} {x:Operand} (ho:o.op= .convert s d x):cU P B ρ H w ((execOp e o).run P w) (zx s d x P o ev H):=by
 have hp:qm o.op=true:=by rw [ho];rfl
 have hx:=he x;have QM:cU P B ρ H w ((execOp e o).run P w) (eT ((gen P o ev).map fun v=>(v,H))):=by
  have:=vr (P:=P) (w:=w) hH he hp;cases hg:gen P o ev with
  |none=>trivial
  |some v=>rw [hg]at this;exact this
 have hrun:∀y w',(convert s d (e x)).run P w= .ok y w'->(execOp e o).run P w= .ok (.value y) w':=fun y w' h=>by simp [execOp,ho,h]
 unfold zx;unfold BU;split
 .rename_i i off len cap gD;rw [gD]at hx;obtain⟨b,c,k,h1,hc,hl,h2⟩:=hx.iz;split
  .rename_i el e' cs ex cG ro hs hd hg;split
   .rename_i hel;cases hb:Nat.ble (off+len) cs.length with
    |false=>trivial
    |true=>
     have hb:=bV hb;simp only [cond_true];cases lK:bytesOf (cut cs off len)with
     |none=>trivial
     |some bs=>
      obtain⟨xs,fz,g1,_,g3,_⟩:=dp hH hg h1;have q1:=Jr lK ((g3.drop off).take len);have hlen:bs.length=len:=by have:=Js g3 hb;rw [q1]at this;simpa using this
      subst hlen;refine fY hH (y:= .string ⟨bs.toArray⟩) (hrun _ _ ?_) (.raw _);rw [h2];refine run_convert_bytes_back w s d el ⟨b,off,none⟩ k bs hs hel hd fun j hj=> ?_
      have hcut:=ER (n:=cs.length) (k:=bs.length) (off:=off) g1 j (.int .u8 bs[j].toNat);rw [q1]at hcut;exact hcut (by simp [hj])
   .trivial
  .trivial
 .rename_i i off gD;rw [gD]at hx;obtain⟨b,c,h1,h2⟩:=hx.kR;split
  .rename_i t el cs ex cG ro hs hd hg;split
   .rename_i n hn;cases hb:Nat.ble (off+1) cs.length with
    |false=>trivial
    |true=>
     have hb:=bV hb;obtain⟨xs,fz,g1,_,g3,_,_,g6⟩:=dp hH hg h1;obtain⟨inf,hi,hsz⟩:=xq hn;refine fY hH (y:= .pointer (some ⟨b,off,none⟩)) (hrun _ _ ?_) (.ptr h1);rw [h2];exact run_convert_to_unsafe (t:=t) hs hd (by simp [hi,hsz]) (v:=xs[off]'(by omega)) (by rw [cell_of g1];exact Array.getElem?_eq_getElem (by omega))
   .trivial
  .rename_i u el cs cG ro hs hd hg;cases hb:((ey P u).isSome&&liesAt P P.depth el (cs.length/P.cellsOf el) off u 1)with
   |false=>trivial
   |true=>
    rw [ae]at hb;obtain⟨kq,hb⟩:=hb;obtain⟨n,hn⟩:=Option.isSome_iff_exists.1 kq;obtain⟨xs,fz,g1,_,g3,g4,_,g6⟩:=dp hH hg h1;have hsz:=g4 rfl;refine fY hH (y:= .pointer (some ⟨b,off,none⟩)) (hrun _ _ ?_) (.ptr h1);rw [h2];have hsh:=uc g1;rw [hsz]at hsh;simp [convert,dB hs,dB hd,Conv.unsafePointer,Conv.seenAt,viewAt,hsh,jZ hn,variablesAt,hb]
  .trivial
 .rename_i ji gD;split
  .rename_i el hs hd;split
   .rename_i hel;cases hb:Nat.beq (P.cellsOf el) 1 with
    |false=>trivial
    |true=>
     have hb:=ac hb;rw [gD]at hx;have ex:=hx.cc;intro hf;have hr:=run_bytes_of_string (P:=P) w s d el ji hs hd hel;obtain⟨q1,aP⟩:=tH hH.drew hf (grownCap w ji.size 0 el) (.cells el (ji.data.toList.map fun x=> .raw (.int .u8 x.toNat)) false true false)
      (.cells (bytesRow ji (grownCap w ji.size 0 el)) el ((bytesRow ji (grownCap w ji.size 0 el)).size,(bytesRow ji (grownCap w ji.size 0 el)).size+1)) (by
        have hge:=grownCap_ge w ji.size 0 el;refine⟨_,_,rfl,(fun h=>by cases h), ?_,(fun h=>by cases h),fun _=>⟨_,_,Env.dA .., ?_⟩⟩
        .have e1:(bytesRow ji (grownCap w ji.size 0 el)).toList.take (ji.data.toList.map fun x=>af.raw (.int .u8 x.toNat)).length=ji.data.toList.map fun x=>Value.int .u8 x.toNat:=by
          simp only [bytesRow,Array.toList_append,Array.toList_map,zi];rw [List.take_left' (by simp)]
         rw [e1];have:=aI.rJ (ρ:=ρ.put H.next w.drew.heap.size (grownCap w ji.size 0 el)) (ji.data.toList.map fun x=>Value.int .u8 x.toNat);simpa [List.map_map,Function.comp_def]using this
        .rw [hb,Nat.mul_one];have hsz:ji.data.size=ji.size:=rfl;simp only [bytesRow,Array.size_append,Array.size_map,Array.size_replicate,hsz];omega)
     refine⟨_, .slice (some ⟨w.heap.size,0,none⟩) ji.size (grownCap w ji.size 0 el),_,_,hrun _ _ (by rw [ex];exact hr),rfl, ?_,q1,aP.drew⟩;exact .slice (Env.dA ..) rfl (grownCap_ge w ji.size 0 el)
   .trivial
  .exact QM
 .exact QM
end
section
variable {P:Program} {B:Nat} {ρ:Env} {H:ai} {w:World} {o:Oper} {ev:dO} {e:Operand->Value}
def QN (hH:bk P B ρ H w) {s n:Nat} {x:af} {y:Value} {news:List af} {tx:TypeId} (hk:(∃e',P.underlying tx=some (.slice e'))\/P.underlying tx=some .string) (h:src H s x=some (news,n)) (hx:Den ρ x y):
  ∃ys,aI ρ news ys/\ys.length=n*s/\((∀u∈ys,u.oneCell'=true)->Go.Src P s tx y n ys w):=by
 unfold src at h;split at h
 .rename_i c;cases h;have:=hx.cc;subst this;exact⟨[], .nil,by simp,fun _=>⟨hk,fun _=>rfl,run_firstCells_none w s 0 0 c,run_firstCells_none w.drew s 0 0 c,by simp,fun _ h=>by cases h⟩⟩
 .rename_i b;cases hs:Nat.beq s 1 with
  |false=>rw [hs]at h;cases h
  |true=>
   rw [hs]at h;cases h;have hs:=ac hs;subst hs;have:=hx.cc;subst this;have hd:=aI.rJ (ρ:=ρ) (byteCells b);refine⟨byteCells b, ?_,by rw [byteCells_length,Nat.mul_one],fun h1=>⟨hk,fun _=>rfl,firstCells_string b w,firstCells_string b w.drew,by rw [byteCells_length,Nat.mul_one],h1⟩⟩;simpa [byteCells,List.map_map,Function.comp_def]using hd
 .rename_i i off len cap;split at h
  .rename_i el cs ex cG ro hg;cases hb:Nat.ble (off+len*s) cs.length with
   |false=>rw [hb]at h;cases h
   |true=>
    rw [hb]at h;cases h;have hb:=bV hb;obtain⟨b,c,k,h1,_,_,rfl⟩:=hx.iz;obtain⟨xs,fz,g1,_,g3,_⟩:=dp hH hg h1;have hl:=Js g3 hb;refine⟨_,(g3.drop off).take (n*s),hl,fun ho=>⟨hk,fun _=>rfl,run_firstCells_some w s n ⟨b,off,none⟩ n k _ hl (ER g1),run_firstCells_some w.drew s n ⟨b,off,none⟩ n k _ hl (ER (w:=w.drew) g1),hl,ho⟩⟩
  .cases h
 .cases h
section
variable {t tx ty el:TypeId} {i:TypeInfo} (ht:P.underlying t=some (.slice el))
def ES (hi:P.info? el=some i) {y:Value} (hs:Go.Src P i.size tx y 0 [] w) (base:Option Addr) {len k:Nat} (hl:len<=k):
  (Builtin.append_ #[t,tx] ty #[.slice base len k,y]).run P w= .ok (.slice base len k) w:=by
 rcases hs.kind with⟨e',hk⟩|hk<;>cases base<;>simp [Builtin.append_,run_underlying ht,run_underlying hk,sizeOf,typeInfo,hi,hs.len,hs.cells,hl,storeCells]
def QO (hi:P.info? el=some i) {y:Value} {n:Nat} {ys:List Value} (hs:Go.Src P i.size tx y n ys w) {b len k:Nat} (hr:len+n<=k) {w':World}
  (hst:(storeCells ⟨b,len*i.size,none⟩ ys).run P w= .ok () w'):(Builtin.append_ #[t,tx] ty #[.slice (some ⟨b,0,none⟩) len k,y]).run P w= .ok (.slice (some ⟨b,0,none⟩) (len+n) k) w':=by
 rcases hs.kind with⟨e',hk⟩|hk<;>simp [Builtin.append_,run_underlying ht,run_underlying hk,sizeOf,typeInfo,hi,hs.len,hr,hs.cells,Addr.add_lit,hst]
end
def rL {b:Builtin} {args:Array Operand} {argTypes:Array TypeId} (ho:o.op= .call {callee:= .builtin b,args,argTypes}) {eO:Next} {w':World}
  (h:∀cs,(builtin b argTypes o.type cs (args.map e)).run P w= .ok eO w'):(execOp e o).run P w= .ok eO w':=by
 simp only [execOp,ho,resolve,Sem.run_bind,Sem.run_pure,Result.andThen_ok,invoke];exact h _
def aaM {ρ:Env} {i b c:Nat} {el:TypeId} {cs:List af} {xs:Array Value} {zs:Array Value} (hr:ρ i=some (b,c)) (h:aI ρ cs xs.toList) (hsz:(xs++zs).size=c*P.cellsOf el):gT P ρ i (.cells el cs false false false) (.cells (xs++zs) el):=by
 refine⟨_,(0,0),rfl,fun _=>rfl, ?_,(fun h=>by cases h),fun _=>⟨b,c,hr,hsz⟩⟩;rw [Array.toList_append,List.take_left' h.length];exact h
def Jt {el:TypeId} {i:TypeInfo} (hi:P.info? el=some i):P.cellsOf el=i.size:=by simp [Program.cellsOf,hi]
def Ju (hH:bk P B ρ H w) (hf:Fr ρ H.next (H.next+1)) {el:TypeId} {i:TypeInfo} {z:Value} (hi:P.info? el=some i) (hz:z.cells.size=i.size) {cs:List af} {xs:List Value} (hd:aI ρ cs xs) {need old:Nat} (hl:xs.length=need*i.size):
  bk P B (ρ.put H.next w.heap.size (grownCap w need old el)) (H.new (.cells el cs false false false)) (w.drew.alloc (.cells (xs.toArray++Builtin.zeroCells z.cells (grownCap w need old el-need)) el))/\
   bR ρ H w (ρ.put H.next w.heap.size (grownCap w need old el)) (H.new (.cells el cs false false false)) (w.drew.alloc (.cells (xs.toArray++Builtin.zeroCells z.cells (grownCap w need old el-need)) el)):=by
 have hn:ρ H.next=none:=hf H.next (aK _) (fL _);obtain⟨q1,aP⟩:=tH hH.drew hf (grownCap w need old el) (.cells el cs false false false) (.cells (xs.toArray++Builtin.zeroCells z.cells (grownCap w need old el-need)) el)
  (aaM (P:=P) (Env.dA ..) ((show aI ρ cs xs.toArray.toList by simpa using hd).mono (Env.o9 hn)) (by
    have hge:=grownCap_ge w need old el;rw [Jt hi];simp only [Array.size_append,List.size_toArray,size_zeroCells,hz,hl,<-Nat.add_mul];congr 1;omega))
 exact⟨q1,aP.drew⟩
def Jv {need old bytes:Nat} (h:old<need) (hb:need*bytes<=140737488355328):Builtin.nextslicecap need old*bytes<=281474976710656:=growslice_fits h hb
section
variable (hH:bk P B ρ H w)
def QS {t tx ty el:TypeId} {i:TypeInfo} {z:Value} (ht:P.underlying t=some (.slice el)) (hi:P.info? el=some i) (hz:i.zero=some z) (hzs:z.cells.size=i.size) {y:Value} {n:Nat} {ys:List Value} (hs:Go.Src P i.size tx y n ys w)
  {news:List af} (hd:aI ρ news ys) (h1:co news=true) {id len:Nat} {cap:bh} {xv:Value} (hx:Den ρ (.slice id 0 len cap) xv) {q:af×ai} (hv:w4 el i.size i.bytes id len cap news n H=some q) (hf:Fr ρ H.next q.2.next):
  ∃ρ' x w',(Builtin.append_ #[t,tx] ty #[xv,y]).run P w= .ok x w'/\Den ρ' q.1 x/\bk P B ρ' q.2 w'/\bR ρ H w ρ' q.2 w':=by
 unfold w4 at hv;cases hb:bounded (len+n) i.bytes with
 |false=>rw [hb]at hv;cases hv
 |true=>
  rw [hb]at hv;simp only [bounded,ae]at hb;have b1:=bV hb.1;have b2:=bV hb.2;simp only [cond_true]at hv;split at hv
  .rename_i e' cs QT hg;cases Cb:(Nat.beq el e'&&Nat.ble (len*i.size) cs.length)with
   |false=>rw [Cb]at hv;cases hv
   |true=>
    rw [Cb]at hv;rw [ae]at Cb;have b3:=ac Cb.1;have b4:=bV Cb.2;subst b3;simp only [cond_true]at hv;obtain⟨b,c,k,g1,gc,gl,rfl⟩:=hx.iz;obtain⟨xs,fz,k1,k2,c8,jh,pn,xB⟩:=dp hH hg g1;have hfz:=k2 rfl;subst hfz
    -- the elements that were there
    have QU:((xs.toList.take cs.length).take (len*i.size)).length=len*i.size:=by
     have:=c8.length;rw [eM,this];omega
    have hold:aI ρ (cs.take (len*i.size)) ((xs.toList.take cs.length).take (len*i.size)):=c8.take _;have aaN:=run_firstCells_some (P:=P) w.drew i.size len ⟨b,0,none⟩ len k _ QU (fun j v hj=>by
     rw [List.take_take]at hj;have:=xA (n:=min (len*i.size) cs.length) hj;rw [j0];show w.cell? _=_;rw [cell_of k1];simpa using this)
    have hys:=hs.newsLen
    -- the way that lays a new row
    have grow:k<len+n->∀H0:ai,bk P B ρ H0 w->bR ρ H w ρ H0 w->H0.next=H.next->q=(.slice H0.next 0 (len+n) .full,H0.new (.cells el (cs.take (len*i.size)++news) false false false))->
      ∃ρ' x w',(Builtin.append_ #[t,tx] ty #[.slice (some ⟨b,0,none⟩) len k,y]).run P w= .ok x w'/\Den ρ' q.1 x/\bk P B ρ' q.2 w'/\bR ρ H w ρ' q.2 w':=by
     intro hlt H0 ET aaO hnx hq;subst hq;have hf':Fr ρ H0.next (H0.next+1):=by rw [hnx];have:(H0.new (.cells el (cs.take (len*i.size)++news) false false false)).next=H0.next+1:=rfl;rw [this,hnx]at hf;exact hf
     have hr:=run_append_grow_src (P:=P) w t tx ty el i z ht hi hz (some ⟨b,0,none⟩) len k _ aaN y n ys hs hlt (by omega) (Jv hlt b1);obtain⟨q1,aP⟩:=Ju ET hf' (need:=len+n) (old:=k) hi hzs (hold.append hd) (by rw [dy,QU,hys,Nat.add_mul]);exact⟨_,_,_,hr, .slice (Env.dA ..) rfl (grownCap_ge w (len+n) k el),q1,aaO.trans aP⟩
    cases cap with
    |known c'=>
     have hkc:k=c':=gc;subst hkc;simp only at hv;cases Cc:Nat.ble (len+n) k with
     |true=>
      rw [Cc]at hv;have gF:=bV Cc;simp only [cond_true,am]at hv;obtain⟨cs',hp,rfl⟩:=hv;obtain⟨_,w',_,r2,r3,mE⟩:=EO hH hg g1 hp hd h1;exact⟨ρ,_,w',QO ht hi hs gF r2, .slice g1 rfl gF,r3,mE⟩
     |false=>
      rw [Cc]at hv;simp only [cond_false,tj]at hv;have hlt:k<len+n:=by
       refine Nat.lt_of_not_le fun hh=> ?_
       rw [fK hh]at Cc;cases Cc
      exact grow hlt H hH (bR.refl _ _ _) rfl hv.symm
    |full=>
     have hkc:k=c:=gc;subst hkc;cases QT with
     |true=>cases hv
     |false=>
      simp only [cond_false,tj]at hv;by_cases hlt:k<len+n
      .obtain⟨d1,d2⟩:=Qb hH id;exact grow hlt (H.drop id) d1 d2 rfl hv.symm
      .have hle:len+n<=k:=Nat.le_of_not_lt hlt;subst hv;have hxs:=pn rfl;have hsz:len*i.size+ys.length<=xs.size:=by
        rw [hxs,Jt hi,hys,<-Nat.add_mul];exact Nat.mul_le_mul_right _ hle
       have hst:=run_storeCells_at P b (len*i.size) el ys 0 xs w k1 (by simpa using hsz) hs.one;simp only [Nat.add_zero]at hst;have hn:ρ H.next=none:=hf H.next (aK _) (fL _);obtain⟨r3,mE⟩:=Zx hH hf hg g1 rfl (k:= .cells el (cs.take (len*i.size)++news) false false false) (w.setRow b (xs.toList.take (len*i.size)++ys++xs.toList.drop (len*i.size+ys.length)).toArray)
        (.cells (xs.toList.take (len*i.size)++ys++xs.toList.drop (len*i.size+ys.length)).toArray el (0,0)) rfl rfl rfl (by simp) (setRow_heap w b xs _ el (0,0) k1) (fun j hj=>setRow_other w b j _ hj) (by
          refine⟨_,_,rfl,fun _=>rfl, ?_,(fun h=>by cases h),fun _=>⟨b,k,Env.dA .., ?_⟩⟩
          .have e1:(xs.toList.take cs.length).take (len*i.size)=xs.toList.take (len*i.size):=by rw [List.take_take,Nat.min_eq_left b4]
           have hd':=(hold.append hd);rw [e1]at hd';have e2:((xs.toList.take (len*i.size)++ys++xs.toList.drop (len*i.size+ys.length)).toArray.toList).take (cs.take (len*i.size)++news).length=xs.toList.take (len*i.size)++ys:=by
            show(xs.toList.take (len*i.size)++ys++xs.toList.drop (len*i.size+ys.length)).take _=_;exact List.take_left' hd'.length
           rw [e2];exact hd'.mono (Env.o9 hn)
          .rw [<-hxs];simp;omega)
       exact⟨_,_,_,QO ht hi hs hle hst, .slice (Env.dA ..) rfl hle,r3,mE⟩
    |any=>cases hv
  .cases hv
def aaP {t tx ty:TypeId} (hk:(∃e',P.underlying tx=some (.slice e'))\/P.underlying tx=some .string) {s x:af} {sv y:Value} (hs:Den ρ s sv) (hx:Den ρ x y) {q:af×ai} (hv:zn P t s x H=some q) (hf:Fr ρ H.next q.2.next):
  ∃ρ' r w',(Builtin.append_ #[t,tx] ty #[sv,y]).run P w= .ok r w'/\Den ρ' q.1 r/\bk P B ρ' q.2 w'/\bR ρ H w ρ' q.2 w':=by
 unfold zn at hv;simp only [dN]at hv;obtain⟨el,hel,i,hi,z,hz,hv⟩:=hv;have ht:=xu hel;cases hb:(Nat.beq z.cells.size i.size&&Nat.ble 1 i.size)with
 |false=>rw [hb]at hv;cases hv
 |true=>
  rw [hb]at hv;rw [ae]at hb;have b1:=ac hb.1;have b2:=bV hb.2;simp only [cond_true,dN]at hv;obtain⟨sn,nu,hv⟩:=hv;obtain⟨news,n⟩:=sn;obtain⟨ys,g1,g2,g3⟩:=QN hH hk nu hx;cases lM:Nat.beq n 0 with
  |true=>
   simp only [lM,cond_true]at hv;have hn:=ac lM;subst hn;have hys:ys=[]:=List.eq_nil_of_length_eq_zero (by simpa using g2);subst hys;have hs':=g3 (fun _ h=>by cases h);split at hv
   .cases hv;have:=hs.cc;subst this;exact⟨ρ,_,w,ES ht hi hs' none (aK 0), .raw _,hH,bR.refl _ _ _⟩
   .cases hv;obtain⟨b,c,k,k1,_,k2,rfl⟩:=hs.iz;exact⟨ρ,_,w,ES ht hi hs' _ k2,hs,hH,bR.refl _ _ _⟩
   .cases hv
  |false=>
   simp only [lM,cond_false]at hv;cases h1:co news with
   |false=>simp only [h1,cond_false]at hv;cases hv
   |true=>
    simp only [h1,cond_true]at hv;have hs':=g3 (g1.one h1);split at hv
    .have:=hs.cc;subst this;cases hbd:bounded n i.bytes with
     |false=>rw [hbd]at hv;cases hv
     |true=>
      rw [hbd]at hv;cases hv;simp only [bounded,ae]at hbd;have c1:=bV hbd.1;have c2:=bV hbd.2;have hn0:0<n:=Nat.pos_of_ne_zero fun hh=>by subst hh;cases lM
      have hr:=run_append_grow_src (P:=P) w t tx ty el i z ht hi hz none 0 0 [] (run_firstCells_none w.drew i.size 0 0 0) y n ys hs' (by omega) (by omega) (Jv (by omega) (by simpa using c1));obtain⟨q1,aP⟩:=Ju hH hf (need:=n) (old:=0) hi b1 g1 g2;simp only [aw,List.nil_append]at hr;exact⟨_,_,_,hr, .slice (Env.dA ..) rfl (grownCap_ge w n 0 el),q1,aP⟩
    .exact QS hH ht hi hz b1 hs' g1 h1 hs hv hf
    .cases hv
def aaQ {t tx ty:TypeId} {d x:af} {dv y:Value} (hd:Den ρ d dv) (hx:Den ρ x y) {q:af×ai} (hv:zq P t d x H=some q):
  ∃r w',(Builtin.copy_ #[t,tx] ty #[dv,y]).run P w= .ok r w'/\Den ρ q.1 r/\bk P B ρ q.2 w'/\bR ρ H w ρ q.2 w':=by
 unfold zq at hv;simp only [dN]at hv;obtain⟨el,hel,s,hs,hv⟩:=hv;have ht:=xu hel;obtain⟨i,hi,rfl⟩:=xq hs;split at hv
 .rename_i j rF n cn id off len cap;simp only [dN]at hv;obtain⟨sn,nu,hv⟩:=hv;obtain⟨news,n'⟩:=sn;split at hv
  .rename_i e' cs ex hg;cases h1:co (news.take (Nat.min n len*i.size))with
   |false=>simp only [h1,cond_false]at hv;cases hv
   |true=>
    simp only [h1,cond_true,am]at hv;obtain⟨cs',hp,rfl⟩:=hv
    -- the source
    unfold src at nu;simp only at nu;split at nu
    .rename_i aub zO auc aud aue hg2;cases hb:Nat.ble (rF+n*i.size) zO.length with
     |false=>rw [hb]at nu;cases nu
     |true=>
      rw [hb]at nu;cases nu;have hb:=bV hb;obtain⟨b2,c2,k2,p1,_,_,rfl⟩:=hx.iz;obtain⟨b,c,k,g1,_,_,rfl⟩:=hd.iz;obtain⟨aaR,auf,m1,_,m3,_⟩:=dp hH hg2 p1;have hmin:Nat.min n len*i.size<=n*i.size:=Nat.mul_le_mul_right _ (Nat.min_le_left _ _);have hcut:(cut zO rF (n*i.size)).take (Nat.min n len*i.size)=cut zO rF (Nat.min n len*i.size):=by
       simp only [cut];rw [List.take_take,Nat.min_eq_left hmin]
      rw [hcut]at hp h1;have hdn:aI ρ (cut zO rF (Nat.min n len*i.size)) (((aaR.toList.take zO.length).drop rF).take (Nat.min n len*i.size)):=(m3.drop rF).take _;have hl:=Js m3 (off:=rF) (n:=Nat.min n len*i.size) (by omega);have hf:=run_firstCells_some (P:=P) w i.size (Nat.min n len) ⟨b2,rF,none⟩ n k2 _ hl (ER m1);obtain⟨_,w',_,r2,r3,mE⟩:=EO hH hg g1 hp hdn h1;refine⟨goInt (Nat.min n len),w', ?_, .raw _,r3,mE⟩;simp [Builtin.copy_,dB ht,Builtin.lenOf,jZ hs,hf,r2]
    .cases nu
  .cases hv
 .rename_i id off len cap;cases hv;obtain⟨b,c,k,g1,_,_,rfl⟩:=hd.iz;have:=hx.cc;subst this;exact⟨goInt 0,w,by simp [Builtin.copy_,dB ht,Builtin.lenOf,Builtin.firstCells,jZ hs,storeCells], .raw _,hH,bR.refl _ _ _⟩
 .cases hv
def aaS {t ty:TypeId} {j off len:Nat} {cap:bh} {dv:Value} (hd:Den ρ (.slice j off len cap) dv) {q:af×ai} (hv:zu P t j off len H=some q):
  ∃r w',(Builtin.clear_ #[t] ty #[dv]).run P w= .ok r w'/\Den ρ q.1 r/\bk P B ρ q.2 w'/\bR ρ H w ρ q.2 w':=by
 unfold zu at hv;simp only [dN]at hv;obtain⟨el,hel,s,hs,z,hz,hv⟩:=hv;have ht:=xu hel;split at hv
 .rename_i e' cs ex hg;cases hb:(Nat.ble 1 len&&Nat.beq z.cells.size s&&co (List.replicate len (iS z.cells)).flatten)with
  |false=>rw [hb]at hv;cases hv
  |true=>
   rw [hb]at hv;simp only [ae]at hb;obtain⟨⟨b1,b2⟩,b3⟩:=hb;have b1:=bV b1;simp only [cond_true,am]at hv;obtain⟨cs',hp,rfl⟩:=hv;obtain⟨b,c,k,g1,_,_,rfl⟩:=hd.iz;obtain⟨inf,_,rfl⟩:=xq hs;have b2:=ac b2;have hzl:(Builtin.zeroCells z.cells len).toList=((Array.range (len*inf.size)).map (z.cells[· %z.cells.size]!)).toList:=by unfold Builtin.zeroCells;rw [b2]
   have hdn:aI ρ (List.replicate len (iS z.cells)).flatten (Builtin.zeroCells z.cells len).toList:=by
    by_cases h0:1<=inf.size
    .rw [hzl,EM z.cells inf.size b2 h0,Jm];exact aI.rJ _
    .have lM:inf.size=0:=by omega
     have Cd:z.cells= #[]:=Array.eq_empty_of_size_eq_zero (b2.trans lM);rw [Cd];have e1:(List.replicate len (iS #[])).flatten=[]:=by simp [iS]
     have e2:(Builtin.zeroCells #[] len).toList=[]:=by unfold Builtin.zeroCells;simp
     rw [e1,e2];exact .nil
   obtain⟨_,w',_,r2,r3,mE⟩:=EO hH hg g1 hp hdn b3;refine⟨.tuple #[],w', ?_, .raw _,r3,mE⟩;obtain⟨n,rfl⟩:∃n,len=n+1:=⟨len-1,by omega⟩;have aaT:(zeroValue el).run P w= .ok z w:=EF hz w;simp [Builtin.clear_,dB ht,aaT,r2]
 .cases hv
end
def dq {α:Type} {b:Bool} {x:Option α} {q:α} (h:cond b x none=some q):b=true/\x=some q:=by
 cases b
 .cases h
 .exact⟨rfl,h⟩
def QV {b n:Nat} {xs:Array Value} {el:TypeId} {fz:Nat×Nat} (h:w.heap[b]? =some (.cells xs el fz)):(∃xC,(w.freeze ⟨b,0,none⟩ n).heap[b]? =some (.cells xs el xC))/\∀j,j≠b->(w.freeze ⟨b,0,none⟩ n).heap[j]? =w.heap[j]? :=by
 unfold World.freeze;split
 .exact⟨⟨fz,h⟩,fun _ _=>rfl⟩
 .obtain⟨lo,hi⟩:=fz;refine⟨⟨_,by simp only [Array.getElem?_modify,h];rfl⟩,fun j hj=> ?_⟩;simp only [Array.getElem?_modify];rw [if_neg (Ne.symm hj)]
def QW (n:Nat) (a:Addr):(w.freeze a n).os=w.os/\(w.freeze a n).tape=w.tape/\(w.freeze a n).output=w.output/\(w.freeze a n).heap.size=w.heap.size:=by
 unfold World.freeze;split<;>simp
def aaU (hH:bk P B ρ H w) {pt it ty:TypeId} {x n:af} {y aB:Value} (hx:Den ρ x y) (hn:Den ρ n aB) {q:af×ai} (hv:vh P pt x n H=some q):
  ∃r w',(Builtin.unsafeString_ #[pt,it] ty #[y,aB]).run P w= .ok r w'/\Den ρ q.1 r/\bk P B ρ q.2 w'/\bR ρ H w ρ q.2 w':=by
 unfold vh at hv;split at hv
 .rename_i i;split at hv
  .rename_i m;split at hv
   .rename_i el e' cs ex cG hp hg;cases hb:(Nat.beq el e'&&Nat.beq (P.cellsOf el) 1&&Nat.ble 1 m&&Nat.ble m cs.length&&Nat.ble m 140737488355328)with
    |false=>rw [hb]at hv;cases hv
    |true=>
     rw [hb]at hv;simp only [ae]at hb;obtain⟨⟨⟨⟨b1,b2⟩,b3⟩,b4⟩,gF⟩:=hb;have b1:=ac b1;have b2:=ac b2;have b3:=bV b3;have b4:=bV b4;have gF:=bV gF;subst b1;simp only [cond_true,am]at hv;obtain⟨bs,lK,rfl⟩:=hv;obtain⟨b,c,h1,rfl⟩:=hx.kR;have:=hn.cc;subst this;obtain⟨xs,fz,g1,_,g3,g4,g5,g6⟩:=dp hH hg h1;have q1:=Jr lK (g3.take m);have hlen:bs.length=m:=by
      have h9:=congrArg List.length q1;have:=g3.length;rw [eM,this,zi]at h9;omega
     subst hlen;have hr:=Lib.run_unsafeString_row (P:=P) w pt it ty el hp b2 b xs.size (uc g1) bs (by intro hh;subst hh;simp at b3) (by omega) (by omega) (fun j x hj=>by
      rw [j0,cell_of g1];refine xA (n:=cs.length) ?_;have h9:((xs.toList.take cs.length).take bs.length)[j]? =some (.int .u8 x.toNat):=by rw [q1];simp [hj]
      rw [List.getElem?_take]at h9;split at h9
      .simpa using h9
      .cases h9)
     obtain⟨⟨xC,f1⟩,f2⟩:=QV (n:=bs.length) g1;obtain⟨e1,e2,e3,bW⟩:=QW (w:=w) bs.length ⟨b,0,none⟩;obtain⟨r3,mE⟩:=vo hH hg h1 rfl (k:= .cells el cs ex true false) _ _ e1 e2 e3 bW f1 f2 ⟨xs,xC,rfl,(fun h=>by cases h),g3,g4,fun hx=>⟨b,c,h1,g5 hx⟩⟩;exact⟨_,_,hr, .raw _,r3,mE⟩
   .cases hv
  .cases hv
 .rename_i e' u i;split at hv
  .rename_i m;obtain⟨hb,hv⟩:=dq hv;cases hv;simp only [ae]at hb;obtain⟨b1,b2,b3,b4,gF⟩:=hb;have b2:=bV b2;have b3:=bV b3;unfold EB at b1;split at b1
   .rename_i el hp;simp only [ae]at b1;obtain⟨a1,a2,a3⟩:=b1;have a1:=ac a1;have a2:=ac a2;have a3:=ap a3;subst a1;subst a3;obtain⟨d1,d2⟩:=vq b4;obtain⟨b,c,h1,rfl⟩:=hx.xo;have:=hn.cc;subst this;generalize bP (av.int .u8) (H.get i)=xs at*;obtain⟨ys,g1,g2,_,g4,_,_⟩:=rK hH d1 h1;have gF:dS (o5 (xs.take m))=xs.take m:=ap gF;have hfl:(av.flat (.int .u8) xs).length=xs.length:=by rw [av.jf];exact Nat.mul_one _
    have iA:(o5 (xs.take m)).data.toList.length=m:=by
     have:=congrArg List.length gF;unfold dS at this;rw [zi,eM]at this;omega
    have key:∀(j:Nat) (x:UInt8),(o5 (xs.take m)).data.toList[j]? =some x->ys.toList[j]? =some (.int .u8 x.toNat):=fun j x hj=>by
     have hjm:j<m:=by rw [<-iA];exact(List.getElem?_eq_some_iff.1 hj).1
     have e1:(dS (o5 (xs.take m)))[j]? =some (x.toNat:Int):=by unfold dS;rw [List.getElem?_map,hj];rfl
     rw [gF,List.getElem?_take,if_pos hjm]at e1;have e2:(av.flat (.int .u8) xs)[j]? =some (.raw (.int .u8 (x.toNat:Int))):=by
      have:∀l:List Int,av.flat (.int .u8) l=l.map fun z=>af.raw (.int .u8 z):=fun l=>by
       induction l with
       |nil=>rfl
       |cons z l ih=>exact congrArg (af.raw (.int .u8 z):: ·) ih
      rw [this,List.getElem?_map,e1];rfl
     obtain⟨y,y1,y2⟩:=g2.get e2;have:=y2.cc;subst this;rw [List.getElem?_take]at y1;split at y1
     .exact y1
     .cases y1
    have hr:=Lib.run_unsafeString_row (P:=P) w pt it ty el hp a2 b ys.size (uc g1) (o5 (xs.take m)).data.toList (by intro hh;rw [hh]at iA;simp at iA;omega) (by omega) (by omega) (fun j x hj=>by
     rw [j0,cell_of g1];have:=key j x hj;rw [aw,<-Array.getElem?_toList];exact this)
    rw [iA]at hr;obtain⟨⟨xC,f1⟩,f2⟩:=QV (n:=m) g1;obtain⟨e1,e2,e3,bW⟩:=QW (w:=w) m ⟨b,0,none⟩;obtain⟨r3,mE⟩:=Zw hH d1 h1 rfl _ e1 e2 e3 bW f2;refine⟨_,_, ?_, .raw _,r3,mE⟩;simpa using hr
   .cases b1
  .cases hv
 .cases hv
structure ff (P:Program):Prop where
 EU:∀(f:FuncId) (fn:Func),P.funcs[f]? =some fn->fn.body.isSome=true->(fn.name== "runtime.NumGoroutine")=false
 QX:∀(f:FuncId) (fn:Func),P.funcs[f]? =some fn->fn.body=none->(fn.name== "internal/abi.NoEscape")=true->∀x w,(callFunc f #[x]).run P w= .ok (.value x) w
 makeNoZero:∀(f:FuncId) (fn:Func) (t el:TypeId),P.funcs[f]? =some fn->fn.body=none->(fn.name== "internal/bytealg.MakeNoZero")=true->fn.resultTypes[0]? =some t->P.underlying t=some (.slice el)->∀(n:Nat) w,n<=140737488355328->
  ∃cs:Array Value,n<=cs.size/\(callFunc f #[.int .i64 n]).run P w= .ok (.value (.slice (some ⟨w.heap.size,0,none⟩) n cs.size)) (w.drew.drew.alloc (.cells cs el))
def aaV (hK:ff P) {f:FuncId} {fn:Func} {c:Code} (hf:P.funcs[f]? =some fn) (hb:fn.body=some c) (args:Array Value) (w:World):(callFunc f args).run P w= .ok (.enter f args) w:=by
 have h1:¬fn.name= "runtime.NumGoroutine" :=by simpa using hK.EU f fn hf (by simp [hb])
 simp [callFunc,hf,h1,hb]
section
variable (hK:ff P) (hH:bk P B ρ H w)
def aaW {f:FuncId} {fn:Func} (hf:P.funcs[f]? =some fn) (hb:fn.body=none) {args:List af} {xs:List Value} (hd:aI ρ args xs):cU P B ρ H w ((callFunc f xs.toArray).run P w) (eT (zv P f fn args H)):=by
 unfold zv;cases hr:af.kP args with
 |some vs=>
  have hxs:=hd.kP hr;subst hxs;simp only;split
  .rename_i v hv;exact fY hH (n5 _ w hv) (.raw v)
  .cases hn:fn.name== "internal/bytealg.MakeNoZero" with
   |false=>simp only [cond_false];trivial
   |true=>
    simp only [cond_true];split
    .rename_i n t ht;cases hel:lG P t with
     |none=>trivial
     |some el=>
      simp only [Option.bind_some];cases hbb:(Nat.ble n 140737488355328&&Nat.beq (P.cellsOf el) 1)with
      |false=>simp only [cond_false];trivial
      |true=>
       simp only [cond_true];rw [ae]at hbb;have b1:=bV hbb.1;have b2:=ac hbb.2;have hx:xs=[.int .i64 n]:=by
        cases hd with
        |cons h1 h2=>cases h2 with
         |nil=>rw [h1.cc];rfl
       subst hx;obtain⟨cs,c1,c2⟩:=hK.makeNoZero f fn t el hf hb hn ht (xu hel) n w b1;intro hfr;obtain⟨q1,aP⟩:=tH hH.drew.drew hfr cs.size (.cells el [] false false false) (.cells cs el) ⟨cs,(0,0),rfl,fun _=>rfl,by simpa using aI.nil,(fun h=>by cases h),fun _=>⟨_,_,Env.dA ..,by rw [b2,Nat.mul_one]⟩⟩;exact⟨_,_,_,_,c2,rfl, .slice (Env.dA ..) rfl c1,q1,aP.drew.drew⟩
    .trivial
 |none=>
  simp only;split
  .rename_i x;cases hn:fn.name== "internal/abi.NoEscape" with
   |false=>simp only [cond_false];trivial
   |true=>
    simp only [cond_true];cases hd with
    |cons h1 h2=>cases h2 with
     |nil=>exact fY hH (hK.QX f fn hf hb hn _ w) h1
  .trivial
def Jw {f:FuncId} {args:List af} {xs:List Value} (hd:aI ρ args xs):cU P B ρ H w ((callFunc f xs.toArray).run P w) (tu P f args H):=by
 unfold tu;cases hf:P.funcs[f]? with
 |none=>trivial
 |some fn=>
  simp only;cases hb:fn.body with
  |none=>exact aaW hK hH hf hb hd
  |some c=>exact⟨rfl,xs,aaV hK hf hb xs.toArray w,hd⟩
def EV {fv:af} {v:Value} (hv:Den ρ fv v) {args:List af} {xs:List Value} (hd:aI ρ args xs) {r:Result Next}
  (hr:∀fn (first captured:Array Value),v= .func fn first captured->r=(invoke (.fn fn captured) (first++xs.toArray)).run P w):cU P B ρ H w r (mz P fv args H):=by
 have arr:∀a b c:List Value,a.toArray++b.toArray++c.toArray=(a++b++c).toArray:=fun a b c=>by simp
 unfold mz;split
 .rename_i x;have:=hv.cc;subst this;cases hg:w6 v with
  |fn f=>
   simp only;unfold w6 at hg;split at hg
   .rename_i fn;unfold PY at hg;split at hg
    .rename_i f';cases hg;rw [hr _ _ _ rfl];have e1:(⟨[]⟩:Array Value)++xs.toArray=xs.toArray:=by apply Array.ext';simp
     have e2:xs.toArray++(⟨[]⟩:Array Value)=xs.toArray:=by apply Array.ext';simp
     show cU P B ρ H w ((callFunc f ((⟨[]⟩:Array Value)++xs.toArray++(⟨[]⟩:Array Value))).run P w) _;rw [e1,e2];exact Jw hK hH hd
    .cases hg
   .cases hg
  |no=>
   simp only;split
   .rename_i f first captured
    rw [hr _ _ _ rfl];show cU P B ρ H w ((callFunc f (first++xs.toArray++captured)).run P w) _;have e1:first++xs.toArray++captured=(first.toList++xs++captured.toList).toArray:=by apply Array.ext';simp
    rw [e1];exact Jw hK hH (((Ca first).append hd).append (Ca captured))
   .trivial
 .rename_i f first captured
  obtain⟨fs,cs,g1,g2,rfl⟩:=hv.B3;rw [hr _ _ _ rfl];show cU P B ρ H w ((callFunc f (fs.toArray++xs.toArray++cs.toArray)).run P w) _;rw [arr];exact Jw hK hH ((g1.append hd).append g2)
 .rename_i i;obtain⟨b,c,g1,rfl⟩:=hv.Ja;refine⟨rfl,b,c,xs,g1, ?_,hd⟩;rw [hr _ _ _ rfl];have e1:(#[]:Array Value)++xs.toArray=xs.toArray:=by apply Array.ext';simp
  rw [e1];rfl
 .trivial
end
end
section
variable {P:Program} {H:ai} {w:World} {B:Nat} {ρ ρ':Env}
def aaX {cs:List af} {ys:List Value} {m:Nat} {v v':af} (hl:cD ρ ρ') (h:aI ρ cs ys) (hm:cs[m]? =some v) (hv:∀y,Den ρ v y->Den ρ' v' y):aI ρ' (cs.set m v') ys:=by
 refine aI.P9 (by rw [b9];exact h.length) fun i u y hi hy=> ?_
 by_cases him:m=i
 .subst him;have hlt:m<cs.length:=(List.getElem?_eq_some_iff.1 hm).1;rw [List.getElem?_set_self hlt]at hi;cases hi;obtain⟨y',h1,h2⟩:=h.get hm;rw [hy]at h1;cases h1;exact hv y h2
 .rw [List.getElem?_set_ne him]at hi;obtain⟨y',h1,h2⟩:=h.get hi;rw [hy]at h1;cases h1;exact h2.mono hl
def Jx (H:ai) (i j k:Nat) (b:bq):((H.drop i).set j b).get k=if j=k then some b else if i=k then none else H.get k:=by
 rw [ai.gp,ai.o8]
def Jy {i j m:Nat} {e:TypeId} {cs:List af} {x f r:Bool} {v v':af} (hH:bk P B ρ H w) (hl:cD ρ ρ') (ha:∀i,ρ' i=ρ i) (hj:H.get j=some (.cells e cs x f r)) (hij:i≠j) (hm:cs[m]? =some v) (hv:∀y,Den ρ v y->Den ρ' v' y)
  (hfz:∀b A,ρ'.fz b=some A->(∃e fr,w.heap[b]? =some (.cells A e fr))/\∀k kk c,k≠i->H.get k=some kk->ρ k=some (b,c)->kk.eU=true):
  bk P B ρ' ((H.drop i).set j (.cells e (cs.set m v') x f r)) w:=by
 have key:∀k kk,((H.drop i).set j (.cells e (cs.set m v') x f r)).get k=some kk->k≠i/\∃k0,H.get k=some k0/\k0.eU=kk.eU/\∀o,gT P ρ k k0 o->gT P ρ' k kk o:=fun k kk h=>by
  rw [Jx]at h;split at h
  .rename_i hjk;subst hjk;cases h;refine⟨fun h=>hij h.symm,_,hj,rfl,fun o ho=> ?_⟩;obtain⟨zs,fz,h1,h2,h3,h4,h5⟩:=ho;refine⟨zs,fz,h1,h2, ?_,by rw [b9];exact h4,fun hx=> ?_⟩
   .rw [b9];exact aaX hl h3 hm hv
   .obtain⟨b,c,g1,g2⟩:=h5 hx;exact⟨b,c,by rw [ha];exact g1,g2⟩
  .split at h
   .cases h
   .rename_i h1 h2;exact⟨fun h=>h2 h.symm,_,h,rfl,fun o ho=>ho.mono hl⟩
 refine⟨fun k kk h=> ?_,fun i1 i2 k1 k2 b c1 c2 g1 g2 g3 g4=> ?_,fun k kk h=> ?_,hH.base,fun b A h=>⟨(hfz b A h).1,fun k kk c g1 g2=> ?_⟩⟩
 .obtain⟨_,k0,h1,h2,h3⟩:=key k kk h;obtain⟨b,c,o,e1,e2,e3,bW⟩:=hH.blk k k0 h1;exact⟨b,c,o,by rw [ha];exact e1,e2,h3 o e3,fun hr=>bW (by rw [h2];exact hr)⟩
 .obtain⟨_,q1,h1,_⟩:=key _ _ g1;obtain⟨_,aP,h2,_⟩:=key _ _ g2;rw [ha]at g3 g4;exact hH.inj _ _ _ _ _ _ _ h1 h2 g3 g4
 .obtain⟨_,k0,h1,_⟩:=key k kk h;exact hH.lt k k0 h1
 .obtain⟨hne,k0,h1,h2,_⟩:=key k kk g1;rw [ha]at g2;rw [<-h2];exact(hfz b A h).2 k k0 c hne h1 g2
section
variable {i j:Nat} {e:TypeId} {cs cs':List af} {x f r:Bool} {ρ':Env} (ha:∀i,ρ' i=ρ i)
def Jz (hj:H.get j=some (.cells e cs x f r)) {b:Nat} (h:Own ρ' ((H.drop i).set j (.cells e cs' x f r)) b):Own ρ H b:=by
 obtain⟨k,kk,c,h1,h2,h3⟩:=h;rw [ha]at h3;rw [Jx]at h1;split at h1
 .rename_i hjk;subst hjk;cases h1;exact⟨j,_,c,hj,h2,h3⟩
 .split at h1
  .cases h1
  .exact⟨k,kk,c,h1,h2,h3⟩
def aaY (hj:H.get j=some (.cells e cs x f r)) {b:Nat} (h:o7 ρ' ((H.drop i).set j (.cells e cs' x f r)) b):o7 ρ H b:=by
 obtain⟨k,kk,c,h1,h3⟩:=h;rw [ha]at h3;rw [Jx]at h1;split at h1
 .rename_i hjk;subst hjk;cases h1;exact⟨j,_,c,hj,h3⟩
 .split at h1
  .cases h1
  .exact⟨k,kk,c,h1,h3⟩
end
def aaZ {ty:av} {x:af} {b:Bool} {H':ai} (h:w5 ty x H=some (b,H')):H'.next=H.next:=by
 unfold w5 at h;split at h
 .split at h
  .split at h
   .split at h
    .split at h
     .obtain⟨_,h2⟩:=Prod.mk.inj (jV h);rw [<-h2];rfl
     .cases h
    .cases h
   .cases h
  .cases h
 .cases h
def aa0 {ty:av} {x:af} {H':ai} (hH:bk P B ρ H w) (h:w5 ty x H=some (true,H')):∃ρ',(∀i,ρ' i=ρ i)/\bk P B ρ' H' w/\bR ρ H w ρ' H' w/\H'.next=H.next:=by
 unfold w5 at h;split at h
 .rename_i u j off c;split at h
  .rename_i e cs ex f r hj;split at h
   .rename_i e2 u2 i len cap hm;split at h
    .rename_i e3 u3 xs hi;split at h
     .rename_i hb;simp only [ae,bE,Bool.not_eq_true']at hb;obtain⟨rfl,b2,b3⟩:=hb;have b2:=ac b2;subst b2;have hij:i≠j:=fun e=>by subst e;simp at b3
      obtain⟨h1,h2⟩:=Prod.mk.inj (jV h);have hl:=ac h1;subst hl;rw [zG]at hm;obtain⟨b,c',o,hib,ho,_,hB⟩:=hH.blk i _ hi;obtain⟨zs,cT,z2,z3,z4,z5,QY⟩:=rK hH hi hib;have hnf:ρ.fz b=none:=by
       cases hz:ρ.fz b with
       |none=>rfl
       |some A=>
        have:=(hH.fz b A hz).2 i _ c' hi hib;cases this
      have hle:cD ρ ⟨ρ.at',fun q=>if q=b then some zs else ρ.fz q⟩:=⟨fun _ _ h=>h,fun q A h=>by
       show(if q=b then some zs else ρ.fz q)=some A;by_cases hq:q=b
       .subst hq;rw [hnf]at h;cases h
       .rw [if_neg hq];exact h⟩
      have hd:=Jy (ρ':=⟨ρ.at',fun q=>if q=b then some zs else ρ.fz q⟩) (m:=off) (v':= .bu false u2 xs) hH hle (fun _=>rfl) hj hij hm (fun y hy=>by
       rcases hy.jA with⟨h0,a,rfl⟩|⟨b',c2,kc,g1,_,g3,rfl⟩
       .have hx:xs=[]:=List.eq_nil_of_length_eq_zero h0;subst hx;exact .fe fun e=>by cases e
       .rw [hib]at g1;cases g1;refine .bu (A:=zs) (b:=b) (off:=0*u2.size) (by show(if b=b then some zs else _)=_;rw [if_pos rfl]) (by rw [Nat.zero_mul,aw];exact z4) rfl ?_ g3 (fun e=>by cases e);rw [Nat.zero_mul,List.drop_zero];exact z2.mono hle) (fun q A h=>by
       have h:(if q=b then some zs else ρ.fz q)=some A:=h;by_cases hq:q=b
       .subst hq;rw [if_pos rfl]at h;cases h;exact⟨⟨_,_,cT⟩,fun k kk c' hne g1 g2=>absurd (hH.inj k i kk _ q _ _ g1 hi g2 hib) hne⟩
       .rw [if_neg hq]at h;exact⟨(hH.fz q A h).1,fun k kk c _ g1 g2=>(hH.fz q A h).2 k kk c g1 g2⟩)
      rw [h2]at hd;refine⟨⟨ρ.at',fun q=>if q=b then some zs else ρ.fz q⟩,fun _=>rfl,hd,⟨hle,fun _ _=>rfl,Nat.le_of_eq (by rw [<-h2];rfl),aK _,rfl,rfl,rfl,fun _ _ _=>rfl,fun q _ hh=> ?_,fun q _ hh=> ?_,fun q A h=> ?_⟩,by rw [<-h2];rfl⟩
      .rw [<-h2]at hh;exact Jz (fun _=>rfl) hj hh
      .rw [<-h2]at hh;exact aaY (fun _=>rfl) hj hh
      .have h:(if q=b then some zs else ρ.fz q)=some A:=h;by_cases hq:q=b
       .subst hq;exact .inr (.inr ⟨i,_,c',hi,rfl,hib⟩)
       .rw [if_neg hq]at h;exact .inl h
     .cases h
    .cases h
   .cases h
  .cases h
 .cases h
end
section
variable {P:Program} {B:Nat} {ρ:Env} {H:ai} {w:World}
structure Same (P:Program) (ρ:Env) (K K':ai):Prop where
 next:K'.next=K.next
 to:∀j k,K.get j=some k->∃k',K'.get j=some k'/\k'.eU=k.eU/\∀o,gT P ρ j k o->gT P ρ j k' o
 none:∀j,K.get j=none->K'.get j=none
def Same.from {K K':ai} (h:Same P ρ K K') {j:Nat} {k':bq} (hj:K'.get j=some k'):∃k,K.get j=some k/\k'.eU=k.eU/\∀o,gT P ρ j k o->gT P ρ j k' o:=by
 cases hk:K.get j with
 |none=>rw [h.none j hk]at hj;cases hj
 |some k=>
  obtain⟨k2,h1,h2,h3⟩:=h.to j k hk;rw [hj]at h1;cases h1;exact⟨k,rfl,h2,h3⟩
def Same.lI {K K':ai} (h:Same P ρ K K') (hH:bk P B ρ K w):bk P B ρ K' w where
 blk i k hi:=by
  obtain⟨k0,h1,h2,h3⟩:=h.from hi;obtain⟨b,c,o,e1,e2,e3,bW⟩:=hH.blk i k0 h1;exact⟨b,c,o,e1,e2,h3 o e3,fun e=>bW (h2 ▸ e)⟩
 inj i j eN e5 b ci cn hi hj jz fN:=by
  obtain⟨aa1,h1,_⟩:=h.from hi;obtain⟨aa2,h2,_⟩:=h.from hj;exact hH.inj i j aa1 aa2 b ci cn h1 h2 jz fN
 lt i k hi:=by
  obtain⟨k0,h1,_⟩:=h.from hi;rw [h.next];exact hH.lt i k0 h1
 base:=hH.base
 fz b A hb:=⟨(hH.fz b A hb).1,fun i k c hi hr=>by
  obtain⟨k0,h1,h2,_⟩:=h.from hi;rw [h2];exact(hH.fz b A hb).2 i k0 c h1 hr⟩
def Same.own {K K':ai} (h:Same P ρ K K') {b:Nat} (ρ':Env):Own ρ' K b↔Own ρ' K' b:=by
 constructor
 .rintro⟨i,k,c,h1,h2,h3⟩;obtain⟨k',g1,g2,_⟩:=h.to i k h1;exact⟨i,k',c,g1,g2 ▸ h2,h3⟩
 .rintro⟨i,k,c,h1,h2,h3⟩;obtain⟨k',g1,g2,_⟩:=h.from h1;exact⟨i,k',c,g1,g2 ▸ h2,h3⟩
def Same.mB {K K':ai} (h:Same P ρ K K') {b:Nat} (ρ':Env):o7 ρ' K b↔o7 ρ' K' b:=by
 constructor
 .rintro⟨i,k,c,h1,h3⟩;obtain⟨k',g1,_⟩:=h.to i k h1;exact⟨i,k',c,g1,h3⟩
 .rintro⟨i,k,c,h1,h3⟩;obtain⟨k',g1,_⟩:=h.from h1;exact⟨i,k',c,g1,h3⟩
def Same.EW {K K':ai} (h:Same P ρ K K'):bR ρ K w ρ K' w:=
 ⟨cD.refl _,fun _ _=>rfl,Nat.le_of_eq h.next.symm,aK _,rfl,rfl,rfl,fun _ _ _=>rfl,fun _ _ ho=>(h.own ρ).2 ho,fun _ _ ho=>(h.mB ρ).2 ho,fun _ _ h=> .inl h⟩
def JA:∀(t:av) (d:t.den),co (t.cells d)=true
 | .int _,_=>rfl
 | .bool,_=>rfl
 | .str,_=>rfl
 | .list _ _,_=>rfl
 | .pair a b,d=>by
   have h:∀l m:List af,co l=true->co m=true->co (l++m)=true:=fun l m h1 h2=>by
    induction l with
    |nil=>exact h2
    |cons v l ih=>
     obtain⟨q1,aP⟩:=Jb h1;simp [co,q1,ih aP]
   exact h _ _ (JA a d.1) (JA b d.2)
 | .ptr _,_=>rfl
 | .unit,_=>rfl
def fb (t:av):∀(ds:List t.den),co (t.flat ds)=true
 |[]=>rfl
 |d::ds=>by
  have h:∀l m:List af,co l=true->co m=true->co (l++m)=true:=fun l m h1 h2=>by
   induction l with
   |nil=>exact h2
   |cons v l ih=>
    obtain⟨q1,aP⟩:=Jb h1;simp [co,q1,ih aP]
  rw [av.zI];exact h _ _ (JA t d) (fb t ds)
def aa3 (hH:bk P B ρ H w) {ty:av} {n:Nat} {x:af} {y:Value} {ds:List ty.den} {tx:TypeId} (hk:(∃e',P.underlying tx=some (.slice e'))\/P.underlying tx=some .string) (h:zo H ty ty.size x=some (ds,n)) (hx:Den ρ x y):
  ∃ys,aI ρ (ty.flat ds) ys/\ds.length=n/\Go.Src P ty.size tx y n ys w:=by
 unfold zo at h;split at h
 .cases h;have:=hx.cc;subst this;exact⟨[], .nil,rfl,⟨hk,fun _=>rfl,run_firstCells_none w _ 0 0 _,run_firstCells_none w.drew _ 0 0 _,by simp,fun _ h=>by cases h⟩⟩
 .rename_i b;split at h
  .rename_i hu;subst hu;cases h;have:=hx.cc;subst this;have hd:aI ρ ((av.int .u8).flat (dS b)) (byteCells b):=by
    have e:(av.int .u8).flat (dS b)=(byteCells b).map af.raw:=by
     unfold dS byteCells;induction b.data.toList with
     |nil=>rfl
     |cons x l ih=>exact congrArg (af.raw (.int .u8 x.toNat):: ·) ih
    rw [e];exact aI.rJ _
   exact⟨byteCells b,hd,by simp [dS],⟨hk,fun _=>rfl,firstCells_string b w,firstCells_string b w.drew,by rw [byteCells_length];exact(Nat.mul_one _).symm,hd.one (fb (av.int .u8) _)⟩⟩
  .cases h
 .rename_i z u ys;split at h
  .rename_i hu;subst hu;cases h;rcases hx.tI with⟨rfl,a,k,rfl,_⟩|⟨b,off,k,A,h1,h2,h3,h4,rfl,_⟩
   .refine⟨[], .nil,rfl, ?_⟩;cases a with
    |none=>exact⟨hk,fun _=>rfl,run_firstCells_none w _ 0 0 _,run_firstCells_none w.drew _ 0 0 _,by simp,fun _ h=>by cases h⟩
    |some a=>exact⟨hk,fun _=>rfl,run_firstCells_some w _ 0 a 0 k [] (by simp) (by simp),run_firstCells_some w.drew _ 0 a 0 k [] (by simp) (by simp),by simp,fun _ h=>by cases h⟩
   .obtain⟨⟨el,fr,g1⟩,_⟩:=hH.fz b A h1;have hl:((A.toList.drop off).take (u.flat ys).length).length=ys.length*u.size:=by rw [h3.length,u.jf]
    have hc:∀(w':World),w'.heap[b]? =some (.cells A el fr)->∀(j:Nat) (v:Value),((A.toList.drop off).take (u.flat ys).length)[j]? =some v->w'.cell? ((⟨b,off,none⟩:Addr).add j)=some v:=fun w' hw j v hj=>by
     rw [j0,cell_of hw];rw [List.getElem?_take]at hj;split at hj
     .rw [List.getElem?_drop]at hj;simpa using hj
     .cases hj
    exact⟨_,h3,rfl,⟨hk,fun _=>rfl,run_firstCells_some w _ _ ⟨b,off,none⟩ _ k _ hl (hc w g1),run_firstCells_some w.drew _ _ ⟨b,off,none⟩ _ k _ hl (hc w.drew g1),hl,h3.one (fb u ys)⟩⟩
  .cases h
 .rename_i e' u j k len cap;cases hc:(decide (u=ty)&&(Nat.beq len 0||bA e' ty (H.get j) (k+len-1)))with
  |false=>rw [hc]at h;cases h
  |true=>
   rw [hc]at h;obtain⟨rfl,rfl⟩:=Prod.mk.inj (jV h);rw [ae,Bool.or_eq_true]at hc;obtain⟨hu,hc⟩:=hc;have hu:=ap hu;subst hu;by_cases hn:len=0
   .subst hn;refine⟨[],by simpa [av.flat]using aI.nil,by simp, ?_⟩;rcases hx.jA with⟨_,a,rfl⟩|⟨b,c,kc,_,_,_,rfl⟩
    .cases a with
     |none=>exact⟨hk,fun _=>rfl,run_firstCells_none w _ 0 0 _,run_firstCells_none w.drew _ 0 0 _,by simp,fun _ h=>by cases h⟩
     |some a=>exact⟨hk,fun _=>rfl,run_firstCells_some w _ 0 a 0 0 [] (by simp) (by simp),run_firstCells_some w.drew _ 0 a 0 0 [] (by simp) (by simp),by simp,fun _ h=>by cases h⟩
    .exact⟨hk,fun _=>rfl,run_firstCells_some w _ 0 _ 0 kc [] (by simp) (by simp),run_firstCells_some w.drew _ 0 _ 0 kc [] (by simp) (by simp),by simp,fun _ h=>by cases h⟩
   .rcases hc with hc|hc
    .exact absurd (ac hc) hn
    .obtain⟨b1,b2⟩:=vq hc;generalize bP u (H.get j)=xs at b1 b2 ⊢;rcases hx.jA with⟨rfl,_⟩|⟨b,c,kc,g1,_,g3,rfl⟩
     .exact absurd rfl hn
     .obtain⟨ys,q1,aP,_⟩:=rK hH b1 g1;have hle:k+len<=xs.length:=by omega
      have e1:(xs.drop k).take len=(xs.take (k+len)).drop k:=by rw [List.take_drop]
      have gU:=lP (off:=0) (A:=ys.toList) (l:=k) (h:=k+len) (by simpa using aP) (by omega) hle;rw [aw]at gU;have hfl:(u.flat ((xs.take (k+len)).drop k)).length=len*u.size:=by rw [u.jf];congr 1;simp;omega
      rw [hfl]at gU;have hl:((ys.toList.drop (k*u.size)).take (len*u.size)).length=len*u.size:=by rw [gU.length,hfl]
      have hc:∀(w':World),w'.heap[b]? =some (.cells ys e' (0,0))->∀(j:Nat) (v:Value),((ys.toList.drop (k*u.size)).take (len*u.size))[j]? =some v->w'.cell? ((⟨b,k*u.size,none⟩:Addr).add j)=some v:=fun w' hw j v hj=>by
       rw [j0,cell_of hw];rw [List.getElem?_take]at hj;split at hj
       .rw [List.getElem?_drop]at hj;simpa using hj
       .cases hj
      refine⟨_,by rw [e1];exact gU,by simp;omega,⟨hk,fun _=>rfl,run_firstCells_some w _ _ ⟨b,k*u.size,none⟩ _ kc _ hl (hc w q1),run_firstCells_some w.drew _ _ ⟨b,k*u.size,none⟩ _ kc _ hl (hc w.drew q1),hl,gU.one (fb u _)⟩⟩
 .rename_i j off n' cap;simp only [dN,am]at h;obtain⟨sn,h1,ds',h2,h3⟩:=h;cases h3;obtain⟨news,n2⟩:=sn;have hn2:n2=n:=by
   unfold src at h1;simp only at h1;split at h1
   .have h1:=(dq h1).2;cases h1;rfl
   .cases h1
  subst hn2;obtain⟨ys,g1,g2,g3⟩:=QN hH hk h1 hx;obtain⟨g4,g5⟩:=av.B6 h2 g1;exact⟨ys,g4,g5,g3 (g4.one (fb ty _))⟩
 .cases h
def JB {ρ:Env} {e:TypeId} {t:av} {i len b c kc:Nat} {cap:bh} (h:ρ i=some (b,c)) (hc:zH cap c kc) (hl:len<=kc):Den ρ (.bU e t i 0 len cap) (.slice (some ⟨b,0,none⟩) len kc):=by
 have:=Den.bU (e:=e) (t:=t) (k:=0) h hc hl;rwa [Nat.zero_mul]at this
def JC (hH:bk P B ρ H w) {t tx rt:TypeId} (hk:(∃e',P.underlying tx=some (.slice e'))\/P.underlying tx=some .string) {e:TypeId} {ty:av} {i k len:Nat} {cap:bh} {x:af} {sv y:Value} (hs:Den ρ (.bU e ty i k len cap) sv) (hx:Den ρ x y) {q:af×ai}
  {sk:Bool} (hv:rE P t e ty i k len cap sk x H=some q) (hf:Fr ρ H.next q.2.next):
  ∃ρ' r w',(Builtin.append_ #[t,tx] rt #[sv,y]).run P w= .ok r w'/\Den ρ' q.1 r/\bk P B ρ' q.2 w'/\bR ρ H w ρ' q.2 w':=by
 unfold rE at hv;simp only [dN]at hv;obtain⟨el,hel,inf,hi,z,hz,hv⟩:=hv;have ht:=xu hel;obtain⟨hb,hv⟩:=dq hv;simp only [ae]at hb;obtain⟨⟨⟨⟨b1,b2⟩,b3⟩,b4⟩,gF⟩:=hb;have b1:=ac b1;have b2:=bV b2;have b3:=ac b3;have b4:=ac b4;have gF:=ac gF;subst b3;subst gF;simp only [dN]at hv;obtain⟨⟨ds,n⟩,nu,hv⟩:=hv;rw [<-b4]at nu;obtain⟨ys,g1,g2,g3⟩:=aa3 hH hk nu hx;rw [b4]at g3;cases lM:Nat.beq n 0 with
 |true=>
  simp only [lM,cond_true]at hv;cases hv;have hn:=ac lM;subst hn;have hys:ys=[]:=by
   have:=g1.length;rw [List.eq_nil_of_length_eq_zero g2]at this;exact List.eq_nil_of_length_eq_zero (by simpa [av.flat]using this)
  subst hys;have hsk:bk P B ρ (cond sk H.skip H) w/\bR ρ H w ρ (cond sk H.skip H) w:=by
   cases sk with
   |false=>exact⟨hH,bR.refl _ _ _⟩
   |true=>
    refine⟨⟨hH.blk,hH.inj,fun j k hj=>Nat.lt_succ_of_lt (hH.lt j k hj),hH.base,hH.fz⟩,⟨cD.refl _,fun _ _=>rfl,Nat.le_succ _,aK _,rfl,rfl,rfl,fun _ _ _=>rfl,fun _ _ h=>h,fun _ _ h=>h,fun _ _ h=> .inl h⟩⟩
  rcases hs.jA with⟨rfl,a,rfl⟩|⟨b,c,kc,h1,h2,h3,rfl⟩
  .exact⟨ρ,_,w,ES ht hi g3 a (aK 0), .ql,hsk.1,hsk.2⟩
  .exact⟨ρ,_,w,ES ht hi g3 _ h3, .bU h1 h2 h3,hsk.1,hsk.2⟩
 |false=>
  simp only [lM,cond_false]at hv;obtain⟨hc,hv⟩:=dq hv;rw [ae]at hc;obtain⟨hc1,hc2⟩:=hc;cases hv;have hn0:0<n:=Nat.pos_of_ne_zero fun hh=>by subst hh;cases lM
  have same:∀(K:ai) (ρ':Env) (n0:Nat) (cs:List af) (xs:List ty.den),cs=ty.flat xs->Same P ρ' (K.new (.cells el cs false false false)) (K.new (.own el ty xs)):=fun K ρ' n0 cs xs hcs=>⟨rfl,fun j k hj=>by
   rw [ai.gK]at hj ⊢;by_cases hjn:K.next=j
   .rw [if_pos hjn]at hj ⊢;cases hj;refine⟨_,rfl,rfl,fun o ho=> ?_⟩;subst hcs;exact⟨ho,by rw [Jt hi];exact b4.symm,by rw [b4];exact b2⟩
   .rw [if_neg hjn]at hj ⊢;exact⟨k,hj,rfl,fun _ h=>h⟩,fun j hj=>by
   rw [ai.gK]at hj ⊢;by_cases hjn:K.next=j
   .rw [if_pos hjn]at hj;cases hj
   .rw [if_neg hjn]at hj ⊢;exact hj⟩
  simp only [bounded,ae]at hc2;have c1:=bV hc2.1;have c2:=bV hc2.2;have JD:∀a,len=0->bP ty (H.get i)=[]->sv= .slice a 0 0->∃ρ' r w',(Builtin.append_ #[t,tx] rt #[sv,y]).run P w= .ok r w'/\Den ρ' (.bU el ty H.next 0 (len+n) .full) r/\bk P B ρ' ((H.drop i).new (.own el ty (bP ty (H.get i)++ds))) w'/\bR ρ H w ρ' ((H.drop i).new (.own el ty (bP ty (H.get i)++ds))) w':=by
   intro a hl hxs tO;subst hl;subst tO;rw [hxs,List.nil_append];obtain⟨d1,d2⟩:=Qb hH i;have hold:(Builtin.firstCells inf.size 0 (.slice a 0 0)).run P w.drew= .ok #[] w.drew:=by
    cases a with
    |none=>exact run_firstCells_none w.drew _ 0 0 0
    |some a=>exact run_firstCells_some w.drew _ 0 a 0 0 [] (by simp) (by simp)
   have hr:=run_append_grow_src (P:=P) w t tx rt el inf z ht hi hz a 0 0 [] hold y n ys g3 (by omega) (by omega) (Jv (by omega) (by simpa using c1));obtain⟨q1,aP⟩:=Ju (H:=H.drop i) d1 hf (need:=n) (old:=0) hi b1 g1 g3.newsLen;have kT:=same (H.drop i) (ρ.put (H.drop i).next w.heap.size (grownCap w n 0 el)) 0 (ty.flat ds) ds rfl;simp only [aw,List.nil_append]at hr ⊢;refine⟨_,_,_,hr, ?_,kT.lI q1,d2.trans (aP.trans kT.EW)⟩;exact JB (Env.dA ..) rfl (grownCap_ge w n 0 el)
  rcases Zz hc1 with⟨hnone,hl,hxs,hcap⟩|⟨hsome,hlen,hcap⟩
  . -- nothing lies there yet
    subst hcap;rcases hs.jA with⟨_,a,tO⟩|⟨b,c,kc,h1,h2,h3,tO⟩
    .exact JD a hl hxs tO
    .have h2:kc=0:=h2;subst h2;subst hl;exact JD _ rfl hxs tO
  .subst hcap;rcases hs.jA with⟨hl,a,tO⟩|⟨b,c,kc,h1,h2,h3,tO⟩
   .exact JD a hl (List.eq_nil_of_length_eq_zero (hlen.trans hl)) tO
   .generalize bP ty (H.get i)=xs at hsome hlen ⊢;have hS:Same P ρ H (H.set i (.cells el (ty.flat xs) false false false)):=⟨rfl,fun j k hj=>by
     rw [ai.gp];split
     .rename_i e;subst e;rw [hsome]at hj;cases hj;exact⟨_,rfl,rfl,fun o ho=>ho.1⟩
     .exact⟨k,hj,rfl,fun _ h=>h⟩,fun j hj=>by
     rw [ai.gp];split
     .rename_i e;subst e;rw [hsome]at hj;cases hj
     .exact hj⟩
    have hfl:(ty.flat xs).length=len*inf.size:=by rw [ty.jf,hlen,b4]
    have hx2:Den ρ (.slice i 0 len .full) sv:=by rw [tO,Nat.zero_mul];exact .slice h1 h2 h3
    have hag:w4 el inf.size inf.bytes i len .full (ty.flat ds) n (H.set i (.cells el (ty.flat xs) false false false))=some (.slice H.next 0 (len+n) .full,((H.set i (.cells el (ty.flat xs) false false false)).drop i).new (.cells el (ty.flat xs++ty.flat ds) false false false)):=by
     unfold w4;have hbd:bounded (len+n) inf.bytes=true:=by simp only [bounded,ae];exact hc2
     have hg:(H.set i (.cells el (ty.flat xs) false false false)).get i=some (.cells el (ty.flat xs) false false false):=by rw [ai.gp,if_pos rfl]
     have aa4:(Nat.beq el el&&Nat.ble (len*inf.size) (ty.flat xs).length)=true:=by rw [hfl];simp
     rw [hbd,hg];simp only [cond_true,aa4,cond_false];rw [eZ (by omega)];rfl
    obtain⟨ρ',r,w',r1,r2,r3,mE⟩:=QS (hS.lI hH) ht hi hz b1 g3 g1 (fb ty ds) hx2 hag hf;have kT:=same ((H.set i (.cells el (ty.flat xs) false false false)).drop i) ρ' 0 (ty.flat xs++ty.flat ds) (xs++ds) (av.B5 _ _ _).symm;have heq:Same P ρ' (((H.set i (.cells el (ty.flat xs) false false false)).drop i).new (.own el ty (xs++ds))) ((H.drop i).new (.own el ty (xs++ds))):=by
     have QZ:∀j,((H.drop i).new (.own el ty (xs++ds))).get j=(((H.set i (.cells el (ty.flat xs) false false false)).drop i).new (.own el ty (xs++ds))).get j:=fun j=>by
      rw [ai.gK,ai.gK,ai.o8,ai.o8,ai.gp];show(if H.next=j then _ else _)=(if H.next=j then _ else _);by_cases h1:H.next=j
      .rw [if_pos h1,if_pos h1]
      .rw [if_neg h1,if_neg h1];by_cases h2:i=j
       .rw [if_pos h2,if_pos h2]
       .rw [if_neg h2,if_neg h2,if_neg h2]
     exact⟨rfl,fun j k hj=>⟨k,by rw [QZ];exact hj,rfl,fun _ h=>h⟩,fun j hj=>by rw [QZ];exact hj⟩
    refine⟨ρ',r,w',r1, ?_,heq.lI (kT.lI r3),((hS.EW.trans mE).trans kT.EW).trans heq.EW⟩;obtain⟨b',c',k',e1,e2,e3,rfl⟩:=r2.iz;exact JB e1 e2 e3
def aa5 {s:af} {sv:Value} (h:Ev s=true) (hs:Den ρ s sv):∃a,sv= .slice a 0 0:=by
 unfold Ev at h;split at h
 .rename_i i off n c;rw [ae]at h;have h1:=ac h.1;have h2:=ac h.2;subst h1;subst h2;obtain⟨b,c,k,_,hc,_,rfl⟩:=hs.iz;have hc:k=0:=hc;subst hc;exact⟨_,rfl⟩
 .exact⟨none,hs.cc⟩
 .cases h
def aa6 (hH:bk P B ρ H w) {t tx ty:TypeId} (hk:(∃e',P.underlying tx=some (.slice e'))\/P.underlying tx=some .string) {s x:af} {sv y:Value} (hs:Den ρ s sv) (hx:Den ρ x y) {q:af×ai} (hv:mq P t s x H=some q) (hf:Fr ρ H.next q.2.next):
  ∃ρ' r w',(Builtin.append_ #[t,tx] ty #[sv,y]).run P w= .ok r w'/\Den ρ' q.1 r/\bk P B ρ' q.2 w'/\bR ρ H w ρ' q.2 w':=by
 unfold mq at hv;split at hv
 .unfold BM at hv;split at hv
  .rename_i b H1 ht;obtain⟨rfl,hv⟩:=dq hv;obtain⟨cS,ha,h1,h2,h3⟩:=aa0 hH ht;obtain⟨ρ',r,w',q1,aP,b8,ez⟩:=JC (ty:=_) h1 hk (hs.mono h2.le) (hx.mono h2.le) hv (fun i g1 g2=>by rw [ha];exact hf i (by rw [<-h3];exact g1) g2);exact⟨ρ',r,w',q1,aP,b8,h2.trans ez⟩
  .exact JC hH hk hs hx hv hf
 .split at hv
  .obtain⟨he,hv⟩:=dq hv;unfold sT at hv;split at hv
   .obtain⟨a,rfl⟩:=aa5 he hs;exact JC hH hk .ql hx hv hf
   .cases hv
  .exact aaP hH hk hs hx hv hf
def JE {t:TypeId} {e:TypeId} {ty:av} {i k len:Nat} {cap:bh} {sk:Bool} {x:af} {q:af×ai} (h:rE P t e ty i k len cap sk x H=some q):H.next<=q.2.next:=by
  unfold rE at h;simp only [dN]at h;obtain⟨el,hel,inf,hi,z,hz,h⟩:=h;obtain⟨_,h⟩:=dq h;simp only [dN]at h;obtain⟨sn,_,h⟩:=h;cases lM:Nat.beq sn.2 0 with
  |true=>
   rw [lM]at h;cases h;cases sk with
   |false=>exact aK _
   |true=>exact Nat.le_succ _
  |false=>
   rw [lM]at h;obtain⟨_,h⟩:=dq h;cases h;exact Nat.le_succ _
def ns {t:TypeId} {s x:af} {q:af×ai} (ha:∀{q},zn P t s x H=some q->H.next<=q.2.next) (h:mq P t s x H=some q):H.next<=q.2.next:=by
 unfold mq at h;split at h
 .unfold BM at h;split at h
  .rename_i b H1 ht;obtain⟨rfl,h⟩:=dq h;have:=JE h;rwa [aaZ ht]at this
  .exact JE h
 .split at h
  .obtain⟨_,h⟩:=dq h;unfold sT at h;split at h
   .exact JE h
   .cases h
  .exact ha h
end
section
variable {P:Program} {B:Nat} {ρ:Env} {H:ai} {w:World} {o:Oper} {ev:dO} {e:Operand->Value}
def zP {l:List Operand} {a:af} (h:l.map ev=[a]):∃x,l=[x]/\ev x=a:=by
 match l,h with
 |[x],h=>exact⟨x,rfl,by simpa using h⟩
def JF {l:List Operand} {a b:af} (h:l.map ev=[a,b]):∃x y,l=[x,y]/\ev x=a/\ev y=b:=by
 match l,h with
 |[x,y],h=>exact⟨x,y,rfl,by simpa using h⟩
def vw {α:Type} {a:Array α} {x:α} (h:a.toList=[x]):a= #[x]:=by apply Array.ext';simpa using h
def zQ {α:Type} {a:Array α} {x y:α} (h:a.toList=[x,y]):a= #[x,y]:=by apply Array.ext';simpa using h
section
variable {argTypes:Array TypeId} {ty:TypeId} {v r:af} {x:Value}
def aa7 (hv:I3 P argTypes[0]? v=some r) (hx:Den ρ v x) (w:World):∃y,(Builtin.len_ argTypes ty #[x]).run P w= .ok y w/\Den ρ r y:=by
 unfold I3 at hv;simp only [dN]at hv;obtain⟨t,ht,hv⟩:=hv;split at hv
 .rename_i el i off len cap hu;cases hv;obtain⟨b,c,k,_,_,_,rfl⟩:=hx.iz;exact⟨.int .i64 len,by simp [Builtin.len_,ht,dB hu,goInt], .raw _⟩
 .rename_i el z u xs hu;cases hv;rcases hx.tI with⟨rfl,a,k,rfl,_⟩|⟨b,off,k,A,_,_,_,_,rfl,_⟩
  .exact⟨.int .i64 (0:Nat),by simp [Builtin.len_,ht,dB hu,goInt], .raw _⟩
  .exact⟨.int .i64 xs.length,by simp [Builtin.len_,ht,dB hu,goInt], .raw _⟩
 .rename_i el e' u i k len cap hu;cases hv;rcases hx.jA with⟨rfl,a,rfl⟩|⟨b,c,kc,_,_,_,rfl⟩
  .exact⟨.int .i64 (0:Nat),by simp [Builtin.len_,ht,dB hu,goInt], .raw _⟩
  .exact⟨.int .i64 len,by simp [Builtin.len_,ht,dB hu,goInt], .raw _⟩
 .rename_i n el cs hu;cases hv;exact⟨.int .i64 n,by simp [Builtin.len_,ht,dB hu,goInt], .raw _⟩
 .rename_i b hu;cases hv;have:=hx.cc;subst this;exact⟨.int .i64 b.size,by simp [Builtin.len_,ht,dB hu,goInt], .raw _⟩
 .cases hv
def aa8 (hv:I4 P argTypes[0]? v=some r) (hx:Den ρ v x) (w:World):∃y,(Builtin.cap_ argTypes ty #[x]).run P w= .ok y w/\Den ρ r y:=by
 unfold I4 at hv;simp only [dN]at hv;obtain⟨t,ht,hv⟩:=hv;split at hv
 .rename_i el i off len n hu;cases hv;obtain⟨b,c,k,_,hc,_,rfl⟩:=hx.iz;have hc:k=n:=hc;subst hc;exact⟨.int .i64 k,by simp [Builtin.cap_,ht,dB hu,goInt], .raw _⟩
 .cases hv
end
def aa9 (hH:bk P B ρ H w) {argTypes:Array TypeId} {ty:TypeId} {v r:af} {x:Value} (hv:BZ P argTypes[0]? v H=some r) (hx:Den ρ v x):
  ∃y,(Builtin.len_ argTypes ty #[x]).run P w= .ok y w/\Den ρ r y:=by
 unfold BZ at hv;simp only [dN]at hv;obtain⟨t,ht,hv⟩:=hv;split at hv
 .rename_i kt et i hu;obtain⟨b,q,h1,rfl⟩:=hx.vn;unfold P5 at hv;split at hv
  .rename_i es c hg;cases hv;obtain⟨lJ,g1,g2,_⟩:=hH.at hg h1;have g2:lJ= .map es c:=g2;subst g2;exact⟨.int .i64 es.size,by simp [Builtin.len_,ht,dB hu,goInt,run_getObj_map g1], .raw _⟩
  .rename_i kv y hg;cases hv;obtain⟨lJ,g1,⟨xv,g2,_⟩,_⟩:=hH.at hg h1;subst g2;exact⟨.int .i64 (1:Nat),by simp [Builtin.len_,ht,dB hu,goInt,run_getObj_map g1], .raw _⟩
  .cases hv
 .cases hv
def aba (hH:bk P B ρ H w) (he:∀x,Den ρ (ev x) (e x)) {b:Builtin} {args:Array Operand} {argTypes:Array TypeId} (ho:o.op= .call {callee:= .builtin b,args,argTypes}):
  cU P B ρ H w ((execOp e o).run P w) (nZ P o ev b argTypes (args.toList.map ev) H):=by
 have hp:qm o.op=true:=by rw [ho];rfl
 have hg:=vr (P:=P) (w:=w) hH he hp;have lift:∀{q:af×ai},(Fr ρ H.next q.2.next->∃ρ' r w',(execOp e o).run P w= .ok (.value r) w'/\Den ρ' q.1 r/\bk P B ρ' q.2 w'/\bR ρ H w ρ' q.2 w')->cU P B ρ H w ((execOp e o).run P w) (eT (some q)):=
  fun h hf=>by obtain⟨ρ',r,w',h1,h2,h3,h4⟩:=h hf;exact⟨ρ',r,w', .value r,h1,rfl,h2,h3,h4⟩
 unfold nZ;split
 .rename_i v hm;obtain⟨x,hx,rfl⟩:=zP hm;have ha:=vw hx;subst ha;split
  .rename_i r hr;obtain⟨y,h1,h2⟩:=aa9 (ty:=o.type) hH hr (he x);exact fY hH (rL ho fun cs=>by simp [builtin,h1]) h2
  .split
   .rename_i r hr;obtain⟨y,h1,h2⟩:=aa7 (ty:=o.type) hr (he x) w;exact fY hH (rL ho fun cs=>by simp [builtin,h1]) h2
   .exact hg
 .rename_i v hm;obtain⟨x,hx,rfl⟩:=zP hm;have ha:=vw hx;subst ha;split
  .rename_i r hr;obtain⟨y,h1,h2⟩:=aa8 (ty:=o.type) hr (he x) w;exact fY hH (rL ho fun cs=>by simp [builtin,h1]) h2
  .exact hg
 .rename_i s x hm;obtain⟨xs,tP,hx,rfl,rfl⟩:=JF hm;have ha:=zQ hx;subst ha;split
  .rename_i t t' ht;have kr:=zQ ht;subst kr;have main:((∃e',P.underlying t'=some (.slice e'))\/P.underlying t'=some .string)->cU P B ρ H w ((execOp e o).run P w) (eT (mq P t (ev xs) (ev tP) H)):=by
    intro hk;cases hv:mq P t (ev xs) (ev tP) H with
    |none=>trivial
    |some q=>
     refine lift fun hf=> ?_
     obtain⟨ρ',r,w',h1,h2,h3,h4⟩:=aa6 (ty:=o.type) hH hk (he xs) (he tP) hv hf;exact⟨ρ',r,w',rL ho fun cs=>by simp [builtin,h1],h2,h3,h4⟩
   split
   .rename_i el hu;exact main (.inl ⟨el,hu⟩)
   .rename_i hu;exact main (.inr hu)
   .trivial
  .trivial
 .rename_i d x hm;obtain⟨xs,tP,hx,rfl,rfl⟩:=JF hm;have ha:=zQ hx;subst ha;split
  .rename_i t t' ht;have kr:=zQ ht;subst kr;cases hv:zq P t (ev xs) (ev tP) H with
   |none=>trivial
   |some q=>
    refine lift fun hf=> ?_
    obtain⟨r,w',h1,h2,h3,h4⟩:=aaQ (tx:=t') (ty:=o.type) hH (he xs) (he tP) hv;exact⟨ρ,r,w',rL ho fun cs=>by simp [builtin,h1],h2,h3,h4⟩
  .trivial
 .rename_i i off len cap hm;obtain⟨x,hx,gD⟩:=zP hm;have ha:=vw hx;subst ha;have xD:=he x;rw [gD]at xD;split
  .rename_i t ht;have kr:=vw ht;subst kr;cases hv:zu P t i off (len+1) H with
   |none=>trivial
   |some q=>
    refine lift fun hf=> ?_
    obtain⟨r,w',h1,h2,h3,h4⟩:=aaS (ty:=o.type) hH xD hv;exact⟨ρ,r,w',rL ho fun cs=>by simp [builtin,h1],h2,h3,h4⟩
  .trivial
 .rename_i i off cap hm;obtain⟨x,hx,gD⟩:=zP hm;have ha:=vw hx;subst ha;have xD:=he x;rw [gD]at xD;obtain⟨b,c,k,_,_,_,xD⟩:=xD.iz;split
  .rename_i t ht;have kr:=vw ht;subst kr;split
   .rename_i el hu;have hc:(Builtin.clear_ #[t] o.type #[e x]).run P w= .ok (.tuple #[]) w:=by
     rw [xD];simp [Builtin.clear_,dB hu]
    exact fY hH (rL ho fun cs=>by simp [builtin,hc]) (.raw _)
   .trivial
  .trivial
 .rename_i p n hm;obtain⟨xs,tP,hx,rfl,rfl⟩:=JF hm;have ha:=zQ hx;subst ha;split
  .rename_i t t' ht;have kr:=zQ ht;subst kr;cases hv:vh P t (ev xs) (ev tP) H with
   |none=>trivial
   |some q=>
    refine lift fun hf=> ?_
    obtain⟨r,w',h1,h2,h3,h4⟩:=aaU (it:=t') (ty:=o.type) hH (he xs) (he tP) hv;exact⟨ρ,r,w',rL ho fun cs=>by simp [builtin,h1],h2,h3,h4⟩
  .trivial
 .rename_i i off len cap hm;obtain⟨x,hx,gD⟩:=zP hm;have ha:=vw hx;subst ha;cases hb:Nat.ble 1 len with
  |false=>trivial
  |true=>
   have hb:=bV hb;have hx:=he x;rw [gD]at hx;obtain⟨b,c,k,h1,_,h2,h3⟩:=hx.iz;have hr:=Lib.run_unsafeSliceData_row (P:=P) w argTypes o.type ⟨b,off,none⟩ len k (by omega);exact fY hH (rL ho fun cs=>by simp [builtin,h3,hr]) (.ptr h1)
 .rename_i el t i k len cap hm;obtain⟨x,hx,gD⟩:=zP hm;have ha:=vw hx;subst ha;cases hb:Nat.ble 1 len with
  |false=>trivial
  |true=>
   have hb:=bV hb;have hx:=he x;rw [gD]at hx;rcases hx.jA with⟨h0,_⟩|⟨b,c,kc,h1,_,h2,h3⟩
   .omega
   .have hr:=Lib.run_unsafeSliceData_row (P:=P) w argTypes o.type ⟨b,k*t.size,none⟩ len kc (by omega);exact fY hH (rL ho fun cs=>by simp [builtin,h3,hr]) (.dH h1)
 .exact hg
section
variable (hK:ff P) (hH:bk P B ρ H w) (he:∀x,Den ρ (ev x) (e x))
def abb {c:Call} (ho:o.op= .call c):cU P B ρ H w ((execOp e o).run P w) (fw c P o ev H):=by
 obtain⟨callee,args,argTypes⟩:=c;have hl:∀l:List Operand,aI ρ (l.map ev) (l.map e):=fun l=>by
  induction l with
  |nil=>exact .nil
  |cons x l ih=>exact .cons (he x) ih
 have ea:args.map e=(args.toList.map e).toArray:=by apply Array.ext';simp
 cases callee with
 |value f=>
  refine EV hK hH (he f) (hl args.toList) fun fn first captured hf=> ?_
  simp only [execOp,ho,resolve,Deferred.ofValue,hf,Sem.run_bind,Sem.run_pure,Result.andThen_ok,ea]
 |invoke r m=>trivial
 |builtin b=>exact aba hH he ho
def abc:cU P B ρ H w ((execOp e o).run P w) (fc o.op P o ev H):=by
 cases ho:o.op with
 |move x=>exact ZH hH he ho
 |assign x=>exact ZI hH he ho
 |pick c a b=>exact ZJ hH he ho
 |alloc t=>exact aak (ev:=ev) hH ho
 |box t x=>exact aal hH he ho
 |build t ps=>exact aaj hH he ho
 |buildSlice t l ps=>exact ub hH he ho
 |insert t m k v=>exact aaC hH he ho
 |load t x=>exact aar hH he ho
 |store t x y=>exact aaw hH he ho
 |nilCheck x=>exact ZK hH he ho
 |binOp op t x y ah=>exact aac hH he ho
 |unOp op t x=>exact vr hH he (by rw [ho];rfl)
 |convert s d x=>exact aaL hH he ho
 |makeInterface t x=>exact ZM hH he ho
 |makeFunc fn a c=>exact ZL hH he ho
 |makeMap t r=>exact AC hH he ho
 |makeSlice t l c=>exact aan hH he ho
 |slice t x l h m=>exact aah hH he ho
 |fieldAddr s x f=>exact ZN hH he ho
 |field t x f=>exact ZQ hH he ho
 |indexAddr t x i=>exact ZP hH he ho
 |index t x i=>exact ZR hH he ho
 |lookup t m k ok=>exact aay hH he ho
 |mapUpdate t m k v=>exact aaB hH he ho
 |typeAssert x a b c=>exact vr hH he (by rw [ho];rfl)
 |extract x i=>exact Ax hH he ho
 |call c=>exact abb hK hH he ho
 |range t x=>exact aaE hH he ho
 |next x b=>exact aaJ hH he ho
 |entry x=>exact aaK hH he ho
 |_=>trivial
end
def aM.mono (H:ai):aM->Prop
 | .no=>True
 | .ok _ H'| .enter _ _ H'| .round _ _ H'=>H.next<=H'.next
def iB (x:Option af):aM.mono H (ag H x):=by cases x<;>simp [ag,aM.mono]
def mF {x:Option (af×ai)} (h:∀q,x=some q->H.next<=q.2.next):aM.mono H (eT x):=by
 cases x with
 |none=>trivial
 |some q=>exact h q rfl
def abd {gQ n:Nat} {x:af}:aM.mono H (u7 gQ n x H):=by
 unfold u7;split
 .cases Nat.ble 1 n<;>first |trivial |exact aK _
 .cases Nat.ble 1 n<;>first |trivial |exact aK _
 .trivial
def abe {k n s:Nat} {x:af}:aM.mono H (u6 k n s x H):=by
 unfold u6;split
 .cases Nat.ble (k+1) n<;>first |trivial |exact aK _
 .cases Nat.ble (k+1) n<;>first |trivial |exact aK _
 .trivial
def abf {k s:Nat} {x:af}:aM.mono H (rB k s x H):=by
 unfold rB;split
 .rename_i t xs;cases (Nat.beq t.size s&&Nat.ble (k+1) xs.length)<;>first |trivial |exact aK _
 .rename_i e t i k0 len cap;cases (Nat.beq t.size s&&Nat.ble (k+1) len)<;>first |trivial |exact aK _
 .trivial
def abg {t:TypeId} {x:af}:aM.mono H (tB P t x H):=by
 unfold tB;split
 .exact iB _
 .rename_i e u i k off;cases bA e u (H.get i) k<;>first |trivial |exact iB _
 .trivial
def abh {t:TypeId} {x y:af}:aM.mono H (xb P t x y H):=by
 unfold xb;split
 .rename_i e u i k off;cases bA e u (H.get i) k with
  |false=>trivial
  |true=>
   cases (co y.cells&&tD P t y.cells.length)with
   |false=>trivial
   |true=>
    simp only [cond_true];split
    .exact aK _
    .trivial
 .trivial
def n8 (b:bq):H.next<=(H.new b).next:=Nat.le_succ _
def cp {α:Type} {b:Bool} {x:Option α} {q:α} (h:cond b x none=some q):x=some q:=by cases b<;>first |exact h|cases h
def vz (i:Nat) (b:bq):H.next<=(H.set i b).next:=aK _
def abi {el:TypeId} {sz bytes i len n:Nat} {cap:bh} {news:List af} {q:af×ai} (h:w4 el sz bytes i len cap news n H=some q):H.next<=q.2.next:=by
 unfold w4 at h;have h:=cp h;split at h
 .rename_i e' cs ex hg;have h:=cp h;cases cap with
  |known c=>
   simp only at h;cases hb:Nat.ble (len+n) c with
   |true=>
    rw [hb]at h;simp only [cond_true,am]at h;obtain⟨_,_,rfl⟩:=h;exact vz _ _
   |false=>rw [hb]at h;cases h;exact n8 _
  |full=>
   cases ex with
   |false=>cases h;exact n8 (H:=H.drop i) _
   |true=>cases h
  |any=>cases h
 .cases h
def Q0 {t:TypeId} {s x:af} {q:af×ai} (h:zn P t s x H=some q):H.next<=q.2.next:=by
 unfold zn at h;simp only [dN]at h;obtain⟨el,_,i,_,z,_,h⟩:=h;have h:=cp h;simp only [dN]at h;obtain⟨sn,_,h⟩:=h;cases hz:Nat.beq sn.2 0 with
 |true=>
  rw [hz]at h;simp only [cond_true]at h;split at h
  .cases h;exact aK _
  .cases h;exact aK _
  .cases h
 |false=>
  rw [hz]at h;simp only [cond_false]at h;have h:=cp h;split at h
  .have h:=cp h;cases h;exact n8 _
  .exact abi h
  .cases h
def abj {t:TypeId} {d x:af} {q:af×ai} (h:zq P t d x H=some q):H.next<=q.2.next:=by
 unfold zq at h;simp only [dN]at h;obtain⟨el,_,s,_,h⟩:=h;split at h
 .simp only [dN]at h;obtain⟨sn,_,h⟩:=h;split at h
  .have h:=cp h;simp only [am]at h;obtain⟨_,_,rfl⟩:=h;exact vz _ _
  .cases h
 .cases h;exact aK _
 .cases h
def abk {pt:TypeId} {x n:af} {q:af×ai} (h:vh P pt x n H=some q):H.next<=q.2.next:=by
 unfold vh at h;split at h
 .split at h
  .split at h
   .have h:=cp h;simp only [am]at h;obtain⟨_,_,rfl⟩:=h;exact vz _ _
   .cases h
  .cases h
 .split at h
  .cases (dq h).2;exact aK _
  .cases h
 .cases h
def abl {t:TypeId} {i off len:Nat} {q:af×ai} (h:zu P t i off len H=some q):H.next<=q.2.next:=by
 unfold zu at h;simp only [dN]at h;obtain⟨_,_,_,_,_,_,h⟩:=h;split at h
 .have h:=cp h;simp only [am]at h;obtain⟨_,_,rfl⟩:=h;exact vz _ _
 .cases h
def lj {t:TypeId} {m k x:af} {q:af×ai} (h:BW P t m k x H=some q):H.next<=q.2.next:=by
 unfold BW at h;split at h
 .split at h
  .simp only [am]at h;obtain⟨_,_,rfl⟩:=h;exact vz _ _
  .cases h
 .unfold I0 at h;split at h
  .split at h
   .have h:=cp h;cases h;exact vz _ _
   .cases h
  .cases h
 .cases h
def abm {t:TypeId} {x:af} {q:af×ai} (h:zA P t x H=some q):H.next<=q.2.next:=by
 unfold zA at h;split at h
 .split at h
  .cases h;exact n8 _
  .cases h;exact n8 _
  .cases h
 .cases h
def abn {x:af} {s:Bool} {q:af×ai} (h:EA x s H=some q):H.next<=q.2.next:=by
 unfold EA at h;split at h
 .unfold I1 at h;split at h
  .split at h
   .cases h;exact aK _
   .cases h
  .split at h
   .cases h;exact vz _ _
   .cases h
  .split at h
   .cases h;exact aK _
   .cases h
  .cases h
 .cases h
def abo {b:Builtin} {argTypes:Array TypeId} {args:List af}:aM.mono H (nZ P o ev b argTypes args H):=by
 unfold nZ;split
 .split
  .exact aK _
  .split
   .exact aK _
   .exact iB _
 .split
  .exact aK _
  .exact iB _
 .split
  .split
   .exact mF fun q h=>ns Q0 h
   .exact mF fun q h=>ns Q0 h
   .trivial
  .trivial
 .split
  .exact mF fun q h=>abj h
  .trivial
 .split
  .exact mF fun q h=>abl h
  .trivial
 .split
  .split
   .exact aK _
   .trivial
  .trivial
 .split
  .exact mF fun q h=>abk h
  .trivial
 .rename_i i off len cap;show aM.mono H (@Bool.rec (fun _=>aM) .no (.ok (.ptr i off) H) (Nat.ble 1 len))
  generalize Nat.ble 1 len=bb;cases bb
  .trivial
  .exact aK _
 .rename_i e u i k len cap;show aM.mono H (@Bool.rec (fun _=>aM) .no (.ok (.dH e u i k 0) H) (Nat.ble 1 len))
  generalize Nat.ble 1 len=bb;cases bb
  .trivial
  .exact aK _
 .exact iB _
def abp {f:FuncId} {fn:Func} {args:List af} {q:af×ai} (h:zv P f fn args H=some q):H.next<=q.2.next:=by
 unfold zv at h;split at h
 .split at h
  .cases h;exact aK _
  .have h:=cp h;split at h
   .simp only [dN]at h;obtain⟨el,_,h⟩:=h;have h:=cp h;cases h;exact n8 _
   .cases h
 .split at h
  .have h:=cp h;cases h;exact aK _
  .cases h
def JG {f:FuncId} {args:List af}:aM.mono H (tu P f args H):=by
 unfold tu;cases hf:P.funcs[f]? with
 |none=>trivial
 |some fn=>
  simp only;cases hb:fn.body with
  |none=>exact mF fun q h=>abp h
  |some c=>exact aK _
def abq {fv:af} {args:List af}:aM.mono H (mz P fv args H):=by
 unfold mz;split
 .rename_i v;cases hg:w6 v with
  |fn f=>exact JG
  |no=>
   simp only;split
   .exact JG
   .trivial
 .exact JG
 .exact aK _
 .trivial
def abr {s d:TypeId} {x:af} {q:af×ai} (h:BU P o ev s d x H=some q):H.next<=q.2.next:=by
 have hm:∀{g:Option af},g.map (fun v=>(v,H))=some q->H.next<=q.2.next:=fun h=>by
  simp only [am]at h;obtain⟨_,_,rfl⟩:=h;exact aK _
 unfold BU at h;split at h
 .split at h
  .split at h
   .have h:=cp h;simp only [am]at h;obtain⟨_,_,rfl⟩:=h;exact aK _
   .cases h
  .cases h
 .split at h
  .split at h
   .have h:=cp h;cases h;exact aK _
   .cases h
  .have h:=cp h;cases h;exact aK _
  .cases h
 .split at h
  .split at h
   .have h:=cp h;cases h;exact n8 _
   .cases h
  .exact hm h
 .exact hm h
def abt:aM.mono H (fc o.op P o ev H):=by
 cases ho:o.op with
 |move x=>exact aK _
 |assign x=>exact aK _
 |pick c a b=>
  show aM.mono H (nX c a b P o ev H);unfold nX;cases gR (ev c)with
  |no=>trivial
  |mk b=>cases b<;>exact aK _
 |alloc t=>
  show aM.mono H (tC t P o ev H);unfold tC;cases nh P t with
  |none=>trivial
  |some z=>exact n8 _
 |box t x=>
  show aM.mono H (oY t x P o ev H);unfold oY;cases (ev x).u5 with
  |true=>trivial
  |false=>exact n8 _
 |build t ps=>exact iB _
 |buildSlice t l ps=>
  refine mF fun q h=> ?_
  unfold oZ at h;simp only [dN]at h;obtain⟨_,_,_,_,_,_,h⟩:=h;have h:=cp h;simp only [am]at h;obtain⟨_,_,rfl⟩:=h;exact n8 _
 |insert t m k v=>
  exact mF fun q h=>lj h
 |load t x=>
  show aM.mono H (nY t x P o ev H);unfold nY;cases iO (ev x)with
  |no=>exact abg
  |mk i off=>
   cases hb:tq (H.get i)with
   |no=>simp only [hb];trivial
   |mk a b c d f=>simp only [hb];exact iB _
 |store t x y=>
  show aM.mono H (qi t x y P o ev H);unfold qi;cases iO (ev x)with
  |no=>exact abh
  |mk i off=>
   cases hb:tq (H.get i)with
   |no=>simp only [hb];trivial
   |mk a b c d f=>
    simp only [hb];cases f<;>first |trivial |(cases d<;>first |trivial |skip)
    refine mF fun q h=> ?_
    unfold BV at h;have h:=cp h;simp only [am]at h;obtain⟨_,_,rfl⟩:=h;exact vz _ _
 |nilCheck x=>
  show aM.mono H (qd x P o ev H);unfold qd;cases iO (ev x)with
  |no=>exact iB _
  |mk i off=>exact aK _
 |binOp op t x y ah=>
  show aM.mono H (je op t x y ah P o ev H);unfold je;cases iN (ev x)with
  |no=>exact iB _
  |int k a=>
   cases iN (ev y)with
   |no=>exact iB _
   |int k' b=>
    cases hf:jx op k k' a b with
    |none=>simp only [hf];exact iB _
    |some v=>simp only [hf];exact aK _
 |unOp op t x=>exact iB _
 |convert s d x=>exact mF fun q h=>abr h
 |makeInterface t x=>exact iB _
 |makeFunc fn a c=>exact aK _
 |makeMap t r=>
  refine mF fun q h=> ?_
  unfold rH at h;split at h
  .cases h;exact n8 _
  .split at h
   .cases h;exact n8 _
   .cases h
 |makeSlice t l c=>
  refine mF fun q h=> ?_
  unfold dj at h;simp only [dN]at h;obtain⟨_,_,_,_,_,_,_,_,_,_,h⟩:=h;have h:=cp h;cases h;exact n8 _
 |slice t x l h m=>exact iB _
 |fieldAddr s x f=>
  show aM.mono H (qf s x f P o ev H);unfold qf;cases fv P s f with
  |no=>trivial
  |mk a n t=>
   cases iO (ev x)with
   |no=>exact abd
   |mk i off=>
    cases hb:Nat.ble 1 n with
    |false=>simp only [hb];trivial
    |true=>simp only [hb];exact aK _
 |field t x f=>
  show aM.mono H (qg t x f P o ev H);unfold qg;cases rC (ev x)with
  |none=>exact iB _
  |some cs=>
   cases fv P t f with
   |no=>trivial
   |mk a n t=>exact iB _
 |indexAddr t x i=>
  show aM.mono H (nj t x i P o ev H);unfold nj;cases nW (ev i)with
  |no=>trivial
  |mk k=>
   cases nV P t with
   |no=>trivial
   |arr n s=>
    cases iO (ev x)with
    |no=>exact abe
    |mk i off=>
     cases hb:Nat.ble (Nat.succ k) n with
     |false=>simp only [hb];trivial
     |true=>simp only [hb];exact aK _
   |sl s=>
    cases wZ (ev x)with
    |no=>exact abf
    |mk i off len cap=>
     cases hb:Nat.ble (Nat.succ k) len with
     |false=>simp only [hb];trivial
     |true=>simp only [hb];exact aK _
 |index t x i=>
  show aM.mono H (mA t x i P o ev H);unfold mA;cases rC (ev x)with
  |none=>exact iB _
  |some cs=>exact iB _
 |lookup t m k ok=>exact iB _
 |mapUpdate t m k v=>
  exact mF fun q h=>lj h
 |typeAssert x a b c=>exact iB _
 |extract x i=>
  show aM.mono H (qh x i P o ev H);unfold qh;cases zj (ev x)with
  |none=>exact iB _
  |some cs=>exact iB _
 |call c=>
  obtain⟨callee,args,argTypes⟩:=c;cases callee with
  |value f=>exact abq
  |invoke r m=>trivial
  |builtin b=>exact abo
 |range t x=>exact mF fun q h=>abm h
 |next x b=>exact mF fun q h=>abn h
 |entry x=>exact iB _
 |_=>trivial
end
end Go.Proofs.YtibikmmdbdlafaaGreatDoor.Sv
