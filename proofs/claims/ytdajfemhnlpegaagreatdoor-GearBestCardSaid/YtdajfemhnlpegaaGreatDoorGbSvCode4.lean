import Derived.Test.YtdajfemhnlpegaaGreatDoorGbSvOp3
import Derived.Great.BuildSlice
import Derived.Deep.AppendSrc
import Derived.Lib.UnsafeStr
import Derived.Laws.IdiomStrings
import Derived.Laws.LoneSync
import Derived.LoopNIn
import Derived.RangeFuncRecord
open Array renaming range->R6,getElem?_eq_getElem->E',toList_append->KI,getElem?_modify->Hh,getElem?_toList->IF,ext'->Gt,getD_eq_getD_getElem?->mL,getElem?_setIfInBounds->pp
open Bool renaming or_eq_true->qh,true->D,false->ao,not_eq_true'->Gp,rec->jh
open Function renaming comp_def->Uh
open Go renaming Program->fd,World->du,Oper->ls,Operand->gn,TypeId->ed,execOp->gy,Result->yE,run_underlying->OA,loadVar->þ,storeCells->SQ,run_storeCells_at->Á,setRow_other->ÿ,undef->lk,MapEntry->rb,asIntOf->õ,Addr->wu,grownCap->BD,bytesRow->Â,grownCap_ge->Qd,Src->Ĉ,run_firstCells_none->qF,firstCells_string->Qp,run_firstCells_some->lF,Builtin->na,builtin->OH,resolve->WK,run_append_grow_src->Zc,goInt->È,FuncId->ya,Func->Ö,callFunc->Ki,Code->mN,Fence->wI,Act->Zq,yielded->Î,CallsIn->GC,Exit->sC,Deferred->ö,Sem->PL,callsIn_of_wp_marks->Ã
open Go.Builtin renaming append_->sn,zeroCells->sX,len_->tA
open Go.Code renaming region->yO
open Go.Deferred renaming ofValue->â
open Go.Fence renaming wide->pI
open Go.Instr renaming fill->À,buildSlice->ý,sureAddr->xx,lookup->XL,mapUpdate->FH,next->HN,entry->í
open Go.Question renaming forced->XM
open Go.Region renaming wanted->S'
open Go.Result renaming andThen_ok->kL
open Go.Sem renaming run->Ü,run_bind->nC,run_pure->oP
open Go.World renaming cell?->Hf,putObj_heap_other->hV,putObj_heap_same->yP
open Int renaming toNat_natCast->kh
open List renaming foldl_cons->LA,map_cons->Li,replicate->ie,map_append->B',append_nil->mS,getElem?_take->ly,getElem?_drop->z5,take_take->KE,take_append->Sn,drop_append->Sj,drop_eq_nil_of_le->pB,nil_append->ts,take_left'->z9,drop_left'->R',take_append_drop->pa,eq_nil_of_length_eq_zero->ix,length->jC,getElem?_map->Ys,getElem?_set_ne->KL,drop_zero->iW,length_nil->IJ
open List.cons renaming injEq->Xd
open Nat renaming beq->dd,add_mul->Gz,mod_eq_of_lt->É,zero_mul->CB,ble->dK,add->Sc,min_eq_left->ns,mul_one->Au,mul_le_mul_right->Hr,min->L',le_of_eq->uV,le_succ->QZ,succ->nX,lt_of_lt_of_le->iy,zero_le->gt,beq_refl->zX
open Ne renaming symm->Ar
open Option renaming some->O,isSome_iff_exists->DF,none->bs,bind_some->kV,rec->oN,getD_some->N'
open Prod renaming fst->ql,snd->rL
open Prod.mk renaming inj->Þ
open _root_ renaming Nat->E,List->I,Array->fh,Option->da,cond_true->ka,cond_false->sd,if_neg->db,Bool->dF,Int->N,if_pos->dA,Prod->BC,UInt8->hN,min->XR,cond->oi,decide->bP,if_false->á
set_option linter.defProp false
set_option linter.unusedSimpArgs false
set_option linter.unusedSectionVars false
namespace Go.Proofs.YtdajfemhnlpegaaGreatDoor.Sv
open Go.RowKit
section
variable{P:fd}{B:E}{ρ:Env}{H:ai}{w:du}{o:ls}{ev:eB}{e:gn->Value}
def UW(off:E):∀(g:I Value)(k:E)(d:fh Value),off+k+g.length<=d.size->
  ((g.zipIdx k).foldl (λcs (p:Value×E)=>cs.setIfInBounds (off+p.2) p.1) d).toList=d.toList.take (off+k)++g++d.toList.drop (off+k+g.length)
 |[],k,d,_=>by simp
 |z::g,k,d,h=>by
  have u:off+(k+1)+g.length<=(d.setIfInBounds (off+k) z).size:=by simp at h ⊢;omega
  rw[I.zipIdx_cons,LA,UW off g (k+1) _ u];have e:=list_seg_step d.toList (off+k) z g (by simp at h ⊢;omega);simpa[fh.toList_setIfInBounds,E.add_assoc]using e
def UX{M:E->da (E×E)}:∀(parts:I (E×af))(g:I (E×Value))(y:I af)(d:fh Value){r:I af},tU M y parts=O r->aE ρ y d.toList->
  g.map ql=parts.map ql->aE ρ (parts.map rL) (g.map rL)->∃C,À M d g=O C/\aE ρ r C.toList
 |[],g,y,d,r,h,z,u,_=>by
  have:g=[]:=by cases g<;>simp_all
  subst this;simp[tU]at h;subst h;exact⟨d,rfl,z⟩
 |(i,v)::parts,[],y,d,r,h,z,u,_=>by simp at u
 |(i,v)::parts,(j,x)::g,y,d,r,h,z,u,G=>by
  simp only[Li,Xd]at u;obtain⟨rfl,u⟩:=u;cases G with
  |cons K G=>
  simp only[tU,ep]at h;obtain⟨p,M,h⟩:=h;cases A:v.xP with
  |true=>rw[A]at h;cases h
  |false=>
  cases F:dd v.cells.length p.2 with
  |false=>rw[A,F]at h;cases h
  |true=>
   rw[A,F]at h;simp only[ka,sd,ep]at h;obtain⟨Q,X,h⟩:=h;obtain⟨J,W⟩:=Fe X;have L:=z.length;have J:=(K.cells A).length;have X:x.cells.size=p.2:=by rw[<-ac F,<-J];simp
   have F:p.1+x.cells.size<=d.size:=by
    have S:x.cells.size=v.cells.length:=by rw[<-J];simp
    have S:d.size=y.length:=by rw[<-L];simp
    omega
   have y:=UW p.1 x.cells.toList 0 d (by simpa using F);obtain⟨C,U,V⟩:=UX parts g Q (x.cells.zipIdx.foldl (λcs (c,j)=>cs.setIfInBounds (p.1+j) c) d) h (by
    have S:(x.cells.zipIdx.foldl (λcs (c,j)=>cs.setIfInBounds (p.1+j) c) d)=(x.cells.toList.zipIdx 0).foldl (λcs (L:Value×E)=>cs.setIfInBounds (p.1+L.2) L.1) d:=by
     rw[<-fh.foldl_toList,fh.toList_zipIdx]
    rw[S,y,W];simp only[E.add_zero];rw[show x.cells.toList.length=v.cells.length from J];exact((z.take p.1).append (K.cells A)).append (z.drop _)) u G
   refine⟨C,?_,V⟩;obtain⟨d,g⟩:=p;simp only[À,M];rw[db (by simp only[qh,aN,not_or];exact⟨by simpa using X,by omega⟩)];exact U
def UY{v:af}(h:co v.cells=D):v.xP=ao:=by
 cases v<;>first |rfl |(simp[af.cells,co,af.one]at h)
def Fl(a:fh Value):aE ρ (jE a) a.toList:=aE.ue _
def UZ(he:∀x,Den ρ (ev x) (e x)):∀(l:I (E×gn)),aE ρ ((l.map λp=>(p.1,ev p.2)).map rL) ((l.map λp=>(p.1,e p.2)).map rL)
 |[]=>.nil
 |p::l=>.cons (he p.2) (UZ he l)
def Nd{y:E->da (E×E)}(he:∀x,Den ρ (ev x) (e x))(parts:fh (E×gn)){d:I af}{g:fh Value}{r:I af}(h:tU y d (ua ev parts)=O r)(A:aE ρ d g.toList):
  ∃p,À y g (parts.map fun(i,x)=>(i,e x)).toList=O p/\aE ρ r p.toList:=by
 have z:(parts.map fun(i,x)=>(i,e x)).toList=parts.toList.map λu=>(u.1,e u.2):=by simp
 rw[z];exact UX (ua ev parts) _ d g h A (by simp[ua,Uh]) (UZ he parts.toList)
def sh:∀(d:I Field),(d.all λf=>(eY P f.type).isSome)=D->∃ps:I (E×E),d.mapM (λf=>(P.info? f.type).map λi=>(f.offset,i.size))=O ps/\∀i:E,ps[i]? =(d[i]?).bind fun(f:Field)=>(eY P f.type).map λs=>(f.offset,s)
 |[],_=>⟨[],by simp,by simp⟩
 |f::d,h=>by
  simp only[I.all_cons,ae]at h;obtain⟨ps,p,u⟩:=sh d h.2;obtain⟨s,g⟩:=DF.1 h.1;obtain⟨z,y,rfl⟩:=zQ g;refine⟨(f.offset,z.size)::ps,?_,?_⟩
  .rw[I.mapM_cons];simp[y,p]
  .intro i;cases i with
   |zero=>simp[g]
   |succ i=>simpa using u i
def afX(hH:bl P B ρ H w)(he:∀x,Den ρ (ev x) (e x)){t:ed}{parts:fh (E×gn)}(V:o.op=.build t parts):dy P B ρ H w ((gy e o).run P w) (ui t parts P o ev H):=by
 refine d9 hH λv d=>?_
 unfold MI at d;simp only[ep]at d;obtain⟨Q,g,d⟩:=d;obtain⟨h,L,M⟩:=M9 g;have J:∀(g:fh Value)(cs:I af),P.built t (parts.map fun(i,x)=>(i,e x)).toList=O g->aE ρ cs g.toList->v=.agg cs->∃G y,(gy e o).run P w=.ok G w/\wk G y/\Den ρ v y:=by
  intro g cs u z S;subst S;have W:=run_build w t _ g u;refine nM (y:= .agg g) ?_ (by simpa using Den.agg z);simp[gy,V,W]
 split at d
 .rename_i K F;simp only[ep]at d;obtain⟨cs,C,d⟩:=d;cases A:(K.toList.all λf=>(eY P f.type).isSome)with
  |false=>rw[A]at d;cases d
  |true=>
   rw[A]at d;cases d;obtain⟨ps,u,z⟩:=sh K.toList A;obtain⟨g,h,p⟩:=Nd he parts C (Fl Q.cells);refine J g cs ?_ p rfl;unfold fd.built;rw[L,F];simp only[M,u];rw[<-h];congr 1;funext i;have:=z i;simp only[se];simpa using this
 .rename_i n el F;simp only[ep,am]at d;obtain⟨s,X,cs,C,rfl⟩:=d;obtain⟨u,U,rfl⟩:=zQ X;obtain⟨g,h,p⟩:=Nd he parts C (Fl Q.cells);refine J g cs ?_ p rfl;unfold fd.built;rw[L,F];simp only[M,U,h]
 .cases d
def zU(hH:bl P B ρ H w){r:yE Next}{v:af}{y:Value}{k:bn}{ob:Obj}(c:E)(z:r=.ok (.value y) (w.alloc ob))(h:Den (ρ.put H.next w.heap.size c) v y)(u:iZ P (ρ.put H.next w.heap.size c) H.next k ob):
  dy P B ρ H w r (.ok v (H.new k)):=λp=>by
 obtain⟨d,g⟩:=kw hH p c k ob u;exact⟨_,y,_,_,z,rfl,h,d,g⟩
def IK{ρ:Env}{i:E}{el:ed}{cs:I af}{xs:fh Value}{p:dF}(h:aE ρ cs xs.toList):iZ P ρ i (.cells el cs D ao p) (.cells xs el):=by
 have d:xs.size=cs.length:=by simpa using h.length
 refine⟨xs,(0,0),rfl,λ_=>rfl,?_,λ_=>d,λg=>by cases g⟩;rw[eG (by simp[d])];exact h
def afY(hH:bl P B ρ H w){el:ed}(d:o.op=.alloc el):dy P B ρ H w ((gy e o).run P w) (v8 el P o ev H):=by
 unfold v8;cases g:ou P el with
 |none=>trivial
 |some z=>
  refine zU hH 0 (y:= .pointer (O ⟨w.heap.size,0,bs⟩)) ?_ (.ptr (Env.eu ..)) (IK (Fl z.cells));simp[gy,d,Instr.alloc,Fj g,newVar,newRow]
def afZ(hH:bl P B ρ H w)(he:∀x,Den ρ (ev x) (e x)){el:ed}{x:gn}(h:o.op=.box el x):dy P B ρ H w ((gy e o).run P w) (q3 el x P o ev H):=by
 unfold q3;cases p:(ev x).xP with
 |true=>trivial
 |false=>
 intro d;have g:ρ H.next=bs:=d H.next (aC _) (gR _);refine zU hH 0 (y:= .pointer (O ⟨w.heap.size,0,bs⟩)) ?_ (.ptr (Env.eu ..)) (IK (((he x).cells p).mono (Env.sA g))) d;simp[gy,h,Instr.box,newVar,newRow]
def IL(z:fh Value)(s:E)(d:z.size=s)(p:1<=s):∀n,((R6 (n*s)).map (z[· %z.size]!)).toList=(ie n z.toList).flatten
 |0=>by simp
 |n+1=>by
  have g:=IL z s d p n;simp only[fh.toList_map,fh.toList_range]at g ⊢;rw[Gz,E.one_mul,I.range_add,B',g,I.replicate_succ',I.flatten_append];congr 1;simp only[I.map_map,I.flatten_cons,I.flatten_nil,mS];apply I.ext_getElem
  .simp[d]
  .intro i u A;have y:i<s:=by simpa using u
   have h:(n*s+i)%z.size=i:=by rw[d,E.add_comm,E.add_mul_mod_self_right,É y]
   simp only[I.getElem_map,I.getElem_range,Function.comp_apply,h];rw[getElem!_pos z i ω];simp
def Nf(n:E)(z:fh Value):(ie n (jE z)).flatten=((ie n z.toList).flatten).map af.raw:=by
 simp[jE,I.map_flatten]
def af0(w:du)(t e:ed)(len:E)(parts:fh (E×Value))(g:fh Value)(d:TypeInfo)(z:Value)
  (A:P.underlying t=O (.slice e)) (y:P.info? e=O d) (J:d.zero=O z) (G:¬len*d.size>2^24) (K:1<=d.size)
  (h:À (λi=>O (i*d.size,d.size)) ((R6 (len*d.size)).map (z.cells[· %z.cells.size]!)) parts.toList=O g):
  (ý t len parts).run P w=.ok (.slice (O ⟨w.heap.size,0,bs⟩) len len) (w.alloc (.cells g e)):=by
 by_cases u:len*d.size=0
 .have F:len=0:=by
   rcases E.mul_eq_zero.1 u with h|h
   .exact h
   .omega
  subst F;have p:∀f:E->Value,fh.map f (R6 0)= #[]:=λf=>fh.ext τ (λi _ C=>by simp at C)
  rw[CB,p]at h;simp[ý,OA A,sizeOf,typeInfo,y,newRow,p,h]
 .exact run_buildSlice w t e len parts g d z A y J G u h
section
variable(Z:bl P B ρ H w)(he:∀x,Den ρ (ev x) (e x)){t:ed}
def af1{len:E}{parts:fh (E×gn)}(V:o.op=.buildSlice t len parts):dy P B ρ H w ((gy e o).run P w) (B9 t len parts P o ev H):=by
 unfold B9;cases d:q4 P ev t len parts H with
 |none=>trivial
 |some q=>
  unfold q4 at d;simp only[ep]at d;obtain⟨el,S,s,X,z,F,d⟩:=d;cases g:(dK 1 s&&dK (len*s) 16777216&&dd z.cells.size s)with
  |false=>rw[g]at d;cases d
  |true=>
   rw[g]at d;simp only[ae]at g;obtain⟨⟨p,C⟩,u⟩:=g;have p:=b5 p;have C:=b5 C;have u:=ac u;simp only[ka,am]at d;obtain⟨cs,M,rfl⟩:=d;obtain⟨h,G,rfl⟩:=zQ X;obtain⟨d,A,g⟩:=M9 F;rw[G]at A;cases A;have J:1<=h.size:=p;have Q:aE ρ (ie len (jE z.cells)).flatten ((R6 (len*h.size)).map (z.cells[· %z.cells.size]!)).toList:=by
    rw[IL z.cells h.size u J,Nf];exact aE.ue _
   obtain⟨d,K,L⟩:=Nd he parts M Q;intro F;have U:ρ H.next=bs:=F H.next (aC _) (gR _);refine zU Z 0 (y:= .slice (O ⟨w.heap.size,0,bs⟩) len len) ?_ (.slice (Env.eu ..) rfl (aC _)) (IK (L.mono (Env.sA U))) F;have W:=af0 (P:=P) w t el len _ d h z (zR S) G g ω J K;simp[gy,V,W]
def af2{l c:gn}(a':o.op=.makeSlice t l c):dy P B ρ H w ((gy e o).run P w) (d8 t l c P o ev H):=by
 unfold d8;cases d:sj P t (ev l) (ev c) H with
 |none=>trivial
 |some q=>
  unfold sj at d;simp only[ep]at d;obtain⟨el,W,g,X,z,a0,u,K,h,V,d⟩:=d;cases p:(dK u h&&dK 1 g.size&&bounded h g.bytes&&dd z.cells.size g.size)with
  |false=>rw[p]at d;cases d
  |true=>
   rw[p]at d;simp only[ae,bounded]at p;obtain⟨⟨⟨A,C⟩,G,J⟩,F⟩:=p;have A:=b5 A;have C:=b5 C;have G:=b5 G;have J:=b5 J;have F:=ac F;cases d;obtain⟨M,d⟩:=Fi K;obtain⟨L,p⟩:=Fi V;have Q:e l=.int M u:=by have:=he l;rw[d]at this;exact this.cu
   have S:e c=.int L h:=by have:=he c;rw[p]at this;exact this.cu
   have U:(g.bytes:N)*(h:N)<=281474976710656:=by
    have:((g.bytes*h:E):N)<=281474976710656:=by rw[E.mul_comm];omega
    rwa[N.natCast_mul]at this
   have K:=run_make (P:=P) w t el g z (zR W) X a0 M L u h ω ω U ω;simp only[kh]at K;refine zU Z 0 (ob:= .cells (madeCells z.cells (h*g.size)) el) (y:= .slice (O ⟨w.heap.size,0,bs⟩) u h) ?_ (.slice (Env.eu ..) rfl A) (IK ?_)
   .simp[gy,a',Q,S,K]
   .unfold madeCells;rw[IL z.cells g.size F C,Nf];exact aE.ue _
end
def nO(hH:bl P B ρ H w){i b c:E}{el:ed}{cs:I af}{exact cV K:dF}(hi:H.get i=O (.cells el cs exact cV K))(u:ρ i=O (b,c)):
  ∃d g,w.heap[b]? =O (.cells d el g)/\(cV=ao->g=(0,0))/\aE ρ cs (d.toList.take cs.length)/\(exact=D->d.size=cs.length)/\(exact=ao->d.size=c*P.cellsOf el)/\cs.length<=d.size:=by
 obtain⟨o,F,G,_⟩:=hH.at hi u;obtain⟨d,g,rfl,z,p,A,C⟩:=G;refine⟨d,g,F,z,p,A,λJ=>?_,?_⟩
 .obtain⟨L,M,h,y⟩:=C J;rw[u]at h;cases h;exact y
 .have:=p.length;simp at this;omega
def zV{xs:fh Value}{n i:E}{y:Value}(h:(xs.toList.take n)[i]? =O y):xs[i]? =O y:=by
 rw[ly]at h;split at h
 .simpa using h
 .cases h
def cell_of{b off:E}{xs:fh Value}{el:ed}{d:E×E}(h:w.heap[b]? =O (.cells xs el d)):w.cell? ⟨b,off,bs⟩=xs[off]? :=by simp[Hf,h]
def po{b off:E}{xs:fh Value}{el t:ed}{C:E×E}{cs:I af}{v:af}(h:w.heap[b]? =O (.cells xs el C))(z:aE ρ cs (xs.toList.take cs.length))(d:lc P t cs off=O v):
  ∃y,(þ t ⟨b,off,bs⟩).run P w=.ok y w/\Den ρ v y:=by
 unfold lc at d;cases p:lv P t with
 |no=>rw[p]at d;cases d
 |one=>
  rw[p]at d;simp only[Ce]at d;obtain⟨y,F,G⟩:=z.get d;refine⟨y,?_,G⟩;simp[þ,IE (UD p),run_load,cell_of h,zV F]
 |agg n=>
  rw[p]at d;obtain⟨K,L⟩:=UE p;cases u:dK (Sc off n) cs.length with
  |false=>simp only[u]at d;cases d
  |true=>
   simp only[u]at d;cases d;have A:=run_loadCells_list (P:=P) w ⟨b,off,bs⟩ (((xs.toList.take cs.length).drop off).take n) (λj y g=>by
    rw[kq,cell_of h];rw[ly]at g;split at g
    .rw[z5]at g;exact zV g
    .cases g)
   have J:(((xs.toList.take cs.length).drop off).take n).length=n:=by
    have:=z.length;have M:off+n<=cs.length:=b5 u;simp only[er,p7,this]at*;omega
   refine⟨.agg (((xs.toList.take cs.length).drop off).take n).toArray,?_,.agg ((z.drop off).take n)⟩;rw[J]at A;simp[þ,IE K,lD L,A]
def BT{t:ed}{x:gn}{b off:E}{y:Value}(d:o.op=.load t x)(g:e x=.pointer (O ⟨b,off,bs⟩))(h:(þ t ⟨b,off,bs⟩).run P w=.ok y w):(gy e o).run P w=.ok (.value y) w:=by
 simp[gy,d,Instr.loadAt,g,xx,h]
def af5(hH:bl P B ρ H w){t:ed}{x:gn}{v:af}(F:o.op=.load t x)(J:Den ρ v (e x)):dy P B ρ H w ((gy e o).run P w) (pc P t v H):=by
 unfold pc;split
 .rename_i C X k W;obtain⟨b,g,A,p,d,S,U,u⟩:=J.Ch;obtain⟨⟨el,d,h⟩,_⟩:=hH.fz b A p;refine d9 hH λv d=>?_
  have d:=Uz U d;have d:=Uy (pre:=(A.toList.take g).map af.raw) (post:=[]) d;have G:((A.toList.take g).map af.raw).length=g:=by simp;omega
  rw[G,mS]at d;obtain⟨U,y,z⟩:=po h (cs:=(A.toList.take g).map af.raw++C.flat X) (by
   rw[fQ,G,I.take_add];exact(aE.ue _).append S) d
  exact nM (BT F u y) z
 .rename_i M C i k W;cases V:bx M C (H.get i) k with
  |false=>trivial
  |true=>
   obtain⟨K,L⟩:=xZ V;obtain⟨b,c,p,u⟩:=J.zN;obtain⟨ys,h,Q,_⟩:=ug hH K p;refine d9 hH λv d=>?_
   obtain⟨U,y,z⟩:=po h Q (Uz L d);exact nM (BT F u y) z
 .trivial
def af6(hH:bl P B ρ H w)(he:∀x,Den ρ (ev x) (e x)){t:ed}{x:gn}(g:o.op=.load t x):dy P B ρ H w ((gy e o).run P w) (qb t x P o ev H):=by
 unfold qb;cases C:jX (ev x)with
 |no=>exact af5 hH g (he x)
 |mk i Q=>
  cases d:zp (H.get i)with
  |no=>simp only[d];trivial
  |mk el cs K cV S=>
   simp only[d];have h:=he x;rw[pi C]at h;obtain⟨b,c,z,A⟩:=h.mK;obtain⟨U,L,p,M,u,_⟩:=nO hH (UC d) z;refine d9 hH λv F=>?_
   obtain⟨y,G,J⟩:=po p u F;exact nM (y:=y) (by simp[gy,g,Instr.loadAt,A,xx,G]) J
def U1{α:Type}(L vs:I α)(off n:E)(h:off+vs.length<=n)(g:n<=L.length):
  (L.take off++vs++L.drop (off+vs.length)).take n=(L.take n).take off++vs++(L.take n).drop (off+vs.length):=by
 have d:(L.take n).take off=L.take off:=by rw[KE,ns ω]
 rw[d,Sn,eG (by simp;omega)];congr 1;rw[I.drop_take];congr 1;simp;omega
def IM(hH:bl P B ρ H w){i b c off:E}{el:ed}{cs vs g:I af}{exact:dF}(hi:H.get i=O (.cells el cs exact ao ao))(u:ρ i=O (b,c))(X:mJ cs off vs=O g){ys:I Value}(p:aE ρ vs ys)(U:co vs=D):
  ∃d z,w.heap[b]? =O (.cells d el (0,0))/\(SQ ⟨b,off,bs⟩ ys).run P w=.ok () z/\bl P B ρ (H.set i (.cells el g exact ao ao)) z/\bV ρ H w ρ (H.set i (.cells el g exact ao ao)) z:=by
 obtain⟨d,y,h,L,A,M,Q,S⟩:=nO hH hi u;have V:=L rfl;subst V;obtain⟨y,J⟩:=Fe X;have z:=p.length;have F:=Á P b off el ys 0 d w h (by simp only[E.add_zero];omega) (p.one U);simp only[E.add_zero]at F;obtain⟨L,K⟩:=xX hH hi u rfl (k:= .cells el g exact ao ao) (w.setRow b (d.toList.take off++ys++d.toList.drop (off+ys.length)).toArray)
  (.cells (d.toList.take off++ys++d.toList.drop (off+ys.length)).toArray el (0,0)) rfl rfl rfl τ (setRow_heap w b d _ el (0,0) h) (λj W=>ÿ w b j _ W) (by
    have C:g.length=cs.length:=by rw[J];simp;omega
    have G:(d.toList.take off++ys++d.toList.drop (off+ys.length)).toArray.size=d.size:=by simp;omega
    refine⟨_,_,rfl,λ_=>rfl,?_,λy=>by rw[G,C];exact M y,λy=>⟨b,c,u,by rw[G];exact Q y⟩⟩;show aE ρ g ((d.toList.take off++ys++d.toList.drop (off+ys.length)).take g.length);rw[C,U1 _ _ _ _ ω (by simpa using S),J,z];exact((A.take off).append p).append (A.drop _))
 exact⟨d,_,h,F,L,K⟩
def af7{cs vs r:I af}{off:E}(h:mJ cs off vs=O r):r.length=cs.length:=by
 obtain⟨g,d⟩:=Fe h;rw[d];simp;omega
def af8(hH:bl P B ρ H w){i b c off:E}{el:ed}{t:aq}{xs xs':I t.den}{vs g:I af}(hi:H.get i=O (.own el t xs))(p:ρ i=O (b,c))(A:mJ (t.flat xs) off vs=O g){ys:I Value}(h:aE ρ vs ys)(S:co vs=D)
  (a':∀F,aE ρ g F->aE ρ (t.flat xs') F) (W:xs'.length=xs.length):
  ∃u,(SQ ⟨b,off,bs⟩ ys).run P w=.ok () u/\bl P B ρ (H.set i (.own el t xs')) u/\bV ρ H w ρ (H.set i (.own el t xs')) u:=by
 obtain⟨d,y,z,K,L,M,Q⟩:=ug hH hi p;have u:g.length=(t.flat xs).length:=af7 A;have G:(t.flat xs').length=(t.flat xs).length:=by rw[t.jF,t.jF,W]
 obtain⟨u,g⟩:=Fe A;have u:=h.length;have C:=Á P b off el ys 0 d w y (by simp only[E.add_zero];omega) (h.one S);simp only[E.add_zero]at C;obtain⟨A,J⟩:=xX hH hi p rfl (k:= .own el t xs') (w.setRow b (d.toList.take off++ys++d.toList.drop (off+ys.length)).toArray)
  (.cells (d.toList.take off++ys++d.toList.drop (off+ys.length)).toArray el (0,0)) rfl rfl rfl τ (setRow_heap w b d _ el (0,0) y) (λj V=>ÿ w b j _ V) (by
    have X:(d.toList.take off++ys++d.toList.drop (off+ys.length)).toArray.size=d.size:=by simp;omega
    refine⟨⟨_,_,rfl,λ_=>rfl,?_,λU=>dF.noConfusion U,λ_=>⟨b,c,p,X.trans K⟩⟩,M,Q⟩;show aE ρ (t.flat xs') ((d.toList.take off++ys++d.toList.drop (off+ys.length)).take (t.flat xs').length);rw[G];refine a' _ ?_;rw[U1 _ _ _ _ ω (by simpa using L),g,u];exact((z.take off).append h).append (z.drop _))
 exact⟨_,C,A,J⟩
def af9{pre mid post vs r:I af}{off:E}(h:mJ mid off vs=O r):mJ (pre++(mid++post)) (pre.length+off) vs=O (pre++(r++post)):=by
 have u:∀(cs:I af)(o:E),o+vs.length<=cs.length->mJ cs o vs=O (cs.take o++vs++cs.drop (o+vs.length)):=λcs o d=>by
  unfold mJ;split
  .rename_i v;have g:o<cs.length:=by simp at d;omega
   rw[MZ,dA g,Us _ _ _ g];rfl
  .rw[aw d];rfl
 obtain⟨y,p⟩:=Fe h;rw[u _ _ (by simp;omega),p];congr 1;rw[Sn,eG ω,show pre.length+off-pre.length=off by omega,Sn,show off-mid.length=0 by omega];rw[Sj,pB ω,ts,show pre.length+off+vs.length-pre.length=off+vs.length by omega,Sj,show off+vs.length-mid.length=0 by omega];simp
def aga{t:ed}{x y:gn}{b off n:E}{w':du}(g:o.op=.store t x y)(u:e x=.pointer (O ⟨b,off,bs⟩))(d:eY P t=O n)(p:(e y).cells.size=n)(h:(SQ ⟨b,off,bs⟩ (e y).cells.toList).run P w=.ok () w'):(gy e o).run P w=.ok .skip w':=by
 simp[gy,g,Instr.storeAt,storeVar,u,xx,lD d,p,h]
def agb(hH:bl P B ρ H w){t:ed}{x y:gn}{v u:af}(a':o.op=.store t x y)(p:Den ρ v (e x))(M:Den ρ u (e y)):dy P B ρ H w ((gy e o).run P w) (zE P t v u H):=by
 unfold zE;split
 .rename_i d ty i k g;cases g:bx d ty (H.get i) k with
  |false=>trivial
  |true=>
   obtain⟨W,h⟩:=xZ g;obtain⟨b,c,A,h5⟩:=p.zN;cases J:(co u.cells&&we P t u.cells.length)with
   |false=>trivial
   |true=>
    simp only[ka];rw[ae]at J;obtain⟨C,g⟩:=J;unfold we at g;split at g
    .rename_i n J;have g:=ac g;split
     .rename_i p K;simp only[ep]at K;obtain⟨F,z,p2⟩:=K;have Q:=UY C;generalize G:bu ty (H.get i)=d at*;have L:=af9 (pre:=ty.flat (d.take k)) (post:=ty.flat (d.drop (k+1))) z;rw[<-ty.Uw d k h,ty.Ux d k h]at L;obtain⟨w',K,V,X⟩:=af8 (xs':=d.set k p) hH W A L (M.cells Q) C (λG z=>by
       have A:ty.flat (d.set k p)=ty.flat (d.take k)++(ty.cells p++ty.flat (d.drop (k+1))):=by
        rw[I.set_eq_take_append_cons_drop,dA h,aq.Fh,aq.Cg]
       rw[A];have h:(ty.flat (d.take k)).length<=G.length:=by rw[z.length];simp
       have G:=z.take (ty.flat (d.take k)).length;have A:=z.drop (ty.flat (d.take k)).length;simp only[z9,R']at G A;have S:=A.take F.length;have U:=A.drop F.length;simp only[z9,R']at S U;have d:=aq.afa p2 S;have:=G.append (d.append U);rwa[pa,pa]at this) τ
      have d:(e y).cells.size=n:=by rw[<-g,<-(M.cells Q).length];simp
      exact λ_=>⟨ρ,lk,w',.skip,aga a' h5 J d K,rfl,.raw _,V,X⟩
     .trivial
    .cases g
 .trivial
def agc(hH:bl P B ρ H w)(he:∀x,Den ρ (ev x) (e x)){t:ed}{x y:gn}(A:o.op=.store t x y):dy P B ρ H w ((gy e o).run P w) (sr t x y P o ev H):=by
 unfold sr;cases S:jX (ev x)with
 |no=>exact agb hH A (he x) (he y)
 |mk i F=>
  cases p:zp (H.get i)with
  |no=>simp only[p];trivial
  |mk el cs z cV X=>
   simp only[p];cases X with
   |true=>trivial
   |false=>
    cases cV with
    |true=>trivial
    |false=>
     have C:=he x;rw[pi S]at C;obtain⟨b,c,L,M⟩:=C.mK;show dy P B ρ H w _ (fc (E9 P t i F (ev y) H el cs z));cases g:E9 P t i F (ev y) H el cs z with
     |none=>trivial
     |some q=>
      unfold E9 at g;cases h:(co (ev y).cells&&we P t (ev y).cells.length)with
      |false=>rw[h]at g;cases g
      |true=>
       rw[h]at g;simp only[ka,am]at g;obtain⟨d,U,rfl⟩:=g;rw[ae]at h;obtain⟨u,d⟩:=h;unfold we at d;split at d
       .rename_i n Q;have d:=ac d;have G:=UY u;obtain⟨h,g,_,W,J,K⟩:=IM hH (UC p) L U ((he y).cells G) u;have V:(e y).cells.size=n:=by rw[<-d,<-((he y).cells G).length];simp
        exact λ_=>⟨ρ,lk,g,.skip,by simp[gy,A,Instr.storeAt,storeVar,M,xx,lD Q,V,W],rfl,.raw _,J,K⟩
       .cases d
end
section
variable{P:fd}{B:E}{ρ:Env}{H:ai}{w:du}{o:ls}{ev:eB}{e:gn->Value}
def run_getObj_map{b:E}{d:fh rb}{c:E}(h:w.heap[b]? =O (.map d c)):(getObj b).run P w=.ok (.map d c) w:=by
 simp[getObj,Ü,h]
def agd{t:ed}{u:fh rb}{c:E}{A v:Value}{C:dF}{b:E}(h:zt P t u A C=O v)(y:w.heap[b]? =O (.map u c)):(XL t (.map (O b)) A C).run P w=.ok v w:=by
 unfold zt at h;split at h
 .rename_i M L z;simp only[ep]at h;obtain⟨_,F,r,G,d⟩:=h;have g:=qf _ w F;have p:=qf _ w G;cases r with
  |none=>
   simp only[am]at d;obtain⟨S,J,rfl⟩:=d;simp only[XL,nC,ec z,kL,run_getObj_map y,oP,g,p,Fj J]
  |some K=>
   obtain⟨i,Q⟩:=K;simp only[vV]at d;subst d;simp only[XL,nC,ec z,kL,run_getObj_map y,oP,g,p]
 .cases h
def age(hH:bl P B ρ H w)(he:∀x,Den ρ (ev x) (e x)){t:ed}{m k:gn}{u:dF}(p:o.op=.lookup t m k u):dy P B ρ H w ((gy e o).run P w) (pd t m k u P o ev H):=by
 refine d9 hH λv d=>?_
 unfold MP at d;split at d
 .rename_i i S L K;have h:=he m;rw[L]at h;obtain⟨b,c,F,G⟩:=h.xW;split at d
  .rename_i A z J;simp only[am]at d;obtain⟨y,M,rfl⟩:=d;obtain⟨Q,C,g,_⟩:=hH.at J F;have g:Q=.map A z:=g;subst g;refine nM (y:=y) ?_ (.raw y);simp[gy,p,G,(he k).gh K,agd M C]
  .cases d
 .exact x4 he (by rw[p];rfl) d w
def Ng{b:E}{d:fh rb}{c:E}(h:w.heap[b]? =O (.map d c))(o':Obj):(setObj b o').run P w=.ok () {w with heap:=w.heap.setIfInBounds b o'}:=by
 simp[setObj,Ü,h]
def agf{t:ed}{z A:fh rb}{c p:E}{F xv:Value}{b:E}(h:MG P t z c F xv=O (A,p))(g:w.heap[b]? =O (.map z c)):
  (FH t (.map (O b)) F xv).run P w=.ok () {w with heap:=w.heap.setIfInBounds b (.map A p)}:=by
 unfold MG at h;split at h
 .rename_i S Q C;simp only[ep]at h;obtain⟨_,J,r,K,d⟩:=h;have u:=qf _ w J;have y:=qf _ w K;cases r with
  |none=>
   simp only[vV,BC.mk.injEq]at d;obtain⟨rfl,rfl⟩:=d;simp only[FH,nC,ec C,kL,run_getObj_map g,u,y,Ng g]
  |some M=>
   obtain⟨i,U⟩:=M;simp only[am,BC.mk.injEq]at d;obtain⟨k,L,rfl,rfl⟩:=d;have G:=qf _ w L;simp only[FH,nC,ec C,kL,run_getObj_map g,u,y,G,Ng g]
 .cases h
def Nh{b j:E}(o':Obj)(h:j≠b):(w.heap.setIfInBounds b o')[j]? =w.heap[j]? :=by
 simp[Ar h]
def Ni{b:E}{d:Obj}(o':Obj)(h:w.heap[b]? =O d):(w.heap.setIfInBounds b o')[b]? =O o':=by
 have:=(cy.1 h).1;simp[this]
def agh{t:ed}{d xv:Value}{b:E}(h:Iw P t d=D)(g:w.heap[b]? =O (.map #[] 0)):
  (FH t (.map (O b)) d xv).run P w=.ok () {w with heap:=w.heap.setIfInBounds b (.map #[{key:=d,val:=xv,born:=0}] 1)}:=by
 unfold Iw at h;split at h
 .rename_i F C A;split at h
  .rename_i y z;have p:=qf _ w y;have u:=qf _ w z;simp only[FH,nC,ec A,kL,run_getObj_map g,p,u,Ng g];rfl
  .cases h
 .cases h
section
variable(Z:bl P B ρ H w)(he:∀x,Den ρ (ev x) (e x)){t:ed}
def U3{m k x:gn}{r:yE Next}(W:∀u d,(FH t (e m) (e k) (e x)).run P w=.ok u d->r=.ok .skip d):dy P B ρ H w r (q5 t m k x P o ev H):=by
 unfold q5;cases d:Fa P t (ev m) (ev k) (ev x) H with
 |none=>trivial
 |some q=>
  unfold Fa at d;split at d
  .rename_i i z xv M L X;have y:=he m;rw[M]at y;obtain⟨b,c,p,J⟩:=y.xW;split at d
   .rename_i C A u;simp only[am]at d;obtain⟨g,K,rfl⟩:=d;obtain⟨G,F⟩:=g;obtain⟨U,h,g,_⟩:=Z.at u p;have g:U=.map C A:=g;subst g;have A:=agf (w:=w) K h;have S:=W _ _ (by rw[J,(he k).gh L,(he x).gh X];exact A);obtain⟨V,C⟩:=xX Z u p rfl (k:= .map G F) {w with heap:=w.heap.setIfInBounds b (.map G F)} (.map G F) rfl rfl rfl τ (Ni _ h) (λj K=>Nh _ K) rfl;exact λ_=>⟨ρ,lk,_,.skip,S,rfl,.raw _,V,C⟩
   .cases d
  .rename_i X;unfold MQ at d;split at d
   .rename_i i z M L;have y:=he m;rw[M]at y;obtain⟨b,c,p,J⟩:=y.xW;split at d
    .rename_i u;obtain⟨U,h,g,_⟩:=Z.at u p;have g:U=.map #[] 0:=g;subst g;cases Q:Iw P t z with
     |false=>rw[Q]at d;cases d
     |true=>
      rw[Q]at d;cases d;have A:=agh (w:=w) (xv:=e x) Q h;have S:=W _ _ (by rw[J,(he k).gh L];exact A);obtain⟨V,C⟩:=xX Z u p rfl (k:= .one z (ev x)) {w with heap:=w.heap.setIfInBounds b (.map #[{key:=z,val:=e x,born:=0}] 1)} (.map #[{key:=z,val:=e x,born:=0}] 1) rfl rfl rfl τ (Ni _ h) (λj K=>Nh _ K) ⟨_,rfl,he x⟩;exact λ_=>⟨ρ,lk,_,.skip,S,rfl,.raw _,V,C⟩
    .cases d
   .cases d
  .cases d
def agi{m k x:gn}(d:o.op=.mapUpdate t m k x):dy P B ρ H w ((gy e o).run P w) (q5 t m k x P o ev H):=
 U3 Z he λu g h=>by simp[gy,d,h]
def agj{m k x:gn}(d:o.op=.insert t m k x):dy P B ρ H w ((gy e o).run P w) (q5 t m k x P o ev H):=
 U3 Z he λu g h=>by simp[gy,d,h]
def agk{r:da gn}(g:o.op=.makeMap t r):dy P B ρ H w ((gy e o).run P w) (Ca t r P o ev H):=by
 unfold Ca;have d:(gy e o).run P w=.ok (.value (.map (O w.heap.size))) (w.alloc (.map #[] 0))->dy P B ρ H w ((gy e o).run P w) (.ok (.map H.next) (H.new (.map #[] 0))):=λp=>
  zU Z 0 p (.map (Env.eu ..)) rfl
 unfold ud;split
 .exact d (by simp[gy,g,Instr.makeMap])
 .rename_i x;split
  .rename_i C z A n u y;have:=he x;rw[y]at this;have h:=this.cu;exact d (by simp[gy,g,Instr.makeMap,ec u,h,asInt,õ])
  .trivial
end
section
variable{b s l:E}{m:da E}{q:fh E}
def jj(h:w.heap[b]? =O (.mapIter m s q l)):(getObj b).run P w=.ok (.mapIter m s q l) w:=by
 simp[getObj,Ü,h]
def agl(h:w.heap[b]? =O (.mapIter m s q l))(o':Obj):(setObj b o').run P w=.ok () {w with heap:=w.heap.setIfInBounds b o'}:=by
 simp[setObj,Ü,h]
end
def U4{i j b q:E}(h:i≠j):(ρ.put j b q) i=ρ i:=by simp[Env.put,h]
def agm(hH:bl P B ρ H w)(he:∀x,Den ρ (ev x) (e x)){t:ed}{x:gn}(G:o.op=.range t x):dy P B ρ H w ((gy e o).run P w) (Cb t x P o ev H):=by
 unfold Cb Iy;split
 .rename_i M L i J K;have z:=he x;rw[K]at z;obtain⟨b,q,h,C⟩:=z.xW;have y:∀(u:fh rb)(c:E),w.heap[b]? =O (.map u c)->(gy e o).run P w=.ok (.value (.pointer (O ⟨w.heap.size,0,bs⟩))) (w.alloc (.mapIter (O b) c #[] c)):=λu c F=>by
   simp only[gy,G,Instr.range,nC,ec J,kL,C,run_getObj_map F,oP];simp[newObj,Ü]
  split
  .rename_i g;obtain⟨A,p,d,_⟩:=hH.at g h;have d:A=.map #[] 0:=d;subst d;exact zU hH 0 (y _ _ p) (.ptr (Env.eu ..)) ⟨b,q,(U4 (E.ne_of_lt (hH.lt _ _ g))).trans h,rfl⟩
  .rename_i Q v g;obtain⟨A,p,⟨S,d,_⟩,_⟩:=hH.at g h;subst d;exact zU hH 0 (y _ _ p) (.ptr (Env.eu ..)) ⟨b,q,(U4 (E.ne_of_lt (hH.lt _ _ g))).trans h,rfl⟩
  .trivial
 .trivial
section
variable{b r:E}{t:ed}
def agn(d:w.heap[r]? =O (.mapIter (O b) 0 #[] 0))(g:w.heap[b]? =O (.map #[] 0)):(HN (.pointer (O ⟨r,0,bs⟩)) ao t).run P w=.ok (.tuple #[.bool ao]) w:=by
 simp[HN,jj d,run_getObj_map g,XM]
def EQ{k x:Value}(d:w.heap[r]? =O (.mapIter (O b) 1 #[] 1))(g:w.heap[b]? =O (.map #[{key:=k,val:=x,born:=0}] 1)):
  (HN (.pointer (O ⟨r,0,bs⟩)) ao t).run P w=.ok (.tuple #[.bool D,k,x]) {w with heap:=w.heap.setIfInBounds r (.mapIter (O b) 1 #[0] 1)}:=by
 simp[HN,jj d,run_getObj_map g,agl d,XM]
def ago{k x:Value}(d:w.heap[r]? =O (.mapIter (O b) 1 #[0] 1))(g:w.heap[b]? =O (.map #[{key:=k,val:=x,born:=0}] 1)):
  (HN (.pointer (O ⟨r,0,bs⟩)) ao t).run P w=.ok (.tuple #[.bool ao]) w:=by
 simp[HN,jj d,run_getObj_map g,XM]
end
def agp{b r:E}{k x:Value}(d:w.heap[r]? =O (.mapIter (O b) 1 #[0] 1))(g:w.heap[b]? =O (.map #[{key:=k,val:=x,born:=0}] 1)):
  (í (.pointer (O ⟨r,0,bs⟩))).run P w=.ok (.tuple #[k,x]) w:=by
 simp[í,jj d,run_getObj_map g]
section
variable(Z:bl P B ρ H w)(he:∀x,Den ρ (ev x) (e x)){x:gn}
def agq{s:dF}(U:o.op=.next x s):dy P B ρ H w ((gy e o).run P w) (Cc x s P o ev H):=by
 unfold Cc Iz;split
 .rename_i j V;have K:=he x;rw[V]at K;obtain⟨r,d,A,r2⟩:=K.mK;have C:∀J G,(HN (.pointer (O ⟨r,0,bs⟩)) ao o.type).run P w=.ok J G->(gy e o).run P w=.ok (.value J) G:=λJ G S=>by simp[gy,U,r2,S]
  unfold MR;split
  .rename_i i d;obtain⟨M,h,⟨b,q,p,z⟩,_⟩:=Z.at d A;subst z;split
   .rename_i u;obtain⟨F,y,g,_⟩:=Z.at u p;have g:F=.map #[] 0:=g;subst g;exact gU Z (C _ _ (agn h y)) (.tuple (.cons (.raw _) .nil))
   .trivial
  .rename_i i d;obtain⟨M,h,⟨b,q,p,z⟩,_⟩:=Z.at d A;subst z;split
   .rename_i W v u;obtain⟨F,y,⟨G,g,L⟩,_⟩:=Z.at u p;subst g;obtain⟨X,Q⟩:=xX Z d A rfl (k:= .iter i 1 D) {w with heap:=w.heap.setIfInBounds r (.mapIter (O b) 1 #[0] 1)} (.mapIter (O b) 1 #[0] 1) rfl rfl rfl τ (Ni _ h) (λj d=>Nh _ d) ⟨b,q,p,rfl⟩;exact λ_=>⟨ρ,_,_,_,C _ _ (EQ h y),rfl,.tuple (.cons (.raw _) (.cons (.raw _) (.cons L .nil))),X,Q⟩
   .trivial
  .rename_i i d;obtain⟨M,h,⟨b,q,p,z⟩,_⟩:=Z.at d A;subst z;split
   .rename_i W v u;obtain⟨F,y,⟨G,g,L⟩,_⟩:=Z.at u p;subst g;exact gU Z (C _ _ (ago h y)) (.tuple (.cons (.raw _) .nil))
   .trivial
  .trivial
 .trivial
def agr(u:o.op=.entry x):dy P B ρ H w ((gy e o).run P w) (Fb x P o ev H):=by
 refine d9 Z λv d=>?_
 unfold Uo at d;split at d
 .rename_i j z;have g:=he x;rw[z]at g;obtain⟨r,V,M,r2⟩:=g.mK;unfold Un at d;split at d
  .rename_i i p;obtain⟨U,G,⟨b,q,J,L⟩,_⟩:=Z.at p M;subst L;split at d
   .rename_i K W h;obtain⟨S,A,⟨Q,C,F⟩,_⟩:=Z.at h J;subst C;cases d;exact nM (y:= .tuple #[K,Q]) (by simp[gy,u,r2,agp G A]) (.tuple (.cons (.raw _) (.cons F .nil)))
   .cases d
  .cases d
 .cases d
end
def Nk:∀{cs:I af}{d:I hN}{xs:I Value},bytesOf cs=O d->aE ρ cs xs->xs=d.map λb=>Value.int .u8 b.toNat
 |[],d,_,h,.nil=>by simp[bytesOf]at h;simp[h]
 |v::cs,d,_,h,.cons z y=>by
  unfold bytesOf at h;split at h
  .cases ‹_::_=[]›
  .rename_i n l p;cases p;cases g:dK (n+1) 256 with
   |false=>rw[g]at h;cases h
   |true=>
    rw[g]at h;have g:=b5 g;simp only[ka,am]at h;obtain⟨r,u,rfl⟩:=h;have:=Nk u y;rw[z.cu,this,Li];congr 2;have:(hN.ofNat n).toNat=n:=by simp;omega
    rw[this];rfl
  .cases h
def IP{b off:E}{xs:fh Value}{el:ed}{g:E×E}{n k:E}(h:w.heap[b]? =O (.cells xs el g)):∀(j:E)(y:Value),(((xs.toList.take n).drop off).take k)[j]? =O y->w.cell? ((⟨b,off,bs⟩:wu).add j)=O y:=λj y d=>by
 rw[kq,cell_of h];rw[ly]at d;split at d
 .rw[z5]at d;exact zV d
 .cases d
def Nl{cs:I af}{xs:I Value}{off n:E}(d:aE ρ cs xs)(h:off+n<=cs.length):((xs.drop off).take n).length=n:=by
 have:=d.length;simp only[er,p7];omega
def Nn{b:E}{xs:fh Value}{el:ed}{d:E×E}(h:w.heap[b]? =O (.cells xs el d)):w.shape? b=O (el,xs.size):=by simp[du.shape?,h]
def ags(hH:bl P B ρ H w)(he:∀x,Den ρ (ev x) (e x)){s d:ed}{x:gn}(h:o.op=.convert s d x):dy P B ρ H w ((gy e o).run P w) (B8 s d x P o ev H):=by
 have g:sB o.op=D:=by rw[h];rfl
 have C:=he x;have U5:dy P B ρ H w ((gy e o).run P w) (fc ((gen P o ev).map λv=>(v,H))):=by
  have:=ib (P:=P) (w:=w) hH he g;cases u:gen P o ev with
  |none=>trivial
  |some v=>rw[u]at this;exact this
 have S:∀y g,(convert s d (e x)).run P w=.ok y g->(gy e o).run P w=.ok (.value y) g:=λy g J=>by simp[gy,h,J]
 unfold B8;unfold si;split
 .rename_i i off U g L;rw[L]at C;obtain⟨b,c,k,A,g,h,Q⟩:=C.jv;split
  .rename_i el g cs W cV a1 z p u;split
   .rename_i X;cases h:dK (off+U) cs.length with
    |false=>trivial
    |true=>
     have h:=b5 h;simp only[ka];cases g:bytesOf (cut cs off U)with
     |none=>trivial
     |some F=>
      obtain⟨a',a0,G,_,M,_⟩:=nO hH u A;have V:=Nk g ((M.drop off).take U);have g:F.length=U:=by have:=Nl M h;rw[V]at this;simpa using this
      subst g;refine gU hH (y:= .string ⟨F.toArray⟩) (S _ _ ?_) (.raw _);rw[Q];refine run_convert_bytes_back w s d el ⟨b,off,bs⟩ k F z X p λj K=>?_
      have g:=IP (n:=cs.length) (k:=F.length) (off:=off) G j (.int .u8 F[j].toNat);rw[V]at g;exact g (by simp[K])
   .trivial
  .trivial
 .rename_i i off L;rw[L]at C;obtain⟨b,c,A,Q⟩:=C.mK;split
  .rename_i t el cs W cV a1 z p u;split
   .rename_i n g;cases h:dK (off+1) cs.length with
    |false=>trivial
    |true=>
     have h:=b5 h;obtain⟨a',a0,G,_,M,_,_,U⟩:=nO hH u A;obtain⟨a2,F,K⟩:=zQ g;refine gU hH (y:= .pointer (O ⟨b,off,bs⟩)) (S _ _ ?_) (.ptr A);rw[Q];exact run_convert_to_unsafe (t:=t) z p (by simp[F,K]) (v:=a'[off]'ω) (by rw[cell_of G];exact E' ω)
   .trivial
  .rename_i F el cs cV a1 z p u;cases h:((eY P F).isSome&&liesAt P P.depth el (cs.length/P.cellsOf el) off F 1)with
   |false=>trivial
   |true=>
    rw[ae]at h;obtain⟨F,h⟩:=h;obtain⟨n,g⟩:=DF.1 F;obtain⟨a',a0,G,_,M,F,_,U⟩:=nO hH u A;have K:=F rfl;refine gU hH (y:= .pointer (O ⟨b,off,bs⟩)) (S _ _ ?_) (.ptr A);rw[Q];have u:=Nn G;rw[K]at u;simp[convert,ec z,ec p,Conv.unsafePointer,Conv.seenAt,viewAt,u,lD g,variablesAt,h]
  .trivial
 .rename_i g L;split
  .rename_i el z p;split
   .rename_i X;cases h:dd (P.cellsOf el) 1 with
    |false=>trivial
    |true=>
     have h:=ac h;rw[L]at C;have W:=C.cu;intro u;have A:=run_bytes_of_string (P:=P) w s d el g z p X;obtain⟨V,p⟩:=kw hH.drew u (BD w g.size 0 el) (.cells el (g.data.toList.map λx=>.raw (.int .u8 x.toNat)) ao D ao)
      (.cells (Â g (BD w g.size 0 el)) el ((Â g (BD w g.size 0 el)).size,(Â g (BD w g.size 0 el)).size+1)) (by
        have u:=Qd w g.size 0 el;refine⟨_,_,rfl,(λJ=>by cases J),?_,(λJ=>by cases J),λ_=>⟨_,_,Env.eu ..,?_⟩⟩
        .have u:(Â g (BD w g.size 0 el)).toList.take (g.data.toList.map λx=>af.raw (.int .u8 x.toNat)).length=g.data.toList.map λx=>Value.int .u8 x.toNat:=by
          simp only[Â,KI,fh.toList_map,mG];rw[z9 τ]
         rw[u];have:=aE.ue (ρ:=ρ.put H.next w.drew.heap.size (BD w g.size 0 el)) (g.data.toList.map λx=>Value.int .u8 x.toNat);simpa[I.map_map,Uh]using this
        .rw[h,Au];have K:g.data.size=g.size:=rfl;simp only[Â,fh.size_append,fh.size_map,fh.size_replicate,K];omega)
     refine⟨_,.slice (O ⟨w.heap.size,0,bs⟩) g.size (BD w g.size 0 el),_,_,S _ _ (by rw[W];exact A),rfl,?_,V,p.drew⟩;exact .slice (Env.eu ..) rfl (Qd w g.size 0 el)
   .trivial
  .exact U5
 .exact U5
end
section
variable{P:fd}{B:E}{ρ:Env}{H:ai}{w:du}{o:ls}{ev:eB}{e:gn->Value}
def U6(hH:bl P B ρ H w){s n:E}{x:af}{y:Value}{J:I af}{tx:ed}(A:(∃K,P.underlying tx=O (.slice K))\/P.underlying tx=O .string)(h:src H s x=O (J,n))(C:Den ρ x y):
  ∃ys,aE ρ J ys/\ys.length=n*s/\((∀U∈ys,U.oneCell'=D)->Ĉ P s tx y n ys w):=by
 unfold src at h;split at h
 .rename_i c;cases h;have:=C.cu;subst this;exact⟨[],.nil,by simp,λ_=>⟨A,λ_=>rfl,qF w s 0 0 c,qF w.drew s 0 0 c,by simp,λ_ h=>by cases h⟩⟩
 .rename_i b;cases g:dd s 1 with
  |false=>rw[g]at h;cases h
  |true=>
   rw[g]at h;cases h;have g:=ac g;subst g;have:=C.cu;subst this;have L:=aE.ue (ρ:=ρ) (byteCells b);refine⟨byteCells b,?_,by rw[byteCells_length,Au],λz=>⟨A,λ_=>rfl,Qp b w,Qp b w.drew,by rw[byteCells_length,Au],z⟩⟩;simpa[byteCells,I.map_map,Uh]using L
 .rename_i i u S V;split at h
  .rename_i el cs W cV d M;cases d:dK (u+S*s) cs.length with
   |false=>rw[d]at h;cases h
   |true=>
    rw[d]at h;cases h;have d:=b5 d;obtain⟨b,c,k,z,_,_,rfl⟩:=C.jv;obtain⟨g,X,F,_,G,_⟩:=nO hH M z;have p:=Nl G d;refine⟨_,(G.drop u).take (n*s),p,λQ=>⟨A,λ_=>rfl,lF w s n ⟨b,u,bs⟩ n k _ p (IP F),lF w.drew s n ⟨b,u,bs⟩ n k _ p (IP (w:=w.drew) F),p,Q⟩⟩
  .cases h
 .cases h
section
variable{t tx ty el:ed}{i:TypeInfo}(Z:P.underlying t=O (.slice el))
def IQ(hi:P.info? el=O i){y:Value}(g:Ĉ P i.size tx y 0 [] w)(d:da wu){len k:E}(p:len<=k):
  (sn #[t,tx] ty #[.slice d len k,y]).run P w=.ok (.slice d len k) w:=by
 rcases g.kind with⟨u,h⟩|h<;>cases d<;>simp[sn,OA Z,OA h,sizeOf,typeInfo,hi,g.len,g.cells,p,SQ]
def sm(hi:P.info? el=O i){y:Value}{n:E}{ys:I Value}(d:Ĉ P i.size tx y n ys w){b len k:E}(h:len+n<=k){w':du}
  (p:(SQ ⟨b,len*i.size,bs⟩ ys).run P w=.ok () w'):(sn #[t,tx] ty #[.slice (O ⟨b,0,bs⟩) len k,y]).run P w=.ok (.slice (O ⟨b,0,bs⟩) (len+n) k) w':=by
 rcases d.kind with⟨u,g⟩|g<;>simp[sn,OA Z,OA g,sizeOf,typeInfo,hi,d.len,h,d.cells,wu.add_lit,p]
end
def de{b:na}{args:fh gn}{argTypes:fh ed}(g:o.op=.call {callee:= .builtin b,args,argTypes}){d:Next}{w':du}
  (h:∀cs,(OH b argTypes o.type cs (args.map e)).run P w=.ok d w'):(gy e o).run P w=.ok d w':=by
 simp only[gy,g,WK,nC,oP,kL,invoke];exact h _
def agt{ρ:Env}{i b c:E}{el:ed}{cs:I af}{xs:fh Value}{d:fh Value}(g:ρ i=O (b,c))(h:aE ρ cs xs.toList)(p:(xs++d).size=c*P.cellsOf el):iZ P ρ i (.cells el cs ao ao ao) (.cells (xs++d) el):=by
 refine⟨_,(0,0),rfl,λ_=>rfl,?_,(λh=>by cases h),λ_=>⟨b,c,g,p⟩⟩;rw[KI,z9 h.length];exact h
def Np{el:ed}{i:TypeInfo}(hi:P.info? el=O i):P.cellsOf el=i.size:=by simp[fd.cellsOf,hi]
def Nq(hH:bl P B ρ H w)(d:Fr ρ H.next (H.next+1)){el:ed}{i:TypeInfo}{z:Value}(hi:P.info? el=O i)(y:z.cells.size=i.size){cs:I af}{xs:I Value}(h:aE ρ cs xs){need old:E}(p:xs.length=need*i.size):
  bl P B (ρ.put H.next w.heap.size (BD w need old el)) (H.new (.cells el cs ao ao ao)) (w.drew.alloc (.cells (xs.toArray++sX z.cells (BD w need old el-need)) el))/\
   bV ρ H w (ρ.put H.next w.heap.size (BD w need old el)) (H.new (.cells el cs ao ao ao)) (w.drew.alloc (.cells (xs.toArray++sX z.cells (BD w need old el-need)) el)):=by
 have u:ρ H.next=bs:=d H.next (aC _) (gR _);obtain⟨A,g⟩:=kw hH.drew d (BD w need old el) (.cells el cs ao ao ao) (.cells (xs.toArray++sX z.cells (BD w need old el-need)) el)
  (agt (P:=P) (Env.eu ..) ((show aE ρ cs xs.toArray.toList by simpa using h).mono (Env.sA u)) (by
    have C:=Qd w need old el;rw[Np hi];simp only[fh.size_append,I.size_toArray,size_zeroCells,y,p,<-Gz];congr 1;omega))
 exact⟨A,g.drew⟩
def Nr{need old bytes:E}(h:old<need)(d:need*bytes<=140737488355328):na.nextslicecap need old*bytes<=281474976710656:=growslice_fits h d
section
variable(hH:bl P B ρ H w)
def BY{t tx ty el:ed}{i:TypeInfo}{z:Value}(W:P.underlying t=O (.slice el))(hi:P.info? el=O i)(a5:i.zero=O z)(a6:z.cells.size=i.size){y:Value}{n:E}{ys:I Value}(C:Ĉ P i.size tx y n ys w)
  {u:I af} (M:aE ρ u ys) (h1:co u=D) {id len:E} {cap:aY} {xv:Value} (p:Den ρ (.slice id 0 len cap) xv) {q:af×ai} (d:zA el i.size i.bytes id len cap u n H=O q) (K:Fr ρ H.next q.2.next):
  ∃ρ' x h,(sn #[t,tx] ty #[xv,y]).run P w=.ok x h/\Den ρ' q.1 x/\bl P B ρ' q.2 h/\bV ρ H w ρ' q.2 h:=by
 unfold zA at d;cases A:bounded (len+n) i.bytes with
 |false=>rw[A]at d;cases d
 |true=>
  rw[A]at d;simp only[bounded,ae]at A;have b1:=b5 A.1;have g:=b5 A.2;simp only[ka]at d;split at d
  .rename_i g cs U7 S;cases G:(dd el g&&dK (len*i.size) cs.length)with
   |false=>rw[G]at d;cases d
   |true=>
    rw[G]at d;rw[ae]at G;have g:=ac G.1;have b4:=b5 G.2;subst g;simp only[ka]at d;obtain⟨b,c,k,J,V,g,rfl⟩:=p.jv;obtain⟨g,A,X,F,p,G,a9,L⟩:=nO hH S J;have A:=F rfl;subst A
    -- the elements that were there
    have A:((g.toList.take cs.length).take (len*i.size)).length=len*i.size:=by
     have:=p.length;rw[er,this];omega
    have a':aE ρ (cs.take (len*i.size)) ((g.toList.take cs.length).take (len*i.size)):=p.take _;have G:=lF (P:=P) w.drew i.size len ⟨b,0,bs⟩ len k _ A (λj v L=>by
     rw[KE]at L;have:=zV (n:=XR (len*i.size) cs.length) L;rw[kq];show w.cell? _=_;rw[cell_of X];simpa using this)
    have a0:=C.newsLen
    -- the way that lays a new row
    have grow:k<len+n->∀H0:ai,bl P B ρ H0 w->bV ρ H w ρ H0 w->H0.next=H.next->q=(.slice H0.next 0 (len+n) .full,H0.new (.cells el (cs.take (len*i.size)++u) ao ao ao))->
      ∃ρ' x h,(sn #[t,tx] ty #[.slice (O ⟨b,0,bs⟩) len k,y]).run P w=.ok x h/\Den ρ' q.1 x/\bl P B ρ' q.2 h/\bV ρ H w ρ' q.2 h:=by
     intro p H0 Q U F a3;subst a3;have a1:Fr ρ H0.next (H0.next+1):=by rw[F];have:(H0.new (.cells el (cs.take (len*i.size)++u) ao ao ao)).next=H0.next+1:=rfl;rw[this,F]at K;exact K
     have a4:=Zc (P:=P) w t tx ty el i z W hi a5 (O ⟨b,0,bs⟩) len k _ G y n ys C p ω (Nr p b1);obtain⟨G,F⟩:=Nq Q a1 (need:=len+n) (old:=k) hi a6 (a'.append M) (by rw[fQ,A,a0,Gz]);exact⟨_,_,_,a4,.slice (Env.eu ..) rfl (Qd w (len+n) k el),G,U.trans F⟩
    cases cap with
    |known A=>
     have U:k=A:=V;subst U;simp only at d;cases F:dK (len+n) k with
     |true=>
      rw[F]at d;have Q:=b5 F;simp only[ka,am]at d;obtain⟨A,a2,rfl⟩:=d;obtain⟨_,h,_,r2,G,A⟩:=IM hH S J a2 M h1;exact⟨ρ,_,h,sm W hi C Q r2,.slice J rfl Q,G,A⟩
     |false=>
      rw[F]at d;simp only[sd,vV]at d;have p:k<len+n:=by
       refine E.lt_of_not_le λh=>?_
       rw[aw h]at F;cases F
      exact grow p H hH (bV.refl _ _ _) rfl d.symm
    |full=>
     have U:k=c:=V;subst U;cases U7 with
     |true=>cases d
     |false=>
      simp only[sd,vV]at d;by_cases p:k<len+n
      .obtain⟨d1,d2⟩:=Uv hH id;exact grow p (H.drop id) d1 d2 rfl d.symm
      .have V:len+n<=k:=E.le_of_not_lt p;subst d;have p:=a9 rfl;have F:len*i.size+ys.length<=g.size:=by
        rw[p,Np hi,a0,<-Gz];exact Hr _ V
       have h:=Á P b (len*i.size) el ys 0 g w X (by simpa using F) C.one;simp only[E.add_zero]at h;have U:ρ H.next=bs:=K H.next (aC _) (gR _);obtain⟨G,A⟩:=ae9 hH K S J rfl (k:= .cells el (cs.take (len*i.size)++u) ao ao ao) (w.setRow b (g.toList.take (len*i.size)++ys++g.toList.drop (len*i.size+ys.length)).toArray)
        (.cells (g.toList.take (len*i.size)++ys++g.toList.drop (len*i.size+ys.length)).toArray el (0,0)) rfl rfl rfl τ (setRow_heap w b g _ el (0,0) X) (λj L=>ÿ w b j _ L) (by
          refine⟨_,_,rfl,λ_=>rfl,?_,(λF=>by cases F),λ_=>⟨b,k,Env.eu ..,?_⟩⟩
          .have F:(g.toList.take cs.length).take (len*i.size)=g.toList.take (len*i.size):=by rw[KE,ns b4]
           have Q:=(a'.append M);rw[F]at Q;have F:((g.toList.take (len*i.size)++ys++g.toList.drop (len*i.size+ys.length)).toArray.toList).take (cs.take (len*i.size)++u).length=g.toList.take (len*i.size)++ys:=by
            show(g.toList.take (len*i.size)++ys++g.toList.drop (len*i.size+ys.length)).take _=_;exact z9 Q.length
           rw[F];exact Q.mono (Env.sA U)
          .rw[<-p];simp;omega)
       exact⟨_,_,_,sm W hi C V h,.slice (Env.eu ..) rfl V,G,A⟩
    |any=>cases d
  .cases d
def agx{t tx ty:ed}(h:(∃g,P.underlying tx=O (.slice g))\/P.underlying tx=O .string){s x:af}{sv y:Value}(u:Den ρ s sv)(z:Den ρ x y){q:af×ai}(d:B2 P t s x H=O q)(Q:Fr ρ H.next q.2.next):
  ∃ρ' r J,(sn #[t,tx] ty #[sv,y]).run P w=.ok r J/\Den ρ' q.1 r/\bl P B ρ' q.2 J/\bV ρ H w ρ' q.2 J:=by
 unfold B2 at d;simp only[ep]at d;obtain⟨el,g,i,p,V,U,d⟩:=d;have C:=zR g;cases g:(dd V.cells.size i.size&&dK 1 i.size)with
 |false=>rw[g]at d;cases d
 |true=>
  rw[g]at d;rw[ae]at g;have K:=ac g.1;have A:=b5 g.2;simp only[ka,ep]at d;obtain⟨A,g,d⟩:=d;obtain⟨J,n⟩:=A;obtain⟨ys,G,L,M⟩:=U6 hH h g z;cases F:dd n 0 with
  |true=>
   simp only[F,ka]at d;have g:=ac F;subst g;have g:ys=[]:=ix (by simpa using L);subst g;have z:=M (λ_ h=>by cases h);split at d
   .cases d;have:=u.cu;subst this;exact⟨ρ,_,w,IQ C p z bs (aC 0),.raw _,hH,bV.refl _ _ _⟩
   .cases d;obtain⟨b,c,k,h,_,g,rfl⟩:=u.jv;exact⟨ρ,_,w,IQ C p z _ g,u,hH,bV.refl _ _ _⟩
   .cases d
  |false=>
   simp only[F,sd]at d;cases A:co J with
   |false=>simp only[A,sd]at d;cases d
   |true=>
    simp only[A,ka]at d;have z:=M (G.one A);split at d
    .have:=u.cu;subst this;cases h:bounded n i.bytes with
     |false=>rw[h]at d;cases d
     |true=>
      rw[h]at d;cases d;simp only[bounded,ae]at h;have X:=b5 h.1;have g:=b5 h.2;have g:0<n:=E.pos_of_ne_zero λg=>by subst g;cases F
      have S:=Zc (P:=P) w t tx ty el i V C p U bs 0 0 [] (qF w.drew i.size 0 0 0) y n ys z ω ω (Nr ω (by simpa using X));obtain⟨g,W⟩:=Nq hH Q (need:=n) (old:=0) p K G L;simp only[bC,ts]at S;exact⟨_,_,_,S,.slice (Env.eu ..) rfl (Qd w n 0 el),g,W⟩
    .exact BY hH C p U K z G A u d Q
    .cases d
def agy{t tx ty:ed}{d x:af}{J y:Value}(L:Den ρ d J)(S:Den ρ x y){q:af×ai}(g:B4 P t d x H=O q):
  ∃r A,(na.copy_ #[t,tx] ty #[J,y]).run P w=.ok r A/\Den ρ q.1 r/\bl P B ρ q.2 A/\bV ρ H w ρ q.2 A:=by
 unfold B4 at g;simp only[ep]at g;obtain⟨el,h,s,G,g⟩:=g;have Q:=zR h;obtain⟨i,h,rfl⟩:=zQ G;split at g
 .rename_i j u n p id off h W;simp only[ep]at g;obtain⟨C,p,g⟩:=g;obtain⟨z,F⟩:=C;split at g
  .rename_i C cs F J;cases C:co (z.take (L' n h*i.size))with
   |false=>simp only[C,sd]at g;cases g
   |true=>
    simp only[C,ka,am]at g;obtain⟨z,M,rfl⟩:=g
    -- the source
    unfold src at p;simp only at p;split at p
    .rename_i F z K U V X;cases F:dK (u+n*i.size) z.length with
     |false=>rw[F]at p;cases p
     |true=>
      rw[F]at p;cases p;have F:=b5 F;obtain⟨V,K,k2,F,_,_,rfl⟩:=S.jv;obtain⟨b,c,k,K,_,_,rfl⟩:=L.jv;obtain⟨a',a0,m1,_,U,_⟩:=nO hH X F;have F:L' n h*i.size<=n*i.size:=Hr _ (E.min_le_left _ _);have X:(cut z u (n*i.size)).take (L' n h*i.size)=cut z u (L' n h*i.size):=by
       simp only[cut];rw[KE,ns F]
      rw[X]at M C;have F:aE ρ (cut z u (L' n h*i.size)) (((a'.toList.take z.length).drop u).take (L' n h*i.size)):=(U.drop u).take _;have X:=Nl U (off:=u) (n:=L' n h*i.size) ω;have z:=lF (P:=P) w i.size (L' n h) ⟨V,u,bs⟩ n k2 _ X (IP m1);obtain⟨_,A,_,r2,U,u⟩:=IM hH J K M F C;refine⟨È (L' n h),A,?_,.raw _,U,u⟩;simp[na.copy_,ec Q,na.lenOf,lD G,z,r2]
    .cases p
  .cases g
 .rename_i id off h W;cases g;obtain⟨b,c,k,K,_,_,rfl⟩:=L.jv;have:=S.cu;subst this;exact⟨È 0,w,by simp[na.copy_,ec Q,na.lenOf,na.firstCells,lD G,SQ],.raw _,hH,bV.refl _ _ _⟩
 .cases g
def agz{t ty:ed}{j off len:E}{cap:aY}{A:Value}(M:Den ρ (.slice j off len cap) A){q:af×ai}(d:B5 P t j off len H=O q):
  ∃r h,(na.clear_ #[t] ty #[A]).run P w=.ok r h/\Den ρ q.1 r/\bl P B ρ q.2 h/\bV ρ H w ρ q.2 h:=by
 unfold B5 at d;simp only[ep]at d;obtain⟨el,S,s,W,z,A,d⟩:=d;have X:=zR S;split at d
 .rename_i g cs p U;cases p:(dK 1 len&&dd z.cells.size s&&co (ie len (jE z.cells)).flatten)with
  |false=>rw[p]at d;cases d
  |true=>
   rw[p]at d;simp only[ae]at p;obtain⟨⟨y,g⟩,F⟩:=p;have y:=b5 y;simp only[ka,am]at d;obtain⟨p,V,rfl⟩:=d;obtain⟨b,c,k,K,_,_,rfl⟩:=M.jv;obtain⟨u,_,rfl⟩:=zQ W;have g:=ac g;have p:(sX z.cells len).toList=((R6 (len*u.size)).map (z.cells[· %z.cells.size]!)).toList:=by unfold sX;rw[g]
   have Q:aE ρ (ie len (jE z.cells)).flatten (sX z.cells len).toList:=by
    by_cases L:1<=u.size
    .rw[p,IL z.cells u.size g L,Nf];exact aE.ue _
    .have p:u.size=0:=by omega
     have u:z.cells= #[]:=fh.eq_empty_of_size_eq_zero (g.trans p);rw[u];have G:(ie len (jE #[])).flatten=[]:=by simp[jE]
     have J:(sX #[] len).toList=[]:=by unfold sX;simp
     rw[G,J];exact .nil
   obtain⟨_,h,_,r2,p,g⟩:=IM hH U K V Q F;refine⟨.tuple #[],h,?_,.raw _,p,g⟩;obtain⟨n,rfl⟩:∃n,len=n+1:=⟨len-1,by omega⟩;have C:(zeroValue el).run P w=.ok z w:=Fj A w;simp[na.clear_,ec X,C,r2]
 .cases d
end
def dp{α:Type}{b:dF}{x:da α}{q:α}(h:oi b x bs=O q):b=D/\x=O q:=by
 cases b
 .cases h
 .exact⟨rfl,h⟩
def so{b n:E}{xs:fh Value}{el:ed}{d:E×E}(h:w.heap[b]? =O (.cells xs el d)):(∃p,(w.freeze ⟨b,0,bs⟩ n).heap[b]? =O (.cells xs el p))/\∀j,j≠b->(w.freeze ⟨b,0,bs⟩ n).heap[j]? =w.heap[j]? :=by
 unfold du.freeze;split
 .exact⟨⟨d,h⟩,λ_ _=>rfl⟩
 .obtain⟨y,u⟩:=d;refine⟨⟨_,by simp only[Hh,h];rfl⟩,λj g=>?_⟩;simp only[Hh];rw[db (Ar g)]
def U9(n:E)(a:wu):(w.freeze a n).os=w.os/\(w.freeze a n).tape=w.tape/\(w.freeze a n).output=w.output/\(w.freeze a n).heap.size=w.heap.size:=by
 unfold du.freeze;split<;>simp
def qS(hH:bl P B ρ H w){W it ty:ed}{x n:af}{y aP:Value}(V:Den ρ x y)(a5:Den ρ n aP){q:af×ai}(d:xU P W x n H=O q):
  ∃r g,(na.unsafeString_ #[W,it] ty #[y,aP]).run P w=.ok r g/\Den ρ q.1 r/\bl P B ρ q.2 g/\bV ρ H w ρ q.2 g:=by
 unfold xU at d;split at d
 .rename_i i;split at d
  .rename_i m;split at d
   .rename_i el X cs a9 cV a0 a4;cases z:(dd el X&&dd (P.cellsOf el) 1&&dK 1 m&&dK m cs.length&&dK m 140737488355328)with
    |false=>rw[z]at d;cases d
    |true=>
     rw[z]at d;simp only[ae]at z;obtain⟨⟨⟨⟨h,A⟩,C⟩,Q⟩,u⟩:=z;have h:=ac h;have A:=ac A;have C:=b5 C;have Q:=b5 Q;have u:=b5 u;subst h;simp only[ka,am]at d;obtain⟨L,J,rfl⟩:=d;obtain⟨b,c,G,rfl⟩:=V.mK;have:=a5.cu;subst this;obtain⟨g,F,p,_,S,g4,g5,K⟩:=nO hH a4 G;have F:=Nk J (S.take m);have K:L.length=m:=by
      have J:=congrArg jC F;have:=S.length;rw[er,this,mG]at J;omega
     subst K;have U:=Lib.run_unsafeString_row (P:=P) w W it ty el a0 A b g.size (Nn p) L (by intro a';subst a';simp at C) ω ω (λj x K=>by
      rw[kq,cell_of p];refine zV (n:=cs.length) ?_;have J:((g.toList.take cs.length).take L.length)[j]? =O (.int .u8 x.toNat):=by rw[F];simp[K]
      rw[ly]at J;split at J
      .simpa using J
      .cases J)
     obtain⟨⟨a6,f1⟩,f2⟩:=so (n:=L.length) p;obtain⟨F,M,e3,J⟩:=U9 (w:=w) L.length ⟨b,0,bs⟩;obtain⟨r3,L⟩:=xX hH a4 G rfl (k:= .cells el cs a9 D ao) _ _ F M e3 J f1 f2 ⟨g,a6,rfl,(λb'=>by cases b'),S,g4,λV=>⟨b,c,G,g5 V⟩⟩;exact⟨_,_,U,.raw _,r3,L⟩
   .cases d
  .cases d
 .rename_i X S i;split at d
  .rename_i m;obtain⟨z,d⟩:=dp d;cases d;simp only[ae]at z;obtain⟨h,A,C,Q,u⟩:=z;have A:=b5 A;have C:=b5 C;unfold IA at h;split at h
   .rename_i el a0;simp only[ae]at h;obtain⟨z,A,C⟩:=h;have z:=ac z;have A:=ac A;have C:=cC C;subst z;subst C;obtain⟨d1,d2⟩:=xZ Q;obtain⟨b,c,G,rfl⟩:=V.zN;have:=a5.cu;subst this;generalize bu (aq.int .u8) (H.get i)=g at*;obtain⟨ys,p,C,_,g4,_,_⟩:=ug hH d1 G;have u:tW (wg (g.take m))=g.take m:=cC u;have z:(aq.flat (.int .u8) g).length=g.length:=by rw[aq.jF];exact Au _
    have S:(wg (g.take m)).data.toList.length=m:=by
     have:=congrArg jC u;unfold tW at this;rw[mG,er]at this;omega
    have Q:∀(j:E)(x:hN),(wg (g.take m)).data.toList[j]? =O x->ys.toList[j]? =O (.int .u8 x.toNat):=λj x K=>by
     have z:j<m:=by rw[<-S];exact(I.getElem?_eq_some_iff.1 K).1
     have F:(tW (wg (g.take m)))[j]? =O (x.toNat:N):=by unfold tW;rw[Ys,K];rfl
     rw[u,ly,dA z]at F;have M:(aq.flat (.int .u8) g)[j]? =O (.raw (.int .u8 (x.toNat:N))):=by
      have:∀l:I N,aq.flat (.int .u8) l=l.map λz=>af.raw (.int .u8 z):=λl=>by
       induction l with
       |nil=>rfl
       |cons z l u=>exact congrArg (af.raw (.int .u8 z):: ·) u
      rw[this,Ys,F];rfl
     obtain⟨y,X,u⟩:=C.get M;have:=u.cu;subst this;rw[ly]at X;split at X
     .exact X
     .cases X
    have U:=Lib.run_unsafeString_row (P:=P) w W it ty el a0 A b ys.size (Nn p) (wg (g.take m)).data.toList (by intro a';rw[a']at S;simp at S;omega) ω ω (λj x K=>by
     rw[kq,cell_of p];have:=Q j x K;rw[bC,<-IF];exact this)
    rw[S]at U;obtain⟨⟨a6,f1⟩,f2⟩:=so (n:=m) p;obtain⟨F,M,e3,J⟩:=U9 (w:=w) m ⟨b,0,bs⟩;obtain⟨r3,L⟩:=ae8 hH d1 G rfl _ F M e3 J f2;refine⟨_,_,?_,.raw _,r3,L⟩;simpa using U
   .cases h
  .cases d
 .cases d
structure gi(P:fd):Prop where
 IU:∀(f:ya)(fn:Ö),P.funcs[f]? =O fn->fn.body.isSome=D->(fn.name== "runtime.NumGoroutine")=ao
 U':∀(f:ya)(fn:Ö),P.funcs[f]? =O fn->fn.body=bs->(fn.name== "internal/abi.NoEscape")=D->∀x w,(Ki f #[x]).run P w=.ok (.value x) w
 makeNoZero:∀(f:ya)(fn:Ö)(t el:ed),P.funcs[f]? =O fn->fn.body=bs->(fn.name== "internal/bytealg.MakeNoZero")=D->fn.resultTypes[0]? =O t->P.underlying t=O (.slice el)->∀(n:E) w,n<=140737488355328->
  ∃cs:fh Value,n<=cs.size/\(Ki f #[.int .i64 n]).run P w=.ok (.value (.slice (O ⟨w.heap.size,0,bs⟩) n cs.size)) (w.drew.drew.alloc (.cells cs el))
def agB(p:gi P){f:ya}{fn:Ö}{c:mN}(g:P.funcs[f]? =O fn)(d:fn.body=O c)(args:fh Value)(w:du):(Ki f args).run P w=.ok (.enter f args) w:=by
 have h:¬fn.name= "runtime.NumGoroutine" :=by simpa using p.IU f fn g (by simp[d])
 simp[Ki,g,h,d]
section
variable(Z:gi P)(Y:bl P B ρ H w)
def agC{f:ya}{fn:Ö}(z:P.funcs[f]? =O fn)(y:fn.body=bs){args:I af}{xs:I Value}(p:aE ρ args xs):dy P B ρ H w ((Ki f xs.toArray).run P w) (fc (B6 P f fn args H)):=by
 unfold B6;cases Q:af.mH args with
 |some d=>
  have W:=p.mH Q;subst W;simp only;split
  .rename_i v U;exact gU Y (qf _ w U) (.raw v)
  .cases u:fn.name== "internal/bytealg.MakeNoZero" with
   |false=>simp only[sd];trivial
   |true=>
    simp only[ka];split
    .rename_i n t S;cases L:nK P t with
     |none=>trivial
     |some el=>
      simp only[kV];cases h:(dK n 140737488355328&&dd (P.cellsOf el) 1)with
      |false=>simp only[sd];trivial
      |true=>
       simp only[ka];rw[ae]at h;have C:=b5 h.1;have F:=ac h.2;have V:xs=[.int .i64 n]:=by
        cases p with
        |cons d g=>cases g with
         |nil=>rw[d.cu];rfl
       subst V;obtain⟨cs,G,J⟩:=Z.makeNoZero f fn t el z y u S (zR L) n w C;intro M;obtain⟨X,A⟩:=kw Y.drew.drew M cs.size (.cells el [] ao ao ao) (.cells cs el) ⟨cs,(0,0),rfl,λ_=>rfl,by simpa using aE.nil,(λK=>by cases K),λ_=>⟨_,_,Env.eu ..,by rw[F,Au]⟩⟩;exact⟨_,_,_,_,J,rfl,.slice (Env.eu ..) rfl G,X,A.drew.drew⟩
    .trivial
 |none=>
  simp only;split
  .rename_i x;cases u:fn.name== "internal/abi.NoEscape" with
   |false=>simp only[sd];trivial
   |true=>
    simp only[ka];cases p with
    |cons d g=>cases g with
     |nil=>exact gU Y (Z.U' f fn z y u _ w) d
  .trivial
def Ns{f:ya}{args:I af}{xs:I Value}(g:aE ρ args xs):dy P B ρ H w ((Ki f xs.toArray).run P w) (vX P f args H):=by
 unfold vX;cases h:P.funcs[f]? with
 |none=>trivial
 |some p=>
  simp only;cases d:p.body with
  |none=>exact agC Z Y h d g
  |some c=>exact⟨rfl,xs,agB Z h d xs.toArray w,g⟩
def Nt{fv:af}{v:Value}(z:Den ρ fv v){args:I af}{xs:I Value}(p:aE ρ args xs){r:yE Next}
  (u:∀fn (first d:fh Value),v=.func fn first d->r=(invoke (.fn fn d) (first++xs.toArray)).run P w):dy P B ρ H w r (fb P fv args H):=by
 have A:∀a b c:I Value,a.toArray++b.toArray++c.toArray=(a++b++c).toArray:=λa b c=>by simp
 unfold fb;split
 .rename_i x;have:=z.cu;subst this;cases g:zC v with
  |fn f=>
   simp only;unfold zC at g;split at g
   .rename_i fn;unfold Uk at g;split at g
    .rename_i J;cases g;rw[u _ _ _ rfl];have h:(⟨[]⟩:fh Value)++xs.toArray=xs.toArray:=by apply Gt;simp
     have C:xs.toArray++(⟨[]⟩:fh Value)=xs.toArray:=by apply Gt;simp
     show dy P B ρ H w ((Ki f ((⟨[]⟩:fh Value)++xs.toArray++(⟨[]⟩:fh Value))).run P w) _;rw[h,C];exact Ns Z Y p
    .cases g
   .cases g
  |no=>
   simp only;split
   .rename_i f first d
    rw[u _ _ _ rfl];show dy P B ρ H w ((Ki f (first++xs.toArray++d)).run P w) _;have h:first++xs.toArray++d=(first.toList++xs++d.toList).toArray:=by apply Gt;simp
    rw[h];exact Ns Z Y (((Fl first).append p).append (Fl d))
   .trivial
 .rename_i f first d
  obtain⟨F,cs,y,G,rfl⟩:=z.Ff;rw[u _ _ _ rfl];show dy P B ρ H w ((Ki f (F.toArray++xs.toArray++cs.toArray)).run P w) _;rw[A];exact Ns Z Y ((y.append p).append G)
 .rename_i i;obtain⟨b,c,y,rfl⟩:=z.M0;refine⟨rfl,b,c,xs,y,?_,p⟩;rw[u _ _ _ rfl];have h:(#[]:fh Value)++xs.toArray=xs.toArray:=by apply Gt;simp
  rw[h];rfl
 .trivial
end
end
section
variable{P:fd}{H:ai}{w:du}{B:E}{ρ ρ':Env}
def agD{cs:I af}{ys:I Value}{m:E}{v v':af}(C:cR ρ ρ')(h:aE ρ cs ys)(z:cs[m]? =O v)(G:∀y,Den ρ v y->Den ρ' v' y):aE ρ' (cs.set m v') ys:=by
 refine aE.Ut (by rw[cm];exact h.length) λi K y g A=>?_
 by_cases u:m=i
 .subst u;have F:m<cs.length:=(I.getElem?_eq_some_iff.1 z).1;rw[I.getElem?_set_self F]at g;cases g;obtain⟨J,d,p⟩:=h.get z;rw[A]at d;cases d;exact G y p
 .rw[KL u]at g;obtain⟨J,d,p⟩:=h.get g;rw[A]at d;cases d;exact p.mono C
def Nu(H:ai)(i j k:E)(b:bn):((H.drop i).set j b).get k=if j=k then O b else if i=k then bs else H.get k:=by
 rw[ai.gS,ai.qd]
def Nv{i j m:E}{e:ed}{cs:I af}{x f r:dF}{v v':af}(hH:bl P B ρ H w)(M:cR ρ ρ')(C:∀i,ρ' i=ρ i)(g:H.get j=O (.cells e cs x f r))(d:i≠j)(K:cs[m]? =O v)(S:∀Q,Den ρ v Q->Den ρ' v' Q)
  (L:∀b A,ρ'.fz b=O A->(∃e X,w.heap[b]? =O (.cells A e X))/\∀k kk c,k≠i->H.get k=O kk->ρ k=O (b,c)->kk.fq=D):
  bl P B ρ' ((H.drop i).set j (.cells e (cs.set m v') x f r)) w:=by
 have z:∀k kk,((H.drop i).set j (.cells e (cs.set m v') x f r)).get k=O kk->k≠i/\∃p,H.get k=O p/\p.fq=kk.fq/\∀o,iZ P ρ k p o->iZ P ρ' k kk o:=λk kk h=>by
  rw[Nu]at h;split at h
  .rename_i u;subst u;cases h;refine⟨λh=>d h.symm,_,g,rfl,λo G=>?_⟩;obtain⟨Q,u,d,g,F,y,J⟩:=G;refine⟨Q,u,d,g,?_,by rw[cm];exact y,λQ=>?_⟩
   .rw[cm];exact agD M F K S
   .obtain⟨b,c,y,u⟩:=J Q;exact⟨b,c,by rw[C];exact y,u⟩
  .split at h
   .cases h
   .rename_i d g;exact⟨λh=>g h.symm,_,h,rfl,λo G=>G.mono M⟩
 refine⟨λk kk h=>?_,λQ S U V b G M y u J K=>?_,λk kk h=>?_,hH.base,λb A h=>⟨(L b A h).1,λk kk c y u=>?_⟩⟩
 .obtain⟨_,p,d,g,F⟩:=z k kk h;obtain⟨b,c,o,U,V,W,S⟩:=hH.blk k p d;exact⟨b,c,o,by rw[C];exact U,V,F o W,λG=>S (by rw[g];exact G)⟩
 .obtain⟨_,F,d,_⟩:=z _ _ y;obtain⟨_,F,g,_⟩:=z _ _ u;rw[C]at J K;exact hH.inj _ _ _ _ _ _ _ d g J K
 .obtain⟨_,p,d,_⟩:=z k kk h;exact hH.lt k p d
 .obtain⟨F,p,d,g,_⟩:=z k kk y;rw[C]at u;rw[<-g];exact(L b A h).2 k p c F d u
section
variable{i j:E}{e:ed}{cs Z:I af}{x f r:dF}{ρ':Env}(Y:∀i,ρ' i=ρ i)
def Nw(u:H.get j=O (.cells e cs x f r)){b:E}(h:Own ρ' ((H.drop i).set j (.cells e Z x f r)) b):Own ρ H b:=by
 obtain⟨k,kk,c,d,p,g⟩:=h;rw[Y]at g;rw[Nu]at d;split at d
 .rename_i y;subst y;cases d;exact⟨j,_,c,u,p,g⟩
 .split at d
  .cases d
  .exact⟨k,kk,c,d,p,g⟩
def agE(p:H.get j=O (.cells e cs x f r)){b:E}(h:q8 ρ' ((H.drop i).set j (.cells e Z x f r)) b):q8 ρ H b:=by
 obtain⟨k,kk,c,d,g⟩:=h;rw[Y]at g;rw[Nu]at d;split at d
 .rename_i u;subst u;cases d;exact⟨j,_,c,p,g⟩
 .split at d
  .cases d
  .exact⟨k,kk,c,d,g⟩
end
def agF{ty:aq}{x:af}{b:dF}{H':ai}(h:zB ty x H=O (b,H')):H'.next=H.next:=by
 unfold zB at h;split at h
 .split at h
  .split at h
   .split at h
    .split at h
     .obtain⟨_,d⟩:=Þ (kT h);rw[<-d];rfl
     .cases h
    .cases h
   .cases h
  .cases h
 .cases h
def agG{ty:aq}{x:af}{H':ai}(hH:bl P B ρ H w)(h:zB ty x H=O (D,H')):∃ρ',(∀i,ρ' i=ρ i)/\bl P B ρ' H' w/\bV ρ H w ρ' H' w/\H'.next=H.next:=by
 unfold zB at h;split at h
 .rename_i u j off c;split at h
  .rename_i e cs d f r K;split at h
   .rename_i g U i p d S;split at h
    .rename_i d g V z;split at h
     .rename_i M;simp only[ae,aN,Gp]at M;obtain⟨rfl,F,W⟩:=M;have F:=ac F;subst F;have p:i≠j:=λe=>by subst e;simp at W
      obtain⟨d,u⟩:=Þ (kT h);have g:=ac d;subst g;rw[Ce]at S;obtain⟨b,G,o,C,g,_,d⟩:=hH.blk i _ z;obtain⟨g,X,M,y,W,F,d⟩:=ug hH z C;have y:ρ.fz b=bs:=by
       cases d:ρ.fz b with
       |none=>rfl
       |some A=>
        have:=(hH.fz b A d).2 i _ G z C;cases this
      have L:cR ρ ⟨ρ.at',λq=>if q=b then O g else ρ.fz q⟩:=⟨λ_ _ h=>h,λq A h=>by
       show(if q=b then O g else ρ.fz q)=O A;by_cases d:q=b
       .subst d;rw[y]at h;cases h
       .rw[db d];exact h⟩
      have Q:=Nv (ρ':=⟨ρ.at',λq=>if q=b then O g else ρ.fz q⟩) (m:=off) (v':= .bh ao U V) hH L (λ_=>rfl) K p S (λy J=>by
       rcases J.kW with⟨F,a,rfl⟩|⟨S,c2,a',p,_,y,rfl⟩
       .have J:V=[]:=ix F;subst J;exact .ff λe=>by cases e
       .rw[C]at p;cases p;refine .bh (A:=g) (b:=b) (off:=0*U.size) (by show(if b=b then O g else _)=_;rw[dA rfl]) (by rw[CB,bC];exact W) rfl ?_ y (λe=>by cases e);rw[CB,iW];exact M.mono L) (λq A h=>by
       have h:(if q=b then O g else ρ.fz q)=O A:=h;by_cases d:q=b
       .subst d;rw[dA rfl]at h;cases h;exact⟨⟨_,_,X⟩,λk kk G y p J=>absurd (hH.inj k i kk _ q _ _ p z J C) y⟩
       .rw[db d]at h;exact⟨(hH.fz q A h).1,λk kk c _ p J=>(hH.fz q A h).2 k kk c p J⟩)
      rw[u]at Q;refine⟨⟨ρ.at',λq=>if q=b then O g else ρ.fz q⟩,λ_=>rfl,Q,⟨L,λ_ _=>rfl,uV (by rw[<-u];rfl),aC _,rfl,rfl,rfl,λ_ _ _=>rfl,λq _ y=>?_,λq _ y=>?_,λq A h=>?_⟩,by rw[<-u];rfl⟩
      .rw[<-u]at y;exact Nw (λ_=>rfl) K y
      .rw[<-u]at y;exact agE (λ_=>rfl) K y
      .have h:(if q=b then O g else ρ.fz q)=O A:=h;by_cases d:q=b
       .subst d;exact .inr (.inr ⟨i,_,G,z,rfl,C⟩)
       .rw[db d]at h;exact .inl h
     .cases h
    .cases h
   .cases h
  .cases h
 .cases h
end
section
variable{P:fd}{B:E}{ρ:Env}{H:ai}{w:du}
structure Same(P:Program)(ρ:Env)(K K':ai):Prop where
 next:K'.next=K.next
 to:∀j k,K.get j=some k->∃k',K'.get j=some k'/\k'.fq=k.fq/\∀o,iZ P ρ j k o->iZ P ρ j k' o
 none:∀j,K.get j=none->K'.get j=none
def Same.from{K p:ai}(h:Same P ρ K p){j:E}{g:bn}(d:p.get j=O g):∃k,K.get j=O k/\g.fq=k.fq/\∀o,iZ P ρ j k o->iZ P ρ j g o:=by
 cases y:K.get j with
 |none=>rw[h.none j y]at d;cases d
 |some k=>
  obtain⟨C,u,z,A⟩:=h.to j k y;rw[d]at u;cases u;exact⟨k,rfl,z,A⟩
def Same.nN{K y:ai}(h:Same P ρ K y)(hH:bl P B ρ K w):bl P B ρ y w where
 blk i k g:=by
  obtain⟨u,d,p,V⟩:=h.from g;obtain⟨b,c,o,M,Q,S,G⟩:=hH.blk i u d;exact⟨b,c,o,M,Q,V o S,λe=>G (p ▸ e)⟩
 inj i j A z b J L g W y U:=by
  obtain⟨C,d,_⟩:=h.from g;obtain⟨F,p,_⟩:=h.from W;exact hH.inj i j C F b J L d p y U
 lt i k g:=by
  obtain⟨u,d,_⟩:=h.from g;rw[h.next];exact hH.lt i u d
 base:=hH.base
 fz b A z:=⟨(hH.fz b A z).1,λi k c g X=>by
  obtain⟨u,d,p,_⟩:=h.from g;rw[p];exact(hH.fz b A z).2 i u c d X⟩
def Same.own{K A:ai}(h:Same P ρ K A){b:E}(ρ':Env):Own ρ' K b↔Own ρ' A b:=by
 constructor
 .rintro⟨i,k,c,p,u,y⟩;obtain⟨z,d,g,_⟩:=h.to i k p;exact⟨i,z,c,d,g ▸ u,y⟩
 .rintro⟨i,k,c,p,u,y⟩;obtain⟨z,d,g,_⟩:=h.from p;exact⟨i,z,c,d,g ▸ u,y⟩
def Same.oA{K y:ai}(h:Same P ρ K y){b:E}(ρ':Env):q8 ρ' K b↔q8 ρ' y b:=by
 constructor
 .rintro⟨i,k,c,g,p⟩;obtain⟨u,d,_⟩:=h.to i k g;exact⟨i,u,c,d,p⟩
 .rintro⟨i,k,c,g,p⟩;obtain⟨u,d,_⟩:=h.from g;exact⟨i,u,c,d,p⟩
def Same.IV{K g:ai}(h:Same P ρ K g):bV ρ K w ρ g w:=
 ⟨cR.refl _,λ_ _=>rfl,uV h.next.symm,aC _,rfl,rfl,rfl,λ_ _ _=>rfl,λ_ _ d=>(h.own ρ).2 d,λ_ _ d=>(h.oA ρ).2 d,λ_ _ h=>.inl h⟩
def Nx:∀(t:aq)(d:t.den),co (t.cells d)=D
 |.int _,_=>rfl
 |.bool,_=>rfl
 |.str,_=>rfl
 |.list _ _,_=>rfl
 |.pair a b,d=>by
   have h:∀l m:I af,co l=D->co m=D->co (l++m)=D:=λl m p u=>by
    induction l with
    |nil=>exact u
    |cons v l y=>
     obtain⟨z,g⟩:=M3 p;simp[co,z,y g]
   exact h _ _ (Nx a d.1) (Nx b d.2)
 |.ptr _,_=>rfl
 |.unit,_=>rfl
def Cn(t:aq):∀(g:I t.den),co (t.flat g)=D
 |[]=>rfl
 |d::g=>by
  have p:∀l m:I af,co l=D->co m=D->co (l++m)=D:=λl m u y=>by
   induction l with
   |nil=>exact y
   |cons v l z=>
    obtain⟨A,h⟩:=M3 u;simp[co,A,z h]
  rw[aq.Cg];exact p _ _ (Nx t d) (Cn t g)
def agJ(hH:bl P B ρ H w){ty:aq}{n:E}{x:af}{y:Value}{V:I ty.den}{tx:ed}(z:(∃S,P.underlying tx=O (.slice S))\/P.underlying tx=O .string)(h:B3 H ty ty.size x=O (V,n))(K:Den ρ x y):
  ∃ys,aE ρ (ty.flat V) ys/\V.length=n/\Ĉ P ty.size tx y n ys w:=by
 unfold B3 at h;split at h
 .cases h;have:=K.cu;subst this;exact⟨[],.nil,rfl,⟨z,λ_=>rfl,qF w _ 0 0 _,qF w.drew _ 0 0 _,by simp,λ_ h=>by cases h⟩⟩
 .rename_i b;split at h
  .rename_i F;subst F;cases h;have:=K.cu;subst this;have d:aE ρ ((aq.int .u8).flat (tW b)) (byteCells b):=by
    have e:(aq.int .u8).flat (tW b)=(byteCells b).map af.raw:=by
     unfold tW byteCells;induction b.data.toList with
     |nil=>rfl
     |cons x l g=>exact congrArg (af.raw (.int .u8 x.toNat):: ·) g
    rw[e];exact aE.ue _
   exact⟨byteCells b,d,by simp[tW],⟨z,λ_=>rfl,Qp b w,Qp b w.drew,by rw[byteCells_length];exact(Au _).symm,d.one (Cn (aq.int .u8) _)⟩⟩
  .cases h
 .rename_i d u ys;split at h
  .rename_i F;subst F;cases h;rcases K.wj with⟨rfl,a,k,rfl,_⟩|⟨b,off,k,A,p,h2,L,d,rfl,_⟩
   .refine⟨[],.nil,rfl,?_⟩;cases a with
    |none=>exact⟨z,λ_=>rfl,qF w _ 0 0 _,qF w.drew _ 0 0 _,by simp,λ_ h=>by cases h⟩
    |some a=>exact⟨z,λ_=>rfl,lF w _ 0 a 0 k [] τ τ,lF w.drew _ 0 a 0 k [] τ τ,by simp,λ_ h=>by cases h⟩
   .obtain⟨⟨el,d,J⟩,_⟩:=hH.fz b A p;have C:((A.toList.drop off).take (u.flat ys).length).length=ys.length*u.size:=by rw[L.length,u.jF]
    have hc:∀(G:du),G.heap[b]? =O (.cells A el d)->∀(j:E)(v:Value),((A.toList.drop off).take (u.flat ys).length)[j]? =O v->G.cell? ((⟨b,off,bs⟩:wu).add j)=O v:=λG X j v g=>by
     rw[kq,cell_of X];rw[ly]at g;split at g
     .rw[z5]at g;simpa using g
     .cases g
    exact⟨_,L,rfl,⟨z,λ_=>rfl,lF w _ _ ⟨b,off,bs⟩ _ k _ C (hc w J),lF w.drew _ _ ⟨b,off,bs⟩ _ k _ C (hc w.drew J),C,L.one (Cn u ys)⟩⟩
  .cases h
 .rename_i S u j k d a0;cases hc:(bP (u=ty)&&(dd d 0||bx S ty (H.get j) (k+d-1)))with
  |false=>rw[hc]at h;cases h
  |true=>
   rw[hc]at h;obtain⟨rfl,rfl⟩:=Þ (kT h);rw[ae,qh]at hc;obtain⟨F,hc⟩:=hc;have F:=cC F;subst F;by_cases W:d=0
   .subst W;refine⟨[],by simpa[aq.flat]using aE.nil,by simp,?_⟩;rcases K.kW with⟨_,a,rfl⟩|⟨b,c,Q,_,_,_,rfl⟩
    .cases a with
     |none=>exact⟨z,λ_=>rfl,qF w _ 0 0 _,qF w.drew _ 0 0 _,by simp,λ_ h=>by cases h⟩
     |some a=>exact⟨z,λ_=>rfl,lF w _ 0 a 0 0 [] τ τ,lF w.drew _ 0 a 0 0 [] τ τ,by simp,λ_ h=>by cases h⟩
    .exact⟨z,λ_=>rfl,lF w _ 0 _ 0 Q [] τ τ,lF w.drew _ 0 _ 0 Q [] τ τ,by simp,λ_ h=>by cases h⟩
   .rcases hc with hc|hc
    .exact absurd (ac hc) W
    .obtain⟨F,M⟩:=xZ hc;generalize bu u (H.get j)=U at F M ⊢;rcases K.kW with⟨rfl,_⟩|⟨b,c,Q,J,_,V,rfl⟩
     .exact absurd rfl W
     .obtain⟨ys,W,a',_⟩:=ug hH F J;have F:k+d<=U.length:=by omega
      have e1:(U.drop k).take d=(U.take (k+d)).drop k:=by rw[I.take_drop]
      have M:=Fk (off:=0) (A:=ys.toList) (l:=k) (h:=k+d) (by simpa using a') ω F;rw[bC]at M;have F:(u.flat ((U.take (k+d)).drop k)).length=d*u.size:=by rw[u.jF];congr 1;simp;omega
      rw[F]at M;have C:((ys.toList.drop (k*u.size)).take (d*u.size)).length=d*u.size:=by rw[M.length,F]
      have hc:∀(G:du),G.heap[b]? =O (.cells ys S (0,0))->∀(j:E)(v:Value),((ys.toList.drop (k*u.size)).take (d*u.size))[j]? =O v->G.cell? ((⟨b,k*u.size,bs⟩:wu).add j)=O v:=λG X j v g=>by
       rw[kq,cell_of X];rw[ly]at g;split at g
       .rw[z5]at g;simpa using g
       .cases g
      refine⟨_,by rw[e1];exact M,by simp;omega,⟨z,λ_=>rfl,lF w _ _ ⟨b,k*u.size,bs⟩ _ Q _ C (hc w W),lF w.drew _ _ ⟨b,k*u.size,bs⟩ _ Q _ C (hc w.drew W),C,M.one (Cn u _)⟩⟩
 .rename_i j off d a0;simp only[ep,am]at h;obtain⟨d,p,g,h2,L⟩:=h;cases L;obtain⟨u,g⟩:=d;have d:g=n:=by
   unfold src at p;simp only at p;split at p
   .have p:=(dp p).2;cases p;rfl
   .cases p
  subst d;obtain⟨ys,J,d,V⟩:=U6 hH z p K;obtain⟨d,g⟩:=aq.Ci h2 J;exact⟨ys,d,g,V (d.one (Cn ty _))⟩
 .cases h
def Ny{ρ:Env}{e:ed}{t:aq}{i len b c d:E}{cap:aY}(h:ρ i=O (b,c))(g:Cf cap c d)(p:len<=d):Den ρ (.bZ e t i 0 len cap) (.slice (O ⟨b,0,bs⟩) len d):=by
 have:=Den.bZ (e:=e) (t:=t) (k:=0) h g p;rwa[CB]at this
def Nz(hH:bl P B ρ H w){t tx rt:ed}(h8:(∃e',P.underlying tx=O (.slice e'))\/P.underlying tx=O .string){e:ed}{ty:aq}{i k len:E}{cap:aY}{x:af}{sv y:Value}(c3:Den ρ (.bZ e ty i k len cap) sv)(i0:Den ρ x y){q:af×ai}
  {a3:dF} (h:tX P t e ty i k len cap a3 x H=O q) (e9:Fr ρ H.next q.2.next):
  ∃ρ' r C,(sn #[t,tx] rt #[sv,y]).run P w=.ok r C/\Den ρ' q.1 r/\bl P B ρ' q.2 C/\bV ρ H w ρ' q.2 C:=by
 unfold tX at h;simp only[ep]at h;obtain⟨el,h4,K,M,i4,g',h⟩:=h;have a0:=zR h4;obtain⟨d',h⟩:=dp h;simp only[ae]at d';obtain⟨⟨⟨⟨W,b2⟩,b3⟩,G⟩,a5⟩:=d';have W:=ac W;have b2:=b5 b2;have b3:=ac b3;have G:=ac G;have a5:=ac a5;subst b3;subst a5;simp only[ep]at h;obtain⟨⟨p,n⟩,g4,h⟩:=h;rw[<-G]at g4;obtain⟨ys,g1,g2,L⟩:=agJ hH h8 g4 i0;rw[G]at L;cases a2:dd n 0 with
 |true=>
  simp only[a2,ka]at h;cases h;have h9:=ac a2;subst h9;have i2:ys=[]:=by
   have:=g1.length;rw[ix g2]at this;exact ix (by simpa[aq.flat]using this)
  subst i2;have a':bl P B ρ (oi a3 H.skip H) w/\bV ρ H w ρ (oi a3 H.skip H) w:=by
   cases a3 with
   |false=>exact⟨hH,bV.refl _ _ _⟩
   |true=>
    refine⟨⟨hH.blk,hH.inj,λj k d=>E.lt_succ_of_lt (hH.lt j k d),hH.base,hH.fz⟩,⟨cR.refl _,λ_ _=>rfl,QZ _,aC _,rfl,rfl,rfl,λ_ _ _=>rfl,λ_ _ z=>z,λ_ _ z=>z,λ_ _ z=>.inl z⟩⟩
  rcases c3.kW with⟨rfl,a,rfl⟩|⟨b,c,c5,A,u,S,rfl⟩
  .exact⟨ρ,_,w,IQ a0 M L a (aC 0),.sy,a'.1,a'.2⟩
  .exact⟨ρ,_,w,IQ a0 M L _ S,.bZ A u S,a'.1,a'.2⟩
 |false=>
  simp only[a2,sd]at h;obtain⟨e0,h⟩:=dp h;rw[ae]at e0;obtain⟨h',X⟩:=e0;cases h;have j':0<n:=E.pos_of_ne_zero λh7=>by subst h7;cases a2
  have g5:∀(Q:ai)(ρ':Env)(n0:E)(cs:I af)(g:I ty.den),cs=ty.flat g->Same P ρ' (Q.new (.cells el cs ao ao ao)) (Q.new (.own el ty g)):=λQ ρ' n0 cs g h0=>⟨rfl,λj k d=>by
   rw[ai.iM]at d ⊢;by_cases U:Q.next=j
   .rw[dA U]at d ⊢;cases d;refine⟨_,rfl,rfl,λo c0=>?_⟩;subst h0;exact⟨c0,by rw[Np M];exact G.symm,by rw[G];exact b2⟩
   .rw[db U]at d ⊢;exact⟨k,d,rfl,λ_ z=>z⟩,λj d=>by
   rw[ai.iM]at d ⊢;by_cases U:Q.next=j
   .rw[dA U]at d;cases d
   .rw[db U]at d ⊢;exact d⟩
  simp only[bounded,ae]at X;have c1:=b5 X.1;have c2:=b5 X.2;have a4:∀a,len=0->bu ty (H.get i)=[]->sv=.slice a 0 0->∃ρ' r C,(sn #[t,tx] rt #[sv,y]).run P w=.ok r C/\Den ρ' (.bZ el ty H.next 0 (len+n) .full) r/\bl P B ρ' ((H.drop i).new (.own el ty (bu ty (H.get i)++p))) C/\bV ρ H w ρ' ((H.drop i).new (.own el ty (bu ty (H.get i)++p))) C:=by
   intro a J a1 F;subst J;subst F;rw[a1,ts];obtain⟨d1,d2⟩:=Uv hH i;have i':(na.firstCells K.size 0 (.slice a 0 0)).run P w.drew=.ok #[] w.drew:=by
    cases a with
    |none=>exact qF w.drew _ 0 0 0
    |some a=>exact lF w.drew _ 0 a 0 0 [] τ τ
   have f':=Zc (P:=P) w t tx rt el K i4 a0 M g' a 0 0 [] i' y n ys L ω ω (Nr ω (by simpa using c1));obtain⟨q1,g6⟩:=Nq (H:=H.drop i) d1 e9 (need:=n) (old:=0) M W g1 L.newsLen;have V:=g5 (H.drop i) (ρ.put (H.drop i).next w.heap.size (BD w n 0 el)) 0 (ty.flat p) p rfl;simp only[bC,ts]at f' ⊢;refine⟨_,_,_,f',?_,V.nN q1,d2.trans (g6.trans V.IV)⟩;exact Ny (Env.eu ..) rfl (Qd w n 0 el)
  rcases afb h' with⟨j1,J,a1,a6⟩|⟨c4,a9,a6⟩
  . -- nothing lies there yet
    subst a6;rcases c3.kW with⟨_,a,F⟩|⟨b,c,c5,A,u,S,F⟩
    .exact a4 a J a1 F
    .have u:c5=0:=u;subst u;subst J;exact a4 _ rfl a1 F
  .subst a6;rcases c3.kW with⟨J,a,F⟩|⟨b,c,c5,A,u,S,F⟩
   .exact a4 a J (ix (a9.trans J)) F
   .generalize bu ty (H.get i)=g at c4 a9 ⊢;have c9:Same P ρ H (H.set i (.cells el (ty.flat g) ao ao ao)):=⟨rfl,λj k d=>by
     rw[ai.gS];split
     .rename_i e;subst e;rw[c4]at d;cases d;exact⟨_,rfl,rfl,λo c0=>c0.1⟩
     .exact⟨k,d,rfl,λ_ z=>z⟩,λj d=>by
     rw[ai.gS];split
     .rename_i e;subst e;rw[c4]at d;cases d
     .exact d⟩
    have h5:(ty.flat g).length=len*K.size:=by rw[ty.jF,a9,G]
    have i1:Den ρ (.slice i 0 len .full) sv:=by rw[F,CB];exact .slice A u S
    have g8:zA el K.size K.bytes i len .full (ty.flat p) n (H.set i (.cells el (ty.flat g) ao ao ao))=O (.slice H.next 0 (len+n) .full,((H.set i (.cells el (ty.flat g) ao ao ao)).drop i).new (.cells el (ty.flat g++ty.flat p) ao ao ao)):=by
     unfold zA;have g9:bounded (len+n) K.bytes=D:=by simp only[bounded,ae];exact X
     have h6:(H.set i (.cells el (ty.flat g) ao ao ao)).get i=O (.cells el (ty.flat g) ao ao ao):=by rw[ai.gS,dA rfl]
     have g7:(dd el el&&dK (len*K.size) (ty.flat g).length)=D:=by rw[h5];simp
     rw[g9,h6];simp only[ka,g7,sd];rw[eG ω];rfl
    obtain⟨ρ',r,C,r1,r2,r3,i3⟩:=BY (c9.nN hH) a0 M g' W L g1 (Cn ty p) i1 g8 e9;have V:=g5 ((H.set i (.cells el (ty.flat g) ao ao ao)).drop i) ρ' 0 (ty.flat g++ty.flat p) (g++p) (aq.Fh _ _ _).symm;have e7:Same P ρ' (((H.set i (.cells el (ty.flat g) ao ao ao)).drop i).new (.own el ty (g++p))) ((H.drop i).new (.own el ty (g++p))):=by
     have c7:∀j,((H.drop i).new (.own el ty (g++p))).get j=(((H.set i (.cells el (ty.flat g) ao ao ao)).drop i).new (.own el ty (g++p))).get j:=λj=>by
      rw[ai.iM,ai.iM,ai.qd,ai.qd,ai.gS];show(if H.next=j then _ else _)=(if H.next=j then _ else _);by_cases A:H.next=j
      .rw[dA A,dA A]
      .rw[db A,db A];by_cases u:i=j
       .rw[dA u,dA u]
       .rw[db u,db u,db u]
     exact⟨rfl,λj k d=>⟨k,by rw[c7];exact d,rfl,λ_ z=>z⟩,λj d=>by rw[c7];exact d⟩
    refine⟨ρ',r,C,r1,?_,e7.nN (V.nN r3),((c9.IV.trans i3).trans V.IV).trans e7.IV⟩;obtain⟨b',c',k',e1,e2,e3,rfl⟩:=r2.jv;exact Ny e1 e2 e3
def agL{s:af}{sv:Value}(h:Ir s=D)(g:Den ρ s sv):∃a,sv=.slice a 0 0:=by
 unfold Ir at h;split at h
 .rename_i i y n c;rw[ae]at h;have p:=ac h.1;have u:=ac h.2;subst p;subst u;obtain⟨b,c,k,_,d,_,rfl⟩:=g.jv;have d:k=0:=d;subst d;exact⟨_,rfl⟩
 .exact⟨bs,g.cu⟩
 .cases h
def agM(hH:bl P B ρ H w){t tx ty:ed}(p:(∃G,P.underlying tx=O (.slice G))\/P.underlying tx=O .string){s x:af}{sv y:Value}(u:Den ρ s sv)(z:Den ρ x y){q:af×ai}(d:oy P t s x H=O q)(h:Fr ρ H.next q.2.next):
  ∃ρ' r g,(sn #[t,tx] ty #[sv,y]).run P w=.ok r g/\Den ρ' q.1 r/\bl P B ρ' q.2 g/\bV ρ H w ρ' q.2 g:=by
 unfold oy at d;split at d
 .unfold E4 at d;split at d
  .rename_i b W U;obtain⟨rfl,d⟩:=dp d;obtain⟨X,S,M,A,Q⟩:=agG hH U;obtain⟨ρ',r,g,V,C,F,J⟩:=Nz (ty:=_) M p (u.mono A.le) (z.mono A.le) d (λi K L=>by rw[S];exact h i (by rw[<-Q];exact K) L);exact⟨ρ',r,g,V,C,F,A.trans J⟩
  .exact Nz hH p u z d h
 .split at d
  .obtain⟨he,d⟩:=dp d;unfold Is at d;split at d
   .obtain⟨a,rfl⟩:=agL he u;exact Nz hH p .sy z d h
   .cases d
  .exact agx hH p u z d h
def NB{t:ed}{e:ed}{ty:aq}{i k len:E}{cap:aY}{g:dF}{x:af}{q:af×ai}(h:tX P t e ty i k len cap g x H=O q):H.next<=q.2.next:=by
  unfold tX at h;simp only[ep]at h;obtain⟨el,u,A,y,C,z,h⟩:=h;obtain⟨_,h⟩:=dp h;simp only[ep]at h;obtain⟨p,_,h⟩:=h;cases d:dd p.2 0 with
  |true=>
   rw[d]at h;cases h;cases g with
   |false=>exact aC _
   |true=>exact QZ _
  |false=>
   rw[d]at h;obtain⟨_,h⟩:=dp h;cases h;exact QZ _
def Vb{t:ed}{s x:af}{q:af×ai}(d:∀{q},B2 P t s x H=O q->H.next<=q.2.next)(h:oy P t s x H=O q):H.next<=q.2.next:=by
 unfold oy at h;split at h
 .unfold E4 at h;split at h
  .rename_i b p g;obtain⟨rfl,h⟩:=dp h;have:=NB h;rwa[agF g]at this
  .exact NB h
 .split at h
  .obtain⟨_,h⟩:=dp h;unfold Is at h;split at h
   .exact NB h
   .cases h
  .exact d h
end
section
variable{P:fd}{B:E}{ρ:Env}{H:ai}{w:du}{o:ls}{ev:eB}{e:gn->Value}
def Co{l:I gn}{a:af}(h:l.map ev=[a]):∃x,l=[x]/\ev x=a:=by
 match l,h with
 |[x],h=>exact⟨x,rfl,by simpa using h⟩
def NC{l:I gn}{a b:af}(h:l.map ev=[a,b]):∃x y,l=[x,y]/\ev x=a/\ev y=b:=by
 match l,h with
 |[x,y],h=>exact⟨x,y,rfl,by simpa using h⟩
def x7{α:Type}{a:fh α}{x:α}(h:a.toList=[x]):a= #[x]:=by apply Gt;simpa using h
def Cp{α:Type}{a:fh α}{x y:α}(h:a.toList=[x,y]):a= #[x,y]:=by apply Gt;simpa using h
section
variable{Z:fh ed}{ty:ed}{v r:af}{x:Value}
def agN(g:MS P Z[0]? v=O r)(p:Den ρ v x)(w:du):∃y,(tA Z ty #[x]).run P w=.ok y w/\Den ρ r y:=by
 unfold MS at g;simp only[ep]at g;obtain⟨t,h,g⟩:=g;split at g
 .rename_i el i A u z d;cases g;obtain⟨b,c,k,_,_,_,rfl⟩:=p.jv;exact⟨.int .i64 u,by simp[tA,h,ec d,È],.raw _⟩
 .rename_i el L C F d;cases g;rcases p.wj with⟨rfl,a,k,rfl,_⟩|⟨b,A,k,G,_,_,_,_,rfl,_⟩
  .exact⟨.int .i64 (0:E),by simp[tA,h,ec d,È],.raw _⟩
  .exact⟨.int .i64 F.length,by simp[tA,h,ec d,È],.raw _⟩
 .rename_i el J C i k u z d;cases g;rcases p.kW with⟨rfl,a,rfl⟩|⟨b,c,K,_,_,_,rfl⟩
  .exact⟨.int .i64 (0:E),by simp[tA,h,ec d,È],.raw _⟩
  .exact⟨.int .i64 u,by simp[tA,h,ec d,È],.raw _⟩
 .rename_i n el cs d;cases g;exact⟨.int .i64 n,by simp[tA,h,ec d,È],.raw _⟩
 .rename_i b d;cases g;have:=p.cu;subst this;exact⟨.int .i64 b.size,by simp[tA,h,ec d,È],.raw _⟩
 .cases g
def agO(d:MT P Z[0]? v=O r)(u:Den ρ v x)(w:du):∃y,(na.cap_ Z ty #[x]).run P w=.ok y w/\Den ρ r y:=by
 unfold MT at d;simp only[ep]at d;obtain⟨t,h,d⟩:=d;split at d
 .rename_i el i A z n p;cases d;obtain⟨b,c,k,_,g,_,rfl⟩:=u.jv;have g:k=n:=g;subst g;exact⟨.int .i64 k,by simp[na.cap_,h,ec p,È],.raw _⟩
 .cases d
end
def agP(hH:bl P B ρ H w){u:fh ed}{ty:ed}{v r:af}{x:Value}(d:Fc P u[0]? v H=O r)(J:Den ρ v x):
  ∃y,(tA u ty #[x]).run P w=.ok y w/\Den ρ r y:=by
 unfold Fc at d;simp only[ep]at d;obtain⟨t,C,d⟩:=d;split at d
 .rename_i L K i F;obtain⟨b,q,A,rfl⟩:=J.xW;unfold Uq at d;split at d
  .rename_i z c p;cases d;obtain⟨G,h,g,_⟩:=hH.at p A;have g:G=.map z c:=g;subst g;exact⟨.int .i64 z.size,by simp[tA,C,ec F,È,run_getObj_map h],.raw _⟩
  .rename_i M y p;cases d;obtain⟨G,h,⟨Q,g,_⟩,_⟩:=hH.at p A;subst g;exact⟨.int .i64 (1:E),by simp[tA,C,ec F,È,run_getObj_map h],.raw _⟩
  .cases d
 .cases d
def agQ(hH:bl P B ρ H w)(he:∀x,Den ρ (ev x) (e x)){b:na}{args:fh gn}{argTypes:fh ed}(A:o.op=.call {callee:= .builtin b,args,argTypes}):
  dy P B ρ H w ((gy e o).run P w) (qc P o ev b argTypes (args.toList.map ev) H):=by
 have d:sB o.op=D:=by rw[A];rfl
 have a2:=ib (P:=P) (w:=w) hH he d;have a':∀{q:af×ai},(Fr ρ H.next q.2.next->∃ρ' r z,(gy e o).run P w=.ok (.value r) z/\Den ρ' q.1 r/\bl P B ρ' q.2 z/\bV ρ H w ρ' q.2 z)->dy P B ρ H w ((gy e o).run P w) (fc (O q)):=
  λd V=>by obtain⟨ρ',r,z,g,h,y,F⟩:=d V;exact⟨ρ',r,z,.value r,g,rfl,h,y,F⟩
 unfold qc;split
 .rename_i v u;obtain⟨x,d,rfl⟩:=Co u;have p:=x7 d;subst p;split
  .rename_i r G;obtain⟨C,g,h⟩:=agP (ty:=o.type) hH G (he x);exact gU hH (de A λcs=>by simp[OH,g]) h
  .split
   .rename_i r G;obtain⟨C,g,h⟩:=agN (ty:=o.type) G (he x) w;exact gU hH (de A λcs=>by simp[OH,g]) h
   .exact a2
 .rename_i v u;obtain⟨x,d,rfl⟩:=Co u;have p:=x7 d;subst p;split
  .rename_i r G;obtain⟨C,g,h⟩:=agO (ty:=o.type) G (he x) w;exact gU hH (de A λcs=>by simp[OH,g]) h
  .exact a2
 .rename_i s x u;obtain⟨L,K,d,rfl,rfl⟩:=NC u;have p:=Cp d;subst p;split
  .rename_i t W J;have C:=Cp J;subst C;have Q:((∃M,P.underlying W=O (.slice M))\/P.underlying W=O .string)->dy P B ρ H w ((gy e o).run P w) (fc (oy P t (ev L) (ev K) H)):=by
    intro S;cases M:oy P t (ev L) (ev K) H with
    |none=>trivial
    |some q=>
     refine a' λV=>?_
     obtain⟨ρ',r,z,g,h,y,F⟩:=agM (ty:=o.type) hH S (he L) (he K) M V;exact⟨ρ',r,z,de A λcs=>by simp[OH,g],h,y,F⟩
   split
   .rename_i el X;exact Q (.inl ⟨el,X⟩)
   .rename_i X;exact Q (.inr X)
   .trivial
  .trivial
 .rename_i Q x u;obtain⟨L,K,d,rfl,rfl⟩:=NC u;have p:=Cp d;subst p;split
  .rename_i t W J;have C:=Cp J;subst C;cases M:B4 P t (ev L) (ev K) H with
   |none=>trivial
   |some q=>
    refine a' λV=>?_
    obtain⟨r,z,g,h,y,F⟩:=agy (tx:=W) (ty:=o.type) hH (he L) (he K) M;exact⟨ρ,r,z,de A λcs=>by simp[OH,g],h,y,F⟩
  .trivial
 .rename_i i a0 S a1 u;obtain⟨x,d,Q⟩:=Co u;have p:=x7 d;subst p;have U:=he x;rw[Q]at U;split
  .rename_i t J;have C:=x7 J;subst C;cases M:B5 P t i a0 (S+1) H with
   |none=>trivial
   |some q=>
    refine a' λV=>?_
    obtain⟨r,z,g,h,y,F⟩:=agz (ty:=o.type) hH U M;exact⟨ρ,r,z,de A λcs=>by simp[OH,g],h,y,F⟩
  .trivial
 .rename_i i a0 a1 u;obtain⟨x,d,Q⟩:=Co u;have p:=x7 d;subst p;have U:=he x;rw[Q]at U;obtain⟨b,c,k,_,_,_,U⟩:=U.jv;split
  .rename_i t J;have C:=x7 J;subst C;split
   .rename_i el X;have a3:(na.clear_ #[t] o.type #[e x]).run P w=.ok (.tuple #[]) w:=by
     rw[U];simp[na.clear_,ec X]
    exact gU hH (de A λcs=>by simp[OH,a3]) (.raw _)
   .trivial
  .trivial
 .rename_i U n u;obtain⟨L,K,d,rfl,rfl⟩:=NC u;have p:=Cp d;subst p;split
  .rename_i t W J;have C:=Cp J;subst C;cases M:xU P t (ev L) (ev K) H with
   |none=>trivial
   |some q=>
    refine a' λV=>?_
    obtain⟨r,z,g,h,y,F⟩:=qS (it:=W) (ty:=o.type) hH (he L) (he K) M;exact⟨ρ,r,z,de A λcs=>by simp[OH,g],h,y,F⟩
  .trivial
 .rename_i i a0 S a1 u;obtain⟨x,d,Q⟩:=Co u;have p:=x7 d;subst p;cases X:dK 1 S with
  |false=>trivial
  |true=>
   have X:=b5 X;have d:=he x;rw[Q]at d;obtain⟨b,c,k,g,_,h,y⟩:=d.jv;have G:=Lib.run_unsafeSliceData_row (P:=P) w argTypes o.type ⟨b,a0,bs⟩ S k ω;exact gU hH (de A λcs=>by simp[OH,y,G]) (.ptr g)
 .rename_i el t i k S a1 u;obtain⟨x,d,Q⟩:=Co u;have p:=x7 d;subst p;cases X:dK 1 S with
  |false=>trivial
  |true=>
   have X:=b5 X;have d:=he x;rw[Q]at d;rcases d.kW with⟨u,_⟩|⟨b,c,p,g,_,h,y⟩
   .omega
   .have G:=Lib.run_unsafeSliceData_row (P:=P) w argTypes o.type ⟨b,k*t.size,bs⟩ S p ω;exact gU hH (de A λcs=>by simp[OH,y,G]) (.en g)
 .exact a2
section
variable(Z:gi P)(Y:bl P B ρ H w)(he:∀x,Den ρ (ev x) (e x))
def agR{c:Call}(g:o.op=.call c):dy P B ρ H w ((gy e o).run P w) (fx c P o ev H):=by
 obtain⟨h,d,A⟩:=c;have y:∀l:I gn,aE ρ (l.map ev) (l.map e):=λl=>by
  induction l with
  |nil=>exact .nil
  |cons x l z=>exact .cons (he x) z
 have p:d.map e=(d.toList.map e).toArray:=by apply Gt;simp
 cases h with
 |value f=>
  refine Nt Z Y (he f) (y d.toList) λF first C u=>?_
  simp only[gy,g,WK,â,u,nC,oP,kL,p]
 |invoke r m=>trivial
 |builtin b=>exact agQ Y he g
def agS:dy P B ρ H w ((gy e o).run P w) (fR o.op P o ev H):=by
 cases d:o.op with
 |move x=>exact afh Y he d
 |assign x=>exact afi Y he d
 |pick c a b=>exact afj Y he d
 |alloc t=>exact afY (ev:=ev) Y d
 |box t x=>exact afZ Y he d
 |build t ps=>exact afX Y he d
 |buildSlice t l ps=>exact af1 Y he d
 |insert t m k v=>exact agj Y he d
 |load t x=>exact af6 Y he d
 |store t x y=>exact agc Y he d
 |nilCheck x=>exact afk Y he d
 |binOp g t x y ag=>exact afQ Y he d
 |unOp g t x=>exact ib Y he (by rw[d];rfl)
 |convert s h x=>exact ags Y he d
 |makeInterface t x=>exact afm Y he d
 |makeFunc p a c=>exact afl Y he d
 |makeMap t r=>exact agk Y he d
 |makeSlice t l c=>exact af2 Y he d
 |slice t x l u m=>exact afV Y he d
 |fieldAddr s x f=>exact afo Y he d
 |field t x f=>exact afs Y he d
 |indexAddr t x i=>exact afr Y he d
 |index t x i=>exact aft Y he d
 |lookup t m k z=>exact age Y he d
 |mapUpdate t m k v=>exact agi Y he d
 |typeAssert x a b c=>exact ib Y he (by rw[d];rfl)
 |extract x i=>exact afu Y he d
 |call c=>exact agR Z Y he d
 |range t x=>exact agm Y he d
 |next x b=>exact agq Y he d
 |entry x=>exact agr Y he d
 |_=>trivial
end
def aM.mono(H:ai):aM->Prop
 |.no=>True
 |.ok _ d|.enter _ _ d|.round _ _ d=>H.next<=d.next
def jH(x:da af):aM.mono H (ah H x):=by cases x<;>simp[ah,aM.mono]
def dq{x:da (af×ai)}(h:∀q,x=O q->H.next<=q.2.next):aM.mono H (fc x):=by
 cases x with
 |none=>trivial
 |some q=>exact h q rfl
def agT{d n:E}{x:af}:aM.mono H (lw d n x H):=by
 unfold lw;split
 .cases dK 1 n<;>first |trivial |exact aC _
 .cases dK 1 n<;>first |trivial |exact aC _
 .trivial
def agU{k n s:E}{x:af}:aM.mono H (xQ k n s x H):=by
 unfold xQ;split
 .cases dK (k+1) n<;>first |trivial |exact aC _
 .cases dK (k+1) n<;>first |trivial |exact aC _
 .trivial
def agV{k s:E}{x:af}:aM.mono H (tS k s x H):=by
 unfold tS;split
 .rename_i t g;cases (dd t.size s&&dK (k+1) g.length)<;>first |trivial |exact aC _
 .rename_i e t i p d h;cases (dd t.size s&&dK (k+1) d)<;>first |trivial |exact aC _
 .trivial
def agW{t:ed}{x:af}:aM.mono H (pc P t x H):=by
 unfold pc;split
 .exact jH _
 .rename_i e u i k d;cases bx e u (H.get i) k<;>first |trivial |exact jH _
 .trivial
def agX{t:ed}{x y:af}:aM.mono H (zE P t x y H):=by
 unfold zE;split
 .rename_i e u i k d;cases bx e u (H.get i) k with
  |false=>trivial
  |true=>
   cases (co y.cells&&we P t y.cells.length)with
   |false=>trivial
   |true=>
    simp only[ka];split
    .exact aC _
    .trivial
 .trivial
def qo(b:bn):H.next<=(H.new b).next:=QZ _
def cp{α:Type}{b:dF}{x:da α}{q:α}(h:oi b x bs=O q):x=O q:=by cases b<;>first |exact h|cases h
def x8(i:E)(b:bn):H.next<=(H.set i b).next:=aC _
def agY{el:ed}{u bytes i len n:E}{cap:aY}{p:I af}{q:af×ai}(h:zA el u bytes i len cap p n H=O q):H.next<=q.2.next:=by
 unfold zA at h;have h:=cp h;split at h
 .rename_i y cs g z;have h:=cp h;cases cap with
  |known c=>
   simp only at h;cases d:dK (len+n) c with
   |true=>
    rw[d]at h;simp only[ka,am]at h;obtain⟨_,_,rfl⟩:=h;exact x8 _ _
   |false=>rw[d]at h;cases h;exact qo _
  |full=>
   cases g with
   |false=>cases h;exact qo (H:=H.drop i) _
   |true=>cases h
  |any=>cases h
 .cases h
def Vc{t:ed}{s x:af}{q:af×ai}(h:B2 P t s x H=O q):H.next<=q.2.next:=by
 unfold B2 at h;simp only[ep]at h;obtain⟨el,_,i,_,z,_,h⟩:=h;have h:=cp h;simp only[ep]at h;obtain⟨g,_,h⟩:=h;cases d:dd g.2 0 with
 |true=>
  rw[d]at h;simp only[ka]at h;split at h
  .cases h;exact aC _
  .cases h;exact aC _
  .cases h
 |false=>
  rw[d]at h;simp only[sd]at h;have h:=cp h;split at h
  .have h:=cp h;cases h;exact qo _
  .exact agY h
  .cases h
def agZ{t:ed}{d x:af}{q:af×ai}(h:B4 P t d x H=O q):H.next<=q.2.next:=by
 unfold B4 at h;simp only[ep]at h;obtain⟨el,_,s,_,h⟩:=h;split at h
 .simp only[ep]at h;obtain⟨g,_,h⟩:=h;split at h
  .have h:=cp h;simp only[am]at h;obtain⟨_,_,rfl⟩:=h;exact x8 _ _
  .cases h
 .cases h;exact aC _
 .cases h
def ag0{d:ed}{x n:af}{q:af×ai}(h:xU P d x n H=O q):H.next<=q.2.next:=by
 unfold xU at h;split at h
 .split at h
  .split at h
   .have h:=cp h;simp only[am]at h;obtain⟨_,_,rfl⟩:=h;exact x8 _ _
   .cases h
  .cases h
 .split at h
  .cases (dp h).2;exact aC _
  .cases h
 .cases h
def ag1{t:ed}{i off len:E}{q:af×ai}(h:B5 P t i off len H=O q):H.next<=q.2.next:=by
 unfold B5 at h;simp only[ep]at h;obtain⟨_,_,_,_,_,_,h⟩:=h;split at h
 .have h:=cp h;simp only[am]at h;obtain⟨_,_,rfl⟩:=h;exact x8 _ _
 .cases h
def Vd{t:ed}{m k x:af}{q:af×ai}(h:Fa P t m k x H=O q):H.next<=q.2.next:=by
 unfold Fa at h;split at h
 .split at h
  .simp only[am]at h;obtain⟨_,_,rfl⟩:=h;exact x8 _ _
  .cases h
 .unfold MQ at h;split at h
  .split at h
   .have h:=cp h;cases h;exact x8 _ _
   .cases h
  .cases h
 .cases h
def ag2{t:ed}{x:af}{q:af×ai}(h:Iy P t x H=O q):H.next<=q.2.next:=by
 unfold Iy at h;split at h
 .split at h
  .cases h;exact qo _
  .cases h;exact qo _
  .cases h
 .cases h
def ag3{x:af}{s:dF}{q:af×ai}(h:Iz x s H=O q):H.next<=q.2.next:=by
 unfold Iz at h;split at h
 .unfold MR at h;split at h
  .split at h
   .cases h;exact aC _
   .cases h
  .split at h
   .cases h;exact x8 _ _
   .cases h
  .split at h
   .cases h;exact aC _
   .cases h
  .cases h
 .cases h
def ag4{b:na}{p:fh ed}{args:I af}:aM.mono H (qc P o ev b p args H):=by
 unfold qc;split
 .split
  .exact aC _
  .split
   .exact aC _
   .exact jH _
 .split
  .exact aC _
  .exact jH _
 .split
  .split
   .exact dq λq h=>Vb Vc h
   .exact dq λq h=>Vb Vc h
   .trivial
  .trivial
 .split
  .exact dq λq h=>agZ h
  .trivial
 .split
  .exact dq λq h=>ag1 h
  .trivial
 .split
  .split
   .exact aC _
   .trivial
  .trivial
 .split
  .exact dq λq h=>ag0 h
  .trivial
 .rename_i i y d u;show aM.mono H (@jh (λ_=>aM) .no (.ok (.ptr i y) H) (dK 1 d))
  generalize dK 1 d=g;cases g
  .trivial
  .exact aC _
 .rename_i e z i k d u;show aM.mono H (@jh (λ_=>aM) .no (.ok (.en e z i k 0) H) (dK 1 d))
  generalize dK 1 d=g;cases g
  .trivial
  .exact aC _
 .exact jH _
def ag5{f:ya}{fn:Ö}{args:I af}{q:af×ai}(h:B6 P f fn args H=O q):H.next<=q.2.next:=by
 unfold B6 at h;split at h
 .split at h
  .cases h;exact aC _
  .have h:=cp h;split at h
   .simp only[ep]at h;obtain⟨el,_,h⟩:=h;have h:=cp h;cases h;exact qo _
   .cases h
 .split at h
  .have h:=cp h;cases h;exact aC _
  .cases h
def lL{f:ya}{args:I af}:aM.mono H (vX P f args H):=by
 unfold vX;cases p:P.funcs[f]? with
 |none=>trivial
 |some d=>
  simp only;cases g:d.body with
  |none=>exact dq λq h=>ag5 h
  |some c=>exact aC _
def ag6{fv:af}{args:I af}:aM.mono H (fb P fv args H):=by
 unfold fb;split
 .rename_i v;cases d:zC v with
  |fn f=>exact lL
  |no=>
   simp only;split
   .exact lL
   .trivial
 .exact lL
 .exact aC _
 .trivial
def ag7{s d:ed}{x:af}{q:af×ai}(h:si P o ev s d x H=O q):H.next<=q.2.next:=by
 have g:∀{p:da af},p.map (λv=>(v,H))=O q->H.next<=q.2.next:=λh=>by
  simp only[am]at h;obtain⟨_,_,rfl⟩:=h;exact aC _
 unfold si at h;split at h
 .split at h
  .split at h
   .have h:=cp h;simp only[am]at h;obtain⟨_,_,rfl⟩:=h;exact aC _
   .cases h
  .cases h
 .split at h
  .split at h
   .have h:=cp h;cases h;exact aC _
   .cases h
  .have h:=cp h;cases h;exact aC _
  .cases h
 .split at h
  .split at h
   .have h:=cp h;cases h;exact qo _
   .cases h
  .exact g h
 .exact g h
def ag8:aM.mono H (fR o.op P o ev H):=by
 cases M:o.op with
 |move x=>exact aC _
 |assign x=>exact aC _
 |pick c a b=>
  show aM.mono H (qa c a b P o ev H);unfold qa;cases iX (ev c)with
  |no=>trivial
  |mk b=>cases b<;>exact aC _
 |alloc t=>
  show aM.mono H (v8 t P o ev H);unfold v8;cases ou P t with
  |none=>trivial
  |some S=>exact qo _
 |box t x=>
  show aM.mono H (q3 t x P o ev H);unfold q3;cases (ev x).xP with
  |true=>trivial
  |false=>exact qo _
 |build t ps=>exact jH _
 |buildSlice t l ps=>
  refine dq λq h=>?_
  unfold q4 at h;simp only[ep]at h;obtain⟨_,_,_,_,_,_,h⟩:=h;have h:=cp h;simp only[am]at h;obtain⟨_,_,rfl⟩:=h;exact qo _
 |insert t m k v=>
  exact dq λq h=>Vd h
 |load t x=>
  show aM.mono H (qb t x P o ev H);unfold qb;cases jX (ev x)with
  |no=>exact agW
  |mk i g=>
   cases d:zp (H.get i)with
   |no=>simp only[d];trivial
   |mk a b c p f=>simp only[d];exact jH _
 |store t x y=>
  show aM.mono H (sr t x y P o ev H);unfold sr;cases jX (ev x)with
  |no=>exact agX
  |mk i g=>
   cases d:zp (H.get i)with
   |no=>simp only[d];trivial
   |mk a b c p f=>
    simp only[d];cases f<;>first |trivial |(cases p<;>first |trivial |skip)
    refine dq λq h=>?_
    unfold E9 at h;have h:=cp h;simp only[am]at h;obtain⟨_,_,rfl⟩:=h;exact x8 _ _
 |nilCheck x=>
  show aM.mono H (r8 x P o ev H);unfold r8;cases jX (ev x)with
  |no=>exact jH _
  |mk i g=>exact aC _
 |binOp u t x y ag=>
  show aM.mono H (kn u t x y ag P o ev H);unfold kn;cases jW (ev x)with
  |no=>exact jH _
  |int k a=>
   cases jW (ev y)with
   |no=>exact jH _
   |int C b=>
    cases z:kU u k C a b with
    |none=>simp only[z];exact jH _
    |some v=>simp only[z];exact aC _
 |unOp u t x=>exact jH _
 |convert s p x=>exact dq λq h=>ag7 h
 |makeInterface t x=>exact jH _
 |makeFunc L a c=>exact aC _
 |makeMap t r=>
  refine dq λq h=>?_
  unfold ud at h;split at h
  .cases h;exact qo _
  .split at h
   .cases h;exact qo _
   .cases h
 |makeSlice t l c=>
  refine dq λq h=>?_
  unfold sj at h;simp only[ep]at h;obtain⟨_,_,_,_,_,_,_,_,_,_,h⟩:=h;have h:=cp h;cases h;exact qo _
 |slice t x l h m=>exact jH _
 |fieldAddr s x f=>
  show aM.mono H (dk s x f P o ev H);unfold dk;cases fv P s f with
  |no=>trivial
  |mk a n t=>
   cases jX (ev x)with
   |no=>exact agT
   |mk i g=>
    cases d:dK 1 n with
    |false=>simp only[d];trivial
    |true=>simp only[d];exact aC _
 |field t x f=>
  show aM.mono H (r9 t x f P o ev H);unfold r9;cases tT (ev x)with
  |none=>exact jH _
  |some cs=>
   cases fv P t f with
   |no=>trivial
   |mk a n t=>exact jH _
 |indexAddr t x i=>
  show aM.mono H (o7 t x i P o ev H);unfold o7;cases p9 (ev i)with
  |no=>trivial
  |mk k=>
   cases p8 P t with
   |no=>trivial
   |arr n s=>
    cases jX (ev x)with
    |no=>exact agU
    |mk i g=>
     cases d:dK (nX k) n with
     |false=>simp only[d];trivial
     |true=>simp only[d];exact aC _
   |sl s=>
    cases zz (ev x)with
    |no=>exact agV
    |mk i g F K=>
     cases d:dK (nX k) F with
     |false=>simp only[d];trivial
     |true=>simp only[d];exact aC _
 |index t x i=>
  show aM.mono H (oz t x i P o ev H);unfold oz;cases tT (ev x)with
  |none=>exact jH _
  |some cs=>exact jH _
 |lookup t m k Q=>exact jH _
 |mapUpdate t m k v=>
  exact dq λq h=>Vd h
 |typeAssert x a b c=>exact jH _
 |extract x i=>
  show aM.mono H (sg x i P o ev H);unfold sg;cases BV (ev x)with
  |none=>exact jH _
  |some cs=>exact jH _
 |call c=>
  obtain⟨A,J,G⟩:=c;cases A with
  |value f=>exact ag6
  |invoke r m=>trivial
  |builtin b=>exact ag4
 |range t x=>exact dq λq h=>ag2 h
 |next x b=>exact dq λq h=>ag3 h
 |entry x=>exact jH _
 |_=>trivial
end
section
abbrev eZ(r:da E):wI:={pI with round:=r}
class Ground where
 g:E->da (fh Value->Prop)
variable[Ground]
structure qp(ρ:Env):Prop where
 at':∀g,g<64->∃c,ρ g=O (g,c)
 Cq:∀b p,Ground.g b=O p->∃A,ρ.fz b=O A/\p A
def qp.mono{ρ ρ':Env}(h:qp ρ)(d:cR ρ ρ'):qp ρ':=⟨λg C=>let ⟨c,z⟩:=h.at' g C;⟨c,d _ _ z⟩,λb F y=>let ⟨A,p,u⟩:=h.Cq b F y;⟨A,d.fz _ _ p,u⟩⟩
structure fS(P:fd)(B:E)(ρ:Env)(n:E)(T:au af)(H:ai)(a:Zq)(w:du):Prop where
 T:lC ρ T n a.tmps
 H:bl P B ρ H w
 G:qp ρ
section
variable{P:fd}{B:E}{ρ:Env}{n:E}{T:au af}{H:ai}{a:Zq}{w:du}
def Cr(u:lC ρ T n a.tmps)(p:qp ρ)(x:gn):Den ρ (cF T x) (a.eval x):=by
 cases x with
 |tmp t=>
  have h:=u.get t;show Den ρ (@oN af (λ_=>af) (.raw lk) (λv=>v) (T.get t)) (a.tmps.getD t lk)
  cases d:T.get t with
  |none=>rw[d]at h;exact h
  |some v=>rw[d]at h;exact h
 |const v=>exact .raw v
 |global g=>
  show Den ρ (@jh (λ_=>af) (.raw (.pointer (O ⟨g,0,bs⟩))) (.ptr g 0) (dK (nX g) 64)) (.pointer (O ⟨g,0,bs⟩))
  cases y:dK (nX g) 64 with
  |false=>exact .raw _
  |true=>obtain⟨c,z⟩:=p.at' g (b5 y);exact .ptr z
 |func f=>exact .raw _
def Ve(xs:fh Value)(d t:E)(x u:Value)(g:d<xs.size):(xs.setIfInBounds d x).getD t u=if t=d then x else xs.getD t u:=by
 simp only[mL,pp];by_cases h:d=t
 .subst h;simp[g]
 .rw[db h,db (λe=>h e.symm)]
def ND{p:da Tmp}{v:af}{x:Value}{z:au af}(h:lC ρ T n a.tmps)(g:jY T n p v=O z)(A:Den ρ v x):lC ρ z n (a.put p x).tmps:=by
 cases p with
 |none=>cases g;exact h
 |some d=>
  have e:jY T n (O d) v=@jh (λ_=>da (au af)) bs (O (T.set d (O v))) (dK (nX d) n):=rfl;rw[e]at g;cases y:dK (nX d) n with
  |false=>rw[y]at g;cases g
  |true=>
   rw[y]at g;cases g;have C:d<a.tmps.size:=by rw[h.size];exact b5 y
   refine⟨by simp[Zq.put,h.size],λt=>?_⟩;rw[au.gS];show Den ρ _ ((a.tmps.setIfInBounds d x).getD t lk);rw[Ve _ _ _ _ _ C];by_cases u:d=t
   .subst u;simpa using A
   .rw[db u,db (λe=>u e.symm)];exact h.get t
def put_defers(d:da Tmp)(x:Value):(a.put d x).defers=a.defers:=by cases d<;>rfl
def ag9{v:af}{b:dF}(h:Den ρ v (.bool b)):v=.raw (.bool b)\/v=.bot:=by
 cases h
 .exact .inl rfl
 .exact .inr rfl
def ol{ops:fh ls}{o:ls}{b:dF}(M:lC ρ T n a.tmps)(h:iY T ops o=O b):S' o (Î ops a.tmps)=b:=by
 unfold S';cases C:o.guard with
 |none=>
  have:iY T ops o=O D:=by unfold iY;rw[C]
  rw[this]at h;cases h;rfl
 |some L=>
  obtain⟨j,J⟩:=L;have e:iY T ops o=iS T ops (j,J):=by unfold iY;rw[C]
  rw[e]at h;unfold iS at h;simp only at h ⊢;cases y:(ops[j]?).bind (·.dst)with
  |none=>rw[y]at h;cases h
  |some u=>
   rw[y]at h;simp only at h;have z:=M.get u
   -- what the slot yields
   have S:∀d,(Î ops a.tmps j=O d)->T.get u=O (.raw (.bool d))\/T.get u=O .bot:=by
    intro d p;unfold Î at p;rw[y]at p;simp only[kV]at p;split at p
    .rename_i U A;cases p;have:a.tmps.getD u lk=.bool d:=by rw[mL,A];rfl
     rw[this]at z;have g:=ag9 z;cases F:T.get u with
     |none=>rw[F]at g;rcases g with g|g<;>cases g
     |some v=>rw[F]at g;simp only[N']at g;rcases g with g|g<;>rw[g]<;>simp
    .cases p
   split at h
   .rename_i d A;cases h;have:a.tmps.getD u lk=.bool d:=by rw[A]at z;exact z.cu
    have p:Î ops a.tmps j=O d:=by
     unfold Î;rw[y];simp only[kV];rw[mL]at this;cases G:a.tmps[u]? with
     |none=>rw[G]at this;cases this
     |some x=>rw[G]at this;simp only[N']at this;rw[this]
    rw[p];cases d<;>cases J<;>rfl
   .cases h
   .rename_i Q K;cases h;cases p:Î ops a.tmps j with
    |none=>rfl
    |some d=>exact((S d p).elim (λk=>Q d k) (λk=>K k)).elim
def pn(P:fd)(B:E)(ρ:Env)(H:ai)(w:du)(v:af)(H':ai):Ending->du->Prop:=λe d=>∃x ρ',e=.returned x/\Den ρ' v x/\bl P B ρ' H' d/\bV ρ H w ρ' H' d
structure bI(P:fd)(call:fe):Prop where
 mono:∀f args H v H',call f args H=.ok v H'->H.next<=H'.next
 dc:∀f args H v H',call f args H=.ok v H'->∀B ρ (xs:I Value) w m,bl P B ρ H w->qp ρ->aE ρ args xs->Fr ρ H.next H'.next->GC (eZ bs) m P f xs.toArray w (pn P B ρ H w v H')
structure nQ(P:fd)(round:lz):Prop where
 mono:∀i args H v H',round i args H=.ok v H'->H.next<=H'.next
 dc:∀i args H v H',round i args H=.ok v H'->∀B ρ (xs:I Value) w b c m,bl P B ρ H w->qp ρ->ρ i=O (b,c)->aE ρ args xs->Fr ρ H.next H'.next->
  ∃fn tmps assign body,(Instr.yield b xs.toArray).run P w=.ok (.round b fn tmps assign body) w/\RoundIn (eZ bs) m P b fn tmps assign body w (pn P B ρ H w v H')
def aha{o:ls}{ev:eB}{c:Call}(h:o.op=.defer c):fR o.op P o ev H=.no:=by rw[h];rfl
variable{call:fe}{round:lz}
def Vf(y:bI P call)(z:nQ P round){o:ls}{ev:eB}{v:af}{H':ai}(h:ko P call round o ev H=.ok v H'):H.next<=H'.next:=by
 have d:=ag8 (P:=P) (H:=H) (o:=o) (ev:=ev);unfold ko at h;cases g:fR o.op P o ev H with
 |no=>rw[g]at h;cases h
 |ok A p=>rw[g]at h d;cases h;exact d
 |enter f u p=>rw[g]at h d;exact cD d (y.mono _ _ _ _ _ h)
 |round i u p=>rw[g]at h d;exact cD d (z.mono _ _ _ _ _ h)
def Vg(d:gi P)(a':bI P call)(a0:nQ P round){o:ls}{v:af}{H':ai}(p:fS P B ρ n T H a w)(h:ko P call round o (cF T) H=.ok v H')(K:Fr ρ H.next H'.next)(rd:da E)(m:E)
  {next:Zq->du->Prop} {Q:sC->Zq->du->Prop} (L:∀x ρ' A,Den ρ' v x->bl P B ρ' H' A->bV ρ H w ρ' H' A->next (a.put o.dst x) A):o.wpIn (eZ rd) m P a w next Q:=by
 have z:=agS (P:=P) (B:=B) (ρ:=ρ) (H:=H) (w:=w) (o:=o) (ev:=cF T) (e:=a.eval) d p.H (Cr p.T p.G);have d:o.semAt (eZ rd).round a.eval=gy a.eval o:=ls.semAt_eq _ _ _ λc y=>by
  unfold ko at h;rw[aha y]at h;cases h
 refine⟨λ_ _=>trivial,?_⟩;rw[d];have U:(eZ rd).depth.isSome=D->1<=m:=λd=>by cases d
 have X:∀{e d},pn P B ρ H w v H' e d->(match e,d with
   |.returned v,d=>next (a.put o.dst v) d
   |.panicked g,d=>Q (.panic g) a d
   |.outgrown,_=>LetsOut Q:Prop):=by
  rintro e d ⟨x,ρ',rfl,u,g,F⟩;exact L x ρ' d u g F
 unfold ko at h;cases G:fR o.op P o (cF T) H with
 |no=>rw[G]at h;cases h
 |ok J C=>
  rw[G]at h z;cases h;obtain⟨ρ',x,A,J,u,g,F,V,W⟩:=z K;rw[u];cases J<;>first |exact g.elim|skip
  .cases g;exact L _ ρ' A F V W
  .cases g;exact L _ ρ' A F V W
 |enter f J C=>
  rw[G]at h z;obtain⟨rfl,S,u,g⟩:=z;rw[u];refine⟨U,?_⟩;have y:=(a'.dc f J C v H' h B ρ S w (m-1) p.H p.G g K).mono (λe d M=>X M);cases rd with
  |none=>exact y
  |some l=>exact y
 |round i J C=>
  rw[G]at h z;obtain⟨rfl,b,c,S,A,u,g⟩:=z;rw[u];obtain⟨L,V,F,G,u,z⟩:=a0.dc i J C v H' h B ρ S w b c (m-1) p.H p.G A g K;rw[u];refine⟨U,?_⟩;have y:=z.mono (λe d M=>X M);cases rd with
  |none=>exact y
  |some l=>exact y
def fS.next{ρ':Env}{d:au af}{H':ai}{g:Zq}{w':du}(h:fS P B ρ n T H a w)(p:lC ρ' d n g.tmps)(hH:bl P B ρ' H' w')(u:bV ρ H w ρ' H' w'):fS P B ρ' n d H' g w':=⟨p,hH,h.G.mono u.le⟩
def ahc(V:gi P)(U:bI P call)(W:nQ P round){ops:fh ls}{o:ls}{i:E}(hi:ops[i]? =O o){k:au af->ai->fH}{F:au af}{H':ai}(p:fS P B ρ n T H a w)(h:zF P call round ops n o T H k=.mk F H')
  (G:∀g d,k g d=.mk F H'->d.next<=H'.next) (X:Fr ρ H.next H'.next) (rd:da E) (m:E) {K:Zq->du->Prop} {Q:sC->Zq->du->Prop}
  (S:∀A g d C z,k g d=.mk F H'->fS P B A n g d C z->bV ρ H w A d z->C.defers=a.defers->K C z):wpOpIn (eZ rd) m P ops Q i K a w:=by
 unfold wpOpIn;rw[hi];simp only;unfold zF at h;cases M:iY T ops o with
 |none=>rw[M]at h;cases h
 |some b=>
  rw[M]at h;rw[ol p.T M];cases b with
  |false=>
   simp only[dF.false_eq_true,á];refine⟨λ_ _=>trivial,?_⟩;cases u:jY T n o.dst (.raw lk)with
   |none=>simp only[u,su]at h;cases h
   |some g=>
    simp only[u,su]at h;exact S ρ g H _ w h (p.next (ND p.T u (.raw lk)) p.H (bV.refl _ _ _)) (bV.refl _ _ _) (put_defers _ _)
  |true=>
   simp only[if_true];cases y:ko P call round o (cF T) H with
   |no=>simp only[y,wh]at h;cases h
   |enter _ _ _=>simp only[y,wh]at h;cases h
   |round _ _ _=>simp only[y,wh]at h;cases h
   |ok v d=>
    simp only[y,wh]at h;cases u:jY T n o.dst v with
    |none=>simp only[u,su]at h;cases h
    |some g=>
     simp only[u,su]at h;have C:=G g d h;refine Vg V U W p y (λj G J=>X j G (iy J C)) rd m λx A z G J L=>?_
     exact S A g d _ z h (p.next (ND (p.T.mono L.le) u G) J L) L (put_defers _ _)
def Fr.mono'{ρ:Env}{a b c:E}(h:Fr ρ a c)(p:b<=c):Fr ρ a b:=λi d g=>h i d (iy g p)
def bV.fr{g:Env}{d H':ai}{z:du}(h:bV ρ H w g d z)(y:Fr ρ H.next H'.next):Fr g d.next H'.next:=λi p u=>by
 rw[h.ext i (.inr p)];exact y i (cD h.next p) u
def ahd(C:bI P call)(F:nQ P round){ops:fh ls}{o:ls}{k:au af->ai->fH}{y:au af}{H':ai}(h:zF P call round ops n o T H k=.mk y H')(z:∀u p,k u p=.mk y H'->p.next<=H'.next):H.next<=H'.next:=by
 unfold zF at h;cases A:iY T ops o with
 |none=>rw[A]at h;cases h
 |some b=>
  rw[A]at h;cases b with
  |false=>
   cases g:jY T n o.dst (.raw lk)with
   |none=>simp only[g,su]at h;cases h
   |some u=>simp only[g,su]at h;exact z _ _ h
  |true=>
   cases d:ko P call round o (cF T) H with
   |no=>simp only[d,wh]at h;cases h
   |enter _ _ _=>simp only[d,wh]at h;cases h
   |round _ _ _=>simp only[d,wh]at h;cases h
   |ok v p=>
    simp only[d,wh]at h;cases g:jY T n o.dst v with
    |none=>simp only[g,su]at h;cases h
    |some u=>simp only[g,su]at h;exact cD (Vf C F d) (z _ _ h)
def NF(g:bI P call)(p:nQ P round){ops:fh ls}:∀(l:I ls){T:au af}{H:ai}{d:au af}{H':ai},zG P call round ops n l T H=.mk d H'->H.next<=H'.next
 |[],T,H,d,H',h=>by cases h;exact aC _
 |o::l,T,H,d,H',h=>ahd g p (k:=zG P call round ops n l) h λz y u=>NF g p l u
def Vi(J:gi P)(C:bI P call)(G:nQ P round){ops:fh ls}(rd:da E)(m:E){Q:sC->Zq->du->Prop}:∀(l:I ls)(u:I E){ρ:Env}{T:au af}{H:ai}{a:Zq}{w:du}{p:au af}{H':ai},
  u.map (ops[·]?)=l.map O->fS P B ρ n T H a w->zG P call round ops n l T H=.mk p H'->Fr ρ H.next H'.next->
  (∀ρ' g h,fS P B ρ' n p H' g h->bV ρ H w ρ' H' h->g.defers=a.defers->Q .normal g h)->wpOpsIn (eZ rd) m P ops Q u a w
 |[],[],ρ,T,H,a,w,p,H',_,y,z,_,F=>by cases z;exact F ρ a w y (bV.refl _ _ _) rfl
 |[],_::_,_,_,_,_,_,_,_,d,_,_,_,_=>by simp at d
 |_::_,[],_,_,_,_,_,_,_,d,_,_,_,_=>by simp at d
 |o::l,i::u,ρ,T,H,a,w,p,H',d,y,z,K,F=>by
  simp only[Li,Xd]at d;rw[wpOpsIn_cons];refine ahc J C G d.1 (k:=zG P call round ops n l) y z (λS M A=>NF C G l A) K rd m λz S M y V A U L p=>?_
  exact Vi J C G rd m l u d.2 U A (L.fr K) λρ' g h V W X=>F ρ' g h V (L.trans W) (X.trans p)
end
end
section
variable[Ground]
def R.out:R->da (sC×au af×ai×I E)
 |.no=>bs
 |.normal T H m=>O (.normal,T,H,m)
 |.exit id T H m=>O (.exit id,T,H,m)
 |.goto l T H m=>O (.goto l,T,H,m)
 |.ret T H m=>O (.ret,T,H,m)
def gj(ρ:Env):I E->I ö->Prop
 |[],d=>d=[]
 |i::m,d=>∃b c g,ρ i=O (b,c)/\d={target:= .collected b,args:= #[]}::g/\gj ρ m g
def gj.mono{ρ ρ':Env}(g:cR ρ ρ'):∀{m:I E}{d:I ö},gj ρ m d->gj ρ' m d
 |[],_,p=>p
 |_::_,_,⟨b,c,h,u,y,z⟩=>⟨b,c,h,g _ _ u,y,gj.mono g z⟩
structure Cs(P:fd)(ih:q6):Prop where
 mono:∀c n aU T H m e aZ H' m',(ih c n aU T H m).out=O (e,aZ,H',m')->H.next<=H'.next
 dc:∀c n aU T H m e aZ H' m',(ih c n aU T H m).out=O (e,aZ,H',m')->∀B ρ a w rd k (Q:sC->Zq->du->Prop),rd.isSome=aU->fS P B ρ n T H a w->gj ρ m a.defers->Fr ρ H.next H'.next->
  (∀ρ' a' w',fS P B ρ' n aZ H' a' w'->bV ρ H w ρ' H' w'->gj ρ' m' a'.defers->Q e a' w')->c.wpIn (eZ rd) k P Q a w
structure zY(P:fd)(d:dF)(draw:MW):Prop where
 mono:∀call round,bI P call->nQ P round->∀ops n T H aZ H',draw call round ops n T H=.mk aZ H'->H.next<=H'.next
 dc:∀call round,bI P call->nQ P round->∀id ops n T H aZ H',draw call round ops n T H=.mk aZ H'->∀B ρ a w rd k (Q:sC->Zq->du->Prop),fS P B ρ n T H a w->Fr ρ H.next H'.next->
  (∀ρ' a' w',fS P B ρ' n aZ H' a' w'->bV ρ H w ρ' H' w'->a'.defers=a.defers->Q .normal a' w')->(yO id ops d).wpIn (eZ rd) k P Q a w
section
variable{P:fd}{B:E}{ρ:Env}{n:E}{T:au af}{H:ai}{a:Zq}{w:du}
def ahf(ops:fh ls):(I.range ops.size).map (ops[·]?)=ops.toList.map O:=by
 apply I.ext_getElem?;intro i;simp only[Ys];by_cases h:i<ops.size
 .simp[h]
 .simp[h]
section
variable{b:Frame}{k:I Item}{cs:I Frame}{c:mN}
def Ct:step P (lone (b.atR a (.code (.scope c)::k)) cs w)=.next (lone (b.atR a (.code c:: .inScope c::k)) cs w):=
 step_lone_go (by simp[stepG,stepG.exec,Frame.atR])
def xa:step P (lone (b.atR a (.inScope c::k)) cs w)=.next (lone (b.atR a k) cs w):=
 step_lone_go (by simp[stepG,stepG.exec,Frame.atR])
end
def NG{F:wI}{n:E}{Q:sC->Zq->du->Prop}{c:mN}(h:c.wpIn F n P (sC.noGoto Q) a w):(mN.scope c).wpIn F n P Q a w:=by
 intro b k cs M z C;obtain⟨e,g,y,u,d⟩:=h b (.inScope c::k) cs M z C;have p:(lone (b.atR a (.code (.scope c)::k)) cs w).fenced P F:=fenced_calm z C rfl;cases e with
 |normal=>exact⟨.normal,g,y,u,.head p Ct (StepsIn.trans d (.one (fenced_calm (fr:=b.atR g (.inScope c::k)) z C rfl) xa))⟩
 |exit id=>
  have G:exitTo id (.inScope c::k)=exitTo id k:=by simp[exitTo]
  exact⟨.exit id,g,y,u,λS A=>.head p Ct (d.1 S (by rw[G];exact A)),λL A=>let ⟨U,J,K⟩:=d.2 L (by rw[G];exact A);⟨U,J,.head p Ct K⟩⟩
 |goto l=>exact u.elim
 |ret=>exact⟨_,g,y,u,.of_steps (.one p Ct) d⟩
 |panic V=>exact⟨_,g,y,u,.of_steps (.one p Ct) d⟩
 |outgrown=>exact⟨_,g,y,u,.of_steps (.one p Ct) d⟩
def NH:∀(l:I af)(T:au af)(k t:E),(gI l T k).get t=if k<=t/\t<k+l.length then l[t-k]? else T.get t
 |[],T,k,t=>by
  have e:gI [] T k=T:=rfl;rw[e,db (by simp only[IJ];omega)]
 |v::l,T,k,t=>by
  have e:gI (v::l) T k=gI l (T.set k (O v)) (nX k):=rfl;rw[e,NH l _ (nX k) t,au.gS];by_cases d:t=k
  .subst d;rw[db ω,dA rfl,dA τ];simp
  .by_cases g:nX k<=t/\t<nX k+l.length
   .rw[dA g,dA (by simp;omega)];have:t-k=(t-nX k)+1:=by omega
    rw[this];simp
   .rw[db g,db (λe=>d e.symm),db (by simp;omega)]
def Fo{args:I af}{xs:I Value}(d:aE ρ args xs){n:E}(z:args.length<=n):lC ρ (gI args .nil 0) n (xs.toArray++fh.replicate (n-xs.toArray.size) lk):=by
 have y:=d.length;refine⟨by simp;omega,λt=>?_⟩;rw[NH,au.get_nil,mL,fh.getElem?_append];by_cases h:t<xs.length
 .rw[dA ⟨gt _,by omega⟩,dA (by simpa using h)];have g:args[t]? =O (args[t]'ω):=iw ω;obtain⟨x,p,u⟩:=d.get g;simp only[E.sub_zero,g,N',I.getElem?_toArray,p];exact u
 .rw[db ω,db (by simpa using h)];simp only[da.getD_none,fh.getElem?_replicate];split<;>exact .raw _
def IX(d:fh Value):ResultVar->PL Value
 |.tmp t=>pure (d.getD t lk)
 |.cell g t=>do þ t (<-asAddr (d.getD g lk))
def ahg(d:fS P B ρ n T H a w){r:ResultVar}{v:af}(h:MU P T H r=O v):∃y,(IX a.tmps r).run P w=.ok y w/\Den ρ v y:=by
 cases r with
 |tmp t=>cases h;exact⟨_,rfl,d.T.get t⟩
 |cell p t=>
  simp only[MU]at h;split at h
  .rename_i i Q G;have g:=d.T.get p;rw[G]at g;obtain⟨b,c,A,C⟩:=g.mK;split at h
   .rename_i el cs L cV S F;obtain⟨U,M,u,_,z,_⟩:=nO d.H F A;obtain⟨y,J,K⟩:=po u z h;exact⟨y,by simp[IX,C,asAddr,J],K⟩
   .cases h
  .cases h
def Vj(g:fS P B ρ n T H a w):∀{d:I ResultVar}{vs:I af},lE P T H d=O vs->∃ys,(d.mapM (IX a.tmps)).run P w=.ok ys w/\aE ρ vs ys
 |[],vs,h=>by cases h;exact⟨[],by simp,.nil⟩
 |r::d,vs,h=>by
  simp only[lE,ep,am]at h;obtain⟨v,A,G,C,rfl⟩:=h;obtain⟨F,p,u⟩:=ahg g A;obtain⟨ys,y,z⟩:=Vj g C;refine⟨F::ys,?_,.cons u z⟩;rw[I.mapM_cons];simp only[nC,p,kL,y,oP]
def ahh(fn:Ö)(g:fh Value)(w:du):(results fn g).run P w=(((fn.results.toList.mapM (IX g)).run P w).andThen fun(a:I Value) d=>.ok a.toArray d).andThen fun(a:fh Value) d=>.ok (if h:a.size=1 then a[0]else .tuple a) d:=by
 unfold results;rw[fh.mapM_eq_mapM_toList];simp only[nC,PL.run_map,oP];rfl
def IY(A:fS P B ρ n T H a w){fn:Ö}{v:af}{H':ai}(h:lB P fn T H=.ok v H'):H'=H/\∃z,(results fn a.tmps).run P w=.ok z w/\Den ρ v z:=by
 have y:∀p,lE P T H fn.results.toList=O p->∃ys:I Value,(results fn a.tmps).run P w=.ok (if h:ys.toArray.size=1 then ys.toArray[0]else .tuple ys.toArray) w/\aE ρ p ys:=by
  intro p u;obtain⟨ys,d,g⟩:=Vj A u;refine⟨ys,?_,g⟩;rw[ahh,d];rfl
 unfold lB at h;split at h
 .rename_i M u;cases h;obtain⟨ys,d,g⟩:=y _ u;cases g with
  |cons C F=>cases F with
   |nil=>exact⟨rfl,_,d,C⟩
 .rename_i p L u;cases h;obtain⟨ys,d,g⟩:=y _ u;have J:=g.length;have K:¬ys.toArray.size=1:=λG=>by
   have:p.length=1:=by rw[<-J];simpa using G
   match p,this with
   |[v],_=>exact L v rfl
  rw[dif_neg K]at d;exact⟨rfl,_,d,.tuple g⟩
 .cases h
def ahi(hH:bl P B ρ H w){i b c:E}{y:bn}(hi:H.get i=O y)(A:ρ i=O (b,c))(J:y.fq=ao)(w':du)(V:w'.os=w.os)(a0:w'.tape=w.tape)(a':w'.output=w.output)(K:w'.heap.size=w.heap.size)
  (C:∀j,j≠b->w'.heap[j]? =w.heap[j]?):bl P B ρ (H.drop i) w'/\bV ρ H w ρ (H.drop i) w':=by
 have p:∀j k,(H.drop i).get j=O k->j≠i/\H.get j=O k:=λj k g=>by
  rw[ai.qd]at g;split at g
  .cases g
  .rename_i e;exact⟨λx=>e x.symm,g⟩
 refine⟨⟨λj k g=>?_,λx S M Q W u X d h=>hH.inj x S M Q W u X (p x M d).2 (p S Q h).2,λj k g=>hH.lt j k (p j k g).2,by rw[K];exact hH.base,λd U z=>by
  obtain⟨⟨e,F,u⟩,h⟩:=hH.fz d U z;have G:d≠b:=λe=>by
   have:=h i y c hi (e ▸ A);rw[J]at this;cases this
  exact⟨⟨e,F,(C d G).trans u⟩,λj L z g M=>h j L z (p j L g).2 M⟩⟩,
  ⟨cR.refl _,λ_ _=>rfl,aC _,uV K.symm,V,a0,a',λd _ G=>C d (λe=>G (e ▸ ⟨i,y,c,hi,J,A⟩)),λd _ ⟨j,k,F,u,h⟩=>⟨j,k,F,(p j k u).2,h⟩,λd _ ⟨j,k,F,u,h⟩=>⟨j,k,F,(p j k u).2,h⟩,λ_ _ G=>.inl G⟩⟩
 obtain⟨u,h⟩:=p j k g;obtain⟨d,z,o,G,g,p,V⟩:=hH.blk j k h;exact⟨d,z,o,G,by rw[C d (λe=>u (hH.inj j i k y d z c h hi G (e ▸ A)))];exact g,p,V⟩
def gE{fn:Ö}{v:af}{H':ai}{R:Ending->du->Prop}{k:E}:∀(m:I E){ρ:Env}{H:ai}{w:du}{g:I ö},fS P B ρ n T H a w->gj ρ m g->lW P fn T H m=.ok v H'->
  (∀y u,Den ρ v y->bl P B ρ H' u->bV ρ H w ρ H' u->R (.returned y) u)->LeavesInM (eZ bs) k P fn a.tmps R g .returning w
 |[],ρ,H,w,g,d,p,h,C=>by
  have p:g=[]:=p;subst p;obtain⟨rfl,y,z,K⟩:=IY d h;exact⟨y,z,C y w K d.H (bV.refl _ _ _)⟩
 |i::m,ρ,H,w,g,d,p,h,C=>by
  obtain⟨b,c,X,z,rfl,L⟩:=p;have e:lW P fn T H (i::m)=@oN ai (λ_=>aM) .no (λH=>lB P fn T H) (zH (i::m) H):=rfl;rw[e]at h;unfold zH at h;split at h
  .rename_i G;obtain⟨o,J,A,_⟩:=d.H.at G z;have A:o=.deferred (O []):=A;subst A;have S:=run_takeDeferred (P:=P) J;obtain⟨U,F⟩:=ahi d.H G z rfl (w.putObj b (.deferred bs)) rfl rfl rfl τ (λj Q=>hV Q);refine⟨(λM=>by cases M),.inl ⟨b,_,rfl,S,?_⟩⟩;refine gE m (d.next d.T U F) L h λy u V r2 W=>C y u V r2 (F.trans W)
  .cases h
def Vk:∀(m:I E){H H':ai},zH m H=O H'->H.next=H'.next
 |[],H,H',h=>by cases h;rfl
 |i::m,H,H',h=>by
  unfold zH at h;split at h
  .exact Vk m (H:=H.drop i) h
  .cases h
def Cv{fn:Ö}{v:af}{H':ai}{m:I E}(h:lW P fn T H m=.ok v H'):H.next=H'.next:=by
 unfold lW at h;cases d:zH m H with
 |none=>rw[d]at h;cases h
 |some g=>
  rw[d]at h;have h:lB P fn T g=.ok v H':=h;unfold lB at h;rw[Vk m d];split at h<;>cases h<;>rfl
def Vl{C:q6}{f:ya}{args:I af}{v:af}{H':ai}(h:q7 P C f args H=.ok v H'):∃d c,P.funcs[f]? =O d/\d.body=O c/\args.length<=d.ntmps/\
  ∃e u p y,(C c d.ntmps ao (gI args .nil 0) H []).out=O (e,u,p,y)/\(e=.normal\/e=.ret)/\lW P d u p y=.ok v H':=by
 unfold q7 at h;cases F:P.funcs[f]? with
 |none=>rw[F]at h;cases h
 |some d=>
  rw[F]at h;simp only at h;cases z:d.body with
  |none=>rw[z]at h;cases h
  |some c=>
   rw[z]at h;simp only at h;unfold MV at h;cases A:dK args.length d.ntmps with
   |false=>rw[A]at h;cases h
   |true=>
    rw[A]at h;simp only at h;refine⟨d,c,rfl,z,b5 A,?_⟩;cases g:C c d.ntmps ao (gI args .nil 0) H []with
    |no=>rw[g]at h;cases h
    |normal u p y=>rw[g]at h;exact⟨_,_,_,_,rfl,.inl rfl,h⟩
    |exit _ _ _ _=>rw[g]at h;cases h
    |goto _ _ _ _=>rw[g]at h;cases h
    |ret u p y=>rw[g]at h;exact⟨_,_,_,_,rfl,.inr rfl,h⟩
def Vm{A:q6}(z:Cs P A):bI P (q7 P A) where
 mono f J H v p h:=by
  obtain⟨y,c,_,_,_,e,G,F,C,g,_,d⟩:=Vl h;exact cD (z.mono _ _ _ _ _ _ _ _ _ _ g) (uV (Cv d))
 dc f J H v p h B ρ u w m hH K U V:=by
  obtain⟨y,c,W,S,X,e,G,F,C,g,he,d⟩:=Vl h;have h:=Cv d;refine Ã W S trivial ?_;refine z.dc _ _ _ _ _ _ _ _ _ _ g B ρ _ w bs m _ rfl ⟨Fo U X,hH,K⟩ rfl (by rw[h];exact V) λρ' u g L M Q=>?_
  have:LeavesInM (eZ bs) m P y u.tmps (pn P B ρ H w v p) u.defers .returning g:=gE C L Q d λy p g r2 h=>⟨y,ρ',rfl,g,r2,M.trans h⟩
  rcases he with rfl |rfl<;>exact this
end
end
section
variable[Ground]
section
variable{P:fd}{B:E}{ρ:Env}{n:E}{T:au af}{H:ai}{a:Zq}{w:du}
def bl.lt_size(hH:bl P B ρ H w){i b c:E}{k:bn}(hi:H.get i=O k)(g:ρ i=O (b,c)):b<w.heap.size:=by
 obtain⟨o,d,_⟩:=hH.at hi g;exact(cy.1 d).1
def pr(hH:bl P B ρ H w){i b c:E}{g:bn}(hi:H.get i=O g)(d:ρ i=O (b,c))(u:g.fq=ao){r:E0}{R:Loop}(h:M4 ρ r R):bl P B ρ (H.set i (.loop r)) (w.putObj b (.loop R))/\bV ρ H w ρ (H.set i (.loop r)) (w.putObj b (.loop R)):=
 xX hH hi d u _ _ rfl rfl rfl τ (yP (hH.lt_size hi d)) (λj p=>hV p) ⟨R,rfl,h⟩
def Cw(hH:bl P B ρ H w){i b c:E}{r:E0}(hi:H.get i=O (.loop r))(p:ρ i=O (b,c)):∃R,w.heap[b]? =O (.loop R)/\M4 ρ r R:=by
 obtain⟨o,d,g,_⟩:=hH.at hi p;obtain⟨R,rfl,h⟩:=g;exact⟨R,d,h⟩
def Vn:∀(l:I (Tmp×af))(d:I (Tmp×Value)){T:au af}{xs:fh Value},l.map ql=d.map ql->aE ρ (l.map rL) (d.map rL)->(∀p∈l,p.1<n)->lC ρ T n xs->
  lC ρ (pf T l) n (d.foldl (λJ p=>J.setIfInBounds p.1 p.2) xs)
 |[],[],T,xs,_,_,_,h=>h
 |[],_::_,_,_,h,_,_,_=>by simp at h
 |_::_,[],_,_,h,_,_,_=>by simp at h
 |(t,v)::l,(K,x)::d,T,xs,h,C,y,g=>by
  simp only[Li,Xd]at h;obtain⟨rfl,h⟩:=h;cases C with
  |cons z A=>
   refine Vn l d h A (λp G=>y p (gQ _ G)) ?_;have F:t<xs.size:=by rw[g.size];exact y (t,v) gb
   refine⟨by simp[g.size],λu=>?_⟩;rw[au.gS];show Den ρ _ ((xs.setIfInBounds t x).getD u lk);rw[Ve _ _ _ _ _ F];by_cases he:t=u
   .subst he;simpa using z
   .rw[db he,db (λe=>he e.symm)];exact g.get u
def lO{i:E}{r:R}{v:af}{H':ai}(h:zI i r=.ok v H'):∃(e:sC)(g:au af)(d:ai)(p:I E)(r1:E0)(j:da mN),r.out=O (e,g,d,p)/\d.get i=O (.loop r1)/\v=.raw (.bool j.isNone)/\
  H'=d.set i (.loop {r1 with state:=if j.isNone then .ready else .done,pending:=j})/\(e=.normal/\j=bs\/e=.ret/\j=O .ret\/(∃id,e=.exit id/\j=O (.exit id))\/(∃l,e=.goto l/\j=O (.goto l))):=by
 cases r with
 |no=>cases h
 |normal g d p=>
  simp only[zI]at h;split at h
  .rename_i r1 u;cases h;exact⟨_,g,d,p,r1,bs,rfl,u,rfl,rfl,.inl ⟨rfl,rfl⟩⟩
  .cases h
 |ret g d p=>
  simp only[zI]at h;split at h
  .rename_i r1 u;cases h;exact⟨_,g,d,p,r1,O .ret,rfl,u,rfl,rfl,.inr (.inl ⟨rfl,rfl⟩)⟩
  .cases h
 |exit id g d p=>
  simp only[zI]at h;split at h
  .rename_i r1 u;cases h;exact⟨_,g,d,p,r1,O (.exit id),rfl,u,rfl,rfl,.inr (.inr (.inl ⟨id,rfl,rfl⟩))⟩
  .cases h
 |goto l g d p=>
  simp only[zI]at h;split at h
  .rename_i r1 u;cases h;exact⟨_,g,d,p,r1,O (.goto l),rfl,u,rfl,rfl,.inr (.inr (.inr ⟨l,rfl,rfl⟩))⟩
  .cases h
def Vo:nQ P zJ:=⟨(λ_ _ _ _ _ h=>by cases h),(λ_ _ _ _ _ h=>by cases h)⟩
end
end
section
variable[Ground]
section
variable{P:fd}{B:E}{ρ:Env}{n:E}{T:au af}{H:ai}{a:Zq}{w:du}
def pu{fv:af}{v:Value}(p:Den ρ fv v){args:I af}{g:ya}{as:I af}{u:ai}(h:fb P fv args H=.enter g as u):∃fn first y,v=.func fn first y:=by
 unfold fb at h;split at h
 .rename_i x;have:=p.cu;subst this;cases d:zC v with
  |fn f=>
   unfold zC at d;split at d
   .exact⟨_,_,_,rfl⟩
   .cases d
  |no=>
   rw[d]at h;simp only at h;split at h
   .exact⟨_,_,_,rfl⟩
   .cases h
 .obtain⟨z,cs,_,_,rfl⟩:=p.Ff;exact⟨_,_,_,rfl⟩
 .cases h
 .cases h
def IZ{fv:af}{args:I af}{g:ya}{as:I af}{d:ai}(h:fb P fv args H=.enter g as d):d=H:=by
 have p:∀{f:ya}{l:I af},vX P f l H=.enter g as d->d=H:=λ{f l} h=>by
  unfold vX at h;cases y:P.funcs[f]? with
  |none=>rw[y]at h;cases h
  |some fn=>
   rw[y]at h;simp only at h;cases u:fn.body with
   |none=>
    rw[u]at h;simp only at h;cases A:B6 P f fn l H with
    |none=>rw[A]at h;cases h
    |some q=>rw[A]at h;cases h
   |some c=>rw[u]at h;cases h;rfl
 unfold fb at h;split at h
 .rename_i x;cases z:zC x with
  |fn f=>rw[z]at h;exact p h
  |no=>
   rw[z]at h;simp only at h;split at h
   .exact p h
   .cases h
 .exact p h
 .cases h
 .cases h
def Vp{p:au af->ai->I E->R}:∀(j:E){T:au af}{H:ai}{m:I E}{e:sC}{A:au af}{H':ai}{F:I E},(iter p j T H m).out=O (e,A,H',F)->
  ∃G,j=G+1/\∃C g d u,(p T H m).out=O (C,g,d,u)/\((C=.normal/\(iter p G g d u).out=O (e,A,H',F))\/(C≠ .normal/\e=C/\A=g/\H'=d/\F=u))
 |0,_,_,_,_,_,_,_,h=>by cases h
 |j+1,T,H,m,e,A,H',F,h=>by
  have J:iter p (j+1) T H m=@R.rec (λ_=>R) .no (iter p j) .exit .goto .ret (p T H m):=rfl;rw[J]at h;refine⟨j,rfl,?_⟩;cases y:p T H m with
  |no=>rw[y]at h;cases h
  |normal g d u=>rw[y]at h;exact⟨_,_,_,_,rfl,.inl ⟨rfl,h⟩⟩
  |exit id g d u=>rw[y]at h;cases h;exact⟨_,_,_,_,rfl,.inr ⟨(λz=>by cases z),rfl,rfl,rfl,rfl⟩⟩
  |goto l g d u=>rw[y]at h;cases h;exact⟨_,_,_,_,rfl,.inr ⟨(λz=>by cases z),rfl,rfl,rfl,rfl⟩⟩
  |ret g d u=>rw[y]at h;cases h;exact⟨_,_,_,_,rfl,.inr ⟨(λz=>by cases z),rfl,rfl,rfl,rfl⟩⟩
def ahj{Q:sC->Zq->du->Prop}{e:sC}{a:Zq}{w:du}{d:Zq->du->Prop}(g:e≠ .normal)(h:Q e a w):sC.then d Q e a w:=by
 cases e<;>first |exact absurd rfl g|exact h
def I0{m:I E}{r:fH}{e:sC}{d:au af}{H':ai}{g:I E}(h:(Cd m r).out=O (e,d,H',g)):r=.mk d H'/\e=.normal/\g=m:=by
 cases r with
 |no=>cases h
 |mk u p=>cases h;exact⟨rfl,rfl,rfl⟩
def ahk(_hK:gi P){draw:sw}(b1:∀a0,zY P a0 (draw a0)){A:q6}(z:Cs P A):Cs P (λc=>IB c P draw A) where
 mono c n g T H m e Q K U h:=by
  have a5:=Vm z;have a6:=Vo (P:=P);cases c with
  |skip=>cases h;exact aC _
  |label l=>cases h;exact aC _
  |exit id=>cases h;exact aC _
  |goto l=>cases h;exact aC _
  |ret=>cases h;exact aC _
  |refuse c2=>cases h
  |region id c1 a0=>
   obtain⟨h1,_,_⟩:=I0 h;exact(b1 a0).mono _ _ a5 a6 _ _ _ _ _ _ h1
  |seq x V=>
   have h:(@R.rec (λ_=>R) .no (λT H m=>A V n g T H m) .exit .goto .ret (A x n g T H m)).out=O (e,Q,K,U):=h;cases d:A x n g T H m with
   |no=>rw[d]at h;cases h
   |normal u p y=>rw[d]at h;exact cD (z.mono x n g T H m _ _ _ _ (by rw[d];rfl)) (z.mono _ _ _ _ _ _ _ _ _ _ h)
   |exit id u p y=>rw[d]at h;cases h;exact z.mono x n g T H m _ _ _ _ (by rw[d];rfl)
   |goto l u p y=>rw[d]at h;cases h;exact z.mono x n g T H m _ _ _ _ (by rw[d];rfl)
   |ret u p y=>rw[d]at h;cases h;exact z.mono x n g T H m _ _ _ _ (by rw[d];rfl)
  |cond c x V=>
   have h:(@o5.rec (λ_=>R) .no (λb=>@jh (λ_=>R) (A V n g T H m) (A x n g T H m) b) (iX (cF T c))).out=O (e,Q,K,U):=h;cases G:iX (cF T c)with
   |no=>rw[G]at h;cases h
   |mk b=>rw[G]at h;cases b<;>exact z.mono _ _ _ _ _ _ _ _ _ _ h
  |block id x=>
   have h:(@R.rec (λ_=>R) .no .normal (λi T H m=>@jh (λ_=>R) (.exit i T H m) (.normal T H m) (dd i id)) .goto .ret (A x n g T H m)).out=O (e,Q,K,U):=h;cases d:A x n g T H m with
   |no=>rw[d]at h;cases h
   |normal u p y=>rw[d]at h;cases h;exact z.mono x n g T H m _ _ _ _ (by rw[d];rfl)
   |exit i u p y=>
    rw[d]at h;simp only at h;cases G:dd i id with
    |true=>rw[G]at h;cases h;exact z.mono x n g T H m _ _ _ _ (by rw[d];rfl)
    |false=>rw[G]at h;cases h;exact z.mono x n g T H m _ _ _ _ (by rw[d];rfl)
   |goto l u p y=>rw[d]at h;cases h;exact z.mono x n g T H m _ _ _ _ (by rw[d];rfl)
   |ret u p y=>rw[d]at h;cases h;exact z.mono x n g T H m _ _ _ _ (by rw[d];rfl)
  |loop x=>cases h
  |rangeFunc f ps x V=>cases h
  |scope x=>
   have h:(@R.rec (λ_=>R) .no .normal .exit (λ_ _ _ _=>.no) .ret (A x n g T H m)).out=O (e,Q,K,U):=h;cases d:A x n g T H m with
   |no=>rw[d]at h;cases h
   |normal u p y=>rw[d]at h;cases h;exact z.mono x n g T H m _ _ _ _ (by rw[d];rfl)
   |exit id u p y=>rw[d]at h;cases h;exact z.mono x n g T H m _ _ _ _ (by rw[d];rfl)
   |goto l u p y=>rw[d]at h;cases h
   |ret u p y=>rw[d]at h;cases h;exact z.mono x n g T H m _ _ _ _ (by rw[d];rfl)
 dc c n g T H m e Q K U h B ρ a w rd k a3 a4 L S a2 C:=by
  have a5:=Vm z;have a6:=Vo (P:=P);have M:∀{x:mN}{X u p y},(A x n g T H m).out=O (X,u,p,y)->p=K->∀W:sC->Zq->du->Prop,(∀ρ' F J,fS P B ρ' n u p F J->bV ρ H w ρ' p J->gj ρ' y F.defers->W X F J)->x.wpIn (eZ rd) k P W a w:=
   λh1 a9 W X=>z.dc _ _ _ _ _ _ _ _ _ _ h1 B ρ a w rd k W a4 L S (by rw[a9];exact a2) X
  cases c with
  |skip=>cases h;exact wpIn_skip (C ρ a w L (bV.refl _ _ _) S)
  |label l=>cases h;exact wpIn_label (C ρ a w L (bV.refl _ _ _) S)
  |exit id=>cases h;exact wpIn_exit (C ρ a w L (bV.refl _ _ _) S)
  |goto l=>cases h;exact wpIn_goto (C ρ a w L (bV.refl _ _ _) S)
  |ret=>cases h;exact wpIn_ret (C ρ a w L (bV.refl _ _ _) S)
  |refuse c2=>cases h
  |region id c1 a0=>
   obtain⟨h1,rfl,rfl⟩:=I0 h;have b2:∀ρ' F J,fS P B ρ' n Q K F J->bV ρ H w ρ' K J->F.defers=a.defers->a3 .normal F J:=λρ' F J W r2 X=>C ρ' F J W r2 (by rw[X];exact S.mono r2.le)
   exact(b1 a0).dc _ _ a5 a6 id _ _ _ _ _ _ h1 B ρ a w rd k a3 L a2 b2
  |seq x V=>
   have h:(@R.rec (λ_=>R) .no (λT H m=>A V n g T H m) .exit .goto .ret (A x n g T H m)).out=O (e,Q,K,U):=h;refine wpIn_seq ?_;cases d:A x n g T H m with
   |no=>rw[d]at h;cases h
   |normal u p y=>
    rw[d]at h;have c0:=z.mono _ _ _ _ _ _ _ _ _ _ h;refine z.dc x n g T H m _ _ _ _ (by rw[d];rfl) B ρ a w rd k _ a4 L S (a2.mono' c0) λc' a1 w1 W r2 X=>?_
    exact z.dc _ _ _ _ _ _ _ _ _ _ h B c' a1 w1 rd k a3 a4 W X (r2.fr a2) λρ' F J q1 b3 b4=>C ρ' F J q1 (r2.trans b3) b4
   |exit id u p y=>rw[d]at h;cases h;exact M (x:=x) (by rw[d];rfl) rfl _ C
   |goto l u p y=>rw[d]at h;cases h;exact M (x:=x) (by rw[d];rfl) rfl _ C
   |ret u p y=>rw[d]at h;cases h;exact M (x:=x) (by rw[d];rfl) rfl _ C
  |cond c x V=>
   have h:(@o5.rec (λ_=>R) .no (λb=>@jh (λ_=>R) (A V n g T H m) (A x n g T H m) b) (iX (cF T c))).out=O (e,Q,K,U):=h;cases G:iX (cF T c)with
   |no=>rw[G]at h;cases h
   |mk b=>
    rw[G]at h;have b':=Cr L.T L.G c;rw[pj G]at b';refine wpIn_cond b'.cu ?_;cases b
    .exact z.dc _ _ _ _ _ _ _ _ _ _ h B ρ a w rd k a3 a4 L S a2 C
    .exact z.dc _ _ _ _ _ _ _ _ _ _ h B ρ a w rd k a3 a4 L S a2 C
  |block id x=>
   have h:(@R.rec (λ_=>R) .no .normal (λi T H m=>@jh (λ_=>R) (.exit i T H m) (.normal T H m) (dd i id)) .goto .ret (A x n g T H m)).out=O (e,Q,K,U):=h;refine wpIn_block ?_;cases d:A x n g T H m with
   |no=>rw[d]at h;cases h
   |normal u p y=>rw[d]at h;cases h;exact M (x:=x) (by rw[d];rfl) rfl _ C
   |exit i u p y=>
    rw[d]at h;simp only at h;cases G:dd i id with
    |true=>
     rw[G]at h;cases h;have:=ac G;subst this;exact M (x:=x) (by rw[d];rfl) rfl _ λρ' F J W r2 X=>by simp only[sC.inBlock,if_true];exact C ρ' F J W r2 X
    |false=>
     rw[G]at h;cases h;have z:i≠id:=λa9=>by subst a9;rw[zX]at G;cases G
     exact M (x:=x) (by rw[d];rfl) rfl _ λρ' F J W r2 X=>by simp only[sC.inBlock,db z];exact C ρ' F J W r2 X
   |goto l u p y=>rw[d]at h;cases h;exact M (x:=x) (by rw[d];rfl) rfl _ C
   |ret u p y=>rw[d]at h;cases h;exact M (x:=x) (by rw[d];rfl) rfl _ C
  |loop x=>cases h
  |rangeFunc f ps x V=>cases h
  |scope x=>
   have h:(@R.rec (λ_=>R) .no .normal .exit (λ_ _ _ _=>.no) .ret (A x n g T H m)).out=O (e,Q,K,U):=h;refine NG ?_;cases d:A x n g T H m with
   |no=>rw[d]at h;cases h
   |normal u p y=>rw[d]at h;cases h;exact M (x:=x) (by rw[d];rfl) rfl _ C
   |exit id u p y=>rw[d]at h;cases h;exact M (x:=x) (by rw[d];rfl) rfl _ C
   |goto l u p y=>rw[d]at h;cases h
   |ret u p y=>rw[d]at h;cases h;exact M (x:=x) (by rw[d];rfl) rfl _ C
def NJ(g:gi P){draw:sw}(p:∀d,zY P d (draw d)):∀u,Cs P (sx P draw u)
 |0=>⟨(λ_ _ _ _ _ _ _ _ _ _ h=>by cases h),(λ_ _ _ _ _ _ _ _ _ _ h=>by cases h)⟩
 |f+1=>ahk g p (NJ g p f)
