import Derived.Test.YtibikmmdbdlafaaGreatDoorZmGTr3
set_option linter.defProp false
set_option linter.unusedSectionVars false
set_option linter.unusedSimpArgs false
namespace Go.Proofs.YtibikmmdbdlafaaGreatDoor
open Go.RowKit Sv Go.Proofs.Tryz
section
variable [Sv.Ground]
theorem Va {ih:dV} (hI:jN prog ih) {args:List aa} {H:ai} {v:aa} {H':ai} (h:Dl ih args H= .ok v H'):H.next+3<=H'.next:=by
 obtain⟨yi,oD,jp,lm,es,clock,ks,el,ex,fz,ro,rfl,h1,h2,h3,h4,h5,h6,h7,h8⟩:=U' h;obtain⟨e,T1,H1,m1,ho,he,hl⟩:=U9 h8;have a1:=hI.mono _ _ _ _ _ _ _ _ _ _ ho;have a2:=zF hl;have a3:(U1 yi (nK ks) H).next=H.next+3:=rfl;omega
theorem alg {ρ:Env} {yi oD jp i:Nat} {a':Act} (hs:a'.tmps.size=48) (h0:Den ρ (.yield yi) (a'.tmps.getD 0 undef)) (h1:Den ρ (.ptr oD 0) (a'.tmps.getD 1 undef)) (h2:Den ρ (.ptr jp 0) (a'.tmps.getD 2 undef)) (h3:Den ρ (.ptr i 0) (a'.tmps.getD 3 undef)) (h4:Den ρ (.ptr (i+2) 0) (a'.tmps.getD 4 undef))
  (hu:∀t,t<48->t∉[0,1,2,3,4,5,10,11,12,13,14,15,16,17,18,19,20,21]->a'.tmps.getD t undef=undef):jT ρ (G1 [.yield yi, .ptr oD 0, .ptr jp 0] i) 48 a'.tmps:=by
 refine⟨hs,fun t=> ?_⟩;unfold G1;simp only [List.foldl_cons,List.foldl_nil,aq.fU,I3,aq.get_nil,List.length_cons,List.length_nil,Nat.zero_le,true_and,aw,Nat.reduceAdd,Nat.sub_zero];by_cases hb:t∈[5,10,11,12,13,14,15,16,17,18,19,20,21]
 .simp only [ep,j7,or_false]at hb;rcases hb with rfl |rfl |rfl |rfl |rfl |rfl |rfl |rfl |rfl |rfl |rfl |rfl |rfl<;>exact .bot _
 .simp only [ep,j7,or_false,not_or]at hb;obtain⟨b1,b2,b3,b4,gi,Gv,yt,alh,ali,alj,alk,alm,aln⟩:=hb;rw [if_neg (Ne.symm aln),if_neg (Ne.symm alm),if_neg (Ne.symm alk),if_neg (Ne.symm alj),if_neg (Ne.symm ali),if_neg (Ne.symm alh),if_neg (Ne.symm yt),if_neg (Ne.symm Gv),if_neg (Ne.symm gi),if_neg (Ne.symm b4),if_neg (Ne.symm b3),if_neg (Ne.symm b2),if_neg (Ne.symm b1)];by_cases bU:t=4
  .subst bU;exact h4
  .rw [if_neg (Ne.symm bU)];by_cases e3:t=3
   .subst e3;exact h3
   .rw [if_neg (Ne.symm e3)];by_cases hlt:t<3
    .rw [if_pos hlt];rcases t with _|_|_|t
     .exact h0
     .exact h1
     .exact h2
     .omega
    .rw [if_neg hlt];by_cases h48:t<48
     .rw [hu t h48 (by simp;omega)];exact .raw _
     .rw [Array.getD_eq_getD_getElem?,Array.getElem?_eq_none (by omega)];exact .raw _
theorem MZ {ρ:Env} {H:ai} {b b' c:Nat} {k:bq} (h:¬oO ρ H b') (hne:b'≠b):¬oO (ρ.put H.next b c) (H.new k) b':=fun⟨i,k',c',e1,e2⟩=>by
 rw [ai.gv]at e1;split at e1
 .rename_i hi;rw [<-hi,Env.dr]at e2;cases e2;exact hne rfl
 .rename_i hi;have:ρ.put H.next b c i=ρ i:=by simp [Env.put,Ne.symm hi]
  rw [this]at e2;exact h ⟨i,k',c',e1,e2⟩
theorem Dm {ρ:Env} {i j b c:Nat} (h:j≠i):ρ.put i b c j=ρ j:=by simp [Env.put,h]
theorem alo {cap:Nat}:cap*1=cap*prog.cellsOf 3:=by rw [show prog.cellsOf 3=1 by kernel_rfl]
theorem Hn {ρ:Env} (l:List Int):aF ρ (l.map fun n=>aa.raw (.int .i64 n)) (gR l):=by
 unfold gR;induction l with
 |nil=>exact .nil
 |cons x l ih=>exact .cons (.raw _) ih
theorem alp {ih:dV} (hI:jN prog ih) {args:List aa} {H:ai} {v:aa} {H':ai} (h:Dl ih args H= .ok v H') (B:Nat) (ρ:Env) (xs:List Value) (w:World) (m:Nat) (hH:bf prog B ρ H w) (cu:n7 ρ) (hd:aF ρ args xs) (hf:Fr ρ H.next H'.next):
  CallsIn (dO none) m prog 157 xs.toArray w (mC prog B ρ H w v H'):=by
 have hmono:=Va hI h;obtain⟨yi,oD,jp,lm,es,clock,ks,el,ex,fz,ro,rfl,h1,h2,h3,h4,h5,h6,h7,h8⟩:=U' h;obtain⟨e,T1,H1,m1,ho,he,hl⟩:=U9 h8;have hnx:=zF hl
 match xs,hd with
 |[x0,x1,x2], .cons d0 (.cons d1 (.cons d2 .nil))=>
  obtain⟨yC,c0,gH,rfl⟩:=d0.Io;obtain⟨uF,c1,r1,rfl⟩:=d1.kN;obtain⟨wP,c2,r2,rfl⟩:=d2.kN;obtain⟨ys,as4,g1,_,g3,_,_,g6⟩:=mq hH h1 r1;obtain⟨y,hy1,hy2⟩:=g3.get (i:=0) rfl;obtain⟨b,cb,rb,rfl⟩:=hy2.vk;have hcell:w.cell? ⟨uF,0,none⟩=some (.map (some b)):=by
   have e1:(ys.toList.take 1)[0]? =some (Value.map (some b)):=hy1;rw [List.getElem?_take,if_pos (by decide),Array.getElem?_toList]at e1;rw [cell_of_row _ _ 0 ys _ _ g1];exact e1
  obtain⟨o,q1,aO,_⟩:=hH.at h2 rb;have aO:o= .map es clock:=aO;subst aO;refine akX m yC uF wP b es clock ks w _ hcell q1 (wv h6) (U6 h7) (U4 h3) h5 fun a' W qY=> ?_
  obtain⟨as5,k1,k2⟩:=qY.b4;rw [alf]at k2;have hlen:(nK ks).length=ks.length:=(MY ks).length_eq;rcases k2.2 with⟨_,dF⟩|⟨g,cap,cur,rfl,dF,mA,oS,xD,E0,alq⟩
  .omega
  .have alr:cur.toList.take (nK ks).length=gR (nK ks):=by rw [hlen];simpa using alq
   have hn0:∀i,H.next<=i->i<H.next+3->ρ i=none:=fun i a1 a2=>hf i a1 (by omega)
   have hBw:=hH.base;have M0:∀b' A,w.heap.size<=b'->ρ.fz b'=some A->False:=fun b' A hb' hz=>by
    obtain⟨⟨e',fr,e2⟩,_⟩:=hH.fz b' A hz;have:=(cV.1 e2).1;omega
   have M3:∀b',w.heap.size<=b'->¬oO ρ H b':=fun b' hb' ⟨i,k,c,e1,e2⟩=>by
    obtain⟨o,e3,_⟩:=hH.at e1 e2;have:=(cV.1 e3).1;omega
   obtain⟨p1,p2⟩:=ale hH qY.gr
   -- the box of yield
   obtain⟨s1,t1⟩:=MU (b:=w.heap.size) (c:=0) (k:= .cells 148 [.yield yi] true false false) p1 p2 hBw (aG _) (M3 _ (aG _)) (fun A=>M0 _ A (aG _)) (hn0 _ (aG _) (by omega)) (aG _) qY.b3
    ⟨_,_,rfl,fun _=>rfl, .cons ((Den.yield gH).mono (Env.oQ (hn0 _ (aG _) (by omega)))) .nil,fun _=>rfl,fun hh=>by cases hh⟩
   have n1:=MZ (b':=g) (b:=w.heap.size) (c:=0) (k:= .cells 148 [.yield yi] true false false) (M3 g (by omega)) (by omega);have als:=MZ (b':=w.heap.size+1) (b:=w.heap.size) (c:=0) (k:= .cells 148 [.yield yi] true false false) (M3 _ (by omega)) (by omega)
   -- the row
   have f1:(ρ.put H.next w.heap.size 0) (H.next+1)=none:=by rw [Dm (by omega)];exact hn0 _ (by omega) (by omega)
   obtain⟨s2,t2⟩:=MU (b:=g) (c:=cap) (k:= .cells 3 ((nK ks).map fun n=> .raw (.int .i64 n)) false false false) s1 t1 hBw (by omega) n1 (fun A=>M0 _ A (by omega)) f1 (Nat.le_succ _) mA
    ⟨cur,_,rfl,fun _=>rfl,by rw [w4,alr];exact Hn _,(fun hh=>by cases hh),fun _=>⟨g,cap,Env.dr ..,by rw [E0];exact alo⟩⟩
   have n2:=MZ (b':=w.heap.size+1) (b:=g) (c:=cap) (k:= .cells 3 ((nK ks).map fun n=> .raw (.int .i64 n)) false false false) als (by omega)
   -- the cell of kinds
   have f2:((ρ.put H.next w.heap.size 0).put (H.next+1) g cap) (H.next+2)=none:=by rw [Dm (by omega),Dm (by omega)];exact hn0 _ (by omega) (by omega)
   have rg:((ρ.put H.next w.heap.size 0).put (H.next+1) g cap) (H.next+1)=some (g,cap):=Env.dr ..;obtain⟨s3,t3⟩:=MU (b:=w.heap.size+1) (c:=0) (k:= .cells 93 [.slice (Nat.succ H.next) 0 (nK ks).length .any] true false false) s2 t2 hBw (by omega) n2 (fun A=>M0 _ A (by omega)) f2 (by show H.next<=H.next+2;omega) k1
    ⟨_,_,rfl,fun _=>rfl, .cons (by rw [hlen];exact(Den.slice (cap:= .any) rg trivial oS).mono (Env.oQ f2)) .nil,fun _=>rfl,fun hh=>by cases hh⟩
   have hfr:=(t3.fr (H':=H1) (by rw [hnx];exact hf));have hT:jT (((ρ.put H.next w.heap.size 0).put (H.next+1) g cap).put (H.next+2) (w.heap.size+1) 0) (G1 [.yield yi, .ptr oD 0, .ptr jp 0] H.next) 48 a'.tmps:=by
    refine alg qY.size ?_ ?_ ?_ ?_ ?_ qY.un
    .rw [qY.t0];exact(Den.yield gH).mono t3.le
    .rw [qY.t1];exact(Den.ptr r1).mono t3.le
    .rw [qY.t2];exact(Den.ptr r2).mono t3.le
    .rw [qY.t3];exact .ptr (c:=0) (by rw [Dm (by omega),Dm (by omega)];exact Env.dr ..)
    .rw [qY.t4];exact .ptr (c:=0) (Env.dr ..)
   refine hI.cy _ _ _ _ _ _ _ _ _ _ ho B _ a' W none m _ trivial ⟨hT,s3,cu.mono t3.le⟩ qY.df hfr fun ρ' a2 w2 cQ z2 z3=> ?_
   have:LeavesInM (dO none) m prog f157 a2.tmps (mC prog B ρ H w v H') a2.defers .returning w2:=xI m1 cQ z3 hl fun y w3 u1 u2 u3=>⟨y,ρ',rfl,u1,u2,(t3.trans z2).trans u3⟩
   rcases he with rfl |rfl<;>exact this
theorem G2 {ih:dV} (hI:jN prog ih):bD prog (yF ih) where
 mono f args H v H' h:=by
  unfold yF at h;cases hb:Nat.beq f 157 with
  |false=>rw [hb]at h;exact(ml hI).mono _ _ _ _ _ h
  |true=>rw [hb]at h;have:=Va hI h;omega
 cy f args H v H' h B ρ xs w m hH cu hd hf:=by
  unfold yF at h;cases hb:Nat.beq f 157 with
  |false=>rw [hb]at h;exact(ml hI).cy _ _ _ _ _ h B ρ xs w m hH cu hd hf
  |true=>
   rw [hb]at h;obtain rfl:=ac hb;exact alp hI h B ρ xs w m hH cu hd hf
end
noncomputable section
def M4:Value->Value->Bool
 | .int k a, .int k' b=>decide (k=k')&&decide (a=b)
 | .bool a, .bool b=>a==b
 | .string a, .string b=>decide (a=b)
 |_,_=>false
def sliceB (fresh:Bool) (H:ai) (i off n:Nat) (z:Bool) (u:av) (ys:List u.den):Bool:=match H.get i with
 |some (.cells _ cs _ _ false)=>(!fresh||u.lK)&&(match u.q8 n (cut cs off (n*u.size))with
  |some ds=>av.beq (.list false u) ds ys&&(Nat.ble (off+n*u.size) cs.length&&(!z||Nat.ble 1 n))
  |none=>false)
 |_=>false
def Dn (fresh:Bool) (H:ai):aa->aa->Bool
 | .raw (.slice none 0 0), .bh _ _ ys=>ys.isEmpty
 | .raw a, .raw b=>M4 a b
 | .slice i off n _, .bh z u ys=>sliceB fresh H i off n z u ys
 |_,_=>false
def Dp (fresh:Bool) (H:ai):List aa->List aa->Bool
 |[],[]=>true
 |v::l,v'::l'=>Dn fresh H v v'&&Dp fresh H l l'
 |_,_=>false
def M5 (fresh:Bool) (H:ai):aa->aa->Bool
 | .agg l, .agg l'=>Dp fresh H l l'
 | .tuple l, .tuple l'=>Dp fresh H l l'
 |v,v'=>Dn fresh H v v'
def Dq (fresh:Bool) (H:ai):List aa->List aa->Bool
 |[],[]=>true
 |v::l,v'::l'=>M5 fresh H v v'&&Dq fresh H l l'
 |_,_=>false
def Dr (fresh:Bool) (H:ai):aa->aa->Bool
 | .agg l, .agg l'=>Dq fresh H l l'
 | .tuple l, .tuple l'=>Dq fresh H l l'
 |v,v'=>Dn fresh H v v'
def alu {fresh:Bool} {H:ai} {a b:Value} (h:M4 a b=true):cE fresh H (.raw a) (.raw b):=by
 unfold M4 at h;split at h
 .rename_i k x k' y;rw [ae]at h;have h1:=h.1;have h2:x=y:=ap h.2;unfold cE;show gZ (decide (k=k')) (x=y);rw [h1];exact h2
 .rename_i x y;unfold cE;exact eq_of_beq h
 .rename_i x y;have h2:x=y:=ap h;unfold cE;exact h2
 .cases h
def M6 {fresh:Bool} {H:ai} {v v':aa} (h:Dn fresh H v v'=true):cE fresh H v v':=by
 unfold Dn at h;split at h
 .rename_i z t ys;unfold cE;exact List.isEmpty_iff.1 h
 .exact alu h
 .rename_i i off n cap z u ys;unfold cE;unfold sliceB at h;split at h
  .rename_i e cs ex fz hg;rw [ae]at h;rw [hg];simp only;rw [show(!fresh||u.lK)=true from h.1];show(match u.q8 n (cut cs off (n*u.size))with |some ds=>ds=ys/\_|none=>False)
   cases hr:u.q8 n (cut cs off (n*u.size))with
   |none=>rw [hr]at h;cases h.2
   |some ds=>
    rw [hr]at h;have h2:=h.2;simp only [ae]at h2;refine⟨av.zJ (.list false u) h2.1, ?_⟩;rw [ae];exact h2.2
  .cases h
 .cases h
def M7 {fresh:Bool} {H:ai}:∀{l l':List aa},Dp fresh H l l'=true->tL fresh H l l'
 |[],[],_=>trivial
 |[],_::_,h=>by cases h
 |_::_,[],h=>by cases h
 |v::l,v'::l',h=>by
  unfold Dp at h;rw [ae]at h;exact⟨M6 h.1,M7 h.2⟩
def alv {fresh:Bool} {H:ai} {v v':aa} (h:M5 fresh H v v'=true):cE fresh H v v':=by
 unfold M5 at h;split at h
 .unfold cE;exact M7 h
 .unfold cE;exact M7 h
 .exact M6 h
def M8 {fresh:Bool} {H:ai}:∀{l l':List aa},Dq fresh H l l'=true->tL fresh H l l'
 |[],[],_=>trivial
 |[],_::_,h=>by cases h
 |_::_,[],h=>by cases h
 |v::l,v'::l',h=>by
  unfold Dq at h;rw [ae]at h;exact⟨alv h.1,M8 h.2⟩
def M9 {fresh:Bool} {H:ai} {v v':aa} (h:Dr fresh H v v'=true):cE fresh H v v':=by
 unfold Dr at h;split at h
 .unfold cE;exact M8 h
 .unfold cE;exact M8 h
 .exact M6 h
def Na {P:Program} {call:er} (hc:bD P call) {f:FuncId} {args:List aa} {v:aa} {H':ai} {fresh:Bool} {res:aa} (h:call f args H0= .ok v H') (hr:cE fresh H' v res):Holds P fresh f args res:=by
 intro w F xs hF cu hd;have hH:bf P w.heap.size F H0 w:=⟨fun i k h=>(by rw [show H0.get i=none from aq.get_nil i]at h;cases h),fun i j eC eR b ci cj h=>(by rw [show H0.get i=none from aq.get_nil i]at h;cases h),fun i k h=>(by rw [show H0.get i=none from aq.get_nil i]at h;cases h),aG _,
  fun b A h=>⟨hF.fz b A h,fun i k c hi=>(by rw [show H0.get i=none from aq.get_nil i]at hi;cases hi)⟩⟩
 refine(callsIn_wide.1 (hc.cy f args H0 v H' h w.heap.size F xs w 0 hH ⟨hF.all,cu⟩ hd fun i h1 _=> ?_)).mono ?_
 .have h1:64<=i:=h1;cases Cg:F i with
  |none=>rfl
  |some x=>exact absurd (hF.ob i x Cg) (by omega)
 .rintro e w2 ⟨x,ρ,rfl,r1,r2,r3⟩;have hb:=r3.below hH;have hfz:∀b A,ρ.fz b=some A->F.fz b=some A\/w.heap.size<=b:=fun b A hb=>by
   rcases r3.ng b A hb with h|h|⟨i,k,c,h,_⟩
   .exact .inl h
   .exact .inr h
   .rw [show H0.get i=none from aq.get_nil i]at h;cases h
  refine⟨x,Cf fresh w.heap.size w2 F,rfl,E1 r2 hfz hr r1,⟨hF.ob,hF.all,fun b A hb'=> ?_⟩,fun b A hb'=> ?_,hb⟩
  .have hb':(if w.heap.size<=b then ki w2 b else if fresh then none else F.fz b)=some A:=hb';by_cases h0:w.heap.size<=b
   .rw [if_pos h0]at hb';exact mH.1 hb'
   .rw [if_neg h0]at hb';cases hfr:fresh with
    |true=>rw [hfr]at hb';cases hb'
    |false=>
     rw [hfr]at hb';obtain⟨e,fr,h3⟩:=hF.fz b A hb';exact⟨e,fr,(hb.block b (by omega)).trans h3⟩
  .have hb':(if w.heap.size<=b then ki w2 b else if fresh then none else F.fz b)=some A:=hb';by_cases h0:w.heap.size<=b
   .exact .inr h0
   .rw [if_neg h0]at hb';cases hfr:fresh with
    |true=>rw [hfr]at hb';cases hb'
    |false=>rw [hfr]at hb';exact .inl ⟨rfl,hb'⟩
end
end Go.Proofs.YtibikmmdbdlafaaGreatDoor
