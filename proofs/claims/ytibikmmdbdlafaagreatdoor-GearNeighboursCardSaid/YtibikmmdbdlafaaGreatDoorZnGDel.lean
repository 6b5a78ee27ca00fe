import Derived.Test.YtibikmmdbdlafaaGreatDoorZnN0
set_option linter.defProp false
set_option linter.unusedSectionVars false
set_option linter.unusedSimpArgs false
set_option linter.unusedVariables false
namespace Go.Proofs.YtibikmmdbdlafaaGreatDoor
def arn {N D M p q r s:Int} (h:kn N D M p q r s):q*(r*D-N*s)+s*(N*q-p*D)=D:=by
 have e:q*(r*D-N*s)+s*(N*q-p*D)=D*(r*q-p*s):=by grind
 rw [e,h.Ic,Int.mul_one]
def aro {N D M p q r s:Int} (h:kn N D M p q r s):N*q-p*D<D/\r*D-N*s<D:=by
 have e:=arn h;have lo:=h.lo;have hi:=h.hi;have a1:1*(N*q-p*D)<=s*(N*q-p*D):=ar h.s1 (by omega);have a2:1*(r*D-N*s)<=q*(r*D-N*s):=ar h.q1 (by omega);omega
def Yi {x y D:Int} (h1:y*D<=x) (h2:x<y*D+D) (hD:0<D):x/D=y:=by
 have e:x=(x-y*D)+y*D:=by omega
 rw [e,Int.add_mul_ediv_right _ _ (by omega),Int.ediv_eq_zero_of_lt (by omega) (by omega)];omega
def arp {N D M p q r s:Int} (h:kn N D M p q r s) (hD:0<D):N*q/D=p/\ -(-(N*s)/D)=r:=by
 obtain⟨l1,l2⟩:=aro h;have lo:=h.lo;have hi:=h.hi;refine⟨Yi (by omega) (by omega) hD, ?_⟩;have e1: -r*D= -(r*D):=Int.neg_mul ..;have e: -(N*s)/D= -r:=Yi (by omega) (by omega) hD;rw [e];omega
section
variable {N D M p q r s d:Int} (h:kn N D M p q r s)
def arq (hD:0<D) (Br:M<q+s) (h1:1<=d) (h2:d<=M):N*d/D*q<=p*d:=by
 rcases Yh (n:=N*d/D) h Br h1 h2 with g|g
 .exact g
 .exfalso;have hf:=Int.ediv_mul_le (N*d) (show D≠0 by omega);have hs:=h.s1;have hi:=h.hi;have a1:r*d*D<=N*d/D*s*D:=ar g (by omega);have a2:N*d/D*D*s<=N*d*s:=ar hf (by omega);have a3:0<d*(r*D-N*s):=Int.mul_pos (by omega) hi;have e1:N*d/D*s*D=N*d/D*D*s:=by grind
  have e2:d*(r*D-N*s)=r*d*D-N*d*s:=by grind
  omega
def ars (hD:0<D) (Br:M<q+s) (h1:1<=d) (h2:d<=M):r*d<= -(-(N*d)/D)*s:=by
 rcases Yh (n:= -(-(N*d)/D)) h Br h1 h2 with g|g
 .exfalso;have hf:=Int.ediv_mul_le (-(N*d)) (show D≠0 by omega);have hq:=h.q1;have lo:=h.lo;have a1: -(-(N*d)/D)*q*D<=p*d*D:=ar g (by omega);have a2: -(N*d)/D*D*q<= -(N*d)*q:=ar hf (by omega);have a3:0<d*(N*q-p*D):=Int.mul_pos (by omega) lo;have e1: -(-(N*d)/D)*q*D= -(-(N*d)/D*D*q):=by grind
  have e2:d*(N*q-p*D)=N*d*q-p*d*D:=by grind
  have e3: -(N*d)*q= -(N*d*q):=Int.neg_mul ..;omega
 .exact g
end
section
open Go.RowKit Sv Go.Proofs.Tryz
set_option maxRecDepth 100000 in
set_option maxHeartbeats 4000000 in
def art (g k:Nat) (x y:Int) (cur:Array Value) (w:World) (hb:w.heap[g]? =some (.cells cur 3 (0,0))) (h0:cur[0]? =some (.int .i64 x)) (h1:cur[1]? =some (.int .i64 y)) (hk:2<=k):
  Calls prog 101 #[.slice (some ⟨g,0,none⟩) 2 k, .int .i64 0, .int .i64 1] w fun e w'=>e= .returned (.slice (some ⟨g,0,none⟩) 1 k)/\w'=(w.drew.setCells g 0 [.int .i64 y]).setCells g 1 [.int .i64 0]:=by
 obtain⟨i0,tL,Nb,Nc,UZ⟩:=info_parts Tryz.UU;have c0:w.cell? ⟨g,0,none⟩=some (.int .i64 x):=by rw [cell_of_row _ _ 0 cur _ _ hb];exact h0
 have c1:w.cell? ⟨g,1,none⟩=some (.int .i64 y):=by rw [cell_of_row _ _ 1 cur _ _ hb];exact h1
 have f0:w.frozen? ⟨g,0,none⟩=false:=by simp [World.frozen?,hb]
 have f1:w.frozen? ⟨g,1,none⟩=false:=by simp [World.frozen?,hb]
 have k1:¬k=1:=by omega
 have k0:0<=k:=by omega
 have avl:1<=k:=by omega
 refine calls_of_wp func101 rfl ?_;simp only [Tryz.ntmps101,List.size_toArray,List.length_cons,List.length_nil,Nat.reduceAdd,Nat.reduceSub,Array.replicate_succ,Array.replicate_zero,List.push_toArray,List.append_toArray,List.nil_append,List.cons_append]
 go_wp2_with fail
 have s1:=Lib.hid (show∀t u,[Value.int .i64 y][t]? =some u->w.drew.cell? ((⟨g,1,none⟩:Addr).add t)=some u from fun t u hu=>by
  cases t with
  |zero=>simp at hu;subst hu;exact c1
  |succ t=>simp at hu)
 have s2:=Lib.hid (show∀t,t<[Value.int .i64 y].length->(w.drew.cell? ⟨g,0+0*1+t,none⟩).isSome=true/\w.drew.frozen? ⟨g,0+0*1+t,none⟩=false from fun t ht=>by
  obtain rfl:t=0:=by simpa using ht
  exact⟨by show(w.cell? _).isSome=true;rw [c0];rfl,f0⟩)
 have s3:=Lib.hid (show∀u∈[Value.int .i64 y],u.oneCell'=true from fun u hu=>by simp at hu;subst hu;rfl);obtain⟨uZ,Pq⟩:∃uZ,uZ=w.drew.setCells g (0+0*1) [.int .i64 y]:=⟨_,rfl⟩;have hW:=Lib.hid Pq;have b1:eR uZ g 3 (cur.setIfInBounds 0 (.int .i64 y)):=by rw [Pq];exact(eR.drew hb).set 0 _
 have e1:(cur.setIfInBounds 0 (Value.int .i64 y))[1]? =some (.int .i64 y):=by rw [Array.getElem?_setIfInBounds];simpa using h1
 have w1:uZ.cell? ⟨g,1,none⟩=some (.int .i64 y):=by rw [b1.cell 1];exact e1
 have hc1:∀j,j<1->(uZ.cell? ⟨g,1+j,none⟩).isSome=true:=fun j hj=>by
  obtain rfl:j=0:=by omega
  rw [Nat.add_zero,w1];rfl
 have xH:∀j,j<1->uZ.frozen? ⟨g,1+j,none⟩=false:=fun j hj=>b1.frozen _
 have Cd:∀w,(zeroValue 3).run prog w= .ok (.int .i64 0) w:=fun w=>EF (by simp [nh,tL,Nb]) w
 have gX:∀ty,(Builtin.clear_ #[93] ty #[.slice (some ⟨g,1,none⟩) 1 (k-1)]).run prog uZ= .ok (.tuple #[]) (uZ.setCells g 1 [.int .i64 0]):=fun ty=>
  Lib.run_clear_slice uZ _ _ ty _ Tryz.underlying93 Cd rfl rfl g 1 1 (k-1) (by decide) hc1 xH
 clear Pq;have mx:prog.follows .mixedOrders=true:=mixed
 go_region_law_o (refine step_append_room rfl (.tmp 22) (.tmp 25) 93 rfl 3 i0 1 Tryz.underlying93 tL Nc g 0 0 k (by simp [Act.eval,Act.put]) ⟨g,1,none⟩ 1 (k-1) [.int .i64 y] (by simp [Act.eval,Act.put]) rfl s1.out s3.out (by omega) s2.out ?_;rw [<-hW.out])
 go_wp2
 go_ret
 exact⟨rfl,by rw [hW.out]⟩
noncomputable section
def Yj (i:Nat) (H:ai) (blk:Option bq):aM:=match blk with
 |some (.cells e [.raw (.int .i64 _), .raw (.int .i64 y)] false false false)=>cond (Nat.beq e 3) (.ok (.slice i 0 1 .full) (H.set i (.cells e [.raw (.int .i64 y)] false false false))) .no
 |_=> .no
def Pr (args:List af) (H:ai):aM:=match args with
 |[.slice i 0 2 .full, .raw (.int .i64 0), .raw (.int .i64 1)]=>Yj i H (H.get i)
 |_=> .no
def Ie:eC:=fun f args H=> @Bool.rec (fun _=>aM) (bF NV f args H) (Pr args H) (Nat.beq f 101)
def Yk {args:List af} {H:ai} {v:af} {H':ai} (h:Pr args H= .ok v H'):∃i x y,args=[.slice i 0 2 .full, .raw (.int .i64 0), .raw (.int .i64 1)]/\H.get i=some (.cells 3 [.raw (.int .i64 x), .raw (.int .i64 y)] false false false)/\
  v= .slice i 0 1 .full/\H'=H.set i (.cells 3 [.raw (.int .i64 y)] false false false):=by
 unfold Pr at h;split at h
 .rename_i i;unfold Yj at h;split at h
  .rename_i e x y hg;cases hb:Nat.beq e 3 with
   |false=>rw [hb]at h;cases h
   |true=>
    rw [hb]at h;obtain rfl:=ac hb;cases h;exact⟨i,x,y,rfl,hg,rfl,rfl⟩
  .cases h
 .cases h
def aru:bD prog Ie where
 mono f args H v H' h:=by
  unfold Ie at h;cases hb:Nat.beq f 101 with
  |false=>rw [hb]at h;exact NW.mono _ _ _ _ _ h
  |true=>
   rw [hb]at h;obtain⟨i,x,y,_,_,_,rfl⟩:=Yk h;exact aK _
 cz f args H v H' h B ρ xs w m hH cv hd hf:=by
  unfold Ie at h;cases hb:Nat.beq f 101 with
  |false=>rw [hb]at h;exact NW.cz _ _ _ _ _ h B ρ xs w m hH cv hd hf
  |true=>
   rw [hb]at h;obtain rfl:=ac hb;obtain⟨i,x,y,rfl,hg,rfl,rfl⟩:=Yk h
   match xs,hd with
   |[x0,x1,x2], .cons d0 (.cons d1 (.cons d2 .nil))=>
    obtain⟨g,c,k,eo,hk,hlk,rfl⟩:=d0.iz;have hk:k=c:=hk;subst hk;rw [d1.cc,d2.cc];obtain⟨ys,fz,g1,g2,g3,_,g5,g6⟩:=dp hH hg eo;have g2:=g2 rfl;subst g2;have g5:=g5 rfl;have n0:ys[0]? =some (.int .i64 x):=by
     obtain⟨z,cT,z2⟩:=g3.get (i:=0) rfl;rw [z2.cc]at cT;simpa using cT
    have n1:ys[1]? =some (.int .i64 y):=by
     obtain⟨z,cT,z2⟩:=g3.get (i:=1) rfl;rw [z2.cc]at cT;simpa using cT
    refine UX (n:=0) (callsIn_wide.2 ((art g k x y ys w g1 n0 n1 hlk).mono ?_));rintro e w' ⟨rfl,rfl⟩;have kq:eR (w.drew.setCells g 0 [.int .i64 y]) g 3 (ys.setIfInBounds 0 (.int .i64 y)):=(eR.drew g1).set 0 _;have kS:eR ((w.drew.setCells g 0 [.int .i64 y]).setCells g 1 [.int .i64 0]) g 3 ((ys.setIfInBounds 0 (.int .i64 y)).setIfInBounds 1 (.int .i64 0)):=kq.set 1 _;have gL:∀j,j≠g->((w.drew.setCells g 0 [.int .i64 y]).setCells g 1 [.int .i64 0]).heap[j]? =w.heap[j]? :=fun j hj=>(Below.heap_setCell _ _ _ j hj).trans (Below.heap_setCell _ _ _ j hj)
    have lI:aI ρ [af.raw (Value.int .i64 y)] (((ys.setIfInBounds 0 (Value.int .i64 y)).setIfInBounds 1 (.int .i64 0)).toList.take [af.raw (Value.int .i64 y)].length):=by
     have e1:(((ys.setIfInBounds 0 (Value.int .i64 y)).setIfInBounds 1 (.int .i64 0)).toList.take [af.raw (Value.int .i64 y)].length)=[.int .i64 y]:=by
      have hs:0<ys.size:=(dG.1 n0).1;refine List.ext_getElem? fun j=> ?_
      rw [List.getElem?_take];cases j with
      |zero=>simp [hs]
      |succ j=>simp
     rw [e1];exact .cons (.raw _) .nil
    obtain⟨p1,p2⟩:=vo hH hg eo rfl (k:= .cells 3 [.raw (.int .i64 y)] false false false) ((w.drew.setCells g 0 [.int .i64 y]).setCells g 1 [.int .i64 0]) _ rfl rfl rfl (by show(World.setCell (World.setCell w.drew ⟨g,0,none⟩ _) ⟨g,1,none⟩ _).heap.size=_;simp [World.setCell]) kS gL
     ⟨_,_,rfl,fun _=>rfl,lI,(fun hh=>by cases hh),fun _=>⟨g,k,eo,by simpa using g5⟩⟩
    exact⟨_,ρ,rfl, .slice eo rfl (by omega),p1,p2⟩
end
end
end Go.Proofs.YtibikmmdbdlafaaGreatDoor
