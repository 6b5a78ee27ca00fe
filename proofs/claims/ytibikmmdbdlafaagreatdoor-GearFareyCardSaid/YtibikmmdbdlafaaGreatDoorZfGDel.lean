import Derived.Test.YtibikmmdbdlafaaGreatDoorZfGAw1
set_option linter.defProp false
set_option linter.unusedSectionVars false
set_option linter.unusedSimpArgs false
namespace Go.Proofs.YtibikmmdbdlafaaGreatDoor
open Go.RowKit Sv Go.Proofs.Tryz
set_option maxRecDepth 100000 in
set_option maxHeartbeats 4000000 in
def aq7 (g k:Nat) (x y:Int) (cur:Array Value) (w:World) (hb:w.heap[g]? =some (.cells cur 3 (0,0))) (h0:cur[0]? =some (.int .i64 x)) (h1:cur[1]? =some (.int .i64 y)) (hk:2<=k):
  Calls prog 101 #[.slice (some ⟨g,0,none⟩) 2 k, .int .i64 0, .int .i64 1] w fun e w'=>e= .returned (.slice (some ⟨g,0,none⟩) 1 k)/\w'=(w.drew.setCells g 0 [.int .i64 y]).setCells g 1 [.int .i64 0]:=by
 obtain⟨i0,tJ,Np,Nq,Vd⟩:=info_parts Tryz.U';have c0:w.cell? ⟨g,0,none⟩=some (.int .i64 x):=by rw [cell_of_row _ _ 0 cur _ _ hb];exact h0
 have c1:w.cell? ⟨g,1,none⟩=some (.int .i64 y):=by rw [cell_of_row _ _ 1 cur _ _ hb];exact h1
 have f0:w.frozen? ⟨g,0,none⟩=false:=by simp [World.frozen?,hb]
 have f1:w.frozen? ⟨g,1,none⟩=false:=by simp [World.frozen?,hb]
 have k1:¬k=1:=by omega
 have k0:0<=k:=by omega
 have au7:1<=k:=by omega
 refine calls_of_wp func101 rfl ?_;simp only [Tryz.ntmps101,List.size_toArray,List.length_cons,List.length_nil,Nat.reduceAdd,Nat.reduceSub,Array.replicate_succ,Array.replicate_zero,List.push_toArray,List.append_toArray,List.nil_append,List.cons_append]
 go_wp2_with fail
 have s1:=Lib.hid (show∀t u,[Value.int .i64 y][t]? =some u->w.drew.cell? ((⟨g,1,none⟩:Addr).add t)=some u from fun t u hu=>by
  cases t with
  |zero=>simp at hu;subst hu;exact c1
  |succ t=>simp at hu)
 have s2:=Lib.hid (show∀t,t<[Value.int .i64 y].length->(w.drew.cell? ⟨g,0+0*1+t,none⟩).isSome=true/\w.drew.frozen? ⟨g,0+0*1+t,none⟩=false from fun t ht=>by
  obtain rfl:t=0:=by simpa using ht
  exact⟨by show(w.cell? _).isSome=true;rw [c0];rfl,f0⟩)
 have s3:=Lib.hid (show∀u∈[Value.int .i64 y],u.oneCell'=true from fun u hu=>by simp at hu;subst hu;rfl);obtain⟨uV,PA⟩:∃uV,uV=w.drew.setCells g (0+0*1) [.int .i64 y]:=⟨_,rfl⟩;have hW:=Lib.hid PA;have b1:eM uV g 3 (cur.setIfInBounds 0 (.int .i64 y)):=by rw [PA];exact(eM.drew hb).set 0 _
 have e1:(cur.setIfInBounds 0 (Value.int .i64 y))[1]? =some (.int .i64 y):=by rw [Array.getElem?_setIfInBounds];simpa using h1
 have w1:uV.cell? ⟨g,1,none⟩=some (.int .i64 y):=by rw [b1.cell 1];exact e1
 have hc1:∀j,j<1->(uV.cell? ⟨g,1+j,none⟩).isSome=true:=fun j hj=>by
  obtain rfl:j=0:=by omega
  rw [Nat.add_zero,w1];rfl
 have xI:∀j,j<1->uV.frozen? ⟨g,1+j,none⟩=false:=fun j hj=>b1.frozen _
 have Ch:∀w,(zeroValue 3).run prog w= .ok (.int .i64 0) w:=fun w=>EH (by simp [mT,tJ,Np]) w
 have hO:∀ty,(Builtin.clear_ #[93] ty #[.slice (some ⟨g,1,none⟩) 1 (k-1)]).run prog uV= .ok (.tuple #[]) (uV.setCells g 1 [.int .i64 0]):=fun ty=>
  Lib.run_clear_slice uV _ _ ty _ Tryz.underlying93 Ch rfl rfl g 1 1 (k-1) δ hc1 xI
 clear PA;have mx:prog.follows .mixedOrders=true:=mixed
 go_region_law_o (refine step_append_room rfl (.tmp 22) (.tmp 25) 93 rfl 3 i0 1 Tryz.underlying93 tJ Nq g 0 0 k (by simp [Act.eval,Act.put]) ⟨g,1,none⟩ 1 (k-1) [.int .i64 y] (by simp [Act.eval,Act.put]) rfl s1.out s3.out ω s2.out ?_;rw [<-hW.out])
 go_wp2
 go_ret
 exact⟨rfl,by rw [hW.out]⟩
noncomputable section
def Yi (i:Nat) (H:ai) (blk:Option bq):aM:=match blk with
 |some (.cells e [.raw (.int .i64 _), .raw (.int .i64 y)] false false false)=>cond (Nat.beq e 3) (.ok (.slice i 0 1 .full) (H.set i (.cells e [.raw (.int .i64 y)] false false false))) .no
 |_=> .no
def PB (args:List af) (H:ai):aM:=match args with
 |[.slice i 0 2 .full, .raw (.int .i64 0), .raw (.int .i64 1)]=>Yi i H (H.get i)
 |_=> .no
def Il:ew:=fun f args H=> @Bool.rec (fun _=>aM) (bF N5 f args H) (PB args H) (Nat.beq f 101)
def Yj {args:List af} {H:ai} {v:af} {H':ai} (h:PB args H= .ok v H'):∃i x y,args=[.slice i 0 2 .full, .raw (.int .i64 0), .raw (.int .i64 1)]/\H.get i=some (.cells 3 [.raw (.int .i64 x), .raw (.int .i64 y)] false false false)/\
  v= .slice i 0 1 .full/\H'=H.set i (.cells 3 [.raw (.int .i64 y)] false false false):=by
 unfold PB at h;split at h
 .rename_i i;unfold Yi at h;split at h
  .rename_i e x y hg;cases hb:Nat.beq e 3 with
   |false=>rw [hb]at h;cases h
   |true=>
    rw [hb]at h;obtain rfl:=ac hb;cases h;exact⟨i,x,y,rfl,hg,rfl,rfl⟩
  .cases h
 .cases h
def aq8:bD prog Il where
 mono f args H v H' h:=by
  unfold Il at h;cases hb:Nat.beq f 101 with
  |false=>rw [hb]at h;exact N6.mono _ _ _ _ _ h
  |true=>
   rw [hb]at h;obtain⟨i,x,y,_,_,_,rfl⟩:=Yj h;exact aJ _
 cw f args H v H' h B ρ xs w m hH ct hd hf:=by
  unfold Il at h;cases hb:Nat.beq f 101 with
  |false=>rw [hb]at h;exact N6.cw _ _ _ _ _ h B ρ xs w m hH ct hd hf
  |true=>
   rw [hb]at h;obtain rfl:=ac hb;obtain⟨i,x,y,rfl,hg,rfl,rfl⟩:=Yj h
   match xs,hd with
   |[x0,x1,x2], .cons d0 (.cons d1 (.cons d2 .nil))=>
    obtain⟨g,c,k,ef,hk,hlk,rfl⟩:=d0.ij;have hk:k=c:=hk;subst hk;rw [d1.cc,d2.cc];obtain⟨ys,fz,g1,g2,g3,_,g5,g6⟩:=l9 hH hg ef;have g2:=g2 rfl;subst g2;have g5:=g5 rfl;have n0:ys[0]? =some (.int .i64 x):=by
     obtain⟨z,dx,z2⟩:=g3.get (i:=0) rfl;rw [z2.cc]at dx;simpa using dx
    have n1:ys[1]? =some (.int .i64 y):=by
     obtain⟨z,dx,z2⟩:=g3.get (i:=1) rfl;rw [z2.cc]at dx;simpa using dx
    refine Vb (n:=0) (callsIn_wide.2 ((aq7 g k x y ys w g1 n0 n1 hlk).mono ?_));rintro e w' ⟨rfl,rfl⟩;have ju:eM (w.drew.setCells g 0 [.int .i64 y]) g 3 (ys.setIfInBounds 0 (.int .i64 y)):=(eM.drew g1).set 0 _;have kI:eM ((w.drew.setCells g 0 [.int .i64 y]).setCells g 1 [.int .i64 0]) g 3 ((ys.setIfInBounds 0 (.int .i64 y)).setIfInBounds 1 (.int .i64 0)):=ju.set 1 _;have gB:∀j,j≠g->((w.drew.setCells g 0 [.int .i64 y]).setCells g 1 [.int .i64 0]).heap[j]? =w.heap[j]? :=fun j hj=>(Below.heap_setCell _ _ _ j hj).trans (Below.heap_setCell _ _ _ j hj)
    have lB:aH ρ [af.raw (Value.int .i64 y)] (((ys.setIfInBounds 0 (Value.int .i64 y)).setIfInBounds 1 (.int .i64 0)).toList.take [af.raw (Value.int .i64 y)].length):=by
     have e1:(((ys.setIfInBounds 0 (Value.int .i64 y)).setIfInBounds 1 (.int .i64 0)).toList.take [af.raw (Value.int .i64 y)].length)=[.int .i64 y]:=by
      have hs:0<ys.size:=(dz.1 n0).1;refine List.ext_getElem? fun j=> ?_
      rw [List.getElem?_take];cases j with
      |zero=>simp [hs]
      |succ j=>simp
     rw [e1];exact .cons (.raw _) .nil
    obtain⟨p1,p2⟩:=jj hH hg ef rfl (k:= .cells 3 [.raw (.int .i64 y)] false false false) ((w.drew.setCells g 0 [.int .i64 y]).setCells g 1 [.int .i64 0]) _ rfl rfl rfl (by show(World.setCell (World.setCell w.drew ⟨g,0,none⟩ _) ⟨g,1,none⟩ _).heap.size=_;simp [World.setCell]) kI gB
     ⟨_,_,rfl,fun _=>rfl,lB,(fun hh=>by cases hh),fun _=>⟨g,k,ef,by simpa using g5⟩⟩
    exact⟨_,ρ,rfl, .slice ef rfl ω,p1,p2⟩
end
end Go.Proofs.YtibikmmdbdlafaaGreatDoor
