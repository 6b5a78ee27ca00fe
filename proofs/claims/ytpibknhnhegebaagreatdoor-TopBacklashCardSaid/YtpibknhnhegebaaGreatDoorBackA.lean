/- integraphtop.TopBacklash: the walk. -/
import Derived.Test.YtpibknhnhegebaaGreatDoorBackB
import Derived.Test.YtpibknhnhegebaaGreatDoorRefInt
namespace Go.Proofs.YtpibknhnhegebaaGreatDoor
open Go.RowKit
attribute [local go_sem] nil_eql nil_neq

theorem Tryz.info59 : (Tryz.prog.info? 59).map (fun i => (i.zero, i.size, i.bytes)) = some (some (.agg #[.int .i64 0, .int .i64 0]), 2, 16) := by kernel_rfl
theorem Tryz.info24 : (Tryz.prog.info? 24).map (fun i => (i.zero, i.size, i.bytes)) = some (some (.string ⟨#[]⟩), 1, 16) := by kernel_rfl

set_option maxHeartbeats 8000000 in
set_option maxRecDepth 100000 in
/-- where the lost motions or the positions are not taken -/
theorem back_not (A0 A : Option Addr) (c0 c : Nat) (s0 : Int) (ns : List Nat) (xs : List Int) (w : World)
    (hE : Env w) (hrow : Row w w.heap.size A (xs.map (Value.int .i64))) (hlen : xs.length ≤ 140737488355328) (hno : ¬ (ns.length ≤ 3 ∧ okPos xs = true)) :
    Calls Tryz.prog 6 #[.slice A0 ns.length c0, .int .i16 s0, .slice A xs.length c] w fun e w' => e = .returned (.bool true) ∧ Below w.heap.size w w' := by
  have HE := Lib.hid hE
  by_cases h3 : ns.length ≤ 3
  · have hd : decide ((3 : Int) < (ns.length : Int)) = false := by simp; omega
    have hd2 : decide (3 < ns.length) = false := by simp; omega
    have hok : okPos xs = false := by
      cases h : okPos xs
      · rfl
      · exact absurd ⟨h3, h⟩ hno
    have HTP := Lib.hid (toothPositions_any A c w.heap.size xs w hlen hrow)
    rw [hok] at HTP
    clear hok hno hrow hE
    go_enter Tryz.func6, Tryz.ntmps6
    go_wp2_with fail
    refine HTP.out.mono ?_
    rintro e w' ⟨rfl, rfl⟩
    go_wp2_with fail
    refine (toothRun_true _ HE.out).mono ?_
    rintro e w9 ⟨rfl, hb9⟩
    go_wp2_with fail
    go_ret
    exact ⟨rfl, hb9⟩
  · have hd : decide ((3 : Int) < (ns.length : Int)) = true := by simp; omega
    have hd2 : decide (3 < ns.length) = true := by simp; omega
    have hd3 : (3 : Int) < (ns.length : Int) := by omega
    have hd4 : 3 < ns.length := by omega
    clear hno hrow hE
    go_enter Tryz.func6, Tryz.ntmps6
    go_wp2_with fail
    refine (toothRun_true _ HE.out).mono ?_
    rintro e w9 ⟨rfl, hb9⟩
    go_wp2_with fail
    go_ret
    exact ⟨rfl, hb9⟩

set_option maxHeartbeats 8000000 in
set_option maxRecDepth 100000 in
theorem back_walk (A0 A : Option Addr) (c0 c : Nat) (s0 : Int) (ns : List Nat) (xs : List Int) (w : World) (hns : ∀ n ∈ ns, n ≤ 255) (hs : -32768 ≤ s0) (hs' : s0 ≤ 32767)
    (hE : Env w) (hrow0 : Row w w.heap.size A0 (ns.map fun (n : Nat) => Value.int .u8 (n : Int))) (hrow : Row w w.heap.size A (xs.map (Value.int .i64))) (hlen : xs.length ≤ 140737488355328) :
    Calls Tryz.prog 6 #[.slice A0 ns.length c0, .int .i16 s0, .slice A xs.length c] w fun e w' => e = .returned (.bool true) ∧ Below w.heap.size w w' := by
  have H0 := Lib.hid hrow0
  have H := Lib.hid hrow
  have HNS := Lib.hid hns
  clear hrow0 hrow hns
  by_cases hyes : ns.length ≤ 3 ∧ okPos xs = true
  · obtain ⟨h3, hok⟩ := hyes
    have hd : decide ((3 : Int) < (ns.length : Int)) = false := by simp; omega
    have hd2 : decide (3 < ns.length) = false := by simp; omega
    have h40 := (of_decide_eq_true hok).1
    have HTP := Lib.hid (toothPositions_any A c w.heap.size xs w hlen H.out)
    rw [hok] at HTP
    have HOK := Lib.hid hok
    clear hok
    obtain ⟨iP, hiP, pz0, pz1, pz2⟩ := info_parts Tryz.info59
    obtain ⟨iS, hiS, sz0, sz1, sz2⟩ := info_parts Tryz.info24
    obtain ⟨i0, hi0, iz0, iz1, iz2⟩ := info_parts Tryz.info3
    go_enter Tryz.func6, Tryz.ntmps6
    go_wp2_with fail
    refine HTP.out.mono ?_
    rintro e w' ⟨rfl, rfl⟩
    clear HTP
    go_wp2_with fail
    go_loopw [7, 8, 9, 10, 32] (fun tr tu su l i wr => BackRel s0 ns xs w 59 24 tr tu su l i wr) (fun _ _ _ _ i _ => ns.length - (intOf i).toNat)
    case atStart => exact back_start H.out
    case round =>
      obtain ⟨k, A1, c1, hk, rfl, rfl, rfl, hv, hu, hsep, hr, a1, a2, eb⟩ := hrel
      have hsz := eb.size
      have hsum := sumTo_le ns 255 HNS.out k
      have HSum := Lib.hid (rfl : sumTo ns k = sumTo ns k)
      by_cases hlt : k < ns.length
      · obtain ⟨b, off, n, rfl, hbB, hn, hc⟩ := row_byte H0.out k hlt
        have hn2 := HNS.out n (List.mem_of_getElem? hn)
        have HN := Lib.hid hn
        clear hn
        obtain ⟨S, hS⟩ : ∃ S, sumTo ns k = S := ⟨_, rfl⟩
        rw [hS] at hsum hr a1 a2 ⊢
        have HS := Lib.hid hS
        clear hS HSum
        have hck := (eb.cell (p := ⟨b, off + k, none⟩) (by show b < _; omega)).trans hc
        go_wp2_with (at_builtin; refine wpList_append_own_at _ rfl (.tmp 35) (.tmp 41) 22 rfl w.heap.size 59 iP (.agg #[.int .i64 0, .int .i64 0]) 2 16 Tryz.underlying22 hiP pz0 pz1 pz2 rfl (by decide) _ _ _ rfl (hv.alloc _) ⟨_, 0, none⟩ 1 1 [.int .i64 (20 + (k : Int)), .int .i64 (20 + (k : Int))] rfl rfl (cell_two_new _ _ _ _) ?hone ?c3 ?c4 ?c5 ?_)
        case hone => intro u hu; simp at hu; subst hu; rfl
        case c3 => unfold maxLen; omega
        case c4 => omega
        case c5 => simp; omega
        intro v' W1 hown1 hgrow _ hat
        obtain ⟨hu1, sep1⟩ := sep_step hu hsep hgrow hat
        have hg0 : wr.heap.size ≤ W1.heap.size := by have := hgrow.size; simp at this; omega
        obtain ⟨hr1, b1, b2⟩ := apart_step hr a1 a2 hgrow hg0 hat
        have eb1 := below_grown eb hsz hv hgrow
        have hck1 := (eb1.cell (p := ⟨b, off + k, none⟩) (by show b < _; omega)).trans hc
        clear hgrow hat hv hu hsep hr a1 a2 eb hck hg0
        go_wp2_with fail
        refine (FromInt_any n _ (by omega)).mono ?_
        rintro e W2 ⟨rfl, hb⟩
        have hown2 := own_below hown1 hb
        have hu2 := own_below hu1 hb
        have hr2 := (hr1.below hb (Nat.le_refl _)).more hb.size
        have d1 := b1.more hb.size
        have d2 := b2.more hb.size
        have eb2 := below_after eb1 hb (Nat.le_refl _)
        have hs2 := eb2.size
        have hck2 := (eb2.cell (p := ⟨b, off + k, none⟩) (by show b < _; omega)).trans hc
        clear hown1 hu1 hr1 b1 b2 eb1 hb hck1
        go_wp2_with (at_builtin; refine wpList_append_own_at _ rfl (.tmp 43) (.tmp 50) 38 rfl w.heap.size 24 iS (.string ⟨#[]⟩) 1 16 Tryz.underlying38 hiS sz0 sz1 sz2 rfl (by decide) _ _ _ rfl (hu2.alloc _) ⟨_, 0, none⟩ 1 1 [.string (decText n)] rfl rfl (cell_one_new _ _ _) ?hone ?c3 ?c4 ?c5 ?_)
        case hone => intro u hu; simp at hu; subst hu; rfl
        case c3 => unfold maxLen; omega
        case c4 => omega
        case c5 => simp; omega
        intro u' W3 hown3 hgrow _ hat
        obtain ⟨hv3, sep3⟩ := sep_step hown2 sep1.symm hgrow hat
        have hg0 : W2.heap.size ≤ W3.heap.size := by have := hgrow.size; simp at this; omega
        obtain ⟨hr3, f2, f1⟩ := apart_step hr2 d2 d1 hgrow hg0 hat
        have eb3 := below_grown eb2 hs2 hu2 hgrow
        have hck3 := (eb3.cell (p := ⟨b, off + k, none⟩) (by show b < _; omega)).trans hc
        have HPl := Lib.hid (back_play A1 c1 W3.heap.size S n s0 xs W3 HOK.out (by omega) hs hs' hr3 (Nat.le_refl _))
        clear hgrow hat hown2 hu2 hr2 d1 d2 eb2 hck2 hg0 sep1
        go_wp2_with fail
        refine HPl.out.mono ?_
        rintro e W4 ⟨A4, c4, rfl, hr4, hb, hf4⟩
        have hv4 := own_below hv3 hb
        have hu4 := own_below hown3 hb
        have g1 := Apart.new hr4 (Nat.le_refl _) hv3 hf4
        have g2 := Apart.new hr4 (Nat.le_refl _) hown3 hf4
        have eb4 := below_after eb3 hb (Nat.le_refl _)
        have HTS := Lib.hid (back_small A4 c4 W4.heap.size (S + n) s0 xs W4 HOK.out hs hr4)
        clear hv3 hown3 hb hf4 eb3 hck3 hr3 f1 f2 HPl
        go_wp2_with fail
        refine HTS.out.mono ?_
        rintro e w5 ⟨rfl, rfl⟩
        go_wp2_with fail
        go_roundw
        case rel => exact back_step (by omega) HN.out HS.out hv4 hu4 sep3.symm hr4 g1 g2 eb4
        case measure => simp [intOf]; omega
      · obtain rfl : k = ns.length := by omega
        clear HSum
        rw [List.take_length] at hu
        obtain ⟨S, hS⟩ : ∃ S, sumTo ns ns.length = S := ⟨_, rfl⟩
        obtain ⟨AT, cT, rfl, hcT, rT⟩ := own_cap hv
        obtain ⟨AU, cU, rfl, _, rU⟩ := own_cap hu
        have HL0 := back_lost AT AU cT cU wr.heap.size ns wr (hE.below eb) h3 HNS.out hcT rT rU (Nat.le_refl _)
        rw [hS] at hsum hr HL0 ⊢
        have HL := Lib.hid HL0
        have hS7 : S ≤ 765 := by omega
        clear hv hu hsep a1 a2 rT rU HL0 hS hsum
        go_wp2_with fail
        refine HL.out.mono ?_
        rintro e w1 ⟨rfl, hb⟩
        have e1 := below_after eb hb (Nat.le_refl _)
        have hr1 := (hr.below hb (Nat.le_refl _)).more hb.size
        have HP := Lib.hid (back_play0 A c w.heap.size S s0 xs w1 HOK.out (by omega) hs hs' (H.out.below e1 (Nat.le_refl _)) e1.size)
        clear hb eb hr HL
        go_wp2_with fail
        refine HP.out.mono ?_
        rintro e w2 ⟨A5, c5, rfl, r5, hb⟩
        have e2 := below_after e1 hb (Nat.le_refl _)
        have hr2 := (hr1.below hb (Nat.le_refl _)).more hb.size
        clear hb e1 hr1 HP
        go_wp2_with fail
        refine (FromInt_any S _ (by omega)).mono ?_
        rintro e w3 ⟨rfl, hb⟩
        have e3 := below_after e2 hb (Nat.le_refl _)
        have hr3 := (hr2.below hb (Nat.le_refl _)).more hb.size
        have r53 := (r5.below hb (Nat.le_refl _)).more hb.size
        have HSM := Lib.hid (back_same A5 A1 c5 c1 w3.heap.size S s0 xs w3 HOK.out r53 hr3 (Nat.le_refl _))
        clear hb e2 hr2 r5 hr3 r53
        go_wp2_with fail
        refine HSM.out.mono ?_
        rintro e w4 ⟨rfl, hb⟩
        have e4 := below_after e3 hb (Nat.le_refl _)
        have s4 := e4.size
        clear hb e3 HSM
        go_wp2_with (at_builtin; refine append_row (by kernel_rfl) (.tmp 121) (.tmp 122) 56 rfl w4.heap.size 3 i0 (.int .i64 0) 1 8 Tryz.underlying56 hi0 iz0 iz1 iz2 rfl (by decide) _ 0 [] rfl ?own A w.heap.size xs.length c (xs.map (Value.int .i64)) rfl ?len ?row ?one ?c3 ?c4 ?c5 ?_)
        case own => exact World.ownsRow_made _ _ _ (Nat.le_refl _) (by decide) rfl
        case len => simp
        case row => exact (H.out.below e4 (Nat.le_refl _)).alloc s4 _
        case one => intro u hu; rw [List.mem_map] at hu; obtain ⟨_, _, rfl⟩ := hu; rfl
        case c3 => unfold maxLen; omega
        case c4 => omega
        case c5 => simp
        intro v' W5 hown' hgrow hat
        have e5 : Below w4.heap.size w4 W5 := ((Below.refl _ _).alloc (Nat.le_refl _) _).grown hgrow (by simp) (fun k hk => by simp [Value.ownBlock] at hk; omega)
        have s5 := e5.size
        clear hgrow hat
        go_wp2_with (at_builtin; refine wpList_append_own_at _ rfl (.tmp 123) (.tmp 124) 56 rfl w4.heap.size 3 i0 (.int .i64 0) 1 8 Tryz.underlying56 hi0 iz0 iz1 iz2 rfl (by decide) _ _ _ rfl (hown'.alloc _) ⟨_, 0, none⟩ 1 1 [.int .i64 200000] rfl rfl (cell_one_new _ _ _) ?hone ?c3 ?c4 ?c5 ?_)
        case hone => intro u hu; simp at hu; subst hu; rfl
        case c3 => unfold maxLen; omega
        case c4 => omega
        case c5 => simp; omega
        intro v2 W6 hown2 hgrow2 _ hat
        have e6 := below_grown e5 s5 hown' hgrow2
        obtain ⟨A6, c6, rfl, _, r6⟩ := own_cap hown2
        have HF := Lib.hid (back_far A6 c6 W6.heap.size S s0 xs W6 HOK.out (by omega) hs hs' r6 (Nat.le_refl _))
        have e46 := below_after e4 e6 (Nat.le_refl _)
        have q0 : IntKind.i64.wrap (200000 - (S : Int)) = 200000 - (S : Int) := IntWalk.i64_in _ (by omega)
        clear hown' hown2 hgrow2 hat e5 s5 e6 r6 e4
        go_wp2_with fail
        refine HF.out.mono ?_
        rintro e w7 ⟨A7, c7, rfl, ⟨b7, off7, rfl, hc7⟩, hb⟩
        have e7 := below_after e46 hb (Nat.le_refl _)
        clear hb e46 HF
        go_wp2_with fail
        refine (toothRun_true _ (hE.below e7)).mono ?_
        rintro e w8 ⟨rfl, hb8⟩
        have e8 := below_after e7 hb8 (Nat.le_refl _)
        go_wp2_with fail
        go_ret
        exact ⟨rfl, e8⟩
  · exact back_not A0 A c0 c s0 ns xs w hE H.out hlen hyes
end Go.Proofs.YtpibknhnhegebaaGreatDoor
