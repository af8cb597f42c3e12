/- DiskRefuses: the law's walk. -/
import Derived.Test.YtkgdpmeheakdcaaLRefuses
namespace Go.Proofs.Ytkgdpmeheakdcaa
open Go.RowKit
set_option linter.all false
set_option maxRecDepth 100000

set_option maxHeartbeats 4000000 in
theorem refuses_main (gb : Bool) (v : Int) (D' : DS) (node a n epoch : Int) (data sB : ByteArray) (hL : data.size ≤ 1200) (hgb : gb = true ↔ rfGood node epoch a data.size) (hv : decide (v = 0) = gb)
    (hw : writeR rf2 node epoch a data = (v, D')) (g' : Good 32 D') (hon : D'.on = true) (hse : D'.sectors = 6) (hr : readR D' 0 6 = (sB, 0)) (hbad : gb = false → sB = fillB 113 384)
    (hgood : gb = true → ∃ p : Nat, a = p ∧ p ≤ 6 ∧ 64 * p + data.size ≤ sB.size ∧ sB.extract (64 * p) (64 * p + data.size) = data) (w : World) :
    Calls Try.prog 3 #[.int .i64 node, .int .i64 a, .int .i64 n, .int .u64 epoch, .string data] w fun e w' => e = .returned (.bool true) ∧ Below w.heap.size w w' := by
  have H0 := Lib.hid (step_new 6 (by decide) (by decide) w)
  have HGB := Lib.hid hgb
  have HV := Lib.hid hv
  have HW := Lib.hid hw
  have HON := Lib.hid hon
  have HSE := Lib.hid hse
  have HR := Lib.hid hr
  have HBAD := Lib.hid hbad
  have HGOOD := Lib.hid hgood
  have hl1 : decide (1200 < (data.size : Int)) = false := by simp; omega
  clear hgb hv hw hon hse hr hbad hgood
  go_enter Try.func3, Try.ntmps3
  go_wp2_with fail
  refine H0.out.mono ?_
  rintro e w1 ⟨b, rfl, d1, b1⟩
  have H1 := step_admit d1 rf0_good (by decide) b1.size 1 3
  rw [rf1_ok] at H1
  dsimp only at H1
  have B1 := Lib.hid b1
  replace H1 := Lib.hid H1
  clear d1 b1
  go_wp2_with fail
  refine H1.out.mono ?_
  rintro e w2 ⟨rfl, d2, b2⟩
  have B2 := Lib.hid (B1.out.trans b2)
  have F2 := Lib.hid (fill_any 113 6 (by decide) w2)
  have D2 := Lib.hid d2
  clear d2 b2
  go_wp2_with fail
  refine F2.out.mono ?_
  rintro e w3 ⟨rfl, b3⟩
  have d3 := D2.out.below b3
  have B3 := Lib.hid (B2.out.trans (b3.mono B2.out.size))
  have H3 := step_write d3 rf1_good (by decide) B3.out.size 1 3 0 (fillB 113 384) (by rw [fillB_size]; decide)
  rw [rf2_ok] at H3
  dsimp only at H3
  replace H3 := Lib.hid H3
  clear d3 b3
  go_wp2_with fail
  refine H3.out.mono ?_
  rintro e w4 ⟨rfl, d4, b4⟩
  have B4 := Lib.hid (B3.out.trans b4)
  have H4 := step_write d4 rf2_good (by decide) B4.out.size node epoch a data (by omega)
  rw [HW.out] at H4
  dsimp only at H4
  replace H4 := Lib.hid H4
  clear d4 b4
  go_wp2_with fail
  refine H4.out.mono ?_
  rintro e w5 ⟨rfl, d5, b5⟩
  have B5 := Lib.hid (B4.out.trans b5)
  have H5 := step_read d5 g' (by decide) B5.out.size 0 6
  rw [HR.out] at H5
  dsimp only at H5
  replace H5 := Lib.hid H5
  clear d5 b5
  go_wp2_with fail
  refine H5.out.mono ?_
  rintro e w6 ⟨rfl, d6, b6⟩
  have B6 := Lib.hid (B5.out.trans b6)
  obtain ⟨r2, hr2⟩ : ∃ r2, r2 = (readR D' a n).1 := ⟨_, rfl⟩
  have H6 := step_read d6 g' (by decide) B6.out.size a n
  rw [← hr2, rf_read2 HON.out HSE.out] at H6
  replace H6 := Lib.hid H6
  clear d6 b6 hr2
  go_wp2_with fail
  refine H6.out.mono ?_
  rintro e w7 ⟨rfl, d7, b7⟩
  have B7 := Lib.hid (B6.out.trans b7)
  clear d7 b7 H0 H1 F2 D2 H3 H4 H5 H6 B1 B2 B3 B4 B5 B6
  generalize hG : rfG a n = gE
  go_upto_region 9 with fail
  go_cut [17] from 54 to 87 (fun s17 wx => s17 = .bool gb ∧ wx = w7)
  case first =>
    go_wp2
    all_goals (try subst_vars)
    all_goals go_meet
    all_goals refine ⟨congrArg Value.bool ?_, rfl⟩
    all_goals first
      | exact gb_dec HGB.out (by unfold rfGood; omega)
      | exact gb_false HGB.out (by unfold rfGood; omega)
  case rest =>
    obtain ⟨rfl, rfl⟩ := hcut
    cases hgc : gb with
    | false =>
      have hv : ¬ v = 0 := by have := HV.out; rw [hgc] at this; simpa using this
      have hsb := HBAD.out hgc
      subst hsb
      have FF := Lib.hid (fill_any 113 6 (by decide) wc)
      go_wp2_with fail
      refine FF.out.mono ?_
      rintro e w8 ⟨rfl, b8⟩
      have B8 := Lib.hid (B7.out.trans (b8.mono B7.out.size))
      have hal := Lib.hid (alive_any w8)
      clear b8
      go_wp2_with fail
      refine hal.out.mono ?_
      rintro e w9 ⟨rfl, b9⟩
      have B9 := Lib.hid (B8.out.trans (b9.mono B8.out.size))
      clear b9
      unfold rfG at hG
      by_cases hc : 1 ≤ n ∧ n ≤ 6 ∧ 0 ≤ a ∧ a ≤ 6 - n
      · rw [if_pos hc] at hG
        obtain ⟨c1, c2, c3, c4⟩ := hc
        subst hG
        go_wp2
        all_goals go_ret
        all_goals exact ⟨by first | rfl | (exfalso; omega) | (refine congrArg (fun x => Ending.returned (Value.bool x)) ?_; simp; omega), B9.out⟩
      · rw [if_neg hc] at hG
        subst hG
        go_wp2
        all_goals go_ret
        all_goals exact ⟨by first | rfl | (exfalso; omega) | (refine congrArg (fun x => Ending.returned (Value.bool x)) ?_; simp; omega), B9.out⟩
    | true =>
      have hv : v = 0 := by have := HV.out; rw [hgc] at this; simpa using this
      subst hv
      obtain ⟨p, hp, hp6, hps, hpe⟩ := HGOOD.out hgc
      subst hp
      have i1 : IntKind.i64.wrap (64 * (p : Int)) = 64 * (p : Int) := IntWalk.i64_in _ (by omega)
      have i2 : IntKind.i64.wrap (64 * (p : Int) + data.size) = 64 * (p : Int) + data.size := IntWalk.i64_in _ (by omega)
      have hsl := slice_nat sB (64 * (p : Int)) (64 * (p : Int) + data.size) (64 * p) (64 * p + data.size) (by push_cast; rfl) (by push_cast; rfl) (by omega) hps
      rw [hpe] at hsl
      have hal := Lib.hid (alive_any wc)
      go_wp2_with fail
      refine hal.out.mono ?_
      rintro e w9 ⟨rfl, b9⟩
      have B9 := Lib.hid (B7.out.trans (b9.mono B7.out.size))
      clear b9
      unfold rfG at hG
      by_cases hc : 1 ≤ n ∧ n ≤ 6 ∧ 0 ≤ (p : Int) ∧ (p : Int) ≤ 6 - n
      · rw [if_pos hc] at hG
        obtain ⟨c1, c2, c3, c4⟩ := hc
        subst hG
        go_wp2
        all_goals go_ret
        all_goals exact ⟨by first | rfl | (exfalso; omega) | (refine congrArg (fun x => Ending.returned (Value.bool x)) ?_; simp; omega), B9.out⟩
      · rw [if_neg hc] at hG
        subst hG
        go_wp2
        all_goals go_ret
        all_goals exact ⟨by first | rfl | (exfalso; omega) | (refine congrArg (fun x => Ending.returned (Value.bool x)) ?_; simp; omega), B9.out⟩

theorem refuses_walk (node a n epoch : Int) (data : ByteArray) (w : World) :
    Calls Try.prog 3 #[.int .i64 node, .int .i64 a, .int .i64 n, .int .u64 epoch, .string data] w fun e w' => e = .returned (.bool true) ∧ Below w.heap.size w w' := by
  by_cases hL : data.size ≤ 1200
  · by_cases hg : rfGood node epoch a data.size
    · have hg' := hg
      obtain ⟨rfl, rfl, h0, h1, h2, h3, h4⟩ := hg'
      obtain ⟨p, rfl⟩ := Int.eq_ofNat_of_zero_le h3
      have good := (rf2_good.wrN 1 (p : Int) data (data.size / 64) (by omega)).more (show 16 + data.size / 64 ≤ 32 by omega)
      have hon : (wrN rf2 1 (p : Int) data (data.size / 64)).on = true := (wrN_on ..).trans rf2_on
      have hse : (wrN rf2 1 (p : Int) data (data.size / 64)).sectors = 6 := (wrN_sectors ..).trans rf2_sectors
      refine refuses_main true 0 _ 1 p n 3 data _ hL (by simp [hg]) rfl (rf_good hg) good hon hse ((readR_on hon 0 6).trans (by rw [hse]; rfl)) (fun h => by cases h) (fun _ => ⟨p, rfl, by omega, ?_, ?_⟩) w
      · show 64 * p + data.size ≤ (readL _ 0 6).toArray.size
        rw [List.size_toArray, readL_length good.zn]
        omega
      · exact read_part_wrN good.zn rfl (by omega) (by omega)
    · obtain ⟨v, hv, hw⟩ := rf_bad hg
      exact refuses_main false v _ node a n epoch data _ hL (by simp [hg]) (by simp [hv]) hw (rf2_good.more (by omega)) rf2_on rf2_sectors rf2_read (fun _ => rfl) (fun h => by cases h) w
  · have hal := Lib.hid (alive_any w)
    have hl1 : decide (1200 < (data.size : Int)) = true := by simp; omega
    clear hL
    go_enter Try.func3, Try.ntmps3
    go_wp2_with fail
    refine hal.out.mono ?_
    rintro e w9 ⟨rfl, b9⟩
    go_wp2
    go_ret
    exact ⟨rfl, b9⟩

end Go.Proofs.Ytkgdpmeheakdcaa
