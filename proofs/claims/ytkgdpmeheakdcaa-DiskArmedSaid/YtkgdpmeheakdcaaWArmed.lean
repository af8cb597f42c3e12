/- DiskArmed: the walk. -/
import Derived.Test.YtkgdpmeheakdcaaLArmed
import Derived.Test.YtkgdpmeheakdcaaWWords
import Derived.Deep.CutRange
namespace Go.Proofs.Ytkgdpmeheakdcaa
open Go.RowKit
set_option linter.all false
set_option maxRecDepth 100000

theorem stay_ways {w wr : World} {a3 : Option Addr} {len : Nat} {zs : List Int} (hk : Keep w a3 len zs) (hbl : Below w.heap.size w wr) (k : Nat) :
    (stayB zs k = true ∧ k < len ∧ ∃ z kb ko, a3 = some ⟨kb, ko, none⟩ ∧ wr.cell? ⟨kb, ko + k, none⟩ = some (.int .i64 z) ∧ (bits .and .i64 z 1 == 1) = true) ∨
    (stayB zs k = false ∧ k < len ∧ ∃ z kb ko, a3 = some ⟨kb, ko, none⟩ ∧ wr.cell? ⟨kb, ko + k, none⟩ = some (.int .i64 z) ∧ (bits .and .i64 z 1 == 1) = false) ∨
    (stayB zs k = false ∧ ¬ k < len) := by
  by_cases hkl : k < len
  · obtain ⟨kb, ko, z, h1, h2, h3⟩ := (hk.below hbl).at k hkl
    have hs : stayB zs k = decide (z % 2 = 1) := by
      unfold stayB
      rw [h2, decide_eq_true (by rw [hk.hlen]; exact hkl), Bool.true_and]
    by_cases hb : z % 2 = 1
    · exact .inl ⟨by rw [hs, decide_eq_true hb], hkl, z, kb, ko, h1, h3, by rw [i64_and1, hb]; rfl⟩
    · exact .inr (.inl ⟨by rw [hs, decide_eq_false hb], hkl, z, kb, ko, h1, h3, by rw [i64_and1]; simpa using hb⟩)
  · refine .inr (.inr ⟨?_, hkl⟩)
    unfold stayB
    rw [decide_eq_false (by rw [hk.hlen]; exact hkl), Bool.false_and]

set_option maxHeartbeats 8000000 in
theorem armed_walk (a b : ByteArray) (p : Int) (a3 : Option Addr) (len3 cap3 : Nat) (z3 : List Int) (w : World) (w3 : RowOf .i64 w a3 len3 cap3 z3) :
    Calls Try.prog 7 #[.string a, .string b, .int .i64 p, .slice a3 len3 cap3] w fun e w' => e = .returned (.bool true) ∧ Below w.heap.size w w' := by
  have HAL := Lib.hid (fun wx => alive_any wx)
  by_cases hc : a.size = 64 ∧ b.size = 64 ∧ 0 ≤ p ∧ p ≤ 10 ∧ len3 ≤ 20
  case neg =>
    clear w3
    go_enter Try.func7, Try.ntmps7
    go_wp2_with (first
      | (go_at_call 17
         refine (HAL.out _).mono ?_
         rintro e w9 ⟨rfl, b9⟩)
      | (go_at_call 18
         exfalso
         omega))
    all_goals go_ret
    all_goals exact ⟨rfl, b9⟩
  obtain ⟨ha, hb, p0, p1, hl⟩ := hc
  obtain ⟨n, rfl⟩ := Int.eq_ofNat_of_zero_le p0
  have hn : n ≤ 10 := by omega
  obtain ⟨zs, hzs⟩ : ∃ zs, zs = z3.take len3 := ⟨_, rfl⟩
  have hk := w3.keep (by omega)
  rw [← hzs] at hk
  have HK := Lib.hid hk
  have hzl : zs.length ≤ 1000 := by rw [hk.hlen]; omega
  have hcap := w3.capOk
  have HA := Lib.hid ha
  have HB := Lib.hid hb
  have hda : ((a.size : Int) != 64) = false := by rw [ha]; rfl
  have hdb : ((b.size : Int) != 64) = false := by rw [hb]; rfl
  have AI0 := Lib.hid (ai_start (a := a) (b := b) (n := (n : Int)) (zs := zs) ha (by omega) (by omega) hzl)
  have H0 := Lib.hid (step_new 12 (by decide) (by decide) w)
  clear w3 hzs hk ha hb hzl p0 p1
  have p1 : (n : Int) ≤ 10 := by omega
  go_enter Try.func7, Try.ntmps7
  go_wp2_with fail
  refine H0.out.mono ?_
  rintro e w1 ⟨bk, rfl, d1, b1⟩
  have H1 := step_admit d1 (good_new 12 (by decide) (by decide)) (by decide) b1.size 1 1
  rw [ar1_ok] at H1
  dsimp only at H1
  have B1 := Lib.hid b1
  replace H1 := Lib.hid H1
  clear d1 b1 H0
  go_wp2_with fail
  refine H1.out.mono ?_
  rintro e w2 ⟨rfl, d2, b2⟩
  have B2 := Lib.hid (B1.out.trans b2)
  have H2 := step_write d2 ar1_good (by decide) B2.out.size 1 1 11 a (by rw [HA.out]; decide)
  rw [ar2_ok HA.out] at H2
  dsimp only at H2
  replace H2 := Lib.hid H2
  clear d2 b2 H1 B1
  go_wp2_with fail
  refine H2.out.mono ?_
  rintro e w3 ⟨rfl, d3, b3⟩
  have B3 := Lib.hid (B2.out.trans b3)
  have H3 := step_barrier d3 (ar2_good HA.out) (by decide) B3.out.size 1 1
  rw [ar3_ok] at H3
  dsimp only at H3
  replace H3 := Lib.hid H3
  clear d3 b3 H2 B2
  go_wp2_with fail
  refine H3.out.mono ?_
  rintro e w4 ⟨rfl, d4, b4⟩
  have B4 := Lib.hid (B3.out.trans b4)
  have H4 := Lib.hid (step_arm d4 B4.out.size n a3 len3 cap3 zs (HK.out.below B4.out))
  clear d4 b4 H3 B3
  go_wp2_with fail
  refine H4.out.mono ?_
  rintro e w5 ⟨rfl, d5, b5⟩
  have B5 := Lib.hid (B4.out.trans b5)
  have D5 := Lib.hid d5
  clear d5 b5 H4 B4
  go_wp2
  go_loopw [10] (fun i wr => ∃ (k : Nat) (D : DS), k ≤ n ∧ i = .int .i64 k ∧ AI a b n zs k D ∧ DiskS w.heap.size bk D wr ∧ Below w.heap.size w wr)
    (fun i _ => n - (intOf i).toNat)
  case atStart => exact ⟨0, _, Nat.zero_le _, rfl, AI0.out, D5.out, B5.out⟩
  case round =>
    obtain ⟨k, D, hk, rfl, hai, hds, hbl⟩ := hrel
    have HI := Lib.hid hai
    have HD := Lib.hid hds
    have HBL := Lib.hid hbl
    clear D5 B5 AI0
    by_cases hlt : k < n
    · have HI2 := Lib.hid (ai_next hai HB.out (by omega) p1)
      have H6 := step_write hds hai.good (by omega) hbl.size 1 1 k b (by rw [HB.out]; decide)
      rw [ai_write hai HB.out (by omega) p1] at H6
      dsimp only at H6
      replace H6 := Lib.hid H6
      clear hai hds hbl
      go_wp2_with fail
      refine H6.out.mono ?_
      rintro e w6 ⟨rfl, d6, b6⟩
      have B6 := Lib.hid (HBL.out.trans b6)
      have H7 := step_write d6 HI2.out.good (by omega) B6.out.size 1 2 k b (by rw [HB.out]; decide)
      rw [ai_fenced HI2.out HB.out] at H7
      dsimp only at H7
      replace H7 := Lib.hid H7
      clear d6 b6 H6
      go_wp2_with fail
      refine H7.out.mono ?_
      rintro e w7 ⟨rfl, d7, b7⟩
      have B7 := Lib.hid (B6.out.trans b7)
      have H8 := step_write d7 HI2.out.good (by omega) B7.out.size 1 1 12 b (by rw [HB.out]; decide)
      rw [ai_range HI2.out HB.out] at H8
      dsimp only at H8
      replace H8 := Lib.hid H8
      clear d7 b7 H7
      go_wp2_with fail
      refine H8.out.mono ?_
      rintro e w8 ⟨rfl, d8, b8⟩
      have B8 := Lib.hid (B7.out.trans b8)
      have D8 := Lib.hid d8
      clear d8 b8 H8
      go_wp2
      go_roundw
      case rel => exact ⟨k + 1, _, by omega, by go_num, HI2.out, D8.out, B8.out⟩
      case measure => simp [intOf]; omega
    · have hkn : k = n := by omega
      subst hkn
      have H6 := step_on hds
      rw [hai.on] at H6
      replace H6 := Lib.hid H6
      clear hai hds hbl
      go_wp2_with fail
      refine H6.out.mono ?_
      rintro e w6 ⟨rfl, rfl⟩
      have H7 := step_barrier HD.out HI.out.good (by omega) HBL.out.size 1 1
      rw [ai_cut HI.out] at H7
      dsimp only at H7
      replace H7 := Lib.hid H7
      clear H6
      go_wp2_with fail
      refine H7.out.mono ?_
      rintro e w7 ⟨rfl, d7, b7⟩
      have B7 := Lib.hid (HBL.out.trans b7)
      have D7 := Lib.hid d7
      have H8 := step_on d7
      rw [show (arCut D).on = false from rfl] at H8
      replace H8 := Lib.hid H8
      clear d7 b7 H7
      go_wp2_with fail
      refine H8.out.mono ?_
      rintro e w8 ⟨rfl, rfl⟩
      have H9 : Calls Try.prog _ _ _ (Ans w.heap.size bk (arEnd D) w7 (.tuple #[])) := step_restore D7.out (HI.out.good.cutOn D.stays) B7.out.size
      replace H9 := Lib.hid H9
      clear H8 D7
      go_wp2_with fail
      refine H9.out.mono ?_
      rintro e w9 ⟨rfl, d9, b9⟩
      have B9 := Lib.hid (B7.out.trans b9)
      have D9 := Lib.hid d9
      have GE := Lib.hid (arEnd_good HI.out hn)
      have MK := made64
      have CV := zero_conv_new
      clear d9 b9 H9 B7 HBL HD
      go_wp2
      go_loopw [11] (fun i wr => ∃ j : Nat, j ≤ 11 ∧ i = .int .i64 j ∧ DiskS w.heap.size bk (arEnd D) wr ∧ Below w.heap.size w wr)
        (fun i _ => 11 - (intOf i).toNat)
      case atStart => exact ⟨0, Nat.zero_le _, rfl, D9.out, B9.out⟩
      case round =>
        obtain ⟨j, hj, rfl, hds, hbl⟩ := hrel
        have HBL := Lib.hid hbl
        have HDS := Lib.hid hds
        clear D9 B9
        by_cases hlt2 : j < 11
        · have H10 := step_read hds GE.out (by decide) hbl.size j 1
          rw [arEnd_read HI.out HB.out hn j hlt2] at H10
          dsimp only at H10
          replace H10 := Lib.hid H10
          clear hds hbl
          go_wp2_with fail
          refine H10.out.mono ?_
          rintro e w10 ⟨rfl, d10, b10⟩
          have B10 := Lib.hid (HBL.out.trans b10)
          have D10 := Lib.hid d10
          clear d10 b10 H10
          obtain ⟨wt, hwt⟩ : ∃ wt, wt = arWant b k zs j := ⟨_, rfl⟩
          rw [← hwt]
          have HWT := Lib.hid hwt
          clear hwt
          go_upto_region 19 with fail
          go_cut [14] from 99 to 135 (fun s14 wx => s14 = .string (fillB 0 64) ∧ DiskS w.heap.size bk (arEnd D) wx ∧ Below w.heap.size w wx)
          case first =>
            go_wp2
            go_meet
            exact ⟨rfl, D10.out.below ((Below.refl _ _).alloc (Nat.le_refl _) _), B10.out.alloc B10.out.size _⟩
          case rest =>
            obtain ⟨rfl, d11, b11⟩ := hcut
            have st := stay_ways HK.out b11 j
            have B11 := Lib.hid b11
            have D11 := Lib.hid d11
            clear d11 b11 B10 D10 MK CV HK
            by_cases hjn : j < k
            · rcases st with ⟨z0, hl0, x0, kb, ko, rfl, c0, t0⟩ | ⟨z0, hl0, x0, kb, ko, rfl, c0, t0⟩ | ⟨z0, hl0⟩
              · have hw : wt = b := by rw [HWT.out]; unfold arWant; rw [if_pos ⟨hjn, z0⟩]
                subst hw
                have hcp : j < cap3 := by omega
                clear z0 HWT
                go_wp2
                go_roundw
                case rel => exact ⟨j + 1, by omega, by go_num, D11.out, B11.out⟩
                case measure => simp [intOf]; omega

              · have hw : wt = fillB 0 64 := by rw [HWT.out]; unfold arWant; rw [if_neg (by rw [z0]; simp)]
                subst hw
                have hcp : j < cap3 := by omega
                clear z0 HWT
                go_wp2
                go_roundw
                case rel => exact ⟨j + 1, by omega, by go_num, D11.out, B11.out⟩
                case measure => simp [intOf]; omega

              · have hw : wt = fillB 0 64 := by rw [HWT.out]; unfold arWant; rw [if_neg (by rw [z0]; simp)]
                subst hw
                clear z0 HWT
                go_wp2
                go_roundw
                case rel => exact ⟨j + 1, by omega, by go_num, D11.out, B11.out⟩
                case measure => simp [intOf]; omega

            · have hw : wt = fillB 0 64 := by rw [HWT.out]; unfold arWant; rw [if_neg (fun h => hjn h.1)]
              subst hw
              clear st HWT
              go_wp2
              go_roundw
              case rel => exact ⟨j + 1, by omega, by go_num, D11.out, B11.out⟩
              case measure => simp [intOf]; omega

        · have hj11 : j = 11 := by omega
          subst hj11
          have H10 := step_read hds GE.out (by decide) hbl.size 11 1
          rw [arEnd_read11 HI.out HA.out hn] at H10
          dsimp only at H10
          replace H10 := Lib.hid H10
          clear hds hbl MK CV HK
          go_wp2_with fail
          refine H10.out.mono ?_
          rintro e w10 ⟨rfl, d10, b10⟩
          have B10 := Lib.hid (HBL.out.trans b10)
          have H11 := Lib.hid (step_arm d10 B10.out.size 0 none 0 0 [] (Keep.nil _))
          clear d10 b10 H10 HBL HDS
          go_wp2_with fail
          refine H11.out.mono ?_
          rintro e w11 ⟨rfl, d11, b11⟩
          have B11 := Lib.hid (B10.out.trans b11)
          have H12 : Calls Try.prog _ _ _ (Ans w.heap.size bk (arOff D) w11 (.tuple #[])) := step_arm d11 B11.out.size (-1) none 0 0 [] (Keep.nil _)
          replace H12 := Lib.hid H12
          clear d11 b11 H11 B10
          go_wp2_with fail
          refine H12.out.mono ?_
          rintro e w12 ⟨rfl, d12, b12⟩
          have B12 := Lib.hid (B11.out.trans b12)
          have D12 := Lib.hid d12
          have HAX := Lib.hid (HAL.out w12)
          clear d12 b12 H12 B11
          go_wp2_with fail
          refine HAX.out.mono ?_
          rintro e w13 ⟨rfl, b13⟩
          have B13 := Lib.hid (B12.out.trans (b13.mono B12.out.size))
          have H13 := step_write (D12.out.below b13) (arOff_good HI.out hn).2 (by decide) B13.out.size 1 1 0 a (by rw [HA.out]; decide)
          rw [arW_ok HI.out HA.out] at H13
          dsimp only at H13
          replace H13 := Lib.hid H13
          clear b13 HAX B12 D12
          go_wp2_with fail
          refine H13.out.mono ?_
          rintro e w14 ⟨rfl, d14, b14⟩
          have B14 := Lib.hid (B13.out.trans b14)
          have H14 := step_barrier d14 (arW_good HI.out HA.out hn) (by decide) B14.out.size 1 1
          rw [arB_ok HI.out] at H14
          dsimp only at H14
          replace H14 := Lib.hid H14
          clear d14 b14 H13 B13
          go_wp2_with fail
          refine H14.out.mono ?_
          rintro e w15 ⟨rfl, d15, b15⟩
          have B15 := Lib.hid (B14.out.trans b15)
          have H15 := step_on d15
          rw [show (settle (arW D a) 1).on = true from rfl] at H15
          replace H15 := Lib.hid H15
          clear d15 b15 H14 B14
          go_wp2_with fail
          refine H15.out.mono ?_
          rintro e w16 ⟨rfl, rfl⟩
          go_wp2
          go_ret
          exact ⟨rfl, B15.out⟩

end Go.Proofs.Ytkgdpmeheakdcaa
