/- DiskLasts: the walk. -/
import Derived.Test.YtkgdpmeheakdcaaLLasts
import Derived.Test.YtkgdpmeheakdcaaWWords
import Derived.Deep.CutRange
namespace Go.Proofs.Ytkgdpmeheakdcaa
open Go.RowKit
set_option linter.all false
set_option maxRecDepth 100000

set_option maxHeartbeats 4000000 in
theorem lasts_walk (a b : ByteArray) (p : Int) (a3 : Option Addr) (len3 cap3 : Nat) (z3 : List Int) (w : World) (w3 : RowOf .i64 w a3 len3 cap3 z3) :
    Calls Try.prog 5 #[.string a, .string b, .int .i64 p, .slice a3 len3 cap3] w fun e w' => e = .returned (.bool true) ∧ Below w.heap.size w w' := by
  have HAL := Lib.hid (fun wx => alive_any wx)
  by_cases hc : a.size = 128 ∧ b.size = 128 ∧ 0 ≤ p ∧ p ≤ 8 ∧ len3 ≤ 20
  case neg =>
    clear w3
    go_enter Try.func5, Try.ntmps5
    go_wp2_with (first
      | (go_at_call 17
         refine (HAL.out _).mono ?_
         rintro e w9 ⟨rfl, b9⟩)
      | (go_at_call 18
         exfalso
         omega))
    all_goals go_ret
    all_goals exact ⟨rfl, b9⟩
  obtain ⟨ha, hb, p0, p8, hl⟩ := hc
  obtain ⟨zs, hzs⟩ : ∃ zs, zs = z3.take len3 := ⟨_, rfl⟩
  have hk := w3.keep (by omega)
  rw [← hzs] at hk
  have HK := Lib.hid hk
  have hcap := w3.capOk
  obtain ⟨x, y, hx, hy, hf⟩ := ls5_read (p := p) zs ha hb p0 p8
  have HF := Lib.hid hf
  have HX := Lib.hid hx
  have HY := Lib.hid hy
  have HA := Lib.hid ha
  have HB := Lib.hid hb
  have hda : ((a.size : Int) != 128) = false := by rw [ha]; rfl
  have hdb : ((b.size : Int) != 128) = false := by rw [hb]; rfl
  have H0 := Lib.hid (step_new 12 (by decide) (by decide) w)
  clear hf hx hy w3 hzs hk ha hb
  go_enter Try.func5, Try.ntmps5
  go_wp2_with fail
  refine H0.out.mono ?_
  rintro e w1 ⟨bk, rfl, d1, b1⟩
  have H1 := step_admit d1 (good_new 12 (by decide) (by decide)) (by decide) b1.size 3 5
  rw [ls1_ok] at H1
  dsimp only at H1
  have B1 := Lib.hid b1
  replace H1 := Lib.hid H1
  clear d1 b1 H0
  go_wp2_with fail
  refine H1.out.mono ?_
  rintro e w2 ⟨rfl, d2, b2⟩
  have B2 := Lib.hid (B1.out.trans b2)
  have H2 := step_write d2 ls1_good (by decide) B2.out.size 3 5 2 a (by rw [HA.out]; decide)
  rw [ls2_ok HA.out] at H2
  dsimp only at H2
  replace H2 := Lib.hid H2
  clear d2 b2 H1 B1
  go_wp2_with fail
  refine H2.out.mono ?_
  rintro e w3 ⟨rfl, d3, b3⟩
  have B3 := Lib.hid (B2.out.trans b3)
  have H3 := step_barrier d3 (ls2_good HA.out) (by decide) B3.out.size 3 5
  rw [ls3_ok] at H3
  dsimp only at H3
  replace H3 := Lib.hid H3
  clear d3 b3 H2 B2
  go_wp2_with fail
  refine H3.out.mono ?_
  rintro e w4 ⟨rfl, d4, b4⟩
  have B4 := Lib.hid (B3.out.trans b4)
  have H4 := step_write d4 (ls3_good HA.out) (by decide) B4.out.size 3 5 p b (by rw [HB.out]; decide)
  rw [ls4_ok HB.out p0 p8] at H4
  dsimp only at H4
  replace H4 := Lib.hid H4
  clear d4 b4 H3 B3
  go_wp2_with fail
  refine H4.out.mono ?_
  rintro e w5 ⟨rfl, d5, b5⟩
  have B5 := Lib.hid (B4.out.trans b5)
  have g4 := Lib.hid (ls4_good (a := a) (p := p) HA.out HB.out p0 p8)
  have H5 := step_cut d5 g4.out (by decide) B5.out.size (ls4_on a b p) a3 len3 cap3 zs (HK.out.below B5.out) (HK.out.ne d5.le)
  rw [ls4_len] at H5
  replace H5 := Lib.hid H5
  clear d5 b5 H4 B4
  go_wp2_with fail
  refine H5.out.mono ?_
  rintro e w6 ⟨rfl, d6, b6⟩
  have B6 := Lib.hid (B5.out.trans b6)
  have H6 : Calls Try.prog _ _ _ (Ans w.heap.size bk (ls5 a b p zs) w6 (.tuple #[])) := step_restore d6 (g4.out.cutOn zs) B6.out.size
  replace H6 := Lib.hid H6
  clear d6 b6 H5 B5
  go_wp2_with fail
  refine H6.out.mono ?_
  rintro e w7 ⟨rfl, d7, b7⟩
  have B7 := Lib.hid (B6.out.trans b7)
  have g5 := Lib.hid (ls5_good (a := a) (p := p) zs HA.out HB.out p0 p8)
  have H7 := step_read d7 g5.out (by decide) B7.out.size 2 2
  rw [HX.out] at H7
  dsimp only at H7
  replace H7 := Lib.hid H7
  clear d7 b7 H6 B6
  go_wp2_with fail
  refine H7.out.mono ?_
  rintro e w8 ⟨rfl, d8, b8⟩
  have B8 := Lib.hid (B7.out.trans b8)
  have H8 := step_read d8 g5.out (by decide) B8.out.size p 2
  rw [HY.out] at H8
  dsimp only at H8
  replace H8 := Lib.hid H8
  clear d8 b8 H7 B7
  go_wp2_with fail
  refine H8.out.mono ?_
  rintro e w9 ⟨rfl, d9, b9⟩
  have B9 := Lib.hid (B8.out.trans b9)
  clear d9 b9 H8 B8 g4 g5 HX HY
  go_wp2
  go_loopw [15] (fun i wr => ∃ k : Nat, k ≤ 2 ∧ i = .int .i64 k ∧ Below w.heap.size w wr)
    (fun i _ => 2 - (intOf i).toNat)
  case atStart => exact ⟨0, Nat.zero_le _, rfl, B9.out⟩
  case round =>
    obtain ⟨k, hk, rfl, hbl⟩ := hrel
    have HBL := Lib.hid hbl
    by_cases hlt : k < 2
    · have hst : (∃ z, stayB zs k = decide (z % 2 = 1) ∧ k < len3 ∧ ∃ kb ko, a3 = some ⟨kb, ko, none⟩ ∧ wr.cell? ⟨kb, ko + k, none⟩ = some (.int .i64 z)) ∨ (stayB zs k = false ∧ ¬ k < len3) := by
        by_cases hkl : k < len3
        · obtain ⟨kb, ko, z, h1, h2, h3⟩ := (HK.out.below hbl).at k hkl
          refine .inl ⟨z, ?_, hkl, kb, ko, h1, h3⟩
          unfold stayB
          rw [h2, decide_eq_true (by rw [HK.out.hlen]; exact hkl), Bool.true_and]
        · refine .inr ⟨?_, hkl⟩
          unfold stayB
          rw [decide_eq_false (by rw [HK.out.hlen]; exact hkl), Bool.false_and]
      clear hbl
      go_upto_region 15 with fail
      go_cut [16] from 93 to 152 (fun s16 wx => s16 = .bool (stayB zs k) ∧ wx = wr)
      case first =>
        rcases hst with ⟨z, hz, hkl, kb, ko, rfl, hcell⟩ | ⟨hz, hkl⟩
        · have hkc : k < cap3 := by omega
          by_cases hb1 : z % 2 = 1
          · have hbit : (bits .and .i64 z 1 == 1) = true := by rw [i64_and1, hb1]; rfl
            rw [decide_eq_true hb1] at hz
            have HZ := Lib.hid hz
            clear hz hb1
            go_wp2
            all_goals go_meet
            all_goals exact ⟨by rw [HZ.out], rfl⟩
          · have hbit : (bits .and .i64 z 1 == 1) = false := by rw [i64_and1]; simpa using hb1
            rw [decide_eq_false hb1] at hz
            have HZ := Lib.hid hz
            clear hz hb1
            go_wp2
            all_goals go_meet
            all_goals exact ⟨by rw [HZ.out], rfl⟩
        · have HZ := Lib.hid hz
          clear hz
          go_wp2
          all_goals go_meet
          all_goals exact ⟨by rw [HZ.out], rfl⟩
      case rest =>
        obtain ⟨rfl, rfl⟩ := hcut
        clear hst
        have i1 : IntKind.i64.wrap (64 * (k : Int)) = 64 * (k : Int) := IntWalk.i64_in _ (by omega)
        have i2 : IntKind.i64.wrap (64 * (k : Int) + 64) = 64 * (k : Int) + 64 := IntWalk.i64_in _ (by omega)
        have hsy := slice_nat y (64 * (k : Int)) (64 * (k : Int) + 64) (64 * k) (64 * k + 64) (by push_cast; rfl) (by push_cast; rfl) (by omega) (by have := HF.out.ysz; omega)
        have hsb := slice_nat b (64 * (k : Int)) (64 * (k : Int) + 64) (64 * k) (64 * k + 64) (by push_cast; rfl) (by push_cast; rfl) (by omega) (by have := HB.out; omega)
        replace hsy : ∀ wx : World, (Instr.slice 9 (.string y) (some (.int .i64 (64 * (k : Int)))) (some (.int .i64 (64 * (k : Int) + 64))) none).run Try.prog wx = .ok (.string (part y k)) wx := hsy
        replace hsb : ∀ wx : World, (Instr.slice 9 (.string b) (some (.int .i64 (64 * (k : Int)))) (some (.int .i64 (64 * (k : Int) + 64))) none).run Try.prog wx = .ok (.string (part b k)) wx := hsb
        cases hs : stayB zs k with
        | true =>
          rw [HF.out.yb k hlt hs] at hsy
          clear hs
          go_wp2
          go_roundw
          case rel => exact ⟨k + 1, by omega, by go_num, HBL.out⟩
          case measure => simp [intOf]; omega
        | false =>
          by_cases ho : 0 ≤ p + k - 2 ∧ p + k - 2 < 2
          · obtain ⟨ho0, ho1⟩ := ho
            obtain ⟨o, hoo⟩ := Int.eq_ofNat_of_zero_le ho0
            have hpy := HF.out.ya k o hlt hs hoo (by omega)
            rw [hpy] at hsy
            have j0 : IntKind.i64.wrap (p + (k : Int)) = p + (k : Int) := IntWalk.i64_in _ (by omega)
            have j1 : IntKind.i64.wrap (p + (k : Int) - 2) = (o : Int) := by rw [hoo]; exact IntWalk.i64_in _ (by omega)
            have j2 : IntKind.i64.wrap (64 * (o : Int)) = 64 * (o : Int) := IntWalk.i64_in _ (by omega)
            have j3 : IntKind.i64.wrap (64 * (o : Int) + 64) = 64 * (o : Int) + 64 := IntWalk.i64_in _ (by omega)
            have hsa : ∀ wx : World, (Instr.slice 9 (.string a) (some (.int .i64 (64 * (o : Int)))) (some (.int .i64 (64 * (o : Int) + 64))) none).run Try.prog wx = .ok (.string (part a o)) wx :=
              slice_nat a (64 * (o : Int)) (64 * (o : Int) + 64) (64 * o) (64 * o + 64) (by push_cast; rfl) (by push_cast; rfl) (by omega) (by have := HA.out; omega)
            clear hs hpy
            go_wp2
            go_roundw
            case rel => exact ⟨k + 1, by omega, by go_num, HBL.out⟩
            case measure => simp [intOf]; omega
          · clear hs
            go_wp2
            all_goals first
              | (exfalso; omega)
              | (go_roundw
                 case rel => exact ⟨k + 1, by omega, by go_num, HBL.out⟩
                 case measure => simp [intOf]; omega)
    · have hk2 : k = 2 := by omega
      subst hk2
      go_wp2_with fail
      refine (HAL.out wr).mono ?_
      rintro e w10 ⟨rfl, b10⟩
      have B10 := Lib.hid (HBL.out.trans (b10.mono HBL.out.size))
      clear hbl b10
      by_cases hp : 1 ≤ p ∧ p ≤ 3
      · obtain ⟨hp1, hp2⟩ := hp
        go_wp2
        all_goals go_ret
        all_goals exact ⟨rfl, B10.out⟩
      · have hxa := HF.out.xa hp
        subst hxa
        go_wp2
        all_goals go_ret
        all_goals exact ⟨rfl, B10.out⟩

end Go.Proofs.Ytkgdpmeheakdcaa
