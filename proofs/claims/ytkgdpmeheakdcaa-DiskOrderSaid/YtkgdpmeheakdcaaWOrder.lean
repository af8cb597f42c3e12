/- DiskOrder: the walk. -/
import Derived.Test.YtkgdpmeheakdcaaLOrder
import Derived.Test.YtkgdpmeheakdcaaWWords
import Derived.Deep.CutRange
namespace Go.Proofs.Ytkgdpmeheakdcaa
open Go.RowKit
set_option linter.all false
set_option maxRecDepth 100000

theorem stay_cases {w wr : World} {a3 : Option Addr} {len : Nat} {zs : List Int} (hk : Keep w a3 len zs) (hbl : Below w.heap.size w wr) (k : Nat) :
    (∃ z, stayB zs k = decide (z % 2 = 1) ∧ k < len ∧ ∃ kb ko, a3 = some ⟨kb, ko, none⟩ ∧ wr.cell? ⟨kb, ko + k, none⟩ = some (.int .i64 z)) ∨ (stayB zs k = false ∧ ¬ k < len) := by
  by_cases hkl : k < len
  · obtain ⟨kb, ko, z, h1, h2, h3⟩ := (hk.below hbl).at k hkl
    refine .inl ⟨z, ?_, hkl, kb, ko, h1, h3⟩
    unfold stayB
    rw [h2, decide_eq_true (by rw [hk.hlen]; exact hkl), Bool.true_and]
  · refine .inr ⟨?_, hkl⟩
    unfold stayB
    rw [decide_eq_false (by rw [hk.hlen]; exact hkl), Bool.false_and]

theorem stay_ways {w wr : World} {a3 : Option Addr} {len : Nat} {zs : List Int} (hk : Keep w a3 len zs) (hbl : Below w.heap.size w wr) (k : Nat) :
    (stayB zs k = true ∧ k < len ∧ ∃ z kb ko, a3 = some ⟨kb, ko, none⟩ ∧ wr.cell? ⟨kb, ko + k, none⟩ = some (.int .i64 z) ∧ (bits .and .i64 z 1 == 1) = true) ∨
    (stayB zs k = false ∧ k < len ∧ ∃ z kb ko, a3 = some ⟨kb, ko, none⟩ ∧ wr.cell? ⟨kb, ko + k, none⟩ = some (.int .i64 z) ∧ (bits .and .i64 z 1 == 1) = false) ∨
    (stayB zs k = false ∧ ¬ k < len) := by
  rcases stay_cases hk hbl k with ⟨z, h1, h2, kb, ko, h3, h4⟩ | h
  · by_cases hb : z % 2 = 1
    · exact .inl ⟨by rw [h1, decide_eq_true hb], h2, z, kb, ko, h3, h4, by rw [i64_and1, hb]; rfl⟩
    · exact .inr (.inl ⟨by rw [h1, decide_eq_false hb], h2, z, kb, ko, h3, h4, by rw [i64_and1]; simpa using hb⟩)
  · exact .inr (.inr h)

set_option maxHeartbeats 8000000 in
theorem order_walk (a b : ByteArray) (fs sc : Bool) (a3 : Option Addr) (len3 cap3 : Nat) (z3 : List Int) (w : World) (w3 : RowOf .i64 w a3 len3 cap3 z3) :
    Calls Try.prog 6 #[.string a, .string b, .bool fs, .bool sc, .slice a3 len3 cap3] w fun e w' => e = .returned (.bool true) ∧ Below w.heap.size w w' := by
  have HAL := Lib.hid (fun wx => alive_any wx)
  by_cases hc : a.size = 64 ∧ b.size = 64 ∧ len3 ≤ 10
  case neg =>
    clear w3
    go_enter Try.func6, Try.ntmps6
    go_wp2_with (first
      | (go_at_call 17
         refine (HAL.out _).mono ?_
         rintro e w9 ⟨rfl, b9⟩)
      | (go_at_call 18
         exfalso
         omega))
    all_goals go_ret
    all_goals exact ⟨rfl, b9⟩
  obtain ⟨ha, hb, hl⟩ := hc
  obtain ⟨zs, hzs⟩ : ∃ zs, zs = z3.take len3 := ⟨_, rfl⟩
  have hk := w3.keep (by omega)
  rw [← hzs] at hk
  have HK := Lib.hid hk
  have hcap := w3.capOk
  have HA := Lib.hid ha
  have HB := Lib.hid hb
  have hda : ((a.size : Int) != 64) = false := by rw [ha]; rfl
  have hdb : ((b.size : Int) != 64) = false := by rw [hb]; rfl
  have H0 := Lib.hid (step_new 2 (by decide) (by decide) w)
  clear w3 hzs hk ha hb
  go_enter Try.func6, Try.ntmps6
  go_wp2_with fail
  refine H0.out.mono ?_
  rintro e w1 ⟨bk, rfl, d1, b1⟩
  have H1 := step_admit d1 or0_good (by decide) b1.size 1 1
  rw [or1_ok] at H1
  dsimp only at H1
  have B1 := Lib.hid b1
  replace H1 := Lib.hid H1
  clear d1 b1 H0
  go_wp2_with fail
  refine H1.out.mono ?_
  rintro e w2 ⟨rfl, d2, b2⟩
  have B2 := Lib.hid (B1.out.trans b2)
  have H2 := step_admit d2 or1_good (by decide) B2.out.size 2 2
  rw [or2_ok] at H2
  dsimp only at H2
  replace H2 := Lib.hid H2
  clear d2 b2 H1 B1
  go_wp2_with fail
  refine H2.out.mono ?_
  rintro e w3 ⟨rfl, d3, b3⟩
  have B3 := Lib.hid (B2.out.trans b3)
  have H3 := step_write d3 or2_good (by decide) B3.out.size 1 1 0 a (by rw [HA.out]; decide)
  rw [or3_ok HA.out] at H3
  dsimp only at H3
  replace H3 := Lib.hid H3
  clear d3 b3 H2 B2
  go_wp2_with fail
  refine H3.out.mono ?_
  rintro e w4 ⟨rfl, d4, b4⟩
  have B4 := Lib.hid (B3.out.trans b4)
  have H4 := step_write d4 (or3_good HA.out) (by decide) B4.out.size 2 2 0 b (by rw [HB.out]; decide)
  rw [or4_ok HB.out] at H4
  dsimp only at H4
  replace H4 := Lib.hid H4
  clear d4 b4 H3 B3
  go_wp2_with fail
  refine H4.out.mono ?_
  rintro e w5 ⟨rfl, d5, b5⟩
  have B5 := Lib.hid (B4.out.trans b5)
  have D5 := Lib.hid d5
  clear d5 b5 H4 B4
  go_upto_region 6 with fail
  go_cut [72] from 59 to 72 (fun s72 wx => s72 = .bool false ∧ DiskS w.heap.size bk (or6 a b fs sc) wx ∧ Below w.heap.size w wx)
  case first =>
    have first2 : ∀ wx, DiskS w.heap.size bk (or5 a b sc) wx → Below w.heap.size w wx → Calls Try.prog 29 #[.pointer (some ⟨bk, 0, none⟩), .int .i64 1, .int .u64 1] wx (Ans w.heap.size bk (or6 a b true sc) wx (.int .i64 0)) := by
      intro wx d bl
      have H := step_barrier d (or5_good HA.out HB.out sc) (by decide) bl.size 1 1
      rw [or6_ok] at H
      exact H
    have F2 := Lib.hid first2
    clear first2
    cases sc with
    | true =>
      have H5 := step_barrier D5.out (or4_good HA.out HB.out) (by decide) B5.out.size 2 2
      rw [or5_ok] at H5
      dsimp only at H5
      replace H5 := Lib.hid H5
      go_wp2_with fail
      refine H5.out.mono ?_
      rintro e w6 ⟨rfl, d6, b6⟩
      have D6 := Lib.hid d6
      have B6 := Lib.hid (B5.out.trans b6)
      clear d6 b6
      cases fs with
      | true =>
        have H6 := Lib.hid (F2.out w6 D6.out B6.out)
        go_wp2_with fail
        refine H6.out.mono ?_
        rintro e w7 ⟨rfl, d7, b7⟩
        have D7 := Lib.hid d7
        have B7 := Lib.hid (B6.out.trans b7)
        clear d7 b7
        go_wp2
        go_meet
        exact ⟨rfl, D7.out, B7.out⟩
      | false =>
        go_wp2
        go_meet
        exact ⟨rfl, D6.out, B6.out⟩
    | false =>
      cases fs with
      | true =>
        have H6 := Lib.hid (F2.out w5 D5.out B5.out)
        go_wp2_with fail
        refine H6.out.mono ?_
        rintro e w7 ⟨rfl, d7, b7⟩
        have D7 := Lib.hid d7
        have B7 := Lib.hid (B5.out.trans b7)
        clear d7 b7
        go_wp2
        go_meet
        exact ⟨rfl, D7.out, B7.out⟩
      | false =>
        go_wp2
        go_meet
        exact ⟨rfl, D5.out, B5.out⟩
  case rest =>
    obtain ⟨rfl, d6, b6⟩ := hcut
    have B6 := Lib.hid b6
    have g6 := Lib.hid (or6_good HA.out HB.out fs sc)
    have H6 := step_read d6 g6.out (by decide) b6.size 0 1
    rw [or6_read HA.out HB.out] at H6
    dsimp only at H6
    replace H6 := Lib.hid H6
    clear d6 b6 D5 B5
    go_wp2_with fail
    refine H6.out.mono ?_
    rintro e w7 ⟨rfl, d7, b7⟩
    have B7 := Lib.hid (B6.out.trans b7)
    have H7 := step_cut d7 g6.out (by decide) B7.out.size (or6_same a b fs sc).1 a3 len3 cap3 zs (HK.out.below B7.out) (HK.out.ne d7.le)
    rw [or6_waits] at H7
    replace H7 := Lib.hid H7
    have hst0 : ∃ st, st = stayB zs 0 := ⟨_, rfl⟩
    clear d7 b7 H6 B6
    have HS := Lib.hid (fun wr => fun (hbl : Below w.heap.size w wr) k => stay_ways HK.out hbl k)
    have FIN : ∀ wx, DiskS w.heap.size bk (cutOn (or6 a b fs sc) zs) wx → Below w.heap.size w wx → Calls Try.prog 25 #[.pointer (some ⟨bk, 0, none⟩)] wx (Ans w.heap.size bk (or7 a b fs sc zs) wx (.tuple #[])) := fun wx d bl => step_restore d (g6.out.cutOn zs) bl.size
    have FIN2 : ∀ wx, DiskS w.heap.size bk (or7 a b fs sc zs) wx → Below w.heap.size w wx → Calls Try.prog 22 #[.pointer (some ⟨bk, 0, none⟩), .int .i64 0, .int .i64 1] wx (Ans w.heap.size bk (or7 a b fs sc zs) wx (.tuple #[.string (orWant a b fs sc zs), .int .i64 0])) := fun wx d bl => by
      have H := step_read d (g6.out.cutOn zs).restore (by decide) bl.size 0 1
      rw [or7_read HA.out HB.out fs sc zs] at H
      exact H
    have R1 := Lib.hid FIN
    have R2 := Lib.hid FIN2
    clear FIN FIN2 hst0
    obtain ⟨wt, hwt⟩ : ∃ wt, wt = orWant a b fs sc zs := ⟨_, rfl⟩
    rw [← hwt] at R2
    have HWT := Lib.hid hwt
    clear hwt
    have MK := made64
    have CV := zero_conv_new
    cases fs <;> cases sc
    all_goals go_wp2_with fail
    all_goals refine H7.out.mono ?_
    all_goals rintro e w8 ⟨rfl, d8, b8⟩
    all_goals have B8 := Lib.hid (B7.out.trans b8)
    all_goals have H8 := Lib.hid (R1.out w8 d8 B8.out)
    all_goals clear d8 b8
    all_goals go_wp2_with fail
    all_goals refine H8.out.mono ?_
    all_goals rintro e w9 ⟨rfl, d9, b9⟩
    all_goals have B9 := Lib.hid (B8.out.trans b9)
    all_goals have H9 := Lib.hid (R2.out w9 d9 B9.out)
    all_goals clear d9 b9
    all_goals go_wp2_with fail
    all_goals refine H9.out.mono ?_
    all_goals rintro e w10 ⟨rfl, d10, b10⟩
    all_goals have B10 := Lib.hid (B9.out.trans b10)
    all_goals clear d10 b10 H7 H8 H9
    all_goals go_upto_region 17 with fail
    all_goals go_cut [18] from 94 to 95 (fun s18 wx => s18 = .string (fillB 0 64) ∧ Below w.heap.size w wx)
    case first | first | first | first =>
      go_wp2
      go_meet
      exact ⟨rfl, B10.out.alloc B10.out.size _⟩
    all_goals obtain ⟨rfl, b11⟩ := hcut
    all_goals have B11 := Lib.hid b11
    all_goals have st0 := HS.out _ b11 0
    all_goals have st1 := HS.out _ b11 1
    all_goals have HAX := Lib.hid (HAL.out wc)
    all_goals clear b11 HS HK R1 R2 MK CV
    all_goals rcases st0 with ⟨z0, hl0, x0, kb, ko, rfl, c0, t0⟩ | ⟨z0, hl0, x0, kb, ko, rfl, c0, t0⟩ | ⟨z0, hl0⟩
    all_goals rcases st1 with ⟨z1, hl1, x1, kb1, ko1, e1, c1, t1⟩ | ⟨z1, hl1, x1, kb1, ko1, e1, c1, t1⟩ | ⟨z1, hl1⟩
    all_goals try cases e1
    all_goals try simp only [Nat.add_zero] at c0
    all_goals try have hcp0 : 0 < cap3 := by omega
    all_goals try have hcp1 : 1 < cap3 := by omega
    all_goals have hw := HWT.out
    all_goals simp only [orWant, z0, z1, Bool.false_or, Bool.true_or, Bool.or_false, Bool.or_true, if_true, if_false, Bool.false_eq_true, reduceIte] at hw
    all_goals subst hw
    all_goals clear HWT z0 z1
    all_goals go_wp2_with fail
    all_goals refine HAX.out.mono ?_
    all_goals rintro e w12 ⟨rfl, b12⟩
    all_goals have B12 := Lib.hid (B11.out.trans (b12.mono B11.out.size))
    all_goals clear b12
    all_goals go_wp2
    all_goals go_ret
    all_goals exact ⟨rfl, B12.out⟩

end Go.Proofs.Ytkgdpmeheakdcaa
