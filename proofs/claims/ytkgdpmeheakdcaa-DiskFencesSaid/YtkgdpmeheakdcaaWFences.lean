/- DiskFences: the plain law and the walk. -/
import Derived.Test.YtkgdpmeheakdcaaLOrder
import Derived.Test.YtkgdpmeheakdcaaLight
import Derived.Deep.CutRange
namespace Go.Proofs.Ytkgdpmeheakdcaa
open Go.RowKit
set_option linter.all false
set_option maxRecDepth 100000

def fn1 : DS := (admitR (newDS 4) 1 7).2
def fn2 (a : ByteArray) : DS := wrN fn1 1 0 a 1
def fn3 (a : ByteArray) : DS := { settle (fn2 a) 1 with table := (fn2 a).table.set 1 0 }
def fn5 (a : ByteArray) : DS := restD (cutOn (fn3 a) [])
theorem fn1_ok : admitR (newDS 4) 1 7 = (0, fn1) := Prod.ext (by kernel_rfl) rfl
theorem fn1_good : Good 0 fn1 := (good_new 4 (by decide) (by decide)).admitted 1 7
theorem fn1_armed : fn1.armed = false := by kernel_rfl
theorem fn1_on : fn1.on = true := by kernel_rfl
theorem fn1_at : fn1.table.getD (1 : Int).toNat 0 = 7 := by kernel_rfl
theorem fn1_sectors : fn1.sectors = 4 := by kernel_rfl
theorem fn1_last : fn1.last = 7 := by kernel_rfl
theorem fn2_ok {a : ByteArray} (h : a.size = 64) : writeR fn1 1 7 0 a = (0, fn2 a) := by
  rw [writeR_way 1 fn1_on (goesD_off fn1_armed).2 (by decide) (by decide) (by decide) fn1_at h (by decide) (by decide) (by decide) (by rw [fn1_sectors]; decide), (goesD_off fn1_armed).1]
  rfl
theorem fn2_good {a : ByteArray} (h : a.size = 64) : Good 16 (fn2 a) := by
  have := fn1_good.write 1 7 0 a
  rw [fn2_ok h] at this
  exact this
theorem fn3_ok (a : ByteArray) : fenceR (fn2 a) 1 = (0, fn3 a) := by
  unfold fenceR
  rw [show (fn2 a).on = true from fn1_on, mayE_in 1 (by decide) (by decide), (goesD_off (show (fn2 a).armed = false from fn1_armed)).2, (goesD_off (show (fn2 a).armed = false from fn1_armed)).1]
  rfl
theorem fn3_good {a : ByteArray} (h : a.size = 64) : Good 16 (fn3 a) := by
  have := (fn2_good h).fence 1
  rw [fn3_ok] at this
  exact this
theorem fn3_at (a : ByteArray) : (fn3 a).table.getD (1 : Int).toNat 0 = 0 := by kernel_rfl
theorem fn3_on (a : ByteArray) : (fn3 a).on = true := fn1_on
theorem fn3_write (a : ByteArray) (p : Int) (data : ByteArray) : ∃ v, v ≠ 0 ∧ writeR (fn3 a) 1 7 p data = (v, fn3 a) := by
  unfold writeR
  rw [fn3_on, mayE_in 1 (by decide) (by decide), fn3_at, admE_other 0 7 (by decide), if_neg (by simp)]
  cases goodB data with
  | false => exact ⟨1, by decide, by rw [if_pos rfl]⟩
  | true => exact ⟨34, by decide, by rw [if_neg (by simp), if_pos (by decide)]⟩
theorem fn3_barrier (a : ByteArray) : barrierR (fn3 a) 1 7 = (34, fn3 a) := by
  unfold barrierR
  rw [fn3_on, mayE_in 1 (by decide) (by decide), fn3_at, admE_other 0 7 (by decide)]
  simp
theorem fn5_good {a : ByteArray} (h : a.size = 64) : Good 16 (fn5 a) := ((fn3_good h).cutOn []).restore
theorem fn5_now (a : ByteArray) : (fn5 a).now 0 = some (part a 0) := by
  show ((cutL [] 0 (settleL 1 (fun _ => none) [⟨1, 0, 1, part a 0⟩]) [] 0).map (·.data)) = _
  simp [cutL, settleL, keepW, seqAt]
theorem fn5_read {a : ByteArray} (h : a.size = 64) : readR (fn5 a) 0 1 = (a, 0) := by
  rw [read_one (fn5_good h).zn rfl 0 (by decide) (by show (0 : Int) < fn1.sectors; rw [fn1_sectors]; decide) (by show fn1.sectors ≤ _; rw [fn1_sectors]; decide)]
  congr 1
  unfold secAt
  rw [fn5_now]
  exact part_whole h

structure FI (L : Int) (D : DS) : Prop where
  on : D.on = true
  armed : D.armed = false
  last : D.last = L
  good : Good 16 D
theorem fi_start {a : ByteArray} (h : a.size = 64) : FI 7 (fn5 a) := ⟨rfl, rfl, fn1_last, fn5_good h⟩
def fiN (D : DS) (node e : Int) : DS := { D with table := D.table.set node.toNat e, last := e }
theorem fi_yes {L : Int} {D : DS} (h : FI L D) (node e : Int) (h0 : 0 ≤ node) (h1 : node ≤ 16) (he : L < e) : admitR D node e = (0, fiN D node e) ∧ FI e (fiN D node e) := by
  have hr : admitR D node e = (0, fiN D node e) := by
    unfold admitR
    rw [h.on, mayE_in node h0 h1, (goesD_off h.armed).2, (goesD_off h.armed).1, h.last, if_neg (by simp), if_neg (by omega), if_neg (by simp)]
    simp [fiN, h.on]
  have hg := h.good.admitted node e
  rw [hr] at hg
  exact ⟨hr, h.on, h.armed, rfl, hg⟩
theorem fi_no {L : Int} {D : DS} (h : FI L D) (node e : Int) (h0 : 0 ≤ node) (h1 : node ≤ 16) (he : ¬ L < e) : admitR D node e = (8, D) := by
  unfold admitR
  rw [h.on, mayE_in node h0 h1, h.last, if_neg (by simp), if_pos (by omega)]

set_option maxHeartbeats 8000000 in
theorem fences_walk (a : ByteArray) (a1 : Option Addr) (len1 cap1 : Nat) (os : List OpV) (a2 : Option Addr) (len2 cap2 : Nat) (z2 : List Int) (w : World) (w1 : OpsRow w a1 len1 cap1 os) (w2 : RowOf .u64 w a2 len2 cap2 z2) :
    Calls Try.prog 8 #[.string a, .slice a1 len1 cap1, .slice a2 len2 cap2] w fun e w' => e = .returned (.bool true) ∧ Below w.heap.size w w' := by
  have HAL := Lib.hid (fun wx => alive_any wx)
  have HL := Lib.hid (light_any a1 len1 cap1 os w w1)
  by_cases ha : a.size = 64
  case neg =>
    have hda : ((a.size : Int) != 64) = true := by simp; omega
    clear w1 w2 HL ha
    go_enter Try.func8, Try.ntmps8
    go_wp2_with fail
    refine (HAL.out _).mono ?_
    rintro e w9 ⟨rfl, b9⟩
    go_wp2
    go_ret
    exact ⟨rfl, b9⟩
  have hda : ((a.size : Int) != 64) = false := by rw [ha]; rfl
  have HA := Lib.hid ha
  have HO := Lib.hid w1
  have HZ := Lib.hid w2
  have hcap1 := w1.hcap
  have hcap2 := w2.capOk
  clear w1 w2 ha
  go_enter Try.func8, Try.ntmps8
  go_wp2_with fail
  refine HL.out.mono ?_
  rintro e w0 ⟨v, rfl, hlo, b0⟩
  have HLO := Lib.hid hlo
  have B0 := Lib.hid b0
  have H0 := Lib.hid (step_new 4 (by decide) (by decide) w0)
  clear hlo b0 HL
  by_cases hc : v = true ∧ len1 ≤ 40 ∧ len2 ≤ 40
  case neg =>
    cases v with
    | false =>
      go_wp2_with fail
      refine (HAL.out _).mono ?_
      rintro e w9 ⟨rfl, b9⟩
      go_wp2
      go_ret
      exact ⟨rfl, B0.out.trans (b9.mono B0.out.size)⟩
    | true =>
      by_cases h40 : 40 < len1
      · clear hc
        go_wp2_with fail
        refine (HAL.out _).mono ?_
        rintro e w9 ⟨rfl, b9⟩
        go_wp2
        go_ret
        exact ⟨rfl, B0.out.trans (b9.mono B0.out.size)⟩
      · have h41 : 40 < len2 := by
          rcases Nat.lt_or_ge 40 len2 with h | h
          · exact h
          · exact absurd ⟨rfl, by omega, h⟩ hc
        clear hc
        go_wp2_with fail
        refine (HAL.out _).mono ?_
        rintro e w9 ⟨rfl, b9⟩
        go_wp2
        go_ret
        exact ⟨rfl, B0.out.trans (b9.mono B0.out.size)⟩
  obtain ⟨rfl, hl1, hl2⟩ := hc
  go_wp2_with fail
  refine H0.out.mono ?_
  rintro e w1 ⟨bk, rfl, d1, b1⟩
  have H1 := step_admit d1 (good_new 4 (by decide) (by decide)) (by decide) b1.size 1 7
  rw [fn1_ok] at H1
  dsimp only at H1
  have B1 := Lib.hid b1
  replace H1 := Lib.hid H1
  clear d1 b1 H0
  go_wp2_with fail
  refine H1.out.mono ?_
  rintro e w2 ⟨rfl, d2, b2⟩
  have B2 := Lib.hid (B1.out.trans b2)
  have H2 := step_write d2 fn1_good (by decide) B2.out.size 1 7 0 a (by rw [HA.out]; decide)
  rw [fn2_ok HA.out] at H2
  dsimp only at H2
  replace H2 := Lib.hid H2
  clear d2 b2 H1 B1
  go_wp2_with fail
  refine H2.out.mono ?_
  rintro e w3 ⟨rfl, d3, b3⟩
  have B3 := Lib.hid (B2.out.trans b3)
  have H3 := step_fence d3 (fn2_good HA.out) (by decide) B3.out.size 1
  rw [fn3_ok] at H3
  dsimp only at H3
  replace H3 := Lib.hid H3
  clear d3 b3 H2 B2
  go_wp2_with fail
  refine H3.out.mono ?_
  rintro e w4 ⟨rfl, d4, b4⟩
  have B4 := Lib.hid (B3.out.trans b4)
  have D4 := Lib.hid d4
  clear d4 b4 H3 B3
  have HWB : ∀ wx p data, data.size ≤ 100000 → DiskS w0.heap.size bk (fn3 a) wx → Below w0.heap.size w0 wx → Calls Try.prog 20 #[.pointer (some ⟨bk, 0, none⟩), .int .i64 1, .int .u64 7, .int .i64 p, .string data] wx fun e w' => ∃ v, (v == 0) = false ∧ e = .returned (.int .i64 v) ∧ DiskS w0.heap.size bk (fn3 a) w' ∧ Below w0.heap.size w0 w' := by
    intro wx p data hd d bl
    obtain ⟨v, hv, hw⟩ := fn3_write a p data
    have H := step_write d (fn3_good HA.out) (by decide) bl.size 1 7 p data hd
    rw [hw] at H
    refine H.mono ?_
    rintro e w' ⟨rfl, h1, h2⟩
    exact ⟨v, by simpa using hv, rfl, h1, bl.trans h2⟩
  have HBB : ∀ wx, DiskS w0.heap.size bk (fn3 a) wx → Below w0.heap.size w0 wx → Calls Try.prog 29 #[.pointer (some ⟨bk, 0, none⟩), .int .i64 1, .int .u64 7] wx fun e w' => e = .returned (.int .i64 34) ∧ DiskS w0.heap.size bk (fn3 a) w' ∧ Below w0.heap.size w0 w' := by
    intro wx d bl
    have H := step_barrier d (fn3_good HA.out) (by decide) bl.size 1 7
    rw [fn3_barrier] at H
    refine H.mono ?_
    rintro e w' ⟨rfl, h1, h2⟩
    exact ⟨rfl, h1, bl.trans h2⟩
  have WB := Lib.hid HWB
  have BB := Lib.hid HBB
  clear HWB HBB
  go_wp2
  go_loopw [8] (fun i wr => ∃ k : Nat, k ≤ len1 ∧ i = .int .i64 k ∧ DiskS w0.heap.size bk (fn3 a) wr ∧ Below w0.heap.size w0 wr)
    (fun i _ => len1 - (intOf i).toNat)
  case atStart => exact ⟨0, Nat.zero_le _, rfl, D4.out, B4.out⟩
  case round =>
    obtain ⟨k, hk, rfl, hds, hbl⟩ := hrel
    have HD := Lib.hid hds
    have HBL := Lib.hid hbl
    by_cases hlt : k < len1
    · obtain ⟨o, kb, ko, ho, ha1, hkb, hat⟩ := HO.out.ops k hlt
      subst ha1
      have hat2 := (hat.below B0.out hkb).below hbl (Nat.lt_of_lt_of_le hkb B0.out.size)
      have c2 := hat2.c2
      have c5 := hat2.c5
      have hkc : k < cap1 := by omega
      have hdz : o.data.size ≤ 100000 := by have := (HLO.out rfl).2 k o ho; omega
      clear hds hbl ho hkb hat hat2
      go_upto_region 9 with fail
      go_cut [75] from 52 to 75 (fun s75 wx => s75 = .bool false ∧ DiskS w0.heap.size bk (fn3 a) wx ∧ Below w0.heap.size w0 wx)
      case first =>
        go_region_with (first
          | (go_at_call 20
             refine (WB.out _ o.pl o.data hdz ?_ ?_).mono ?_
             · first | exact HD.out.grow (Grow.drew _) | exact HD.out
             · first | exact HBL.out.drew | exact HBL.out
             rintro e x ⟨v, hv, rfl, dx, bx⟩)
          | (go_at_call 29
             refine (BB.out _ (by assumption) (by assumption)).mono ?_
             rintro e y ⟨rfl, dy, bY⟩))
        all_goals go_wp2
        all_goals go_meet
        all_goals exact ⟨rfl, dy, bY⟩
      case rest =>
        obtain ⟨rfl, d5, b5⟩ := hcut
        have D5 := Lib.hid d5
        have B5 := Lib.hid b5
        clear d5 b5
        go_wp2
        go_roundw
        case rel => exact ⟨k + 1, by omega, by go_num, D5.out, B5.out⟩
        case measure => simp [intOf]; omega
    · have hkn : k = len1 := by omega
      subst hkn
      have H6 := step_cut hds (fn3_good HA.out) (by decide) hbl.size (fn3_on a) none 0 0 [] (Keep.nil _) (fun _ h => by cases h)
      replace H6 := Lib.hid H6
      clear hds hbl WB BB D4 B4
      go_wp2_with fail
      refine H6.out.mono ?_
      rintro e w6 ⟨rfl, d6, b6⟩
      have B6 := Lib.hid (HBL.out.trans b6)
      have H7 : Calls Try.prog _ _ _ (Ans w0.heap.size bk (fn5 a) w6 (.tuple #[])) := step_restore d6 ((fn3_good HA.out).cutOn []) B6.out.size
      replace H7 := Lib.hid H7
      clear d6 b6 H6 HBL HD
      go_wp2_with fail
      refine H7.out.mono ?_
      rintro e w7 ⟨rfl, d7, b7⟩
      have B7 := Lib.hid (B6.out.trans b7)
      have H8 := step_read d7 (fn5_good HA.out) (by decide) B7.out.size 0 1
      rw [fn5_read HA.out] at H8
      dsimp only at H8
      replace H8 := Lib.hid H8
      clear d7 b7 H7 B6
      go_wp2_with fail
      refine H8.out.mono ?_
      rintro e w8 ⟨rfl, d8, b8⟩
      have B8 := Lib.hid (B7.out.trans b8)
      have D8 := Lib.hid d8
      have F0 := Lib.hid (fi_start HA.out)
      clear d8 b8 H8 B7
      go_wp2
      go_loopw [11, 12] (fun l i wr => ∃ (j : Nat) (L : Int) (D : DS), j ≤ len2 ∧ i = .int .i64 j ∧ l = .int .u64 L ∧ FI L D ∧ DiskS w0.heap.size bk D wr ∧ Below w0.heap.size w0 wr)
        (fun _ i _ => len2 - (intOf i).toNat)
      case atStart => exact ⟨0, 7, _, Nat.zero_le _, rfl, rfl, F0.out, D8.out, B8.out⟩
      case round =>
        obtain ⟨j, L, D, hj, rfl, rfl, hfi, hds, hbl⟩ := hrel
        have HF := Lib.hid hfi
        have HD := Lib.hid hds
        have HBL := Lib.hid hbl
        clear D8 B8 F0
        by_cases hlt2 : j < len2
        · obtain ⟨kb, ko, ha2, hc, hkb⟩ := HZ.out.at j hlt2
          subst ha2
          have hcx : w0.cell? ⟨kb, ko + j, none⟩ = some (.int .u64 (z2.getD j 0)) := by
            rw [World.cell?_of_block (B0.out.block kb hkb)]
            exact hc
          have hkb0 : kb < w0.heap.size := Nat.lt_of_lt_of_le hkb B0.out.size
          have hcy : wr.cell? ⟨kb, ko + j, none⟩ = some (.int .u64 (z2.getD j 0)) := by
            rw [World.cell?_of_block (hbl.block kb hkb0)]
            exact hcx
          have hjc : j < cap2 := by omega
          generalize z2.getD j 0 = q at *
          obtain ⟨N, hN⟩ : ∃ N, N = 1 + (j : Int) % 3 := ⟨_, rfl⟩
          have hN0 : 0 ≤ N := by omega
          have hN1 : N ≤ 16 := by omega
          by_cases hq : L < q
          · obtain ⟨hr, hfn⟩ := fi_yes hfi N q hN0 hN1 hq
            have HFN := Lib.hid hfn
            have H9 := step_admit hds hfi.good (by decide) hbl.size N q
            rw [hr] at H9
            dsimp only at H9
            have H10 : Calls Try.prog 19 #[.pointer (some ⟨bk, 0, none⟩), .int .i64 (1 + (j : Int) % 3), .int .u64 q] wr fun e w' => (e = .returned (.int .i64 0) ∧ DiskS w0.heap.size bk (fiN D N q) w' ∧ Below w0.heap.size w0 w' ∧ w'.cell? ⟨kb, ko + j, none⟩ = some (.int .u64 q)) := by
              rw [← hN]
              refine H9.mono ?_
              rintro e w' ⟨rfl, h1, h2⟩
              refine ⟨rfl, h1, hbl.trans h2, ?_⟩
              rw [World.cell?_of_block ((hbl.trans h2).block kb hkb0)]
              exact hcx
            have HT := Lib.hid H10
            clear H9 H10 hr hfn hds hbl hfi hc hcx hN hN0 hN1
            go_wp2_with fail
            refine HT.out.mono ?_
            rintro e w9 ⟨rfl, d9, b9, c9⟩
            have D9 := Lib.hid d9
            have B9 := Lib.hid b9
            clear d9 b9 HT
            go_wp2
            go_roundw
            case rel => exact ⟨j + 1, q, _, by omega, by go_num, rfl, HFN.out, D9.out, B9.out⟩
            case measure => simp [intOf]; omega
          · have hr := fi_no hfi N q hN0 hN1 hq
            have H9 := step_admit hds hfi.good (by decide) hbl.size N q
            rw [hr] at H9
            dsimp only at H9
            have H10 : Calls Try.prog 19 #[.pointer (some ⟨bk, 0, none⟩), .int .i64 (1 + (j : Int) % 3), .int .u64 q] wr fun e w' => (e = .returned (.int .i64 8) ∧ DiskS w0.heap.size bk D w' ∧ Below w0.heap.size w0 w' ∧ w'.cell? ⟨kb, ko + j, none⟩ = some (.int .u64 q)) := by
              rw [← hN]
              refine H9.mono ?_
              rintro e w' ⟨rfl, h1, h2⟩
              refine ⟨rfl, h1, hbl.trans h2, ?_⟩
              rw [World.cell?_of_block ((hbl.trans h2).block kb hkb0)]
              exact hcx
            have HT := Lib.hid H10
            clear H9 H10 hr hds hbl hfi hc hcx hN hN0 hN1
            go_wp2_with fail
            refine HT.out.mono ?_
            rintro e w9 ⟨rfl, d9, b9, c9⟩
            have D9 := Lib.hid d9
            have B9 := Lib.hid b9
            clear d9 b9 HT
            go_wp2
            go_roundw
            case rel => exact ⟨j + 1, L, _, by omega, by go_num, rfl, HF.out, D9.out, B9.out⟩
            case measure => simp [intOf]; omega
        · have hj2 : j = len2 := by omega
          subst hj2
          have HLA := Lib.hid hfi.last
          clear hfi hds hbl
          go_wp2_with fail
          refine (HAL.out wr).mono ?_
          rintro e w10 ⟨rfl, b10⟩
          have B10 := Lib.hid (HBL.out.trans (b10.mono HBL.out.size))
          have H11 := step_last (HD.out.below b10)
          rw [HLA.out] at H11
          replace H11 := Lib.hid H11
          clear b10
          go_wp2_with fail
          refine H11.out.mono ?_
          rintro e w11 ⟨rfl, rfl⟩
          go_wp2
          go_ret
          exact ⟨rfl, B0.out.trans (B10.out.mono B0.out.size)⟩

end Go.Proofs.Ytkgdpmeheakdcaa
