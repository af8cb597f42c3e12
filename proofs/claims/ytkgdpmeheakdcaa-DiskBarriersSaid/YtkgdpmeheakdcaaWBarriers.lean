/- DiskBarriers: the plain law and the walk. -/
import Derived.Test.YtkgdpmeheakdcaaLOrder
import Derived.Test.YtkgdpmeheakdcaaAlive
import Derived.Deep.CutRange
namespace Go.Proofs.Ytkgdpmeheakdcaa
open Go.RowKit
set_option linter.all false
set_option maxRecDepth 100000

def br1 : DS := (admitR (newDS 4) 1 1).2
def br2 : DS := (admitR br1 2 2).2
def br3 (a : ByteArray) : DS := wrN br2 1 0 a 1
def br4 (a b : ByteArray) : DS := wrN (br3 a) 2 1 b 1
def br5 (a b : ByteArray) : DS := settle (br4 a b) 2
def br6 (a b : ByteArray) (fs : Bool) : DS := if fs = true then settle (br5 a b) 1 else br5 a b
def br7 (a b : ByteArray) (fs : Bool) : DS := restD (cutOn (br6 a b fs) [])
theorem br1_ok : admitR (newDS 4) 1 1 = (0, br1) := Prod.ext (by kernel_rfl) rfl
theorem br2_ok : admitR br1 2 2 = (0, br2) := Prod.ext (by kernel_rfl) rfl
theorem br0_good : Good 0 (newDS 4) := good_new 4 (by decide) (by decide)
theorem br1_good : Good 0 br1 := br0_good.admitted 1 1
theorem br2_good : Good 0 br2 := br1_good.admitted 2 2
theorem br2_armed : br2.armed = false := by kernel_rfl
theorem br2_on : br2.on = true := by kernel_rfl
theorem br2_at1 : br2.table.getD (1 : Int).toNat 0 = 1 := by kernel_rfl
theorem br2_at2 : br2.table.getD (2 : Int).toNat 0 = 2 := by kernel_rfl
theorem br2_sectors : br2.sectors = 4 := by kernel_rfl
theorem br3_ok {a : ByteArray} (h : a.size = 64) : writeR br2 1 1 0 a = (0, br3 a) := by
  rw [writeR_way 1 br2_on (goesD_off br2_armed).2 (by decide) (by decide) (by decide) br2_at1 h (by decide) (by decide) (by decide) (by rw [br2_sectors]; decide), (goesD_off br2_armed).1]
  rfl
theorem br3_good {a : ByteArray} (h : a.size = 64) : Good 16 (br3 a) := by
  have := br2_good.write 1 1 0 a
  rw [br3_ok h] at this
  exact this
theorem br4_ok {a b : ByteArray} (h : b.size = 64) : writeR (br3 a) 2 2 1 b = (0, br4 a b) := by
  rw [writeR_way 1 (show (br3 a).on = true from br2_on) (goesD_off (show (br3 a).armed = false from br2_armed)).2 (by decide) (by decide) (by decide) br2_at2 h (by decide) (by decide) (by decide) (by rw [show (br3 a).sectors = 4 from br2_sectors]; decide), (goesD_off (show (br3 a).armed = false from br2_armed)).1]
  rfl
theorem br4_good {a b : ByteArray} (ha : a.size = 64) (h : b.size = 64) : Good 32 (br4 a b) := by
  have := (br3_good ha).write 2 2 1 b
  rw [br4_ok h] at this
  exact this
theorem br5_ok (a b : ByteArray) : barrierR (br4 a b) 2 2 = (0, br5 a b) := by
  rw [barrierR_way (show (br4 a b).on = true from br2_on) (goesD_off (show (br4 a b).armed = false from br2_armed)).2 (by decide) (by decide) (by decide) br2_at2, (goesD_off (show (br4 a b).armed = false from br2_armed)).1]
  rfl
theorem br6_ok (a b : ByteArray) : barrierR (br5 a b) 1 1 = (0, br6 a b true) := by
  rw [barrierR_way (show (br5 a b).on = true from br2_on) (goesD_off (show (br5 a b).armed = false from br2_armed)).2 (by decide) (by decide) (by decide) br2_at1, (goesD_off (show (br5 a b).armed = false from br2_armed)).1]
  rfl
theorem br5_good {a b : ByteArray} (ha : a.size = 64) (hb : b.size = 64) : Good 32 (br5 a b) := (br4_good ha hb).settle 2
theorem br6_good {a b : ByteArray} (ha : a.size = 64) (hb : b.size = 64) (fs : Bool) : Good 32 (br6 a b fs) := by
  cases fs
  · exact br5_good ha hb
  · exact (br5_good ha hb).settle 1
theorem br6_on (a b : ByteArray) (fs : Bool) : (br6 a b fs).on = true := by cases fs <;> exact br2_on
theorem br6_sectors (a b : ByteArray) (fs : Bool) : (br6 a b fs).sectors = 4 := by cases fs <;> exact br2_sectors
def brN (fs : Bool) : Int := if fs = true then 0 else 1
theorem br6_wait1 (a b : ByteArray) (fs : Bool) : ((waiting (br6 a b fs) 1 : Nat) : Int) = brN fs := by cases fs <;> rfl
theorem br6_wait2 (a b : ByteArray) (fs : Bool) : ((waiting (br6 a b fs) 2 : Nat) : Int) = 0 := by cases fs <;> rfl
theorem br6_waits (a b : ByteArray) (fs : Bool) : ((br6 a b fs).waits.length : Int) = brN fs := by cases fs <;> rfl
theorem br7_good {a b : ByteArray} (ha : a.size = 64) (hb : b.size = 64) (fs : Bool) : Good 32 (br7 a b fs) := ((br6_good ha hb fs).cutOn []).restore
theorem br7_now (a b : ByteArray) (fs : Bool) (j : Int) : (br7 a b fs).now j = if j = 1 then some (part b 0) else if fs = true ∧ j = 0 then some (part a 0) else none := by
  cases fs
  · show ((cutL [] 0 (settleL 2 (fun _ => none) [⟨1, 0, 1, part a 0⟩, ⟨2, 1, 2, part b 0⟩]) [⟨1, 0, 1, part a 0⟩] j).map (·.data)) = _
    by_cases h1 : j = 1 <;> simp [cutL, settleL, keepW, seqAt, stayB, h1]
  · show ((cutL [] 0 (settleL 1 (settleL 2 (fun _ => none) [⟨1, 0, 1, part a 0⟩, ⟨2, 1, 2, part b 0⟩]) [⟨1, 0, 1, part a 0⟩]) [] j).map (·.data)) = _
    by_cases h1 : j = 1
    · simp [cutL, settleL, keepW, seqAt, h1]
    · by_cases h0 : j = 0 <;> simp [cutL, settleL, keepW, seqAt, h1, h0]
def brS (a : ByteArray) (fs : Bool) : ByteArray := if fs = true then a else fillB 0 64
theorem br7_read0 {a b : ByteArray} (ha : a.size = 64) (hb : b.size = 64) (fs : Bool) : readR (br7 a b fs) 0 1 = (brS a fs, 0) := by
  rw [read_one (br7_good ha hb fs).zn rfl 0 (by decide) (by show (0 : Int) < (br6 a b fs).sectors; rw [br6_sectors]; decide) (by show (br6 a b fs).sectors ≤ _; rw [br6_sectors]; decide)]
  congr 1
  unfold secAt
  rw [br7_now]
  cases fs
  · exact zero64_eq
  · exact part_whole ha
theorem br7_read1 {a b : ByteArray} (ha : a.size = 64) (hb : b.size = 64) (fs : Bool) : readR (br7 a b fs) 1 1 = (b, 0) := by
  rw [read_one (br7_good ha hb fs).zn rfl 1 (by decide) (by show (1 : Int) < (br6 a b fs).sectors; rw [br6_sectors]; decide) (by show (br6 a b fs).sectors ≤ _; rw [br6_sectors]; decide)]
  congr 1
  unfold secAt
  rw [br7_now]
  exact part_whole hb

set_option maxHeartbeats 8000000 in
theorem barriers_walk (a b : ByteArray) (fs : Bool) (w : World) :
    Calls Try.prog 9 #[.string a, .string b, .bool fs] w fun e w' => e = .returned (.bool true) ∧ Below w.heap.size w w' := by
  have HAL := Lib.hid (fun wx => alive_any wx)
  by_cases hc : a.size = 64 ∧ b.size = 64
  case neg =>
    go_enter Try.func9, Try.ntmps9
    go_wp2_with (first
      | (go_at_call 17
         refine (HAL.out _).mono ?_
         rintro e w9 ⟨rfl, b9⟩)
      | (go_at_call 18
         exfalso
         omega))
    all_goals go_ret
    all_goals exact ⟨rfl, b9⟩
  obtain ⟨ha, hb⟩ := hc
  have HA := Lib.hid ha
  have HB := Lib.hid hb
  have hda : ((a.size : Int) != 64) = false := by rw [ha]; rfl
  have hdb : ((b.size : Int) != 64) = false := by rw [hb]; rfl
  have H0 := Lib.hid (step_new 4 (by decide) (by decide) w)
  clear ha hb
  go_enter Try.func9, Try.ntmps9
  go_wp2_with fail
  refine H0.out.mono ?_
  rintro e w1 ⟨bk, rfl, d1, b1⟩
  have H1 := step_admit d1 br0_good (by decide) b1.size 1 1
  rw [br1_ok] at H1
  dsimp only at H1
  have B1 := Lib.hid b1
  replace H1 := Lib.hid H1
  clear d1 b1 H0
  go_wp2_with fail
  refine H1.out.mono ?_
  rintro e w2 ⟨rfl, d2, b2⟩
  have B2 := Lib.hid (B1.out.trans b2)
  have H2 := step_admit d2 br1_good (by decide) B2.out.size 2 2
  rw [br2_ok] at H2
  dsimp only at H2
  replace H2 := Lib.hid H2
  clear d2 b2 H1 B1
  go_wp2_with fail
  refine H2.out.mono ?_
  rintro e w3 ⟨rfl, d3, b3⟩
  have B3 := Lib.hid (B2.out.trans b3)
  have H3 := step_write d3 br2_good (by decide) B3.out.size 1 1 0 a (by rw [HA.out]; decide)
  rw [br3_ok HA.out] at H3
  dsimp only at H3
  replace H3 := Lib.hid H3
  clear d3 b3 H2 B2
  go_wp2_with fail
  refine H3.out.mono ?_
  rintro e w4 ⟨rfl, d4, b4⟩
  have B4 := Lib.hid (B3.out.trans b4)
  have H4 := step_write d4 (br3_good HA.out) (by decide) B4.out.size 2 2 1 b (by rw [HB.out]; decide)
  rw [br4_ok HB.out] at H4
  dsimp only at H4
  replace H4 := Lib.hid H4
  clear d4 b4 H3 B3
  go_wp2_with fail
  refine H4.out.mono ?_
  rintro e w5 ⟨rfl, d5, b5⟩
  have B5 := Lib.hid (B4.out.trans b5)
  have H5 := step_barrier d5 (br4_good HA.out HB.out) (by decide) B5.out.size 2 2
  rw [br5_ok] at H5
  dsimp only at H5
  replace H5 := Lib.hid H5
  clear d5 b5 H4 B4
  go_wp2_with fail
  refine H5.out.mono ?_
  rintro e w6 ⟨rfl, d6, b6⟩
  have B6 := Lib.hid (B5.out.trans b6)
  have D6 := Lib.hid d6
  have H6 := step_barrier d6 (br5_good HA.out HB.out) (by decide) B6.out.size 1 1
  rw [br6_ok] at H6
  dsimp only at H6
  replace H6 := Lib.hid H6
  clear d6 b6 H5 B5
  have MK := made64
  have CV := zero_conv_new
  have g6 := Lib.hid (br6_good HA.out HB.out)
  have g7 := Lib.hid (br7_good HA.out HB.out)
  have fr : ∀ f wx, DiskS w.heap.size bk (cutOn (br6 a b f) []) wx → Below w.heap.size w wx → Calls Try.prog 25 #[.pointer (some ⟨bk, 0, none⟩)] wx (Ans w.heap.size bk (br7 a b f) wx (.tuple #[])) := fun f wx d bl => step_restore d ((g6.out f).cutOn []) bl.size
  have FR := Lib.hid fr
  clear fr
  cases fs
  case' true =>
    go_wp2_with fail
    refine H6.out.mono ?_
    rintro e w7 ⟨rfl, d7, b7⟩
    have D7 := Lib.hid d7
    have B7 := Lib.hid (B6.out.trans b7)
    clear d7 b7 D6 B6 H6
  case' false =>
    have d7 : DiskS w.heap.size bk (br6 a b false) w6 := D6.out
    have D7 := Lib.hid d7
    have B7 := B6
    clear d7
    clear D6 B6 H6
    generalize w6 = w7 at *
  all_goals have H7 := step_waiting D7.out (g6.out _) (by decide) B7.out.size 1
  all_goals rw [br6_wait1] at H7
  all_goals replace H7 := Lib.hid H7
  all_goals clear D7
  all_goals go_wp2_with fail
  all_goals refine H7.out.mono ?_
  all_goals rintro e w8 ⟨rfl, d8, b8⟩
  all_goals have B8 := Lib.hid (B7.out.trans b8)
  all_goals have H8 := step_waiting d8 (g6.out _) (by decide) B8.out.size 2
  all_goals rw [br6_wait2] at H8
  all_goals replace H8 := Lib.hid H8
  all_goals clear d8 b8 H7 B7
  all_goals go_wp2_with fail
  all_goals refine H8.out.mono ?_
  all_goals rintro e w9 ⟨rfl, d9, b9⟩
  all_goals have B9 := Lib.hid (B8.out.trans b9)
  all_goals have H9 := step_cut d9 (g6.out _) (by decide) B9.out.size (br6_on a b _) none 0 0 [] (Keep.nil _) (fun _ h => by cases h)
  all_goals rw [br6_waits] at H9
  all_goals replace H9 := Lib.hid H9
  all_goals clear d9 b9 H8 B8
  all_goals go_wp2_with fail
  all_goals refine H9.out.mono ?_
  all_goals rintro e w10 ⟨rfl, d10, b10⟩
  all_goals have B10 := Lib.hid (B9.out.trans b10)
  all_goals have H10 := Lib.hid (FR.out _ _ d10 B10.out)
  all_goals clear d10 b10 H9 B9
  all_goals go_wp2_with fail
  all_goals refine H10.out.mono ?_
  all_goals rintro e w11 ⟨rfl, d11, b11⟩
  all_goals have B11 := Lib.hid (B10.out.trans b11)
  all_goals have H11 := step_read d11 (g7.out _) (by decide) B11.out.size 0 1
  all_goals rw [br7_read0 HA.out HB.out] at H11
  all_goals dsimp only at H11
  all_goals replace H11 := Lib.hid H11
  all_goals clear d11 b11 H10 B10
  all_goals go_wp2_with fail
  all_goals refine H11.out.mono ?_
  all_goals rintro e w12 ⟨rfl, d12, b12⟩
  all_goals have B12 := Lib.hid (B11.out.trans b12)
  all_goals have H12 := step_read d12 (g7.out _) (by decide) B12.out.size 1 1
  all_goals rw [br7_read1 HA.out HB.out] at H12
  all_goals dsimp only at H12
  all_goals replace H12 := Lib.hid H12
  all_goals clear d12 b12 H11 B11
  all_goals go_wp2_with fail
  all_goals refine H12.out.mono ?_
  all_goals rintro e w13 ⟨rfl, d13, b13⟩
  all_goals have B13 := Lib.hid (B12.out.trans b13)
  all_goals have HAX := Lib.hid (HAL.out (w13.alloc (.cells (fillRow 0 64 0) 5)))
  all_goals have BB := Lib.hid (B13.out.alloc B13.out.size (.cells (fillRow 0 64 0) 5))
  all_goals clear d13 b13 H12 B12
  all_goals go_wp2_with fail
  all_goals refine HAX.out.mono ?_
  all_goals rintro e w14 ⟨rfl, b14⟩
  all_goals have B14 := Lib.hid (BB.out.trans (b14.mono BB.out.size))
  all_goals clear b14
  all_goals go_wp2
  all_goals go_ret
  all_goals exact ⟨rfl, B14.out⟩

end Go.Proofs.Ytkgdpmeheakdcaa
