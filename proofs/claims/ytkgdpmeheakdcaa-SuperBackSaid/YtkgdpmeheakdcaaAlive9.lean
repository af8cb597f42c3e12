/- law9.alive answers true: walk. -/
import Derived.Test.YtkgdpmeheakdcaaFmtR
namespace Go.Proofs.Ytkgdpmeheakdcaa
open Go.RowKit
set_option linter.all false
set_option maxRecDepth 100000

theorem log0 (w : World) : Calls Try.prog 41 #[.agg #[.int .i64 2, .int .i64 10, .int .i64 8, .int .i64 4, .int .i64 32], .int .i64 2] w fun e w' => e = .returned (.tuple #[.int .i64 9, .int .i64 0]) ∧ Below w.heap.size w w' :=
  logat_any sh0 sh0_ok 2 (by decide) (by decide) w
theorem blk0 (w : World) : Calls Try.prog 42 #[.agg #[.int .i64 2, .int .i64 10, .int .i64 8, .int .i64 4, .int .i64 32], .int .i64 0] w fun e w' => e = .returned (.tuple #[.int .i64 17, .int .i64 0]) ∧ Below w.heap.size w w' :=
  blockat_any sh0 sh0_ok 0 w
theorem shape0 (w : World) : Calls Try.prog 73 #[] w fun e w' => e = .returned (.agg #[.int .i64 2, .int .i64 10, .int .i64 8, .int .i64 4, .int .i64 32]) ∧ Below w.heap.size w w' := by
  go_enter Try.func73, Try.ntmps73
  go_wp2
  exact bodyPost_ret (v := .agg #[.int .i64 2, .int .i64 10, .int .i64 8, .int .i64 4, .int .i64 32]) (by simp [results, Try.results73, go_sem]) rfl ⟨rfl, (Below.refl _ _).alloc (Nat.le_refl _) _⟩

def lyBlk (w : World) (q : Nat) : Prop := w.heap[q]? = some (.cells #[.int .i64 2, .int .i64 10, .int .i64 8, .int .i64 4, .int .i64 32] 67 (0, 0))
theorem lyBlk.lt {w : World} {q : Nat} (h : lyBlk w q) : q < w.heap.size := (Array.getElem?_eq_some_iff.1 h).1
theorem lyBlk.below {w w' : World} {q : Nat} (h : lyBlk w q) (hb : Below w.heap.size w w') : lyBlk w' q := (hb.block q h.lt).trans h
theorem lyBlk.grow {G : Nat → Prop} {w w' : World} {q : Nat} (h : lyBlk w q) (hb : Grow G w w') (hG : ¬ G q) : lyBlk w' q := (hb.block q h.lt hG).trans h

set_option maxHeartbeats 2000000 in
theorem alive9_any (w : World) : Calls Try.prog 40 #[] w fun e w' => e = .returned (.bool true) ∧ Below w.heap.size w w' := by
  have H0 := Lib.hid (shape0 w)
  go_enter Try.func40, Try.ntmps40
  go_wp2_with fail
  refine H0.out.mono ?_
  rintro e w1 ⟨rfl, hb⟩
  have hL1 : lyBlk (w1.alloc (.cells #[.int .i64 2, .int .i64 10, .int .i64 8, .int .i64 4, .int .i64 32] 67)) w1.heap.size := heap_alloc_new w1 _
  have hb1 : Below w.heap.size w (w1.alloc (.cells #[.int .i64 2, .int .i64 10, .int .i64 8, .int .i64 4, .int .i64 32] 67)) := hb.alloc hb.size _
  have L1 := Lib.hid hL1
  have B1 := Lib.hid hb1
  have H1 := Lib.hid (log0 (w1.alloc (.cells #[.int .i64 2, .int .i64 10, .int .i64 8, .int .i64 4, .int .i64 32] 67)))
  clear hL1 hb1 hb H0
  go_wp2_with fail
  refine H1.out.mono ?_
  rintro e w2 ⟨rfl, hb⟩
  have L2 := Lib.hid (L1.out.below hb)
  have B2 := Lib.hid (B1.out.trans (hb.mono B1.out.size))
  obtain ⟨c0, c1, c2, c3, c4⟩ := five_cells L2.out
  have H2 := Lib.hid (blk0 w2)
  clear hb H1 L1 B1
  go_wp2_with fail
  refine H2.out.mono ?_
  rintro e w3 ⟨rfl, hb⟩
  have L3 := Lib.hid (L2.out.below hb)
  have B3 := Lib.hid (B2.out.trans (hb.mono B2.out.size))
  have H3 := Lib.hid (stepP_new 40 (by decide) (by decide) w3)
  clear hb H2 L2 B2 c0 c1 c2 c3 c4
  go_wp2_with fail
  refine H3.out.mono ?_
  rintro e w4 ⟨b, rfl, hd, hb⟩
  have D4 := Lib.hid hd
  have L4 := Lib.hid (L3.out.below hb)
  have B4 := Lib.hid (B3.out.trans (hb.mono B3.out.size))
  have Q4 : Hid (w1.heap.size < w3.heap.size ∧ w3.heap.size ≤ w4.heap.size) := Lib.hid ⟨L3.out.lt, hb.size⟩
  have H4 := Lib.hid (shape0 w4)
  clear hd hb H3 L3
  go_wp2_with fail
  refine H4.out.mono ?_
  rintro e w5 ⟨rfl, hb⟩
  have D5 := Lib.hid (D4.out.below hb)
  have L5 := Lib.hid (L4.out.below hb)
  have B5 := Lib.hid (B4.out.trans (hb.mono B4.out.size))
  have Q5 : Hid (w1.heap.size < w3.heap.size ∧ w3.heap.size ≤ w5.heap.size) := Lib.hid ⟨Q4.out.1, Nat.le_trans Q4.out.2 hb.size⟩
  have H5 := Lib.hid (format_any (by decide) (by decide) D5.out (fun k hk => Nat.le_trans Q5.out.2 hk))
  clear hb H4 D4 L4 B4 Q4
  go_wp2_with fail
  refine H5.out.mono ?_
  rintro e w6 ⟨rfl, hd, hg⟩
  have D6 := Lib.hid hd
  have L6 := Lib.hid (L5.out.grow hg (fun h => by have := Q5.out.1; omega))
  have B6 := Lib.hid (B5.out.trans (hg.below B5.out.size (fun k hk => Nat.le_trans B3.out.size hk)))
  have H6 := Lib.hid (load_any D6.out (good_fm8 40 (by decide) (by decide) sb0 sb0_size) (by decide) (read_fm8 40 (by decide) sb0 sb0_size) (by rw [fm8_sectors]; decide))
  clear hd hg H5 D5 L5 B5 Q5
  go_wp2_with fail
  refine H6.out.mono ?_
  rintro e w7 ⟨rfl, hd, hb⟩
  have L7 := Lib.hid (L6.out.below hb)
  have B7 := Lib.hid (B6.out.trans (hb.mono B6.out.size))
  clear hd hb H6 D6 L6 B6
  have hM8 : lyBlk (w7.alloc (.cells #[.int .i64 2, .int .i64 10, .int .i64 8, .int .i64 4, .int .i64 32] 67)) w7.heap.size := heap_alloc_new w7 _
  have hab : Below w7.heap.size w7 (w7.alloc (.cells #[.int .i64 2, .int .i64 10, .int .i64 8, .int .i64 4, .int .i64 32] 67)) := (Below.refl _ _).alloc (Nat.le_refl _) _
  have M8 := Lib.hid hM8
  have L8 := Lib.hid (L7.out.below hab)
  have B8 := Lib.hid (B7.out.trans (hab.mono B7.out.size))
  have H8 := Lib.hid (shape0 (w7.alloc (.cells #[.int .i64 2, .int .i64 10, .int .i64 8, .int .i64 4, .int .i64 32] 67)))
  clear hM8 hab L7 B7
  go_wp2_with fail
  refine H8.out.mono ?_
  rintro e w9 ⟨rfl, hb⟩
  have M9 := Lib.hid (M8.out.below hb)
  have L9 := Lib.hid (L8.out.below hb)
  have B9 := Lib.hid (B8.out.trans (hb.mono B8.out.size))
  have H9 := Lib.hid (size0 w9)
  clear hb H8 M8 L8 B8
  go_wp2_with fail
  refine H9.out.mono ?_
  rintro e w10 ⟨rfl, hb⟩
  have M10 := Lib.hid (M9.out.below hb)
  have L10 := Lib.hid (L9.out.below hb)
  have B10 := Lib.hid (B9.out.trans (hb.mono B9.out.size))
  obtain ⟨c0, c1, c2, c3, c4⟩ := five_cells L10.out
  obtain ⟨m0, m1, m2, m3, m4⟩ := five_cells M10.out
  clear hb H9 M9 L9 B9
  go_wp2
  go_ret
  exact ⟨rfl, B10.out⟩

end Go.Proofs.Ytkgdpmeheakdcaa
