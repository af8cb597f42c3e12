/- alive: the first call of each law, which answers true. -/
import Derived.Test.YtkgdpmeheakdcaaStep
import Derived.Deep.RegionWith
namespace Go.Proofs.Ytkgdpmeheakdcaa
open Go.RowKit
set_option linter.all false
set_option maxRecDepth 100000

theorem keep_lit (w : World) (zs : List Int) (hz : zs.length ≤ 1000) : Keep (w.alloc (.cells (intCells zs).toArray 3)) (some ⟨w.heap.size, 0, none⟩) zs.length zs :=
  by
  refine ⟨rfl, fun h => (by cases h), ?_, by omega⟩
  intro a ha j u hu
  cases ha
  have hadd : (Addr.add ⟨w.heap.size, 0, none⟩ j) = ⟨w.heap.size, j, none⟩ := by
    by_cases hj0 : j = 0
    · subst hj0; rfl
    · simp [Addr.add, hj0]
  rw [hadd]
  simp only [World.cell?, heap_alloc_new]
  simpa using hu

def al1 : DS := (admitR (newDS 4) 1 1).2
def al2 : DS := (writeR al1 1 1 0 (fillB 97 128)).2
def al3 : DS := cutOn al2 [0, 1]
def al4 : DS := restD al3
def alW : DS := (writeR al4 1 2 0 (fillB 97 64)).2
theorem al1_ok : admitR (newDS 4) 1 1 = (0, al1) := Prod.ext (by kernel_rfl) rfl
theorem al2_ok : writeR al1 1 1 0 (fillB 97 128) = (0, al2) := Prod.ext (by kernel_rfl) rfl
theorem al2_on : al2.on = true := by kernel_rfl
theorem al2_waits : al2.waits.length = 2 := by kernel_rfl
theorem al4_last : al4.last = 1 := by kernel_rfl
theorem al4_read : readR al4 0 2 = (fillB 0 64 ++ fillB 97 64, 0) := by kernel_rfl
theorem alW_no : writeR al4 1 2 0 (fillB 97 64) = (34, alW) := Prod.ext (by kernel_rfl) rfl
theorem al0_good : Good 0 (newDS 4) := good_new 4 (by decide) (by decide)
theorem al1_good : Good 0 al1 := al0_good.admitted 1 1
theorem al2_good : Good 16 al2 := al1_good.write 1 1 0 _
theorem al3_good : Good 16 al3 := al2_good.cutOn _
theorem al4_good : Good 16 al4 := al3_good.restore

theorem two_ints (w : World) : (Instr.buildSlice 34 2 #[(0, .int .i64 0), (1, .int .i64 1)]).run Try.prog w = .ok (.slice (some ⟨w.heap.size, 0, none⟩) 2 2) (w.alloc (.cells (intCells [0, 1]).toArray 3)) := by kernel_rfl

theorem al_last {base b : Nat} {w8 x : World} (d : DiskS base b al4 w8) (h : Below w8.heap.size w8 x) : Calls Try.prog 28 #[.pointer (some ⟨b, 0, none⟩)] x fun e w' => e = .returned (.int .u64 1) ∧ x = w' := by
  have := step_last (d.below h)
  rw [al4_last] at this
  exact this
theorem al_write {b : Nat} {w w8 x : World} (d : DiskS w.heap.size b al4 w8) (hb : Below w.heap.size w w8) (h : Below w8.heap.size w8 x) :
    Calls Try.prog 20 #[.pointer (some ⟨b, 0, none⟩), .int .i64 1, .int .u64 2, .int .i64 0, .string (fillB 97 64)] x fun e w' => e = .returned (.int .i64 34) ∧ Below w.heap.size w w' := by
  have hx : Below w.heap.size w x := hb.trans (h.mono hb.size)
  have H := step_write (d.below h) al4_good (by decide) hx.size 1 2 0 (fillB 97 64) (by rw [fillB_size]; decide)
  rw [alW_no] at H
  refine H.mono ?_
  rintro e w' ⟨rfl, _, h3⟩
  exact ⟨rfl, hx.trans h3⟩

set_option maxHeartbeats 4000000 in
theorem alive_any (w : World) : Calls Try.prog 17 #[] w fun e w' => e = .returned (.bool true) ∧ Below w.heap.size w w' := by
  have H0 := Lib.hid (step_new 4 (by decide) (by decide) w)
  go_enter Try.func17, Try.ntmps17
  go_wp2_with fail
  refine H0.out.mono ?_
  rintro e w1 ⟨b, rfl, d1, b1⟩
  have D1 := Lib.hid d1
  have B1 := Lib.hid b1
  have H1 := step_admit d1 al0_good (by decide) b1.size 1 1
  rw [al1_ok] at H1
  dsimp only at H1
  replace H1 := Lib.hid H1
  clear d1 b1
  go_wp2_with fail
  refine H1.out.mono ?_
  rintro e w2 ⟨rfl, d2, b2⟩
  have B2 := Lib.hid (B1.out.trans b2)
  have F2 := Lib.hid (fill_any 97 2 (by decide) w2)
  have D2 := Lib.hid d2
  clear d2 b2
  go_wp2_with fail
  refine F2.out.mono ?_
  rintro e w3 ⟨rfl, b3⟩
  have d3 := D2.out.below b3
  have B3 := Lib.hid (B2.out.trans (b3.mono B2.out.size))
  have H3 := step_write d3 al1_good (by decide) B3.out.size 1 1 0 (fillB 97 128) (by rw [fillB_size]; decide)
  rw [al2_ok] at H3
  dsimp only at H3
  replace H3 := Lib.hid H3
  clear d3 b3
  go_wp2_with fail
  refine H3.out.mono ?_
  rintro e w4 ⟨rfl, d4, b4⟩
  have B4 := Lib.hid (B3.out.trans b4)
  have L4 := two_ints w4
  have d5 := d4.below (w' := w4.alloc (.cells (intCells [0, 1]).toArray 3)) ((Below.refl _ _).alloc (Nat.le_refl _) _)
  have B5 := Lib.hid (B4.out.alloc B4.out.size (.cells (intCells [0, 1]).toArray 3))
  have H5 := step_cut d5 al2_good (by decide) B5.out.size al2_on (some ⟨w4.heap.size, 0, none⟩) 2 2 [0, 1] (keep_lit w4 [0, 1] (by decide)) (fun a ha _ => by cases ha; have := d4.lt; exact fun e => by simp at e; omega)
  rw [al2_waits] at H5
  replace H5 := Lib.hid H5
  clear d4 b4 d5
  go_wp2_with fail
  refine H5.out.mono ?_
  rintro e w6 ⟨rfl, d6, b6⟩
  have B6 := Lib.hid (B5.out.trans b6)
  have H6 : Calls Try.prog _ _ _ (Ans w.heap.size b al4 w6 (.tuple #[])) := step_restore d6 al3_good B6.out.size
  replace H6 := Lib.hid H6
  clear d6 b6
  go_wp2_with fail
  refine H6.out.mono ?_
  rintro e w7 ⟨rfl, d7, b7⟩
  have B7 := Lib.hid (B6.out.trans b7)
  have H7 := step_read d7 al4_good (by decide) B7.out.size 0 2
  rw [al4_read] at H7
  dsimp only at H7
  replace H7 := Lib.hid H7
  clear d7 b7
  go_wp2_with fail
  refine H7.out.mono ?_
  rintro e w8 ⟨rfl, d8, b8⟩
  have B8 := Lib.hid (B7.out.trans b8)
  have D8 := Lib.hid d8
  clear d8 b8
  have FF : ∀ wx : World, Calls Try.prog 21 #[.string ⟨#[97]⟩, .int .i64 1] wx fun e w' => e = .returned (.string (fillB 97 64)) ∧ Below wx.heap.size wx w' := fun wx => fill_any 97 1 (by decide) wx
  have FH := Lib.hid FF
  have hmk := made64
  have hcv := zero_conv_new
  have hcv2 := zero_conv_new_d
  clear FF H0 H1 F2 H3 H5 H6 H7 L4 D2 D1 B1 B2 B3 B4 B5 B6 B7
  go_upto_region 6 with fail
  go_region_with (first
    | (go_at_call 21
       refine (FH.out _).mono ?_
       rintro e x1 ⟨rfl, bx⟩
       try have hcx := zero_conv_keep bx)
    | (go_at_call 28
       refine (al_last D8.out ?_).mono ?_
       · repeat (first | exact Below.refl _ _ | assumption | apply below_alloc | apply Below.drew | (refine below_new ?_ (by assumption)))
       rintro e x2 ⟨rfl, rfl⟩)
    | (go_at_call 20
       refine (al_write D8.out B8.out ?_).mono ?_
       · repeat (first | exact Below.refl _ _ | assumption | apply below_alloc | apply Below.drew | (refine below_new ?_ (by assumption)))
       rintro e x3 ⟨rfl, bx3⟩))
  all_goals go_wp2
  all_goals go_ret
  all_goals exact ⟨rfl, bx3⟩

end Go.Proofs.Ytkgdpmeheakdcaa
