/- LogNone: of no log, of a zero log: walk. -/
import Derived.Test.YtkgdpmeheakdcaaGreatLogH
namespace Go.Proofs.YtkgdpmeheakdcaaGreat
open Go.RowKit
set_option linter.all false
set_option maxRecDepth 100000

/-- The cells of a zero log. -/
def zLog : Array Value := #[.pointer none, .int .i64 0, .int .i64 0, .int .i64 0, .int .i64 0, .int .i64 0, .int .i64 0, .int .u64 0, .int .i64 0, .int .u64 0, .int .u64 0, .int .i64 0, .int .u64 0, .int .u64 0, .pointer none, .bool false]
theorem builtZ (w : World) : (Instr.build 61 #[]).run Tryz.prog w = .ok (.agg zLog) w := by kernel_rfl
/-- No log: nil, or a zero one. -/
def NoLog (p : Option Addr) (w : World) : Prop := p = none ∨ ∃ g, p = some ⟨g, 0, none⟩ ∧ w.heap[g]? = some (.cells zLog 61 (0, 0))
theorem NoLog.below {p : Option Addr} {w w' : World} (h : NoLog p w) (hb : Below w.heap.size w w') : NoLog p w' := by
  rcases h with h | ⟨g, h, hh⟩
  · exact .inl h
  · exact .inr ⟨g, h, (hb.block g (Array.getElem?_eq_some_iff.1 hh).1).trans hh⟩

section
variable {p : Option Addr} {w : World}
theorem no_none (h : NoLog p w) : Calls Tryz.prog 61 #[.pointer p] w fun e w' => e = .returned (.bool true) ∧ w = w' := by
  rcases h with rfl | ⟨g, rfl, hh⟩
  · go_enter Tryz.func61, Tryz.ntmps61
    go_wp2
    go_ret
    exact ⟨rfl, rfl⟩
  · have c0 : w.cell? ⟨g, 0, none⟩ = some (.pointer none) := by simp [World.cell?, hh, zLog]
    clear hh
    go_enter Tryz.func61, Tryz.ntmps61
    go_wp2
    go_ret
    exact ⟨rfl, rfl⟩
theorem no_may (h : NoLog p w) : Calls Tryz.prog 55 #[.pointer p] w fun e w' => e = .returned (.int .i64 1) ∧ w = w' := by
  have HN := Lib.hid (no_none h)
  clear h
  go_enter Tryz.func55, Tryz.ntmps55
  go_wp2_with fail
  refine HN.out.mono ?_
  rintro e w1 ⟨rfl, rfl⟩
  go_wp2
  go_ret
  exact ⟨rfl, rfl⟩
theorem no_next (h : NoLog p w) : Calls Tryz.prog 18 #[.pointer p] w fun e w' => e = .returned (.int .u64 0) ∧ w = w' := by
  have HN := Lib.hid (no_none h)
  clear h
  go_enter Tryz.func18, Tryz.ntmps18
  go_wp2_with fail
  refine HN.out.mono ?_
  rintro e w1 ⟨rfl, rfl⟩
  go_wp2
  go_ret
  exact ⟨rfl, rfl⟩
theorem no_written (h : NoLog p w) : Calls Tryz.prog 27 #[.pointer p] w fun e w' => e = .returned (.int .u64 0) ∧ w = w' := by
  have HN := Lib.hid (no_none h)
  clear h
  go_enter Tryz.func27, Tryz.ntmps27
  go_wp2_with fail
  refine HN.out.mono ?_
  rintro e w1 ⟨rfl, rfl⟩
  go_wp2
  go_ret
  exact ⟨rfl, rfl⟩
theorem no_synced (h : NoLog p w) : Calls Tryz.prog 28 #[.pointer p] w fun e w' => e = .returned (.int .u64 0) ∧ w = w' := by
  have HN := Lib.hid (no_none h)
  clear h
  go_enter Tryz.func28, Tryz.ntmps28
  go_wp2_with fail
  refine HN.out.mono ?_
  rintro e w1 ⟨rfl, rfl⟩
  go_wp2
  go_ret
  exact ⟨rfl, rfl⟩
theorem no_first (h : NoLog p w) : Calls Tryz.prog 29 #[.pointer p] w fun e w' => e = .returned (.int .u64 0) ∧ w = w' := by
  have HN := Lib.hid (no_none h)
  clear h
  go_enter Tryz.func29, Tryz.ntmps29
  go_wp2_with fail
  refine HN.out.mono ?_
  rintro e w1 ⟨rfl, rfl⟩
  go_wp2
  go_ret
  exact ⟨rfl, rfl⟩
theorem no_used (h : NoLog p w) : Calls Tryz.prog 19 #[.pointer p] w fun e w' => e = .returned (.int .i64 0) ∧ w = w' := by
  have HN := Lib.hid (no_none h)
  clear h
  go_enter Tryz.func19, Tryz.ntmps19
  go_wp2_with fail
  refine HN.out.mono ?_
  rintro e w1 ⟨rfl, rfl⟩
  go_wp2
  go_ret
  exact ⟨rfl, rfl⟩
theorem no_pending (h : NoLog p w) : Calls Tryz.prog 20 #[.pointer p] w fun e w' => e = .returned (.int .i64 0) ∧ w = w' := by
  have HN := Lib.hid (no_none h)
  clear h
  go_enter Tryz.func20, Tryz.ntmps20
  go_wp2_with fail
  refine HN.out.mono ?_
  rintro e w1 ⟨rfl, rfl⟩
  go_wp2
  go_ret
  exact ⟨rfl, rfl⟩
theorem no_broken (h : NoLog p w) : Calls Tryz.prog 21 #[.pointer p] w fun e w' => e = .returned (.bool false) ∧ w = w' := by
  have HN := Lib.hid (no_none h)
  clear h
  go_enter Tryz.func21, Tryz.ntmps21
  go_wp2_with fail
  refine HN.out.mono ?_
  rintro e w1 ⟨rfl, rfl⟩
  go_wp2
  go_ret
  exact ⟨rfl, rfl⟩
theorem no_fits (h : NoLog p w) (n : Int) : Calls Tryz.prog 23 #[.pointer p, .int .i64 n] w fun e w' => e = .returned (.bool false) ∧ w = w' := by
  have HN := Lib.hid (no_may h)
  clear h
  go_enter Tryz.func23, Tryz.ntmps23
  go_wp2_with fail
  refine HN.out.mono ?_
  rintro e w1 ⟨rfl, rfl⟩
  go_wp2
  go_ret
  exact ⟨rfl, rfl⟩
theorem no_write (h : NoLog p w) : Calls Tryz.prog 26 #[.pointer p] w fun e w' => e = .returned (.tuple #[.int .i64 0, .int .i64 1]) ∧ w = w' := by
  have HN := Lib.hid (no_may h)
  clear h
  go_enter Tryz.func26, Tryz.ntmps26
  go_wp2_with fail
  refine HN.out.mono ?_
  rintro e w1 ⟨rfl, rfl⟩
  go_wp2
  go_ret2
  exact ⟨rfl, rfl⟩
theorem no_sync (h : NoLog p w) : Calls Tryz.prog 24 #[.pointer p] w fun e w' => e = .returned (.int .i64 1) ∧ w = w' := by
  have HN := Lib.hid (no_write h)
  clear h
  go_enter Tryz.func24, Tryz.ntmps24
  go_wp2_with fail
  refine HN.out.mono ?_
  rintro e w1 ⟨rfl, rfl⟩
  go_wp2
  go_ret
  exact ⟨rfl, rfl⟩
theorem no_free (h : NoLog p w) (v : Int) : Calls Tryz.prog 25 #[.pointer p, .int .u64 v] w fun e w' => e = .returned (.int .i64 1) ∧ w = w' := by
  have HN := Lib.hid (no_may h)
  clear h
  go_enter Tryz.func25, Tryz.ntmps25
  go_wp2_with fail
  refine HN.out.mono ?_
  rintro e w1 ⟨rfl, rfl⟩
  go_wp2
  go_ret
  exact ⟨rfl, rfl⟩
theorem no_add (h : NoLog p w) (v : Value) : Calls Tryz.prog 16 #[.pointer p, v] w fun e w' => e = .returned (.tuple #[.int .u64 0, .int .i64 1]) ∧ w = w' := by
  have HN := Lib.hid (no_may h)
  clear h
  go_enter Tryz.func16, Tryz.ntmps16
  go_wp2_with fail
  refine HN.out.mono ?_
  rintro e w1 ⟨rfl, rfl⟩
  go_wp2
  go_ret2
  exact ⟨rfl, rfl⟩
end
theorem open_nil (w : World) : Calls Tryz.prog 15 #[.pointer none, .agg #[.int .i64 2, .int .i64 10, .int .i64 8, .int .i64 4, .int .i64 32], .int .i64 1, .int .u64 9] w fun e w' => e = .returned (.tuple #[.pointer none, .int .i64 1]) ∧ Below w.heap.size w w' := by
  have ha : Below w.heap.size w (w.alloc (.cells #[.int .i64 2, .int .i64 10, .int .i64 8, .int .i64 4, .int .i64 32] 31)) := (Below.refl _ _).alloc (Nat.le_refl _) _
  have HA := Lib.hid ha
  clear ha
  go_enter Tryz.func15, Tryz.ntmps15
  go_wp2
  go_ret2
  exact ⟨rfl, HA.out⟩

set_option maxHeartbeats 8000000 in
theorem lnone_walk (v n : Int) (w : World) :
    Calls Tryz.prog 6 #[.int .u64 v, .int .i64 n] w fun e w' => e = .returned (.bool true) ∧ Below w.heap.size w w' := by
  have HAL := Lib.hid alive12_any
  have N0 : Hid (∀ w, NoLog none w) := Lib.hid (fun w => .inl rfl)
  have Z0 : Hid (NoLog (some ⟨w.heap.size, 0, none⟩) (w.alloc (.cells zLog 61))) := Lib.hid (.inr ⟨_, rfl, heap_alloc_new w _⟩)
  have B0 : Hid (Below w.heap.size w (w.alloc (.cells zLog 61))) := Lib.hid ((Below.refl _ _).alloc (Nat.le_refl _) _)
  unfold zLog at Z0 B0
  obtain ⟨zp, hzp⟩ : ∃ zp : Option Addr, zp = some ⟨w.heap.size, 0, none⟩ := ⟨_, rfl⟩
  have HZP := Lib.hid hzp
  rw [← hzp] at Z0
  clear hzp
  have H0 := Lib.hid (ready_any (w.alloc (.cells zLog 61)))
  unfold zLog at H0
  have HON := Lib.hid open_nil
  have H1 := Lib.hid (one_any 1 1 (by decide))
  unfold oneI Im.val at H1
  dsimp only at H1
  go_enter Tryz.func6, Tryz.ntmps6
  go_wp2_with fail
  refine H0.out.mono ?_
  rintro e w1 ⟨b, p, m, rfl, hd, hr, hb, hm⟩
  have Z1 := Lib.hid (Z0.out.below hb)
  have hb1 := B0.out.trans (hb.mono B0.out.size)
  have ha : Below w1.heap.size w1 (w1.alloc (.cells #[.int .i64 2, .int .i64 10, .int .i64 8, .int .i64 4, .int .i64 32] 31)) := (Below.refl _ _).alloc (Nat.le_refl _) _
  have Z2 := Lib.hid (Z1.out.below ha)
  have B2 := Lib.hid (hb1.trans (ha.mono hb1.size))
  clear hd hr hb hm ha hb1 H0 Z0 B0 Z1
  rw [show (Value.pointer (some ⟨w.heap.size, 0, none⟩)) = .pointer zp by rw [HZP.out]]
  go_wp2_with fail
  refine (HON.out _).mono ?_
  rintro e w3 ⟨rfl, hb⟩
  have Z3 := Lib.hid (Z2.out.below hb)
  have B3 := Lib.hid (B2.out.trans (hb.mono B2.out.size))
  clear hb Z2 B2 HON
  go_wp2_with fail
  refine (H1.out w3).mono ?_
  rintro e w4 ⟨rfl, hb⟩
  have hmk := mkIm ((1 : Nat) : Int) ((1 : Nat) : Int) (str (oneL 1)) w4
  have ha : Below w4.heap.size w4 (w4.alloc (.cells #[.int .i64 ((1 : Nat) : Int), .int .u64 ((1 : Nat) : Int), .string (str (oneL 1))] 24)) := (Below.refl _ _).alloc (Nat.le_refl _) _
  have Z4 := Lib.hid ((Z3.out.below hb).below ha)
  have hb4 := B3.out.trans (hb.mono B3.out.size)
  have B4 := Lib.hid (hb4.trans (ha.mono hb4.size))
  have A4 := Lib.hid (no_add (N0.out (w4.alloc (.cells #[.int .i64 ((1 : Nat) : Int), .int .u64 ((1 : Nat) : Int), .string (str (oneL 1))] 24))) (.slice (some ⟨w4.heap.size, 0, none⟩) 1 1))
  clear hb ha hb4 Z3 B3
  go_wp2_with fail
  refine A4.out.mono ?_
  rintro e w5 ⟨rfl, rfl⟩
  clear hmk A4
  generalize w4.alloc (.cells #[.int .i64 ((1 : Nat) : Int), .int .u64 ((1 : Nat) : Int), .string (str (oneL 1))] 24) = W5 at *
  go_wp2_with fail
  refine (H1.out W5).mono ?_
  rintro e w6 ⟨rfl, hb⟩
  have hmk := mkIm ((1 : Nat) : Int) ((1 : Nat) : Int) (str (oneL 1)) w6
  have ha : Below w6.heap.size w6 (w6.alloc (.cells #[.int .i64 ((1 : Nat) : Int), .int .u64 ((1 : Nat) : Int), .string (str (oneL 1))] 24)) := (Below.refl _ _).alloc (Nat.le_refl _) _
  have Z6 := Lib.hid ((Z4.out.below hb).below ha)
  have hb6 := B4.out.trans (hb.mono B4.out.size)
  have B6 := Lib.hid (hb6.trans (ha.mono hb6.size))
  have A6 := Lib.hid (no_add Z6.out (.slice (some ⟨w6.heap.size, 0, none⟩) 1 1))
  clear hb ha hb6 Z4 B4
  go_wp2_with fail
  refine A6.out.mono ?_
  rintro e w7 ⟨rfl, rfl⟩
  clear hmk A6
  generalize w6.alloc (.cells #[.int .i64 ((1 : Nat) : Int), .int .u64 ((1 : Nat) : Int), .string (str (oneL 1))] 24) = W7 at *
  have X1 := Lib.hid (no_write (N0.out W7))
  go_wp2_with fail
  refine X1.out.mono ?_
  rintro e w8 ⟨rfl, rfl⟩
  have X2 := Lib.hid (no_write Z6.out)
  go_wp2_with fail
  refine X2.out.mono ?_
  rintro e w8 ⟨rfl, rfl⟩
  go_wp2_with fail
  refine (HAL.out W7).mono ?_
  rintro e w8 ⟨rfl, hb⟩
  have Z8 := Lib.hid (Z6.out.below hb)
  have B8 := Lib.hid (B6.out.trans (hb.mono B6.out.size))
  clear hb Z6 B6 X1 X2 HAL H1
  have X := Lib.hid (no_sync (N0.out w8))
  go_wp2_with fail
  refine X.out.mono ?_
  rintro e w9 ⟨rfl, rfl⟩
  replace X := Lib.hid (no_sync Z8.out)
  go_wp2_with fail
  refine X.out.mono ?_
  rintro e w9 ⟨rfl, rfl⟩
  replace X := Lib.hid (no_free (N0.out w8) v)
  go_wp2_with fail
  refine X.out.mono ?_
  rintro e w9 ⟨rfl, rfl⟩
  replace X := Lib.hid (no_free Z8.out v)
  go_wp2_with fail
  refine X.out.mono ?_
  rintro e w9 ⟨rfl, rfl⟩
  replace X := Lib.hid (no_fits (N0.out w8) n)
  go_wp2_with fail
  refine X.out.mono ?_
  rintro e w9 ⟨rfl, rfl⟩
  replace X := Lib.hid (no_fits Z8.out n)
  go_wp2_with fail
  refine X.out.mono ?_
  rintro e w9 ⟨rfl, rfl⟩
  replace X := Lib.hid (no_next (N0.out w8))
  go_wp2_with fail
  refine X.out.mono ?_
  rintro e w9 ⟨rfl, rfl⟩
  replace X := Lib.hid (no_written (N0.out w8))
  go_wp2_with fail
  refine X.out.mono ?_
  rintro e w9 ⟨rfl, rfl⟩
  replace X := Lib.hid (no_synced (N0.out w8))
  go_wp2_with fail
  refine X.out.mono ?_
  rintro e w9 ⟨rfl, rfl⟩
  replace X := Lib.hid (no_first (N0.out w8))
  go_wp2_with fail
  refine X.out.mono ?_
  rintro e w9 ⟨rfl, rfl⟩
  replace X := Lib.hid (no_written Z8.out)
  go_wp2_with fail
  refine X.out.mono ?_
  rintro e w9 ⟨rfl, rfl⟩
  replace X := Lib.hid (no_synced Z8.out)
  go_wp2_with fail
  refine X.out.mono ?_
  rintro e w9 ⟨rfl, rfl⟩
  replace X := Lib.hid (no_used (N0.out w8))
  go_wp2_with fail
  refine X.out.mono ?_
  rintro e w9 ⟨rfl, rfl⟩
  replace X := Lib.hid (no_pending (N0.out w8))
  go_wp2_with fail
  refine X.out.mono ?_
  rintro e w9 ⟨rfl, rfl⟩
  replace X := Lib.hid (no_used Z8.out)
  go_wp2_with fail
  refine X.out.mono ?_
  rintro e w9 ⟨rfl, rfl⟩
  replace X := Lib.hid (no_pending Z8.out)
  go_wp2_with fail
  refine X.out.mono ?_
  rintro e w9 ⟨rfl, rfl⟩
  replace X := Lib.hid (no_broken (N0.out w8))
  go_wp2_with fail
  refine X.out.mono ?_
  rintro e w9 ⟨rfl, rfl⟩
  go_wp2
  go_ret
  exact ⟨rfl, B8.out⟩

end Go.Proofs.YtkgdpmeheakdcaaGreat
