/- Each method of a nil disk, and of the zero disk. -/
import Derived.Test.YtkgdpmeheakdcaaAlive
namespace Go.Proofs.Ytkgdpmeheakdcaa
open Go.RowKit
set_option linter.all false
set_option maxRecDepth 100000

theorem write_nil (node epoch a : Int) (data : ByteArray) (w : World) : Calls Try.prog 20 #[.pointer none, .int .i64 node, .int .u64 epoch, .int .i64 a, .string data] w fun e w' => e = .returned (.int .i64 14) ∧ w = w' := by
  have HM := Lib.hid (may_nil (w := w) node)
  go_enter Try.func20, Try.ntmps20
  go_wp2_with fail
  refine HM.out.mono ?_
  rintro e w1 ⟨rfl, rfl⟩
  go_wp2
  go_ret
  exact ⟨rfl, rfl⟩
theorem barrier_nil (node epoch : Int) (w : World) : Calls Try.prog 29 #[.pointer none, .int .i64 node, .int .u64 epoch] w fun e w' => e = .returned (.int .i64 14) ∧ w = w' := by
  have HM := Lib.hid (may_nil (w := w) node)
  go_enter Try.func29, Try.ntmps29
  go_wp2_with fail
  refine HM.out.mono ?_
  rintro e w1 ⟨rfl, rfl⟩
  go_wp2
  go_ret
  exact ⟨rfl, rfl⟩
theorem admit_nil (node epoch : Int) (w : World) : Calls Try.prog 19 #[.pointer none, .int .i64 node, .int .u64 epoch] w fun e w' => e = .returned (.int .i64 14) ∧ w = w' := by
  have HM := Lib.hid (may_nil (w := w) node)
  go_enter Try.func19, Try.ntmps19
  go_wp2_with fail
  refine HM.out.mono ?_
  rintro e w1 ⟨rfl, rfl⟩
  go_wp2
  go_ret
  exact ⟨rfl, rfl⟩
theorem fence_nil (node : Int) (w : World) : Calls Try.prog 33 #[.pointer none, .int .i64 node] w fun e w' => e = .returned (.int .i64 14) ∧ w = w' := by
  have HM := Lib.hid (may_nil (w := w) node)
  go_enter Try.func33, Try.ntmps33
  go_wp2_with fail
  refine HM.out.mono ?_
  rintro e w1 ⟨rfl, rfl⟩
  go_wp2
  go_ret
  exact ⟨rfl, rfl⟩
theorem put_nil (node word : Int) (w : World) : Calls Try.prog 23 #[.pointer none, .int .i64 node, .int .u64 word] w fun e w' => e = .returned (.int .i64 14) ∧ w = w' := by
  have HM := Lib.hid (may_nil (w := w) node)
  go_enter Try.func23, Try.ntmps23
  go_wp2_with fail
  refine HM.out.mono ?_
  rintro e w1 ⟨rfl, rfl⟩
  go_wp2
  go_ret
  exact ⟨rfl, rfl⟩
theorem read_nil (a n : Int) (w : World) : Calls Try.prog 22 #[.pointer none, .int .i64 a, .int .i64 n] w fun e w' => e = .returned (.tuple #[.string ⟨#[]⟩, .int .i64 14]) ∧ w = w' := by
  have HM := Lib.hid (on_nil (w := w))
  go_enter Try.func22, Try.ntmps22
  go_wp2_with fail
  refine HM.out.mono ?_
  rintro e w1 ⟨rfl, rfl⟩
  go_wp2
  go_ret2
  exact ⟨rfl, rfl⟩
theorem read_off {b : Nat} {D : DS} {nb lb : Option Nat} {wv sv : Value} {w : World} (h : BlkAt b D nb lb wv sv w) (hon : D.on = false) (a n : Int) :
    Calls Try.prog 22 #[.pointer (some ⟨b, 0, none⟩), .int .i64 a, .int .i64 n] w fun e w' => e = .returned (.tuple #[.string ⟨#[]⟩, .int .i64 14]) ∧ w = w' := by
  have HM := on_any h
  rw [hon] at HM
  replace HM := Lib.hid HM
  clear h hon
  go_enter Try.func22, Try.ntmps22
  go_wp2_with fail
  refine HM.out.mono ?_
  rintro e w1 ⟨rfl, rfl⟩
  go_wp2
  go_ret2
  exact ⟨rfl, rfl⟩
theorem restore_zero {b : Nat} {D : DS} {nb lb : Option Nat} {wv sv : Value} {w : World} (h : BlkAt b D nb lb wv sv w) (hs : D.sectors = 0) :
    Calls Try.prog 25 #[.pointer (some ⟨b, 0, none⟩)] w fun e w' => e = .returned (.tuple #[]) ∧ w = w' := by
  have h0 := h.c0
  rw [hs] at h0
  clear h hs
  go_enter Try.func25, Try.ntmps25
  go_wp2
  go_end0
  exact ⟨rfl, rfl⟩
theorem epoch_nil (node : Int) (w : World) : Calls Try.prog 27 #[.pointer none, .int .i64 node] w fun e w' => e = .returned (.int .u64 0) ∧ w = w' := by
  go_enter Try.func27, Try.ntmps27
  go_wp2
  go_ret
  exact ⟨rfl, rfl⟩
theorem word_nil (node : Int) (w : World) : Calls Try.prog 26 #[.pointer none, .int .i64 node] w fun e w' => e = .returned (.int .u64 0) ∧ w = w' := by
  go_enter Try.func26, Try.ntmps26
  go_wp2
  go_ret
  exact ⟨rfl, rfl⟩
theorem last_nil (w : World) : Calls Try.prog 28 #[.pointer none] w fun e w' => e = .returned (.int .u64 0) ∧ w = w' := by
  go_enter Try.func28, Try.ntmps28
  go_wp2
  go_ret
  exact ⟨rfl, rfl⟩
theorem sectors_nil (w : World) : Calls Try.prog 37 #[.pointer none] w fun e w' => e = .returned (.int .i64 0) ∧ w = w' := by
  go_enter Try.func37, Try.ntmps37
  go_wp2
  go_ret
  exact ⟨rfl, rfl⟩
theorem table_nil (w : World) : Calls Try.prog 38 #[.pointer none] w fun e w' => e = .returned (.slice none 0 0) ∧ w = w' := by
  go_enter Try.func38, Try.ntmps38
  go_wp2
  go_ret
  exact ⟨rfl, rfl⟩
theorem twin_nil (w : World) : Calls Try.prog 36 #[.pointer none] w fun e w' => e = .returned (.pointer none) ∧ w = w' := by
  go_enter Try.func36, Try.ntmps36
  go_wp2
  go_ret
  exact ⟨rfl, rfl⟩
theorem waiting_nil (node : Int) (w : World) : Calls Try.prog 34 #[.pointer none, .int .i64 node] w fun e w' => e = .returned (.int .i64 0) ∧ w = w' := by
  have HM := Lib.hid (on_nil (w := w))
  go_enter Try.func34, Try.ntmps34
  go_wp2_with fail
  refine HM.out.mono ?_
  rintro e w1 ⟨rfl, rfl⟩
  go_wp2
  go_ret
  exact ⟨rfl, rfl⟩

def zeroDS : DS := { newDS 0 with on := false }
theorem zeroCells (w : World) : (Instr.build 59 #[]).run Try.prog w = .ok (.agg (zeroDS.cells none none (.slice none 0 0) (.slice none 0 0))) w := by kernel_rfl
theorem zeroBlk (w : World) : BlkAt w.heap.size zeroDS none none (.slice none 0 0) (.slice none 0 0) (w.alloc (.cells (zeroDS.cells none none (.slice none 0 0) (.slice none 0 0)) 59)) := ⟨heap_alloc_new w _, rfl, rfl⟩
theorem BlkAt.below {b : Nat} {D : DS} {nb lb : Option Nat} {wv sv : Value} {w w' : World} (h : BlkAt b D nb lb wv sv w) (hb : Below w.heap.size w w') : BlkAt b D nb lb wv sv w' :=
  h.of_same (hb.block b (Array.getElem?_eq_some_iff.1 h.blk).1)
theorem one_int (w : World) : (Instr.buildSlice 34 1 #[(0, .int .i64 1)]).run Try.prog w = .ok (.slice (some ⟨w.heap.size, 0, none⟩) 1 1) (w.alloc (.cells #[.int .i64 1] 3)) := by kernel_rfl

theorem last_zero {b : Nat} {w : World} (h : BlkAt b zeroDS none none (.slice none 0 0) (.slice none 0 0) w) : Calls Try.prog 28 #[.pointer (some ⟨b, 0, none⟩)] w fun e w' => e = .returned (.int .u64 0) ∧ w = w' := last_any h
theorem sectors_zero {b : Nat} {w : World} (h : BlkAt b zeroDS none none (.slice none 0 0) (.slice none 0 0) w) : Calls Try.prog 37 #[.pointer (some ⟨b, 0, none⟩)] w fun e w' => e = .returned (.int .i64 0) ∧ w = w' := sectors_any h

set_option maxHeartbeats 4000000 in
theorem none_walk (node epoch : Int) (w : World) : Calls Try.prog 11 #[.int .i64 node, .int .u64 epoch] w fun e w' => e = .returned (.bool true) ∧ Below w.heap.size w w' := by
  have HZ := zeroCells
  obtain ⟨W, hW⟩ : ∃ W, W = w.alloc (.cells (zeroDS.cells none none (.slice none 0 0) (.slice none 0 0)) 59) := ⟨_, rfl⟩
  have hz := zeroBlk w
  have hbw : Below w.heap.size w W := by rw [hW]; exact (Below.refl _ _).alloc (Nat.le_refl _) _
  rw [← hW] at hz
  have HW := Lib.hid hW
  have ZB := Lib.hid hz
  have BW := Lib.hid hbw
  clear hW hz hbw
  have L1 := one_int
  go_enter Try.func11, Try.ntmps11
  go_upto_region 2 with fail
  go_cut [6] from 11 to 12 (fun s6 wx => s6 = .pointer (some ⟨w.heap.size, 0, none⟩) ∧ wx = W)
  case first =>
    go_wp2
    go_meet
    exact ⟨rfl, by rw [HW.out]; rfl⟩
  case rest =>
    obtain ⟨rfl, rfl⟩ := hcut
    clear HZ HW
    go_wp2_with fail
    refine (restore_zero ZB.out rfl).mono ?_
    rintro e x ⟨rfl, rfl⟩
    go_wp2_with fail
    refine (read_nil 0 1 _).mono ?_
    rintro e x ⟨rfl, rfl⟩
    go_wp2_with fail
    refine (read_off ZB.out rfl 0 1).mono ?_
    rintro e x ⟨rfl, rfl⟩
    go_wp2_with fail
    refine (alive_any _).mono ?_
    rintro e x ⟨rfl, bx1⟩
    have ZB1 := Lib.hid (ZB.out.below bx1)
    go_wp2_with fail
    refine (fill_any 97 1 (by decide) _).mono ?_
    rintro e x ⟨rfl, bx2⟩
    have ZB2 := Lib.hid (ZB1.out.below bx2)
    go_wp2_with fail
    refine (write_nil node epoch 0 _ _).mono ?_
    rintro e x ⟨rfl, rfl⟩
    go_wp2_with fail
    refine (barrier_nil node epoch _).mono ?_
    rintro e x ⟨rfl, rfl⟩
    go_wp2_with fail
    refine (admit_nil node epoch _).mono ?_
    rintro e x ⟨rfl, rfl⟩
    go_wp2_with fail
    refine (fence_nil node _).mono ?_
    rintro e x ⟨rfl, rfl⟩
    go_wp2_with fail
    refine (put_nil node 1 _).mono ?_
    rintro e x ⟨rfl, rfl⟩
    go_wp2_with fail
    refine (epoch_nil node _).mono ?_
    rintro e x ⟨rfl, rfl⟩
    go_wp2_with fail
    refine (word_nil node _).mono ?_
    rintro e x ⟨rfl, rfl⟩
    go_wp2_with fail
    refine (last_nil _).mono ?_
    rintro e x ⟨rfl, rfl⟩
    go_wp2_with fail
    refine (last_zero ZB2.out).mono ?_
    rintro e x ⟨rfl, rfl⟩
    go_wp2_with fail
    refine (waiting_nil node _).mono ?_
    rintro e x ⟨rfl, rfl⟩
    go_wp2_with fail
    refine (cut_nil _ _).mono ?_
    rintro e x ⟨rfl, rfl⟩
    go_wp2_with fail
    refine (sectors_nil _).mono ?_
    rintro e x ⟨rfl, rfl⟩
    go_wp2_with fail
    refine (sectors_zero (ZB2.out.below (below_alloc (Below.refl _ _) _))).mono ?_
    rintro e x ⟨rfl, rfl⟩
    go_wp2_with fail
    refine (table_nil _).mono ?_
    rintro e x ⟨rfl, rfl⟩
    go_wp2_with fail
    refine (on_nil).mono ?_
    rintro e x ⟨rfl, rfl⟩
    go_wp2_with fail
    refine (twin_nil _).mono ?_
    rintro e x ⟨rfl, rfl⟩
    go_wp2
    go_ret
    exact ⟨rfl, below_alloc (below_new (below_new BW.out bx1) bx2) _⟩

end Go.Proofs.Ytkgdpmeheakdcaa
