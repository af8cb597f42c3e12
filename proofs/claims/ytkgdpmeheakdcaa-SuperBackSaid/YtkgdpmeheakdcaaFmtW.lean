/- super: walks of zeros, lay, Format, Load. -/
import Derived.Test.YtkgdpmeheakdcaaStepP
namespace Go.Proofs.Ytkgdpmeheakdcaa
open Go.RowKit
set_option linter.all false
set_option maxRecDepth 100000

section
variable {R : Nat → Prop} {b : Nat} {w : World} {n : Int}

theorem zstep (hn : 37 ≤ n) (hn2 : n ≤ 20000) (k : Nat) (hk : k < 3) (d : DiskP R b (fmZ n k) w) (hR : ∀ k, w.heap.size ≤ k → R k) :
    Calls Try.prog 20 #[.pointer (some ⟨b, 0, none⟩), .int .i64 0, .int .u64 1, .int .i64 (16 * (k : Int)), .string (zb (min 16 (37 - 16 * k)))] w (AnsP R b (fmZ n (k + 1)) w (.int .i64 0)) := by
  have H := stepP_write d (good_fmZ n (by omega) hn2 k (by omega)) (by omega) hR 0 1 (16 * (k : Int)) (zb (min 16 (37 - 16 * k))) (by rw [zb_size]; omega)
  rw [write_fmZ n hn k hk] at H
  exact H

def zLoop (R : Nat → Prop) (b : Nat) (n : Int) (w : World) (k : Nat) (wr : World) : Prop := DiskP R b (fmZ n k) wr ∧ Grow R w wr

set_option maxHeartbeats 1000000 in
theorem zeros_any (hn : 37 ≤ n) (hn2 : n ≤ 20000) (d : DiskP R b (fmZ n 0) w) (hR : ∀ k, w.heap.size ≤ k → R k) :
    Calls Try.prog 125 #[.pointer (some ⟨b, 0, none⟩), .int .u64 1, .int .i64 37] w (AnsP R b (fm5 n) w (.int .i64 0)) := by
  have HD : Hid (zLoop R b n w 0 w) := Lib.hid ⟨d, Grow.refl _ _⟩
  clear d
  go_enter Try.func125, Try.ntmps125
  go_wp2
  go_loopw [7] (fun i wr => ∃ k : Nat, k ≤ 3 ∧ i = .int .i64 (16 * (k : Int)) ∧ zLoop R b n w k wr) (fun i _ => 48 - (intOf i).toNat)
  case atStart => exact ⟨0, by omega, rfl, HD.out⟩
  case round =>
    obtain ⟨k, hk, rfl, hd, hb⟩ := hrel
    have HDK := Lib.hid hd
    have HBK := Lib.hid hb
    clear hd hb
    rcases (show k = 0 ∨ k = 1 ∨ k = 2 ∨ k = 3 by omega) with rfl | rfl | rfl | rfl
    · have HR : Hid (Calls Try.prog 61 #[.string ⟨#[0]⟩, .int .i64 1024] wr fun e w' => e = .returned (.string (zb 16)) ∧ Below wr.heap.size wr w') := Lib.hid (repeat_zero 1024 (by decide) wr)
      go_wp2_with fail
      refine HR.out.mono ?_
      rintro e w1 ⟨rfl, hb1⟩
      have HW : Hid (Calls Try.prog 20 #[.pointer (some ⟨b, 0, none⟩), .int .i64 0, .int .u64 1, .int .i64 0, .string (zb 16)] w1 (AnsP R b (fmZ n 1) w1 (.int .i64 0))) := Lib.hid (zstep hn hn2 0 (by decide) (HDK.out.below hb1) (fun q hq => hR q (Nat.le_trans (Nat.le_trans HBK.out.size hb1.size) hq)))
      have HB1 := Lib.hid (HBK.out.trans (Grow.of_below (F := fun _ => False) hb1) (fun _ h => h.elim))
      clear hb1
      go_wp2_with fail
      refine HW.out.mono ?_
      rintro e w2 ⟨rfl, hd2, hb2⟩
      have hrel : zLoop R b n w 1 w2 := ⟨hd2, HB1.out.trans hb2 (fun _ h => .inl h)⟩
      have HREL := Lib.hid hrel
      clear hrel hd2 hb2
      go_wp2
      go_roundw
      case rel => exact ⟨1, by omega, rfl, HREL.out⟩
      case measure => simp [intOf]
    · have HR : Hid (Calls Try.prog 61 #[.string ⟨#[0]⟩, .int .i64 1024] wr fun e w' => e = .returned (.string (zb 16)) ∧ Below wr.heap.size wr w') := Lib.hid (repeat_zero 1024 (by decide) wr)
      go_wp2_with fail
      refine HR.out.mono ?_
      rintro e w1 ⟨rfl, hb1⟩
      have HW : Hid (Calls Try.prog 20 #[.pointer (some ⟨b, 0, none⟩), .int .i64 0, .int .u64 1, .int .i64 16, .string (zb 16)] w1 (AnsP R b (fmZ n 2) w1 (.int .i64 0))) := Lib.hid (zstep hn hn2 1 (by decide) (HDK.out.below hb1) (fun q hq => hR q (Nat.le_trans (Nat.le_trans HBK.out.size hb1.size) hq)))
      have HB1 := Lib.hid (HBK.out.trans (Grow.of_below (F := fun _ => False) hb1) (fun _ h => h.elim))
      clear hb1
      go_wp2_with fail
      refine HW.out.mono ?_
      rintro e w2 ⟨rfl, hd2, hb2⟩
      have hrel : zLoop R b n w 2 w2 := ⟨hd2, HB1.out.trans hb2 (fun _ h => .inl h)⟩
      have HREL := Lib.hid hrel
      clear hrel hd2 hb2
      go_wp2
      go_roundw
      case rel => exact ⟨2, by omega, rfl, HREL.out⟩
      case measure => simp [intOf]
    · have HR : Hid (Calls Try.prog 61 #[.string ⟨#[0]⟩, .int .i64 320] wr fun e w' => e = .returned (.string (zb 5)) ∧ Below wr.heap.size wr w') := Lib.hid (repeat_zero 320 (by decide) wr)
      go_wp2_with fail
      refine HR.out.mono ?_
      rintro e w1 ⟨rfl, hb1⟩
      have HW : Hid (Calls Try.prog 20 #[.pointer (some ⟨b, 0, none⟩), .int .i64 0, .int .u64 1, .int .i64 32, .string (zb 5)] w1 (AnsP R b (fmZ n 3) w1 (.int .i64 0))) := Lib.hid (zstep hn hn2 2 (by decide) (HDK.out.below hb1) (fun q hq => hR q (Nat.le_trans (Nat.le_trans HBK.out.size hb1.size) hq)))
      have HB1 := Lib.hid (HBK.out.trans (Grow.of_below (F := fun _ => False) hb1) (fun _ h => h.elim))
      clear hb1
      go_wp2_with fail
      refine HW.out.mono ?_
      rintro e w2 ⟨rfl, hd2, hb2⟩
      have hrel : zLoop R b n w 3 w2 := ⟨hd2, HB1.out.trans hb2 (fun _ h => .inl h)⟩
      have HREL := Lib.hid hrel
      clear hrel hd2 hb2
      go_wp2
      go_roundw
      case rel => exact ⟨3, by omega, rfl, HREL.out⟩
      case measure => simp [intOf]
    · have HW := stepP_barrier HDK.out (good_fmZ n (by omega) hn2 3 (by omega)) (by decide) (fun q hq => hR q (Nat.le_trans HBK.out.size hq)) 0 1
      rw [barrier_fmZ n] at HW
      replace HW := Lib.hid HW
      go_wp2_with fail
      refine HW.out.mono ?_
      rintro e w2 ⟨rfl, hd2, hb2⟩
      have HF := Lib.hid hd2
      have HG := Lib.hid (HBK.out.trans hb2 (fun _ h => .inl h))
      clear hd2 hb2
      go_wp2
      go_ret
      exact ⟨rfl, HF.out, HG.out⟩
end

end Go.Proofs.Ytkgdpmeheakdcaa
