/- law10.alive answers true: walk. -/
import Derived.Test.YtkgdpmeheakdcaaGreatBLaw
namespace Go.Proofs.YtkgdpmeheakdcaaGreat
open Go.RowKit
set_option linter.all false
set_option maxRecDepth 100000

def pd0 : List UInt8 := [97, 98, 99] ++ zerosL 93
theorem pd0_length : pd0.length = 96 := by decide
theorem pad0 (w : World) : Calls Tryz.prog 30 #[.string ⟨#[97, 98, 99]⟩] w fun e w' => e = .returned (.tuple #[.string (str pd0), .int .i64 0]) ∧ Below w.heap.size w w' := by
  have h := pad_any [97, 98, 99] (by decide) w
  have e : padL [97, 98, 99] = (pd0, 0) := by decide
  rw [e] at h
  exact h
def im0 : Im := ⟨3, 7, pd0⟩
theorem im0_ok : im0.ok = true := by decide
def dkS : DS := wrN dk9 1 23 (str im0.bytes) 2
theorem store0 : storeB dk9 1 9 im0 = (0, dkS) := by
  rw [storeB_ok (dk9_lv 1) dk9_sectors (by decide) (by decide) 9 (by decide) (by rw [dk9_table]; rfl) im0 im0_ok (by decide)]
  rfl
theorem load0 : loadB dkS 3 = (im0, 0) := loadB_wr (dk9_lv 1) dk9_sectors im0 im0_ok (by decide) (by decide)
theorem loadz : loadB dk9 3 = (⟨3, 0, zerosL 96⟩, 0) := loadB_zero 3 (by decide) (by decide)
theorem good_dkS : Good 51 dkS := good_dk9.wrN 1 23 (str im0.bytes) 2 (by rw [str_size, Im.bytes_length _ im0_ok]; decide)

theorem imBlk.grow {G : Nat → Prop} {i : Im} {w w' : World} {q : Nat} (h : imBlk i w q) (hb : Grow G w w') (hG : ¬ G q) : imBlk i w' q := (hb.block q h.lt hG).trans h

set_option maxHeartbeats 2000000 in
theorem alive10_any (w : World) : Calls Tryz.prog 7 #[] w fun e w' => e = .returned (.bool true) ∧ Below w.heap.size w w' := by
  have H0 := Lib.hid (ready_any w)
  go_enter Tryz.func7, Tryz.ntmps7
  go_wp2_with fail
  refine H0.out.mono ?_
  rintro e w1 ⟨b, p, m, rfl, hd, hr, hb, hm⟩
  have hmq : m ≤ w1.heap.size := by have := hr.lt; have := hr.ge; omega
  have ha : Below w1.heap.size w1 (w1.alloc (.cells #[.int .i64 2, .int .i64 10, .int .i64 8, .int .i64 4, .int .i64 32] 31)) := (Below.refl _ _).alloc (Nat.le_refl _) _
  have hl2 : lyBlk (w1.alloc (.cells #[.int .i64 2, .int .i64 10, .int .i64 8, .int .i64 4, .int .i64 32] 31)) w1.heap.size := heap_alloc_new w1 _
  have L2 := Lib.hid hl2
  have D2 := Lib.hid (hd.below ha)
  have B2 := Lib.hid (hb.trans (ha.mono hb.size))
  have H2 := Lib.hid (pad0 (w1.alloc (.cells #[.int .i64 2, .int .i64 10, .int .i64 8, .int .i64 4, .int .i64 32] 31)))
  have hsz : ((str pd0).size : Int) = 96 := by rw [str_size, pd0_length]; rfl
  clear hd hr hb ha hl2 H0
  go_wp2_with fail
  refine H2.out.mono ?_
  rintro e w3 ⟨rfl, hb⟩
  have L3 := Lib.hid (L2.out.below hb)
  have D3 := Lib.hid (D2.out.below hb)
  have B3 := Lib.hid (B2.out.trans (hb.mono B2.out.size))
  obtain ⟨c0, c1, c2, c3, c4⟩ := five_cells L3.out
  have H3 : Hid (Calls Tryz.prog 11 #[.pointer (some ⟨b, 0, none⟩), .agg #[.int .i64 2, .int .i64 10, .int .i64 8, .int .i64 4, .int .i64 32], .int .i64 3] w3 (LoadTo (fun k => w.heap.size ≤ k ∧ k < m) b dk9 (⟨3, 0, zerosL 96⟩, 0) w3)) := Lib.hid (by
    have h := bload_any D3.out good_dk9 (by decide) 3
    rw [loadz] at h
    exact h)
  unfold LoadTo Im.val at H3
  dsimp only at H3
  clear hb L2 D2 B2 H2
  generalize w1.heap.size = q3 at *
  go_wp2_with fail
  refine H3.out.mono ?_
  rintro e w4 ⟨rfl, hd, hb⟩
  have ha : Below w4.heap.size w4 (w4.alloc (.cells #[.int .i64 3, .int .u64 0, .string (str (zerosL 96))] 24)) := (Below.refl _ _).alloc (Nat.le_refl _) _
  have hi : imBlk ⟨3, 0, zerosL 96⟩ (w4.alloc (.cells #[.int .i64 3, .int .u64 0, .string (str (zerosL 96))] 24)) w4.heap.size := heap_alloc_new w4 _
  have hl4 := L3.out.below hb
  have hq34 : q3 < w4.heap.size := hl4.lt
  have L4 := Lib.hid (hl4.below ha)
  have I4 := Lib.hid hi
  have hD4 := ((hd.below ha).mono (R' := fun k => w.heap.size ≤ k ∧ k < m ∨ w4.heap.size < k) (fun k hk => .inl hk))
  have D4 := Lib.hid hD4
  have B4 := Lib.hid ((B3.out.trans (hb.mono B3.out.size)).trans (ha.mono (B3.out.trans (hb.mono B3.out.size)).size))
  have H4 : Hid (Calls Tryz.prog 9 #[.pointer (some ⟨b, 0, none⟩), .agg #[.int .i64 2, .int .i64 10, .int .i64 8, .int .i64 4, .int .i64 32], .int .i64 1, .int .u64 9, .agg #[.int .i64 3, .int .u64 7, .string (str pd0)]] (w4.alloc (.cells #[.int .i64 3, .int .u64 0, .string (str (zerosL 96))] 24)) (AnsP (fun k => w.heap.size ≤ k ∧ k < m ∨ w4.heap.size < k) b dkS (w4.alloc (.cells #[.int .i64 3, .int .u64 0, .string (str (zerosL 96))] 24)) (.int .i64 0))) := Lib.hid (by
    have h := store_any hD4 good_dk9 (by decide) (fun k hk => .inr (by simp at hk; omega)) 1 9 im0 (by decide) (by decide)
    rw [store0] at h
    exact h)
  clear hb hd ha hi hl4 hD4 L3 D3 B3 H3 c0 c1 c2 c3 c4
  obtain ⟨c0, c1, c2, c3, c4⟩ := five_cells L4.out
  go_wp2_with fail
  refine H4.out.mono ?_
  rintro e w5 ⟨rfl, hd, hg⟩
  generalize w4.heap.size = q7 at *
  have I5 := Lib.hid (I4.out.grow hg (fun h => by omega))
  have L5 := Lib.hid (L4.out.grow hg (fun h => by omega))
  have B5 := Lib.hid (B4.out.trans (hg.below B4.out.size (fun k hk => by have := B4.out.size; omega)))
  have D5 := Lib.hid hd
  have H5 : Hid (Calls Tryz.prog 11 #[.pointer (some ⟨b, 0, none⟩), .agg #[.int .i64 2, .int .i64 10, .int .i64 8, .int .i64 4, .int .i64 32], .int .i64 3] w5 (LoadTo (fun k => w.heap.size ≤ k ∧ k < m ∨ q7 < k) b dkS (im0, 0) w5)) := Lib.hid (by
    have h := bload_any D5.out good_dkS (by decide) 3
    rw [load0] at h
    exact h)
  unfold LoadTo Im.val im0 at H5
  dsimp only at H5
  clear hd hg H4 L4 I4 D4 B4 c0 c1 c2 c3 c4
  obtain ⟨c0, c1, c2, c3, c4⟩ := five_cells L5.out
  go_wp2_with fail
  refine H5.out.mono ?_
  rintro e w6 ⟨rfl, hd, hb⟩
  have hi6 := I5.out.below hb
  obtain ⟨r0, r1, r2⟩ := hi6.cells
  have f0 := hi6.fz 0
  have f1 := hi6.fz 1
  have f2 := hi6.fz 2
  have I6 := Lib.hid (hi6.set ⟨3, 7, pd0⟩)
  have B6 := Lib.hid (B5.out.trans (hb.mono B5.out.size))
  have hwq : w.heap.size ≤ q7 := by omega
  clear hi6 hb hd H5 L5 I5 D5 B5 c0 c1 c2 c3 c4
  go_upto_region 9 with fail
  have hi7 : imBlk ⟨3, 7, pd0⟩ (((w6.setCell ⟨q7, 0, none⟩ (.int .i64 3)).setCell ⟨q7, 1, none⟩ (.int .u64 7)).setCell ⟨q7, 2, none⟩ (.string (str pd0))) q7 := I6.out
  have hb7 := below_set3 B6.out q7 hwq (.int .i64 3) (.int .u64 7) (.string (str pd0))
  have B7 := Lib.hid hb7
  clear r0 r1 r2 f0 f1 f2 hb7
  generalize ((w6.setCell ⟨q7, 0, none⟩ (.int .i64 3)).setCell ⟨q7, 1, none⟩ (.int .u64 7)).setCell ⟨q7, 2, none⟩ (.string (str pd0)) = Wf at *
  obtain ⟨r0, r1, r2⟩ := hi7.cells
  clear hi7 I6
  go_wp2
  go_ret
  exact ⟨rfl, B7.out⟩

end Go.Proofs.YtkgdpmeheakdcaaGreat
