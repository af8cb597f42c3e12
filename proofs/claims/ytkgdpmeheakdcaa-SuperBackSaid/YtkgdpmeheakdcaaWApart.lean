/- SuperApart: the law's walk. -/
import Derived.Test.YtkgdpmeheakdcaaAlive9
namespace Go.Proofs.Ytkgdpmeheakdcaa
open Go.RowKit
set_option linter.all false
set_option maxRecDepth 100000

def blk5 (T : TypeId) (n b l c e : Int) (w : World) (q : Nat) : Prop := w.heap[q]? = some (.cells #[.int .i64 n, .int .i64 b, .int .i64 l, .int .i64 c, .int .i64 e] T (0, 0))
theorem blk5.lt {T : TypeId} {n b l c e : Int} {w : World} {q : Nat} (h : blk5 T n b l c e w q) : q < w.heap.size := (Array.getElem?_eq_some_iff.1 h).1
theorem blk5.below {T : TypeId} {n b l c e : Int} {w w' : World} {q : Nat} (h : blk5 T n b l c e w q) (hb : Below w.heap.size w w') : blk5 T n b l c e w' q := (hb.block q h.lt).trans h

def apOut (s : Sh) (a b x y : Int) : Prop := a < 1 ∨ b ≤ a ∨ b > s.n ∨ x < 0 ∨ y ≤ x ∨ y ≥ s.b

theorem blockat_in (s : Sh) (hs : s.ok = true) (k : Int) (h0 : 0 ≤ k) (h1 : k < s.b) (w : World) :
    Calls Try.prog 42 #[s.val, .int .i64 k] w fun e w' => e = .returned (.tuple #[.int .i64 (s.blk k), .int .i64 0]) ∧ Below w.heap.size w w' := by
  have h := blockat_any s hs k w
  have e : blockAtR s k = (s.blk k, 0) := by unfold blockAtR; rw [if_pos (inB_iff.2 ⟨h0, by omega⟩)]
  rw [e] at h
  exact h

set_option maxHeartbeats 2000000 in
theorem apart_walk (s : Sh) (a b x y : Int) (w : World) (hb : -9223372036854775808 ≤ b ∧ b ≤ 9223372036854775807) (hy : -9223372036854775808 ≤ y ∧ y ≤ 9223372036854775807) :
    Calls Try.prog 12 #[s.val, .int .i64 a, .int .i64 b, .int .i64 x, .int .i64 y] w fun e w' => e = .returned (.bool true) ∧ Below w.heap.size w w' := by
  have HV := fun w => valid_any s w
  cases hs : s.ok with
  | false =>
    rw [hs] at HV
    obtain ⟨n, bl, l, c, e⟩ := s
    unfold Sh.val at *
    dsimp only at *
    replace HV := Lib.hid HV
    clear hs
    go_enter Try.func12, Try.ntmps12
    go_wp2_with fail
    refine (HV.out _).mono ?_
    rintro e w1 ⟨rfl, hb1⟩
    have HB := Lib.hid (((Below.refl w.heap.size w).alloc (Nat.le_refl _) _).trans (hb1.mono (by simp)))
    have HA := Lib.hid (alive9_any w1)
    clear hb1
    go_wp2_with fail
    refine HA.out.mono ?_
    rintro e w2 ⟨rfl, hb2⟩
    have HF := Lib.hid (HB.out.trans (hb2.mono HB.out.size))
    clear hb2
    go_wp2
    go_ret
    exact ⟨rfl, HF.out⟩
  | true =>
    rw [hs] at HV
    obtain ⟨⟨a1, a2⟩, ⟨a3, a4⟩, ⟨a5, a6⟩, -⟩ := Sh.ok_iff.1 hs
    by_cases hout : apOut s a b x y
    · unfold apOut at hout
      obtain ⟨n, bl, l, c, e⟩ := s
      unfold Sh.val at *
      dsimp only at *
      replace HV := Lib.hid HV
      have HOUT := Lib.hid hout
      clear hs hout
      go_enter Try.func12, Try.ntmps12
      go_upto_region 1 with fail
      go_cut [52] from 20 to 51 (fun s52 wx => s52 = .bool true ∧ Below w.heap.size w wx)
      case first =>
        go_wp2_with fail
        refine (HV.out _).mono ?_
        rintro e w1 ⟨rfl, hb1⟩
        obtain ⟨hc, hf⟩ := bcell hb1
        have HB := Lib.hid (((Below.refl w.heap.size w).alloc (Nat.le_refl _) _).trans (hb1.mono (by simp)))
        clear hb1
        go_wp2_with fail
        all_goals go_meet
        all_goals exact ⟨by first | rfl | (have := HOUT.out; simp; omega), HB.out⟩
      case rest =>
        obtain ⟨rfl, hb1⟩ := hcut
        have HB := Lib.hid hb1
        have HA := Lib.hid (alive9_any wc)
        clear hb1
        go_wp2_with fail
        refine HA.out.mono ?_
        rintro e w2 ⟨rfl, hb2⟩
        have HF := Lib.hid (HB.out.trans (hb2.mono HB.out.size))
        clear hb2
        go_wp2
        go_ret
        exact ⟨rfl, HF.out⟩
    · unfold apOut at hout
      have g1 : 1 ≤ a := by omega
      have g2 : a < b := by omega
      have g3 : b ≤ s.n := by omega
      have g4 : 0 ≤ x := by omega
      have g5 : x < y := by omega
      have g6 : y < s.b := by omega
      have p1 : (a - 1) * s.l ≥ 0 := Int.mul_nonneg (by omega) (by omega)
      have p2 : (a - 1) * s.l + s.l ≤ (b - 1) * s.l := by
        have := Int.mul_le_mul_of_nonneg_right (show a - 1 + 1 ≤ b - 1 by omega) (show 0 ≤ s.l by omega)
        rw [Int.add_mul, Int.one_mul] at this
        exact this
      have p3 : (b - 1) * s.l + s.l ≤ s.n * s.l := by
        have := Int.mul_le_mul_of_nonneg_right (show b - 1 + 1 ≤ s.n by omega) (show 0 ≤ s.l by omega)
        rw [Int.add_mul, Int.one_mul] at this
        exact this
      have p4 : s.n * s.l ≤ 16 * 256 := Int.mul_le_mul a2 a6 (by omega) (by omega)
      have HL1 := fun w => logat_any s hs a g1 (by omega) w
      have HL2 := fun w => logat_any s hs b (by omega) g3 w
      have HK1 := fun w => blockat_in s hs x g4 (by omega) w
      have HK2 := fun w => blockat_in s hs y (by omega) g6 w
      have HZ := fun w => size_any s hs w
      have f1 : 1 ≤ s.log a := by unfold Sh.log; omega
      have f2 : s.log a + s.l ≤ s.log b := by unfold Sh.log; omega
      have f3 : s.log b + s.l ≤ s.blk x := by unfold Sh.log Sh.blk; omega
      have f4 : s.blk x + 2 ≤ s.blk y := by unfold Sh.blk; omega
      have f5 : s.blk y + 2 ≤ s.size := by unfold Sh.blk Sh.size; omega
      have f6 : s.size ≤ 20000 := by unfold Sh.size; omega
      generalize s.log a = I at *
      generalize s.log b = J at *
      generalize s.blk x = K at *
      generalize s.blk y = M at *
      generalize s.size = Z at *
      clear p1 p2 p3 p4 hout hs
      obtain ⟨n, bl, l, c, e⟩ := s
      unfold Sh.val at *
      dsimp only at *
      replace HV := Lib.hid HV
      replace HL1 := Lib.hid HL1
      replace HL2 := Lib.hid HL2
      replace HK1 := Lib.hid HK1
      replace HK2 := Lib.hid HK2
      replace HZ := Lib.hid HZ
      go_enter Try.func12, Try.ntmps12
      go_wp2_with fail
      refine (HV.out _).mono ?_
      rintro e w1 ⟨rfl, hb1⟩
      have s1 : blk5 64 n bl l c e w1 w.heap.size := by
        unfold blk5
        rw [hb1.block _ (by simp)]
        exact heap_alloc_new w _
      obtain ⟨c0, c1, c2, c3, c4⟩ := five_cells s1
      have hz1 : w.heap.size < w1.heap.size := (Array.getElem?_eq_some_iff.1 s1).1
      have S1 := Lib.hid s1
      have B1 := Lib.hid (((Below.refl w.heap.size w).alloc (Nat.le_refl _) _).trans (hb1.mono (by simp)))
      clear hb1 s1
      go_wp2_with fail
      refine (HL1.out _).mono ?_
      rintro e w2 ⟨rfl, hb⟩
      have hab : Below w1.heap.size w1 (w1.alloc (.cells #[.int .i64 n, .int .i64 bl, .int .i64 l, .int .i64 c, .int .i64 e] 67)) := (Below.refl _ _).alloc (Nat.le_refl _) _
      have hl0 : blk5 67 n bl l c e (w1.alloc (.cells #[.int .i64 n, .int .i64 bl, .int .i64 l, .int .i64 c, .int .i64 e] 67)) w1.heap.size := heap_alloc_new w1 _
      have S2 := Lib.hid ((S1.out.below hab).below hb)
      have L2 := Lib.hid (hl0.below hb)
      have B2 := Lib.hid ((B1.out.trans (hab.mono B1.out.size)).trans (hb.mono (Nat.le_trans B1.out.size hab.size)))
      obtain ⟨l0, l1, l2, l3, l4⟩ := five_cells L2.out
      clear hab hl0 hb S1 B1 c0 c1 c2 c3 c4
      go_wp2_with fail
      refine (HL2.out _).mono ?_
      rintro e w3 ⟨rfl, hb⟩
      have S3 := Lib.hid (S2.out.below hb)
      have L3 := Lib.hid (L2.out.below hb)
      have B3 := Lib.hid (B2.out.trans (hb.mono B2.out.size))
      clear hb S2 L2 B2 l0 l1 l2 l3 l4
      obtain ⟨l0, l1, l2, l3, l4⟩ := five_cells L3.out
      go_wp2_with fail
      refine (HK1.out _).mono ?_
      rintro e w4 ⟨rfl, hb⟩
      have S4 := Lib.hid (S3.out.below hb)
      have L4 := Lib.hid (L3.out.below hb)
      have B4 := Lib.hid (B3.out.trans (hb.mono B3.out.size))
      clear hb S3 L3 B3 l0 l1 l2 l3 l4
      obtain ⟨l0, l1, l2, l3, l4⟩ := five_cells L4.out
      go_wp2_with fail
      refine (HK2.out _).mono ?_
      rintro e w5 ⟨rfl, hb⟩
      have S5 := Lib.hid (S4.out.below hb)
      have L5 := Lib.hid (L4.out.below hb)
      have B5 := Lib.hid (B4.out.trans (hb.mono B4.out.size))
      clear hb S4 L4 B4 l0 l1 l2 l3 l4
      obtain ⟨l0, l1, l2, l3, l4⟩ := five_cells L5.out
      have HA := Lib.hid (alive9_any w5)
      clear l0 l1 l2 l3 l4
      go_wp2_with fail
      refine HA.out.mono ?_
      rintro e w6 ⟨rfl, hb⟩
      have S6 := Lib.hid (S5.out.below hb)
      have B6 := Lib.hid (B5.out.trans (hb.mono B5.out.size))
      clear hb S5 B5 L5
      obtain ⟨c0, c1, c2, c3, c4⟩ := five_cells S6.out
      go_wp2_with fail
      refine (HZ.out _).mono ?_
      rintro e w7 ⟨rfl, hb⟩
      have B7 := Lib.hid (B6.out.trans (hb.mono B6.out.size))
      clear hb
      go_wp2
      go_ret
      exact ⟨rfl, B7.out⟩

end Go.Proofs.Ytkgdpmeheakdcaa
