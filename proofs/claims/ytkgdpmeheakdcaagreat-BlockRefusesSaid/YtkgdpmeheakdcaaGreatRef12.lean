/- The reference's BlockAt, and its Write where it refuses: walks (seat Z). -/
import Derived.Test.YtkgdpmeheakdcaaGreatRefC
namespace Go.Proofs.YtkgdpmeheakdcaaGreat
open Go.RowKit
set_option linter.all false
set_option maxRecDepth 100000

theorem rblkat_any (n : Int) (w : World) : Calls Tryz.prog 45 #[.agg #[.int .i64 2, .int .i64 10, .int .i64 8, .int .i64 4, .int .i64 32], .int .i64 n] w fun e w' => e = .returned (.tuple #[.int .i64 (blockAtR sh0 n).1, .int .i64 (blockAtR sh0 n).2]) ∧ Below w.heap.size w w' := by
  have HV := Lib.hid (rvalid0 (w.alloc (.cells #[.int .i64 2, .int .i64 10, .int .i64 8, .int .i64 4, .int .i64 32] 29)))
  have hq0 : shBlk (w.alloc (.cells #[.int .i64 2, .int .i64 10, .int .i64 8, .int .i64 4, .int .i64 32] 29)) w.heap.size := heap_alloc_new w _
  have Q0 := Lib.hid hq0
  have B0 := Lib.hid ((Below.refl w.heap.size w).alloc (Nat.le_refl _) (.cells #[.int .i64 2, .int .i64 10, .int .i64 8, .int .i64 4, .int .i64 32] 29))
  clear hq0
  by_cases h : 0 ≤ n ∧ n < 10
  · have HR := Lib.hid (blockAt_in n h.1 h.2)
    rw [HR.out]
    have e1 : decide (n < 0) = false := by simp; omega
    have e2 : decide (10 ≤ n) = false := by simp; omega
    have i1 : IntKind.i64.wrap (2 * n) = 2 * n := IntWalk.i64_in _ (by omega)
    have i2 : IntKind.i64.wrap (17 + 2 * n) = 17 + 2 * n := IntWalk.i64_in _ (by omega)
    clear h
    go_enter Tryz.func45, Tryz.ntmps45
    go_wp2_with fail
    refine HV.out.mono ?_
    rintro e w1 ⟨rfl, hb⟩
    have B1 := Lib.hid (B0.out.trans (hb.mono B0.out.size))
    obtain ⟨c0, c1, c2, c3, c4⟩ := five_cells (shBlk.below Q0.out hb)
    clear hb
    go_wp2
    go_ret2
    exact ⟨rfl, B1.out⟩
  · have HR := Lib.hid (blockAt_out n h)
    rw [HR.out]
    by_cases h0 : n < 0
    · have e1 : decide (n < 0) = true := by simpa using h0
      go_enter Tryz.func45, Tryz.ntmps45
      go_wp2_with fail
      refine HV.out.mono ?_
      rintro e w1 ⟨rfl, hb⟩
      have B1 := Lib.hid (B0.out.trans (hb.mono B0.out.size))
      obtain ⟨c0, c1, c2, c3, c4⟩ := five_cells (shBlk.below Q0.out hb)
      clear hb
      go_wp2
      go_ret2
      exact ⟨rfl, B1.out⟩
    · have e1 : decide (n < 0) = false := by simpa using h0
      have e2 : decide (10 ≤ n) = true := by simp; omega
      go_enter Tryz.func45, Tryz.ntmps45
      go_wp2_with fail
      refine HV.out.mono ?_
      rintro e w1 ⟨rfl, hb⟩
      have B1 := Lib.hid (B0.out.trans (hb.mono B0.out.size))
      obtain ⟨c0, c1, c2, c3, c4⟩ := five_cells (shBlk.below Q0.out hb)
      clear hb
      go_wp2
      go_ret2
      exact ⟨rfl, B1.out⟩

/-- A write that is refused: the world stays. -/
theorem rwrite_no {p : Nat} {v : Value} {D : RS} {w : World} (h : RBlk p D v w) (n epoch a : Int) (data : ByteArray) (m : Nat) (hm1 : 1 ≤ m) (hm2 : m ≤ 16) (hsz : data.size = m * 64) (hmay : rmayE D n epoch ≠ 0) :
    Calls Tryz.prog 39 #[.pointer (some ⟨p, 0, none⟩), .int .i64 n, .int .u64 epoch, .int .i64 a, .string data] w fun e w' => e = .returned (.int .i64 (rmayE D n epoch)) ∧ w = w' := by
  have HN := rnode_any n w
  have HM := Lib.hid (rmay_any h n epoch)
  have c2 := h.c2
  have hs1 : ((data.size : Int)).tdiv 64 = m := by rw [hsz, Int.tdiv_eq_ediv_of_nonneg (by omega)]; omega
  have hs2 : ((data.size : Int)).tmod 64 = 0 := by rw [hsz, Int.tmod_eq_emod_of_nonneg (by omega)]; omega
  have hs1e : (data.size : Int) / 64 = m := by rw [hsz]; omega
  have hs2e : (data.size : Int) % 64 = 0 := by rw [hsz]; omega
  have hdm1 : decide ((m : Int) < 1) = false := by simp; omega
  have hdm2 : decide (16 < (m : Int)) = false := by simp; omega
  cases hb : inB n 0 16 with
  | false =>
    have he : rmayE D n epoch = 1 := by unfold rmayE; rw [if_pos hb]
    rw [he]
    rw [hb] at HN
    replace HN := Lib.hid HN
    clear h hsz hmay he HM hb
    go_enter Tryz.func39, Tryz.ntmps39
    go_wp2_with fail
    refine HN.out.mono ?_
    rintro e w1 ⟨rfl, rfl⟩
    go_wp2
    go_ret
    exact ⟨rfl, rfl⟩
  | true =>
    rw [hb] at HN
    replace HN := Lib.hid HN
    have hn1 : (rmayE D n epoch == 0) = false := by simpa using hmay
    have hn2 : (rmayE D n epoch != 0) = true := by simpa using hmay
    clear h hsz hmay hb
    generalize rmayE D n epoch = er at *
    go_enter Tryz.func39, Tryz.ntmps39
    go_wp2_with fail
    refine HN.out.mono ?_
    rintro e w1 ⟨rfl, rfl⟩
    go_wp2_with fail
    refine HM.out.mono ?_
    rintro e w1 ⟨rfl, rfl⟩
    go_wp2
    go_ret
    exact ⟨rfl, rfl⟩

end Go.Proofs.YtkgdpmeheakdcaaGreat
