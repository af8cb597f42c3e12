/- BlockKeeps: walk. -/
import Derived.Test.YtkgdpmeheakdcaaBKeep
import Derived.Test.YtkgdpmeheakdcaaWWords
import Derived.Deep.CutRange
namespace Go.Proofs.Ytkgdpmeheakdcaa
open Go.RowKit
set_option linter.all false
set_option maxRecDepth 100000

theorem Ib.grow {l : List (Im × Nat)} {G : Nat → Prop} {w w' : World} (h : Ib l w) (hb : Grow G w w') (hG : ∀ x ∈ l, ¬ G x.2) : Ib l w' := fun x hx => (h x hx).grow hb (hG x hx)
theorem ly_alloc {w : World} : lyBlk (w.alloc (.cells #[.int .i64 2, .int .i64 10, .int .i64 8, .int .i64 4, .int .i64 32] 67)) w.heap.size := heap_alloc_new w _

set_option maxHeartbeats 8000000 in
theorem keeps_walk (a b : Im) (a2 : Option Addr) (len2 cap2 : Nat) (z2 : List Int) (W : World) (hav : a.v < 18446744073709551616) (hbv : b.v < 18446744073709551616) (w2 : RowOf .i64 W a2 len2 cap2 z2) :
    Calls Try.prog 16 #[a.val, b.val, .slice a2 len2 cap2] W fun e w' => e = .returned (.bool true) ∧ Below W.heap.size W w' := by
  have HAL := Lib.hid alive10_any
  have hsa : ((str a.d).size : Int) = a.d.length := by rw [str_size]
  have hsb : ((str b.d).size : Int) = b.d.length := by rw [str_size]
  have hL0 : Ib [(b, W.heap.size + 1), (a, W.heap.size)] ((W.alloc (.cells #[.int .i64 a.b, .int .u64 a.v, .string (str a.d)] 77)).alloc (.cells #[.int .i64 b.b, .int .u64 b.v, .string (str b.d)] 77)) := by
    have h0 : Ib [] W := fun x hx => by cases hx
    have h := (h0.add a).add b
    rw [show (W.alloc (.cells #[.int .i64 a.b, .int .u64 a.v, .string (str a.d)] 77)).heap.size = W.heap.size + 1 by simp] at h
    exact h
  have hB0 : Below W.heap.size W ((W.alloc (.cells #[.int .i64 a.b, .int .u64 a.v, .string (str a.d)] 77)).alloc (.cells #[.int .i64 b.b, .int .u64 b.v, .string (str b.d)] 77)) := ((Below.refl _ _).alloc (Nat.le_refl _) _).alloc (by simp) _
  have L0 := Lib.hid hL0
  have B0 := Lib.hid hB0
  clear hL0 hB0
  unfold Im.val
  by_cases h1 : a.d.length = 96
  case neg =>
    have p1 : ((a.d.length : Int) != 96) = true := by simp; omega
    have p1' : ((a.d.length : Int) == 96) = false := by simp; omega
    clear w2 L0
    go_enter Try.func16, Try.ntmps16
    go_wp2_with fail
    refine (HAL.out _).mono ?_
    rintro e w9 ⟨rfl, b9⟩
    have B10 := Lib.hid (B0.out.trans (b9.mono B0.out.size))
    clear b9
    go_wp2
    go_ret
    exact ⟨rfl, B10.out⟩
  have p1 : ((a.d.length : Int) != 96) = false := by simp; omega
  have p1' : ((a.d.length : Int) == 96) = true := by simp; omega
  by_cases h2 : b.d.length = 96
  case neg =>
    have p2 : ((b.d.length : Int) != 96) = true := by simp; omega
    have p2' : ((b.d.length : Int) == 96) = false := by simp; omega
    clear w2 L0
    go_enter Try.func16, Try.ntmps16
    go_wp2_with fail
    refine (HAL.out _).mono ?_
    rintro e w9 ⟨rfl, b9⟩
    have B10 := Lib.hid (B0.out.trans (b9.mono B0.out.size))
    clear b9
    go_wp2
    go_ret
    exact ⟨rfl, B10.out⟩
  have p2 : ((b.d.length : Int) != 96) = false := by simp; omega
  have p2' : ((b.d.length : Int) == 96) = true := by simp; omega
  by_cases h3 : len2 ≤ 4
  case neg =>
    have p3 : decide (4 < (len2 : Int)) = true := by simp; omega
    clear w2 L0
    go_enter Try.func16, Try.ntmps16
    go_wp2_with fail
    refine (HAL.out _).mono ?_
    rintro e w9 ⟨rfl, b9⟩
    have B10 := Lib.hid (B0.out.trans (b9.mono B0.out.size))
    clear b9
    go_wp2
    go_ret
    exact ⟨rfl, B10.out⟩
  have p3 : decide (4 < (len2 : Int)) = false := by simp; omega
  by_cases h4 : 0 ≤ a.b
  case neg =>
    have p4 : decide (a.b < 0) = true := by simp; omega
    clear w2 L0
    go_enter Try.func16, Try.ntmps16
    go_wp2_with fail
    refine (HAL.out _).mono ?_
    rintro e w9 ⟨rfl, b9⟩
    have B10 := Lib.hid (B0.out.trans (b9.mono B0.out.size))
    clear b9
    go_wp2
    go_ret
    exact ⟨rfl, B10.out⟩
  have p4 : decide (a.b < 0) = false := by simp; omega
  by_cases h5 : a.b ≤ 9
  case neg =>
    have p5 : decide (9 < a.b) = true := by simp; omega
    clear w2 L0
    go_enter Try.func16, Try.ntmps16
    go_wp2_with fail
    refine (HAL.out _).mono ?_
    rintro e w9 ⟨rfl, b9⟩
    have B10 := Lib.hid (B0.out.trans (b9.mono B0.out.size))
    clear b9
    go_wp2
    go_ret
    exact ⟨rfl, B10.out⟩
  have p5 : decide (9 < a.b) = false := by simp; omega
  by_cases h6 : b.b = a.b
  case neg =>
    have p6 : (b.b != a.b) = true := by simp; omega
    have p6' : (b.b == a.b) = false := by simp; omega
    clear w2 L0
    go_enter Try.func16, Try.ntmps16
    go_wp2_with fail
    refine (HAL.out _).mono ?_
    rintro e w9 ⟨rfl, b9⟩
    have B10 := Lib.hid (B0.out.trans (b9.mono B0.out.size))
    clear b9
    go_wp2
    go_ret
    exact ⟨rfl, B10.out⟩
  have p6 : (b.b != a.b) = false := by simp; omega
  have p6' : (b.b == a.b) = true := by simp; omega
  have aok : a.ok = true := Im.ok_iff.2 ⟨h4, by omega, h1⟩
  have bok : b.ok = true := Im.ok_iff.2 ⟨by omega, by omega, h2⟩
  have h10 : a.b < 10 := by omega
  obtain ⟨zs, hzs⟩ : ∃ zs, zs = z2.take len2 := ⟨_, rfl⟩
  have hk := w2.keep (by omega)
  rw [← hzs] at hk
  have HK := Lib.hid hk
  have hcap := w2.capOk
  have S1 := Lib.hid (kp_store1 aok h10)
  have S2 := Lib.hid (kp_store2 (a := a) bok h6 h10)
  have SB := Lib.hid (kp_barrier (a := a) (17 + 2 * a.b))
  have G1 := Lib.hid (kp1_good aok (17 + 2 * a.b))
  have G2 := Lib.hid (kp2_good aok (17 + 2 * a.b))
  have G3 := Lib.hid (kp3_good aok bok h6 (17 + 2 * a.b))
  have ON3 := Lib.hid (kp3_lv (17 + 2 * a.b) a b).on
  have LX := Lib.hid (kp_load (a := a) bok h6 hbv h10)
  have LY : Hid (∀ m : Int, 0 ≤ m → m < 10 → m ≠ a.b → loadB (kp3 (17 + 2 * a.b) a b) m = (⟨m, 0, zerosL 96⟩, 0)) := Lib.hid (fun m m0 m1 hm => kp_other aok bok h6 h10 m m0 m1 hm)
  have LZ := Lib.hid (kp_law aok bok hav hbv h10 h6 zs)
  have LEN := Lib.hid (kp3_len (17 + 2 * a.b) a b)
  have G5 : Hid (Good 53 (kp5 (17 + 2 * a.b) a b zs)) := Lib.hid ((G3.out.cutOn zs).restore)
  have KP5 : Hid (kp5 (17 + 2 * a.b) a b zs = restD (cutOn (kp3 (17 + 2 * a.b) a b) zs)) := Lib.hid rfl
  have hda : a.d.length ≤ 1000 := by omega
  have hdb : b.d.length ≤ 1000 := by omega
  obtain ⟨m, hm⟩ : ∃ m : Int, m = (b.b + 1) % 10 := ⟨_, rfl⟩
  have hm0 : 0 ≤ m := by omega
  have hm1 : m < 10 := by omega
  have hma : m ≠ a.b := by omega
  have hmt : (b.b + 1).tmod 10 = m := by rw [Int.tmod_eq_emod_of_nonneg (by omega)]; exact hm.symm
  have hmw : IntKind.i64.wrap (b.b + 1) = b.b + 1 := IntWalk.i64_in _ (by omega)
  have LYM := Lib.hid (LY.out m hm0 hm1 hma)
  have HMD := Lib.hid hm
  clear w2 hzs hk aok bok LY hm hma
  obtain ⟨Z, hZ⟩ : ∃ Z, loadB (kp5 (17 + 2 * a.b) a b zs) b.b = Z := ⟨_, rfl⟩
  rw [hZ] at LZ
  have HZ := Lib.hid hZ
  clear hZ
  generalize kp5 (17 + 2 * a.b) a b zs = K5 at *
  generalize kp3 (17 + 2 * a.b) a b = K3 at *
  generalize kp2 (17 + 2 * a.b) a = K2 at *
  generalize kp1 (17 + 2 * a.b) a = K1 at *
  have HR := Lib.hid (ready_any ((W.alloc (.cells #[.int .i64 a.b, .int .u64 a.v, .string (str a.d)] 77)).alloc (.cells #[.int .i64 b.b, .int .u64 b.v, .string (str b.d)] 77)))
  have hws : ((W.alloc (.cells #[.int .i64 a.b, .int .u64 a.v, .string (str a.d)] 77)).alloc (.cells #[.int .i64 b.b, .int .u64 b.v, .string (str b.d)] 77)).heap.size = W.heap.size + 2 := by simp
  have HWS := Lib.hid hws
  have H6 := Lib.hid h6
  clear hws h6
  go_enter Try.func16, Try.ntmps16
  go_wp2_with fail
  refine HR.out.mono ?_
  rintro e w1 ⟨bk, p, M, rfl, hd, hr, hb, hM⟩
  rw [HWS.out] at hd hM
  have hMw : M ≤ w1.heap.size := by have := hr.lt; have := hr.ge; omega
  have ha1 : Below w1.heap.size w1 (w1.alloc (.cells #[.int .i64 2, .int .i64 10, .int .i64 8, .int .i64 4, .int .i64 32] 67)) := (Below.refl _ _).alloc (Nat.le_refl _) _
  have L1 := Lib.hid ((L0.out.below hb).below ha1)
  have B1 := Lib.hid ((B0.out.trans (hb.mono B0.out.size)).trans (ha1.mono (B0.out.trans (hb.mono B0.out.size)).size))
  have Y1 : Hid (lyBlk (w1.alloc (.cells #[.int .i64 2, .int .i64 10, .int .i64 8, .int .i64 4, .int .i64 32] 67)) w1.heap.size) := Lib.hid ly_alloc
  have hd1 := (hd.below ha1).mono (R' := fun k => W.heap.size + 2 ≤ k ∧ k < M ∨ w1.heap.size < k) (fun k hk => .inl hk)
  have H1 : Hid (Calls Try.prog 54 #[.pointer (some ⟨bk, 0, none⟩), .agg #[.int .i64 2, .int .i64 10, .int .i64 8, .int .i64 4, .int .i64 32], .int .i64 1, .int .u64 9, .agg #[.int .i64 a.b, .int .u64 a.v, .string (str a.d)]] (w1.alloc (.cells #[.int .i64 2, .int .i64 10, .int .i64 8, .int .i64 4, .int .i64 32] 67)) (AnsP (fun k => W.heap.size + 2 ≤ k ∧ k < M ∨ w1.heap.size < k) bk K1 (w1.alloc (.cells #[.int .i64 2, .int .i64 10, .int .i64 8, .int .i64 4, .int .i64 32] 67)) (.int .i64 0))) := Lib.hid (by
    have h := store_any hd1 good_dk9 (by decide) (fun k hk => .inr (by simp at hk; omega)) 1 9 a hav hda
    rw [S1.out] at h
    exact h)
  obtain ⟨c0, c1, c2, c3, c4⟩ := five_cells Y1.out
  obtain ⟨k0, k1, k2⟩ := imBlk.cells (L1.out _ (.tail _ (.head _)))
  dsimp only at k0 k1 k2
  clear hd hr hb ha1 hd1 HR L0 B0
  go_wp2_with fail
  refine H1.out.mono ?_
  rintro e w2 ⟨rfl, hd, hg⟩
  generalize hq9 : w1.heap.size = q9 at *
  have L2 := Lib.hid (L1.out.grow hg (fun x hx h => by
    rcases List.mem_cons.1 hx with rfl | hx
    · dsimp only at h; omega
    · rcases List.mem_cons.1 hx with rfl | hx
      · dsimp only at h; omega
      · cases hx))
  have Y2 := Lib.hid (Y1.out.grow hg (fun h => by omega))
  have B2 := Lib.hid (B1.out.trans (hg.below B1.out.size (fun k hk => by omega)))
  have H2 := stepP_barrier hd G1.out (by decide) (fun k hk => .inr (by have := Y2.out.lt; omega)) 1 9
  rw [SB.out] at H2
  dsimp only at H2
  replace H2 := Lib.hid H2
  clear hd hg H1 L1 Y1 B1 c0 c1 c2 c3 c4 k0 k1 k2 hq9
  go_wp2_with fail
  refine H2.out.mono ?_
  rintro e w3 ⟨rfl, hd, hg⟩
  have L3 := Lib.hid (L2.out.grow hg (fun x hx h => by
    rcases List.mem_cons.1 hx with rfl | hx
    · dsimp only at h; omega
    · rcases List.mem_cons.1 hx with rfl | hx
      · dsimp only at h; omega
      · cases hx))
  have Y3 := Lib.hid (Y2.out.grow hg (fun h => by omega))
  have B3 := Lib.hid (B2.out.trans (hg.below B2.out.size (fun k hk => by omega)))
  have H3 : Hid (Calls Try.prog 54 #[.pointer (some ⟨bk, 0, none⟩), .agg #[.int .i64 2, .int .i64 10, .int .i64 8, .int .i64 4, .int .i64 32], .int .i64 1, .int .u64 9, .agg #[.int .i64 b.b, .int .u64 b.v, .string (str b.d)]] w3 (AnsP (fun k => W.heap.size + 2 ≤ k ∧ k < M ∨ q9 < k) bk K3 w3 (.int .i64 0))) := Lib.hid (by
    have h := store_any hd G2.out (by decide) (fun k hk => .inr (by have := Y3.out.lt; omega)) 1 9 b hbv hdb
    rw [S2.out] at h
    exact h)
  obtain ⟨c0, c1, c2, c3, c4⟩ := five_cells Y3.out
  obtain ⟨k0, k1, k2⟩ := imBlk.cells (L3.out _ (.head _))
  dsimp only at k0 k1 k2
  clear hd hg H2 L2 Y2 B2
  go_wp2_with fail
  refine H3.out.mono ?_
  rintro e w4 ⟨rfl, hd, hg⟩
  have L4 := Lib.hid (L3.out.grow hg (fun x hx h => by
    rcases List.mem_cons.1 hx with rfl | hx
    · dsimp only at h; omega
    · rcases List.mem_cons.1 hx with rfl | hx
      · dsimp only at h; omega
      · cases hx))
  have Y4 := Lib.hid (Y3.out.grow hg (fun h => by omega))
  have B4 := Lib.hid (B3.out.trans (hg.below B3.out.size (fun k hk => by omega)))
  have H4 := bload_any hd.cap G3.out (by decide) b.b
  rw [LX.out] at H4
  unfold LoadTo Im.val at H4
  dsimp only at H4
  replace H4 := Lib.hid H4
  have M4 : Hid (q9 < w4.heap.size) := Lib.hid Y4.out.lt
  clear hd hg H3 L3 Y3 B3 c0 c1 c2 c3 c4 k0 k1 k2
  obtain ⟨c0, c1, c2, c3, c4⟩ := five_cells Y4.out
  obtain ⟨k0, k1, k2⟩ := imBlk.cells (L4.out _ (.head _))
  dsimp only at k0 k1 k2
  go_wp2_with fail
  refine H4.out.mono ?_
  rintro e w5 ⟨rfl, hd, hb⟩
  have h5 := L4.out.below hb
  have L5 := Lib.hid (h5.add b)
  have hb5 := B4.out.trans (hb.mono B4.out.size)
  have ha5 : Below w5.heap.size w5 (w5.alloc (.cells #[.int .i64 b.b, .int .u64 b.v, .string (str b.d)] 77)) := (Below.refl _ _).alloc (Nat.le_refl _) _
  have Y5 := Lib.hid ((Y4.out.below hb).below ha5)
  have B5 := Lib.hid (hb5.trans (ha5.mono hb5.size))
  have hd5 := hd.below ha5
  have Q5 : Hid (q9 < w4.heap.size ∧ w4.heap.size ≤ w5.heap.size) := Lib.hid ⟨M4.out, hb.size⟩
  have H5 := bload_any hd5 G3.out (by decide) m
  rw [LYM.out] at H5
  unfold LoadTo Im.val at H5
  dsimp only at H5
  replace H5 := Lib.hid H5
  clear hd hb h5 hb5 ha5 hd5 H4 L4 Y4 B4 M4 c0 c1 c2 c3 c4 k0 k1 k2
  obtain ⟨c0, c1, c2, c3, c4⟩ := five_cells Y5.out
  obtain ⟨k0, k1, k2⟩ := imBlk.cells (L5.out _ (.tail _ (.head _)))
  dsimp only at k0 k1 k2
  go_wp2_with fail
  refine H5.out.mono ?_
  rintro e w6 ⟨rfl, hd, hb⟩
  generalize hq11 : w5.heap.size = q11 at *
  have hB5 := B5.out
  have L6 := Lib.hid ((L5.out.below hb).add ⟨m, 0, zerosL 96⟩)
  have hb6 := B5.out.trans (hb.mono B5.out.size)
  have ha6 : Below w6.heap.size w6 (w6.alloc (.cells #[.int .i64 m, .int .u64 0, .string (str (zerosL 96))] 77)) := (Below.refl _ _).alloc (Nat.le_refl _) _
  have Y6 := Lib.hid ((Y5.out.below hb).below ha6)
  have B6 := Lib.hid (hb6.trans (ha6.mono hb6.size))
  have hq1113 : q11 < w6.heap.size := by
    have h := imBlk.lt (L5.out _ (.head _))
    dsimp only at h
    exact Nat.lt_of_lt_of_le h hb.size
  have hd6 := (hd.below ha6).mono (R' := fun k => (W.heap.size + 2 ≤ k ∧ k < M ∨ q9 < k) ∧ k < w4.heap.size ∨ w6.heap.size < k) (fun k hk => .inl hk)
  have D6 := Lib.hid hd6
  have hkp := HK.out.below B6.out
  have H6 := stepP_cut hd6 G3.out (by decide) (fun k hk => .inr (by simp at hk; omega)) ON3.out a2 len2 cap2 zs hkp (HK.out.ne (by
    have h1 := hd6.in
    have h2 := Q5.out
    have h3 := hb6.size
    omega))
  rw [LEN.out] at H6
  replace H6 := Lib.hid H6
  clear hd hb hb6 ha6 hd6 hkp hB5 H5 L5 Y5 B5 c0 c1 c2 c3 c4 k0 k1 k2 hq11 D6
  go_wp2_with fail
  refine H6.out.mono ?_
  rintro e w7 ⟨rfl, hd, hg⟩
  generalize hq13 : w6.heap.size = q13 at *
  have QQ : Hid (W.heap.size + 2 ≤ M ∧ M ≤ q9 ∧ q9 < w4.heap.size ∧ w4.heap.size ≤ q11 ∧ q11 < q13) := Lib.hid ⟨hM, hMw, Q5.out.1, Q5.out.2, hq1113⟩
  have hgg : ∀ k, (k = W.heap.size ∨ k = W.heap.size + 1 ∨ k = q9 ∨ k = q11 ∨ k = q13) → ¬ ((W.heap.size + 2 ≤ k ∧ k < M ∨ q9 < k) ∧ k < w4.heap.size ∨ q13 < k) := fun k hk h => by have := QQ.out; omega
  have GG := Lib.hid hgg
  have lgrow : ∀ (u u' : World), Grow (fun k => (W.heap.size + 2 ≤ k ∧ k < M ∨ q9 < k) ∧ k < w4.heap.size ∨ q13 < k) u u' → Ib [(⟨m, 0, zerosL 96⟩, q13), (b, q11), (b, W.heap.size + 1), (a, W.heap.size)] u → Ib [(⟨m, 0, zerosL 96⟩, q13), (b, q11), (b, W.heap.size + 1), (a, W.heap.size)] u' := fun u u' hg hl => hl.grow hg (fun x hx => by
    rcases List.mem_cons.1 hx with rfl | hx
    · exact GG.out _ (by simp)
    · rcases List.mem_cons.1 hx with rfl | hx
      · exact GG.out _ (by simp)
      · rcases List.mem_cons.1 hx with rfl | hx
        · exact GG.out _ (by simp)
        · rcases List.mem_cons.1 hx with rfl | hx
          · exact GG.out _ (by simp)
          · cases hx)
  have LG := Lib.hid lgrow
  have L7 := Lib.hid (LG.out _ _ hg L6.out)
  have Y7 := Lib.hid (Y6.out.grow hg (GG.out _ (by simp)))
  have B7 := Lib.hid (B6.out.trans (hg.below B6.out.size (fun k hk => by have := QQ.out; omega)))
  have H7 := stepP_restore hd (G3.out.cutOn zs)
  rw [← KP5.out] at H7
  replace H7 := Lib.hid H7
  clear hd hg hgg lgrow H6 L6 Y6 B6
  go_wp2_with fail
  refine H7.out.mono ?_
  rintro e w8 ⟨rfl, hd, hg⟩
  have L8 := Lib.hid (LG.out _ _ hg L7.out)
  have Y8 := Lib.hid (Y7.out.grow hg (GG.out _ (by simp)))
  have B8 := Lib.hid (B7.out.trans (hg.below B7.out.size (fun k hk => by have := QQ.out; omega)))
  have H8 := bload_any hd G5.out (by decide) b.b
  rw [HZ.out] at H8
  unfold LoadTo Im.val at H8
  obtain ⟨⟨zb, zv, zd⟩, ze⟩ := Z
  dsimp only at H8
  replace H8 := Lib.hid H8
  clear hd hg H7 L7 Y7 B7
  obtain ⟨c0, c1, c2, c3, c4⟩ := five_cells Y8.out
  obtain ⟨k0, k1, k2⟩ := imBlk.cells (L8.out _ (.tail _ (.tail _ (.head _))))
  dsimp only at k0 k1 k2
  go_wp2_with fail
  refine H8.out.mono ?_
  rintro e w9 ⟨rfl, hd, hb⟩
  have L9 := Lib.hid ((L8.out.below hb).add ⟨zb, zv, zd⟩)
  have hb9 := B8.out.trans (hb.mono B8.out.size)
  have ha9 : Below w9.heap.size w9 (w9.alloc (.cells #[.int .i64 zb, .int .u64 zv, .string (str zd)] 77)) := (Below.refl _ _).alloc (Nat.le_refl _) _
  have B9 := Lib.hid (hb9.trans (ha9.mono hb9.size))
  dsimp only at L9
  clear hd hb hb9 ha9 H8 L8 Y8 B8 c0 c1 c2 c3 c4 k0 k1 k2
  go_upto_region 11 with fail
  generalize w9.alloc (.cells #[.int .i64 zb, .int .u64 zv, .string (str zd)] 77) = V at *
  generalize w9.heap.size = q15 at *
  have hkp := HK.out.below B9.out
  obtain ⟨c150, c151, c152⟩ := imBlk.cells (L9.out _ (.head _))
  obtain ⟨c130, c131, c132⟩ := imBlk.cells (L9.out _ (.tail _ (.head _)))
  obtain ⟨c110, c111, c112⟩ := imBlk.cells (L9.out _ (.tail _ (.tail _ (.head _))))
  obtain ⟨c40, c41, c42⟩ := imBlk.cells (L9.out _ (.tail _ (.tail _ (.tail _ (.head _)))))
  obtain ⟨c30, c31, c32⟩ := imBlk.cells (L9.out _ (.tail _ (.tail _ (.tail _ (.tail _ (.head _))))))
  dsimp only at c150 c151 c152 c130 c131 c132 c110 c111 c112 c40 c41 c42 c30 c31 c32
  have el : ∀ j, j < len2 → ∃ kb ko z, a2 = some ⟨kb, ko, none⟩ ∧ V.cell? ⟨kb, ko + j, none⟩ = some (.int .i64 z) ∧ stayB zs j = decide (z % 2 = 1) := fun j hj => by
    obtain ⟨kb, ko, z, g1, g2, g3⟩ := hkp.at j hj
    refine ⟨kb, ko, z, g1, g3, ?_⟩
    unfold stayB
    rw [g2, decide_eq_true (by rw [hkp.hlen]; exact hj), Bool.true_and]
  have er : ∀ j, ¬ j < len2 → stayB zs j = false := fun j hj => by
    unfold stayB
    rw [decide_eq_false (by rw [hkp.hlen]; exact hj), Bool.false_and]
  have EL := Lib.hid el
  have ER := Lib.hid er
  have HAV := Lib.hid (HAL.out)
  clear el er hkp HAL H6 HMD LX LYM KP5 S1 S2 SB G1 G2 G3 G5 ON3 LEN HZ HK LG GG QQ hM hMw Q5 hq1113 hmt hmw
  have fin : ∀ {w' : World}, Below V.heap.size V w' → Below W.heap.size W w' := fun hb => B9.out.trans (hb.mono B9.out.size)
  have FIN : Hid (∀ w', Below V.heap.size V w' → Below W.heap.size W w') := Lib.hid (fun w' hb => fin hb)
  have ALV : Hid (Calls Try.prog 46 #[] V fun e w' => e = .returned (.bool true) ∧ Below W.heap.size W w' ∧ ∀ q i (z : Value), V.cell? ⟨q, i, none⟩ = some z → w'.cell? ⟨q, i, none⟩ = some z) := Lib.hid ((HAV.out V).mono (by
    rintro e w' ⟨rfl, hb⟩
    refine ⟨rfl, FIN.out w' hb, fun q i z hz => ?_⟩
    have hlt := cell_lt hz
    rw [World.cell?_of_block (hb.block q hlt)]
    exact hz))
  clear fin FIN HAV B9 L9
  by_cases hl1 : len2 < 1
  · have n2 : decide ((2 : Int) ≤ len2) = false := by simp; omega
    have n1 : decide ((len2 : Int) < 1) = true := by simp; omega
    have n3 : decide ((len2 : Int) < 2) = true := by simp; omega
    have s0 := ER.out 0 (by omega)
    have s1 := ER.out 1 (by omega)
    have hz := LZ.out.none s0 s1
    injection hz with hz1 hz2
    subst hz2
    subst hz1
    dsimp only at *
    clear LZ EL ER
    clear s0 s1

    go_wp2_with fail
    refine ALV.out.mono ?_
    rintro e wz ⟨rfl, hbz, hcz⟩
    have BZ := Lib.hid hbz
    have d110 := hcz _ _ _ c110
    have d111 := hcz _ _ _ c111
    have d112 := hcz _ _ _ c112
    have d131 := hcz _ _ _ c131
    have d40 := hcz _ _ _ c40
    have d41 := hcz _ _ _ c41
    have d42 := hcz _ _ _ c42
    clear hbz hcz c150 c151 c152 c130 c131 c132 c110 c111 c112 c40 c41 c42 c30 c31 c32
    go_wp2
    go_ret
    exact ⟨rfl, BZ.out⟩
  · have n1 : decide ((len2 : Int) < 1) = false := by simp; omega
    have hl0 : 0 < len2 := by omega
    have hc0 : 0 < cap2 := by omega
    obtain ⟨kb, ko, z0, rfl, cz0, st0⟩ := EL.out 0 hl0
    rw [Nat.add_zero] at cz0
    by_cases hl2 : len2 < 2
    · have n2 : decide ((2 : Int) ≤ len2) = false := by simp; omega
      have n3 : decide ((len2 : Int) < 2) = true := by simp; omega
      have s1 := ER.out 1 (by omega)
      by_cases hz0 : z0 % 2 = 1
      · have s0 : stayB zs 0 = true := by rw [st0]; simpa using hz0
        have b0 : (bits .and .i64 z0 1 == 1) = true := by rw [i64_and1]; rw [hz0]; rfl
        have b0' : (bits .and .i64 z0 1 == 0) = false := by rw [i64_and1]; simp; omega
        clear hz0 st0

        have hne : stayB zs 0 ≠ stayB zs 1 := by rw [s0, s1]; decide
        by_cases hv : a.v = b.v
        · have hz := LZ.out.fine hne hv
          dsimp only at hz
          subst hz
          have v1 : ((a.v : Int) != (b.v : Int)) = false := by simp; omega
          have v2 : ((a.v : Int) == (b.v : Int)) = true := by simp; omega
          clear LZ EL ER hne hv s0 s1
          go_wp2_with fail
          refine ALV.out.mono ?_
          rintro e wz ⟨rfl, hbz, hcz⟩
          have BZ := Lib.hid hbz
          have d110 := hcz _ _ _ c110
          have d111 := hcz _ _ _ c111
          have d112 := hcz _ _ _ c112
          have d131 := hcz _ _ _ c131
          have d40 := hcz _ _ _ c40
          have d41 := hcz _ _ _ c41
          have d42 := hcz _ _ _ c42
          clear hbz hcz c150 c151 c152 c130 c131 c132 c110 c111 c112 c40 c41 c42 c30 c31 c32
          go_wp2
          go_ret
          exact ⟨rfl, BZ.out⟩
        · have hz := LZ.out.torn hne hv
          unfold zIm at hz
          injection hz with hz1 hz2
          subst hz2
          injection hz1 with e1 e2 e3
          subst e1
          subst e2
          subst e3
          replace c152 : V.cell? ⟨q15, 2, none⟩ = some (.string ⟨#[]⟩) := c152
          have v1 : ((a.v : Int) != (b.v : Int)) = true := by simp; omega
          have v2 : ((a.v : Int) == (b.v : Int)) = false := by simp; omega
          clear LZ EL ER hne hv s0 s1
          go_wp2_with fail
          refine ALV.out.mono ?_
          rintro e wz ⟨rfl, hbz, hcz⟩
          have BZ := Lib.hid hbz
          have d110 := hcz _ _ _ c110
          have d111 := hcz _ _ _ c111
          have d112 := hcz _ _ _ c112
          have d131 := hcz _ _ _ c131
          have d40 := hcz _ _ _ c40
          have d41 := hcz _ _ _ c41
          have d42 := hcz _ _ _ c42
          clear hbz hcz c150 c151 c152 c130 c131 c132 c110 c111 c112 c40 c41 c42 c30 c31 c32
          go_wp2
          go_ret
          exact ⟨rfl, BZ.out⟩
      · have s0 : stayB zs 0 = false := by rw [st0]; simpa using hz0
        have b0 : (bits .and .i64 z0 1 == 1) = false := by rw [i64_and1]; simpa using hz0
        have b0' : (bits .and .i64 z0 1 == 0) = true := by rw [i64_and1]; simp; omega
        clear hz0 st0

        have hz := LZ.out.none s0 s1
        injection hz with hz1 hz2
        subst hz2
        subst hz1
        dsimp only at *
        clear LZ EL ER
        clear s0 s1

        go_wp2_with fail
        refine ALV.out.mono ?_
        rintro e wz ⟨rfl, hbz, hcz⟩
        have BZ := Lib.hid hbz
        have d110 := hcz _ _ _ c110
        have d111 := hcz _ _ _ c111
        have d112 := hcz _ _ _ c112
        have d131 := hcz _ _ _ c131
        have d40 := hcz _ _ _ c40
        have d41 := hcz _ _ _ c41
        have d42 := hcz _ _ _ c42
        clear hbz hcz c150 c151 c152 c130 c131 c132 c110 c111 c112 c40 c41 c42 c30 c31 c32
        go_wp2
        go_ret
        exact ⟨rfl, BZ.out⟩
    · have n2 : decide ((2 : Int) ≤ len2) = true := by simp; omega
      have n3 : decide ((len2 : Int) < 2) = false := by simp; omega
      have hl1' : 1 < len2 := by omega
      have hc1 : 1 < cap2 := by omega
      obtain ⟨kb', ko', z1, hkk, cz1, st1⟩ := EL.out 1 hl1'
      injection hkk with hkk
      injection hkk with hk1 hk2
      subst hk1
      subst hk2
      by_cases hz0 : z0 % 2 = 1
      · have s0 : stayB zs 0 = true := by rw [st0]; simpa using hz0
        have b0 : (bits .and .i64 z0 1 == 1) = true := by rw [i64_and1]; rw [hz0]; rfl
        have b0' : (bits .and .i64 z0 1 == 0) = false := by rw [i64_and1]; simp; omega
        clear hz0 st0
        by_cases hz1 : z1 % 2 = 1
        · have s1 : stayB zs 1 = true := by rw [st1]; simpa using hz1
          have b1 : (bits .and .i64 z1 1 == 1) = true := by rw [i64_and1]; rw [hz1]; rfl
          have b1' : (bits .and .i64 z1 1 == 0) = false := by rw [i64_and1]; simp; omega
          clear hz1 st1

          have hz := LZ.out.all s0 s1
          injection hz with hz1 hz2
          subst hz2
          subst hz1
          dsimp only at *
          clear LZ EL ER
          clear s0 s1

          go_wp2_with fail
          refine ALV.out.mono ?_
          rintro e wz ⟨rfl, hbz, hcz⟩
          have BZ := Lib.hid hbz
          have d110 := hcz _ _ _ c110
          have d111 := hcz _ _ _ c111
          have d112 := hcz _ _ _ c112
          have d131 := hcz _ _ _ c131
          have d40 := hcz _ _ _ c40
          have d41 := hcz _ _ _ c41
          have d42 := hcz _ _ _ c42
          clear hbz hcz c150 c151 c152 c130 c131 c132 c110 c111 c112 c40 c41 c42 c30 c31 c32
          go_wp2
          go_ret
          exact ⟨rfl, BZ.out⟩
        · have s1 : stayB zs 1 = false := by rw [st1]; simpa using hz1
          have b1 : (bits .and .i64 z1 1 == 1) = false := by rw [i64_and1]; simpa using hz1
          have b1' : (bits .and .i64 z1 1 == 0) = true := by rw [i64_and1]; simp; omega
          clear hz1 st1

          have hne : stayB zs 0 ≠ stayB zs 1 := by rw [s0, s1]; decide
          by_cases hv : a.v = b.v
          · have hz := LZ.out.fine hne hv
            dsimp only at hz
            subst hz
            have v1 : ((a.v : Int) != (b.v : Int)) = false := by simp; omega
            have v2 : ((a.v : Int) == (b.v : Int)) = true := by simp; omega
            clear LZ EL ER hne hv s0 s1
            go_wp2_with fail
            refine ALV.out.mono ?_
            rintro e wz ⟨rfl, hbz, hcz⟩
            have BZ := Lib.hid hbz
            have d110 := hcz _ _ _ c110
            have d111 := hcz _ _ _ c111
            have d112 := hcz _ _ _ c112
            have d131 := hcz _ _ _ c131
            have d40 := hcz _ _ _ c40
            have d41 := hcz _ _ _ c41
            have d42 := hcz _ _ _ c42
            clear hbz hcz c150 c151 c152 c130 c131 c132 c110 c111 c112 c40 c41 c42 c30 c31 c32
            go_wp2
            go_ret
            exact ⟨rfl, BZ.out⟩
          · have hz := LZ.out.torn hne hv
            unfold zIm at hz
            injection hz with hz1 hz2
            subst hz2
            injection hz1 with e1 e2 e3
            subst e1
            subst e2
            subst e3
            replace c152 : V.cell? ⟨q15, 2, none⟩ = some (.string ⟨#[]⟩) := c152
            have v1 : ((a.v : Int) != (b.v : Int)) = true := by simp; omega
            have v2 : ((a.v : Int) == (b.v : Int)) = false := by simp; omega
            clear LZ EL ER hne hv s0 s1
            go_wp2_with fail
            refine ALV.out.mono ?_
            rintro e wz ⟨rfl, hbz, hcz⟩
            have BZ := Lib.hid hbz
            have d110 := hcz _ _ _ c110
            have d111 := hcz _ _ _ c111
            have d112 := hcz _ _ _ c112
            have d131 := hcz _ _ _ c131
            have d40 := hcz _ _ _ c40
            have d41 := hcz _ _ _ c41
            have d42 := hcz _ _ _ c42
            clear hbz hcz c150 c151 c152 c130 c131 c132 c110 c111 c112 c40 c41 c42 c30 c31 c32
            go_wp2
            go_ret
            exact ⟨rfl, BZ.out⟩
      · have s0 : stayB zs 0 = false := by rw [st0]; simpa using hz0
        have b0 : (bits .and .i64 z0 1 == 1) = false := by rw [i64_and1]; simpa using hz0
        have b0' : (bits .and .i64 z0 1 == 0) = true := by rw [i64_and1]; simp; omega
        clear hz0 st0
        by_cases hz1 : z1 % 2 = 1
        · have s1 : stayB zs 1 = true := by rw [st1]; simpa using hz1
          have b1 : (bits .and .i64 z1 1 == 1) = true := by rw [i64_and1]; rw [hz1]; rfl
          have b1' : (bits .and .i64 z1 1 == 0) = false := by rw [i64_and1]; simp; omega
          clear hz1 st1

          have hne : stayB zs 0 ≠ stayB zs 1 := by rw [s0, s1]; decide
          by_cases hv : a.v = b.v
          · have hz := LZ.out.fine hne hv
            dsimp only at hz
            subst hz
            have v1 : ((a.v : Int) != (b.v : Int)) = false := by simp; omega
            have v2 : ((a.v : Int) == (b.v : Int)) = true := by simp; omega
            clear LZ EL ER hne hv s0 s1
            go_wp2_with fail
            refine ALV.out.mono ?_
            rintro e wz ⟨rfl, hbz, hcz⟩
            have BZ := Lib.hid hbz
            have d110 := hcz _ _ _ c110
            have d111 := hcz _ _ _ c111
            have d112 := hcz _ _ _ c112
            have d131 := hcz _ _ _ c131
            have d40 := hcz _ _ _ c40
            have d41 := hcz _ _ _ c41
            have d42 := hcz _ _ _ c42
            clear hbz hcz c150 c151 c152 c130 c131 c132 c110 c111 c112 c40 c41 c42 c30 c31 c32
            go_wp2
            go_ret
            exact ⟨rfl, BZ.out⟩
          · have hz := LZ.out.torn hne hv
            unfold zIm at hz
            injection hz with hz1 hz2
            subst hz2
            injection hz1 with e1 e2 e3
            subst e1
            subst e2
            subst e3
            replace c152 : V.cell? ⟨q15, 2, none⟩ = some (.string ⟨#[]⟩) := c152
            have v1 : ((a.v : Int) != (b.v : Int)) = true := by simp; omega
            have v2 : ((a.v : Int) == (b.v : Int)) = false := by simp; omega
            clear LZ EL ER hne hv s0 s1
            go_wp2_with fail
            refine ALV.out.mono ?_
            rintro e wz ⟨rfl, hbz, hcz⟩
            have BZ := Lib.hid hbz
            have d110 := hcz _ _ _ c110
            have d111 := hcz _ _ _ c111
            have d112 := hcz _ _ _ c112
            have d131 := hcz _ _ _ c131
            have d40 := hcz _ _ _ c40
            have d41 := hcz _ _ _ c41
            have d42 := hcz _ _ _ c42
            clear hbz hcz c150 c151 c152 c130 c131 c132 c110 c111 c112 c40 c41 c42 c30 c31 c32
            go_wp2
            go_ret
            exact ⟨rfl, BZ.out⟩
        · have s1 : stayB zs 1 = false := by rw [st1]; simpa using hz1
          have b1 : (bits .and .i64 z1 1 == 1) = false := by rw [i64_and1]; simpa using hz1
          have b1' : (bits .and .i64 z1 1 == 0) = true := by rw [i64_and1]; simp; omega
          clear hz1 st1

          have hz := LZ.out.none s0 s1
          injection hz with hz1 hz2
          subst hz2
          subst hz1
          dsimp only at *
          clear LZ EL ER
          clear s0 s1

          go_wp2_with fail
          refine ALV.out.mono ?_
          rintro e wz ⟨rfl, hbz, hcz⟩
          have BZ := Lib.hid hbz
          have d110 := hcz _ _ _ c110
          have d111 := hcz _ _ _ c111
          have d112 := hcz _ _ _ c112
          have d131 := hcz _ _ _ c131
          have d40 := hcz _ _ _ c40
          have d41 := hcz _ _ _ c41
          have d42 := hcz _ _ _ c42
          clear hbz hcz c150 c151 c152 c130 c131 c132 c110 c111 c112 c40 c41 c42 c30 c31 c32
          go_wp2
          go_ret
          exact ⟨rfl, BZ.out⟩

end Go.Proofs.Ytkgdpmeheakdcaa
