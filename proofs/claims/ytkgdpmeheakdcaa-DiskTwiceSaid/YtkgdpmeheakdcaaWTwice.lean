/- DiskTwice: walk. -/
import Derived.Test.YtkgdpmeheakdcaaTwin
namespace Go.Proofs.Ytkgdpmeheakdcaa
open Go.RowKit
set_option linter.all false
set_option maxRecDepth 100000

/-- The disk's blocks lie in lo .. hi-1. -/
def DiskC (hi b : Nat) (D : DS) (w : World) : Prop := ∃ F, DiskAt F b D w ∧ ∀ k, F k → k < hi
section
variable {hi b N : Nat} {D : DS} {w w' : World}
theorem DiskC.below {B : Nat} (h : DiskC hi b D w) (hb : Below B w w') (hB : hi ≤ B) : DiskC hi b D w' := by
  obtain ⟨F, ⟨nb, lb, wv, sv, hd⟩, hF⟩ := h
  exact ⟨F, ⟨nb, lb, wv, sv, hd.of_agree (fun k hk => hb.block k (Nat.lt_of_lt_of_le (hF k hk) hB)) hb.size⟩, hF⟩
theorem DiskC.read (h : DiskC hi b D w) (g : Good N D) (hN : N ≤ 900000) (a n : Int) :
    Calls Try.prog 22 #[.pointer (some ⟨b, 0, none⟩), .int .i64 a, .int .i64 n] w fun e w' => e = .returned (.tuple #[.string (readR D a n).1, .int .i64 (readR D a n).2]) ∧ Below w.heap.size w w' := by
  obtain ⟨F, ⟨nb, lb, wv, sv, hd⟩, hF⟩ := h
  refine (read_any hd (g.ok hN) g.zn a n).mono ?_
  rintro e w' ⟨rfl, hg⟩
  exact ⟨rfl, hg.below (Nat.le_refl _) (fun _ h => h.elim)⟩
theorem DiskC.waiting (h : DiskC hi b D w) (g : Good N D) (hN : N ≤ 900000) (node : Int) :
    Calls Try.prog 34 #[.pointer (some ⟨b, 0, none⟩), .int .i64 node] w fun e w' => e = .returned (.int .i64 (waiting D node)) ∧ Below w.heap.size w w' := by
  obtain ⟨F, ⟨nb, lb, wv, sv, hd⟩, hF⟩ := h
  refine (waiting_any hd node (by have := g.wn; omega)).mono ?_
  rintro e w' ⟨rfl, hg⟩
  exact ⟨rfl, hg.below (Nat.le_refl _) (fun _ h => h.elim)⟩
theorem step_twin {base n : Nat} (h : DiskS base b D w) (r : RI n D) (hn : n ≤ 900000) :
    Calls Try.prog 36 #[.pointer (some ⟨b, 0, none⟩)] w fun e w' => ∃ t, e = .returned (.pointer (some ⟨t, 0, none⟩)) ∧ DiskS w.heap.size t D w' ∧ DiskC w.heap.size b D w' ∧ Below w.heap.size w w' := by
  obtain ⟨F, ⟨nb, lb, wv, sv, hd⟩, hF⟩ := h
  refine (twin_any hd r.nil (by have := r.good.wn; omega)).mono ?_
  rintro e w' ⟨t, F', rfl, h1, h2, h3⟩
  exact ⟨t, rfl, ⟨F', h1, h2⟩, ⟨F, ⟨nb, lb, wv, sv, hd.grow h3 (fun _ _ h => h)⟩, hd.flt⟩, h3.below (Nat.le_refl _) (fun _ h => h.elim)⟩
end
theorem OpsRow.below' {w w' : World} {a : Option Addr} {len cap : Nat} {os : List OpV} (h : OpsRow w a len cap os) (hb : Below w.heap.size w w') : OpsRow w' a len cap os :=
  ⟨h.hlen, h.hcap, h.hmax, fun i hi => by
    obtain ⟨o, kb, ko, h1, h2, h3, h4⟩ := h.ops i hi
    exact ⟨o, kb, ko, h1, h2, Nat.lt_of_lt_of_le h3 hb.size, h4.below hb h3⟩⟩
theorem OpsRow.lt' {w : World} {a : Option Addr} {len cap : Nat} {os : List OpV} (h : OpsRow w a len cap os) : ∀ x, a = some x → 0 < len → x.block < w.heap.size := by
  intro x hx hl
  obtain ⟨o, kb, ko, h1, h2, h3, h4⟩ := h.ops 0 hl
  rw [hx] at h2
  cases h2
  exact h3
theorem three_any (w : World) : (Instr.buildSlice 34 3 #[(0, .int .i64 1), (1, .int .i64 1), (2, .int .i64 1)]).run Try.prog w = .ok (.slice (some ⟨w.heap.size, 0, none⟩) 3 3) (w.alloc (.cells (intCells [1, 1, 1]).toArray 3)) := by kernel_rfl

theorem ri_new : RI 0 (newDS 8) := ⟨rfl, rfl, good_new 8 (by decide) (by decide), rfl⟩

set_option maxHeartbeats 4000000 in
theorem twice_walk (a0 : Option Addr) (len0 cap0 : Nat) (z0 : List OpV) (a1 : Option Addr) (len1 cap1 : Nat) (z1 : List OpV) (w : World) (w0 : OpsRow w a0 len0 cap0 z0) (w1 : OpsRow w a1 len1 cap1 z1) :
    Calls Try.prog 10 #[.slice a0 len0 cap0, .slice a1 len1 cap1] w fun e w' => e = .returned (.bool true) ∧ Below w.heap.size w w' := by
  have HA := Lib.hid (fun w => alive_any w)
  have L0 := Lib.hid (light_any a0 len0 cap0 z0 w w0)
  have O0 := Lib.hid w0
  have O1 := Lib.hid w1
  clear w0 w1
  go_enter Try.func10, Try.ntmps10
  go_wp2_with fail
  refine L0.out.mono ?_
  rintro e w2 ⟨v0, rfl, lo0, hb⟩
  have B2 := Lib.hid hb
  have LO0 := Lib.hid lo0
  clear lo0
  cases v0 with
  | false =>
    clear hb
    go_wp2_with fail
    refine (HA.out w2).mono ?_
    rintro e w9 ⟨rfl, hb⟩
    have B9 := Lib.hid (B2.out.trans (hb.mono B2.out.size))
    clear hb
    go_wp2
    go_ret
    exact ⟨rfl, B9.out⟩
  | true =>
    have L1 := Lib.hid (light_any a1 len1 cap1 z1 w2 (O1.out.below' hb))
    clear hb
    go_wp2_with fail
    refine L1.out.mono ?_
    rintro e w3 ⟨v1, rfl, lo1, hb⟩
    have B3 := Lib.hid (B2.out.trans (hb.mono B2.out.size))
    have LO1 := Lib.hid lo1
    clear lo1 hb
    cases v1 with
    | false =>
      go_wp2_with fail
      refine (HA.out w3).mono ?_
      rintro e w9 ⟨rfl, hb⟩
      have B9 := Lib.hid (B3.out.trans (hb.mono B3.out.size))
      clear hb
      go_wp2
      go_ret
      exact ⟨rfl, B9.out⟩
    | true =>
      by_cases h0 : len0 ≤ 40
      case neg =>
        have e0 : decide (40 < (len0 : Int)) = true := by simp; omega
        go_wp2_with fail
        refine (HA.out w3).mono ?_
        rintro e w9 ⟨rfl, hb⟩
        have B9 := Lib.hid (B3.out.trans (hb.mono B3.out.size))
        clear hb
        go_wp2
        go_ret
        exact ⟨rfl, B9.out⟩
      have e0 : decide (40 < (len0 : Int)) = false := by simp; omega
      by_cases h1 : len1 ≤ 40
      case neg =>
        have e1 : decide (40 < (len1 : Int)) = true := by simp; omega
        go_wp2_with fail
        refine (HA.out w3).mono ?_
        rintro e w9 ⟨rfl, hb⟩
        have B9 := Lib.hid (B3.out.trans (hb.mono B3.out.size))
        clear hb
        go_wp2
        go_ret
        exact ⟨rfl, B9.out⟩
      have e1 : decide (40 < (len1 : Int)) = false := by simp; omega
      have HN := Lib.hid (step_new 8 (by decide) (by decide) w3)
      go_wp2_with fail
      refine HN.out.mono ?_
      rintro e w4 ⟨b, rfl, hd, hb⟩
      have hb4 := B3.out.trans (hb.mono B3.out.size)
      have B4 := Lib.hid hb4
      have R4 := Lib.hid (run_any hd ri_new hb.size a0 len0 cap0 z0 (O0.out.below' hb4) (fun x hx hl => Nat.lt_of_lt_of_le (O0.out.lt' x hx hl) B3.out.size) h0 (by omega) (LO0.out rfl).2)
      have S4 : Hid (w3.heap.size ≤ w4.heap.size) := Lib.hid hb.size
      clear hd hb hb4
      go_wp2_with fail
      refine R4.out.mono ?_
      rintro e w5 ⟨rfl, ⟨D, hr, hd⟩, hb⟩
      have hb5 := B4.out.trans (hb.mono B3.out.size)
      have B5 := Lib.hid hb5
      have HR := Lib.hid hr
      have T5 := Lib.hid (step_twin hd hr (by omega))
      clear hd hb hb5 hr
      go_wp2_with fail
      refine T5.out.mono ?_
      rintro e w6 ⟨t, rfl, ht, hd, hb⟩
      have B6 := Lib.hid (B5.out.trans (hb.mono B5.out.size))
      have S6 : Hid (w5.heap.size ≤ w6.heap.size) := Lib.hid hb.size
      have T6 := Lib.hid ht
      have D6 := Lib.hid hd
      have R6 := Lib.hid (hd.read HR.out.good (by omega) 0 8)
      obtain ⟨rs, hrs⟩ : ∃ rs, rs = (readR D 0 8).1 := ⟨_, rfl⟩
      obtain ⟨re, hre⟩ : ∃ re, re = (readR D 0 8).2 := ⟨_, rfl⟩
      obtain ⟨wt, hwt⟩ : ∃ wt, wt = (waiting D 1 : Int) := ⟨_, rfl⟩
      rw [← hrs, ← hre] at R6
      have RQ : Hid (∀ wx, DiskC w5.heap.size b D wx → Calls Try.prog 22 #[.pointer (some ⟨b, 0, none⟩), .int .i64 0, .int .i64 8] wx fun e w' => e = .returned (.tuple #[.string rs, .int .i64 re]) ∧ Below wx.heap.size wx w') := Lib.hid (fun wx h => by rw [hrs, hre]; exact h.read HR.out.good (by omega) 0 8)
      have WQ : Hid (∀ wx, DiskC w5.heap.size b D wx → Calls Try.prog 34 #[.pointer (some ⟨b, 0, none⟩), .int .i64 1] wx fun e w' => e = .returned (.int .i64 wt) ∧ Below wx.heap.size wx w') := Lib.hid (fun wx h => by rw [hwt]; exact h.waiting HR.out.good (by omega) 1)
      clear ht hd hb hrs hre hwt
      go_wp2_with fail
      refine R6.out.mono ?_
      rintro e w7 ⟨rfl, hb⟩
      have B7 := Lib.hid (B6.out.trans (hb.mono B6.out.size))
      have S7 : Hid (w5.heap.size ≤ w7.heap.size) := Lib.hid (Nat.le_trans S6.out hb.size)
      have T7 := Lib.hid (T6.out.below hb)
      have D7 := Lib.hid (D6.out.below hb S6.out)
      have W7 := Lib.hid (WQ.out w7 D7.out)
      clear hb
      go_wp2_with fail
      refine W7.out.mono ?_
      rintro e w8 ⟨rfl, hb⟩
      have B8 := Lib.hid (B7.out.trans (hb.mono B7.out.size))
      have S8 : Hid (w5.heap.size ≤ w8.heap.size) := Lib.hid (Nat.le_trans S7.out hb.size)
      have D8 := Lib.hid (D7.out.below hb S7.out)
      have R8 := Lib.hid (run_any (T7.out.below hb) HR.out S8.out a1 len1 cap1 z1 (O1.out.below' B8.out) (fun x hx hl => Nat.lt_of_lt_of_le (O1.out.lt' x hx hl) B5.out.size) h1 (by omega) (LO1.out rfl).2)
      clear hb
      go_wp2_with fail
      refine R8.out.mono ?_
      rintro e w9 ⟨rfl, ⟨D2, hr2, ht⟩, hb⟩
      have B9 := Lib.hid (B8.out.trans (hb.mono B5.out.size))
      have S9 : Hid (w5.heap.size ≤ w9.heap.size) := Lib.hid (Nat.le_trans S8.out hb.size)
      have D9 := Lib.hid (D8.out.below hb (Nat.le_refl _))
      have L9 := three_any w9
      have ha : Below w9.heap.size w9 (w9.alloc (.cells (intCells [1, 1, 1]).toArray 3)) := (Below.refl _ _).alloc (Nat.le_refl _) _
      have BA := Lib.hid (B9.out.trans (ha.mono B9.out.size))
      have DA := Lib.hid (D9.out.below ha S9.out)
      have SA : Hid (w5.heap.size ≤ (w9.alloc (.cells (intCells [1, 1, 1]).toArray 3)).heap.size) := Lib.hid (Nat.le_trans S9.out ha.size)
      have H9 := Lib.hid (step_cut (ht.below ha) hr2.good (by omega) SA.out hr2.on (some ⟨w9.heap.size, 0, none⟩) 3 3 [1, 1, 1] (keep_lit w9 [1, 1, 1] (by decide)) (fun a ha _ => by cases ha; have := ht.lt; exact fun e => by simp at e; omega))
      clear hb ht hr2 ha
      go_wp2_with fail
      refine H9.out.mono ?_
      rintro e wB ⟨rfl, ht, hb⟩
      have BB := Lib.hid (BA.out.trans (hb.mono B5.out.size))
      have DB := Lib.hid (DA.out.below hb (Nat.le_refl _))
      have TB := Lib.hid ht
      have RB := Lib.hid (RQ.out wB DB.out)
      have SB : Hid (w5.heap.size ≤ wB.heap.size) := Lib.hid (Nat.le_trans SA.out hb.size)
      clear hb ht L9
      go_wp2_with fail
      refine RB.out.mono ?_
      rintro e wC ⟨rfl, hb⟩
      have BC := Lib.hid (BB.out.trans (hb.mono BB.out.size))
      have SC : Hid (w5.heap.size ≤ wC.heap.size) := Lib.hid (Nat.le_trans SB.out hb.size)
      have DC := Lib.hid (DB.out.below hb SB.out)
      have TC := Lib.hid (TB.out.below hb)
      clear hb
      go_wp2_with fail
      refine (HA.out wC).mono ?_
      rintro e wD ⟨rfl, hb⟩
      have BD := Lib.hid (BC.out.trans (hb.mono BC.out.size))
      have SD : Hid (w5.heap.size ≤ wD.heap.size) := Lib.hid (Nat.le_trans SC.out hb.size)
      have DD := Lib.hid (DC.out.below hb SC.out)
      have TD := Lib.hid (TC.out.below hb)
      have WD := Lib.hid (WQ.out wD DD.out)
      clear hb
      go_wp2_with fail
      refine WD.out.mono ?_
      rintro e wE ⟨rfl, hb⟩
      have BE := Lib.hid (BD.out.trans (hb.mono BD.out.size))
      have HON : Hid (Calls Try.prog 31 #[.pointer (some ⟨t, 0, none⟩)] wE fun e w' => e = .returned (.bool false) ∧ wE = w') := Lib.hid (step_on (TD.out.below hb))
      clear hb
      go_wp2_with fail
      refine HON.out.mono ?_
      rintro e wF ⟨rfl, rfl⟩
      go_wp2
      go_ret
      exact ⟨rfl, BE.out⟩

end Go.Proofs.Ytkgdpmeheakdcaa
