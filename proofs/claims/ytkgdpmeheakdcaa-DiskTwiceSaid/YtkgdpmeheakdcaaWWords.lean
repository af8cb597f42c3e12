/- DiskWords: the plain law and the walk. -/
import Derived.Test.YtkgdpmeheakdcaaPlain
import Derived.Test.YtkgdpmeheakdcaaAlive
import Derived.BigQuiet
import Derived.Deep.QuietTactic
namespace Go.Proofs.Ytkgdpmeheakdcaa
open Go.RowKit
set_option linter.all false
set_option maxRecDepth 100000

theorem set_at (l : List Int) (i j : Nat) (x : Int) (hi : i < l.length) : (l.set i x).getD j 0 = if j = i then x else l.getD j 0 := by
  by_cases h : j = i
  · subst h
    simp [List.getD_eq_getElem?_getD, hi]
  · rw [if_neg h, List.getD_eq_getElem?_getD, List.getElem?_set_ne (by omega), List.getD_eq_getElem?_getD]

theorem RowOf.at {k : IntKind} {w : World} {a : Option Addr} {len cap : Nat} {zs : List Int} (h : RowOf k w a len cap zs) (j : Nat) (hj : j < len) :
    ∃ kb ko, a = some ⟨kb, ko, none⟩ ∧ w.cell? ⟨kb, ko + j, none⟩ = some (.int k (zs.getD j 0)) ∧ kb < w.heap.size := by
  rcases h with ⟨rfl, rfl, rfl, rfl⟩ | ⟨x, rfl, h1, h2, h3, h4, h5⟩
  · omega
  · obtain ⟨kb, ko, spot⟩ := x
    have hs : spot = none := by
      have hc0 := h4 0 (by omega)
      simpa [Addr.add] using World.cell?_spot hc0
    subst hs
    have hc : w.cell? ⟨kb, ko + j, none⟩ = some (.int k (zs.getD j 0)) := by
      have hc := h4 j (by omega)
      simpa [Addr.add_lit] using hc
    exact ⟨kb, ko, rfl, hc, cell_lt hc⟩
theorem RowOf.capOk {k : IntKind} {w : World} {a : Option Addr} {len cap : Nat} {zs : List Int} (h : RowOf k w a len cap zs) : len ≤ cap := by
  rcases h with ⟨rfl, rfl, rfl, rfl⟩ | ⟨x, rfl, h1, h2, h3, h4, h5⟩
  · exact Nat.le_refl _
  · exact h1

/-- The disk behind i rounds. -/
structure WI (z : List Int) (i : Nat) (D : DS) : Prop where
  on : D.on = true
  armed : D.armed = false
  waits : D.waits = []
  last : D.last = i
  good : Good 0 D
  words : ∀ j, j < i → D.words.getD j 0 = z.getD j 0
  table : ∀ j : Nat, j < i → D.table.getD j 0 = (j : Int) + 1

theorem DiskS.drewN {base b : Nat} {D : DS} {w : World} (h : DiskS base b D w) (n : Nat) : DiskS base b D (w.drewN n) := by
  induction n with
  | zero => exact h
  | succ n ih => exact ih.grow (Grow.drew _)
theorem below_drewN {B : Nat} {a w : World} (h : Below B a w) (n : Nat) : Below B a (w.drewN n) := by
  induction n with
  | zero => exact h
  | succ n ih => exact ih.drew
theorem wi_new (z : List Int) : WI z 0 (newDS 3) := ⟨rfl, rfl, rfl, rfl, good_new 3 (by decide) (by decide), fun j h => by omega, fun j h => by omega⟩

def wdP (D : DS) (i : Nat) (x : Int) : DS := { D with words := D.words.set i x }
def wdA (D : DS) (i : Nat) : DS := { D with table := D.table.set i ((i : Int) + 1), last := (i : Int) + 1 }

theorem mayE_ok (i : Nat) (h : i ≤ 16) : mayE true (i : Int) = 0 := by
  unfold mayE
  simp
  omega
theorem wi_put {z : List Int} {i : Nat} {D : DS} (h : WI z i D) (hi : i < 17) (x : Int) : putR D i x = (0, wdP D i x) := by
  unfold putR wdP
  rw [h.on, mayE_ok i (by omega), (goesD_off h.armed).2, (goesD_off h.armed).1]
  simp [h.on]
theorem wi_put_good {z : List Int} {i : Nat} {D : DS} (h : WI z i D) (x : Int) : Good 0 (wdP D i x) := { h.good with wl := (List.length_set ..).trans h.good.wl }
theorem wi_admit {z : List Int} {i : Nat} {D : DS} (h : WI z i D) (hi : i < 17) (x : Int) : admitR (wdP D i x) i ((i : Int) + 1) = (0, wdA (wdP D i x) i) := by
  unfold admitR
  have ha : (wdP D i x).armed = false := h.armed
  have ho : (wdP D i x).on = true := h.on
  have hl : (wdP D i x).last = i := h.last
  rw [ho, mayE_ok i (by omega), (goesD_off ha).2, (goesD_off ha).1, hl]
  rw [if_neg (by simp), if_neg (by omega), if_neg (by simp)]
  rfl
theorem wi_step {z : List Int} {i : Nat} {D : DS} (h : WI z i D) (hi : i < 17) : WI z (i + 1) (wdA (wdP D i (z.getD i 0)) i) := by
  refine ⟨h.on, h.armed, h.waits, by show ((i : Int) + 1) = _; push_cast; rfl, { wi_put_good h (z.getD i 0) with tl := (List.length_set ..).trans h.good.tl }, ?_, ?_⟩
  · intro j hj
    show (D.words.set i (z.getD i 0)).getD j 0 = _
    rw [set_at _ _ _ _ (by rw [h.good.wl]; exact hi)]
    by_cases hji : j = i
    · rw [if_pos hji, hji]
    · rw [if_neg hji]; exact h.words j (by omega)
  · intro j hj
    show (D.table.set i ((i : Int) + 1)).getD j 0 = _
    rw [set_at _ _ _ _ (by rw [h.good.tl]; exact hi)]
    by_cases hji : j = i
    · rw [if_pos hji, hji]
    · rw [if_neg hji]; exact h.table j (by omega)

set_option maxHeartbeats 4000000 in
theorem words_walk (a0 : Option Addr) (len0 cap0 : Nat) (z0 : List Int) (a1 : Option Addr) (len1 cap1 : Nat) (z1 : List Int) (w : World) (w0 : RowOf .u64 w a0 len0 cap0 z0) (w1 : RowOf .i64 w a1 len1 cap1 z1) :
    Calls Try.prog 4 #[.slice a0 len0 cap0, .slice a1 len1 cap1] w fun e w' => e = .returned (.bool true) ∧ Below w.heap.size w w' := by
  have HAL := Lib.hid (fun wx => alive_any wx)
  by_cases h0 : 17 < len0
  · have hd0 : decide (17 < (len0 : Int)) = true := by simp; omega
    clear w0 w1 h0
    go_enter Try.func4, Try.ntmps4
    go_wp2_with fail
    refine (HAL.out w).mono ?_
    rintro e w9 ⟨rfl, b9⟩
    go_wp2
    go_ret
    exact ⟨rfl, b9⟩
  have hd0 : decide (17 < (len0 : Int)) = false := by simp; omega
  by_cases h1 : 20 < len1
  · have hd1 : decide (20 < (len1 : Int)) = true := by simp; omega
    clear w0 w1 h1
    go_enter Try.func4, Try.ntmps4
    go_wp2_with fail
    refine (HAL.out w).mono ?_
    rintro e w9 ⟨rfl, b9⟩
    go_wp2
    go_ret
    exact ⟨rfl, b9⟩
  have hd1 : decide (20 < (len1 : Int)) = false := by simp; omega
  have HK := Lib.hid (w1.keep (by omega))
  have HW := Lib.hid w0
  have hcap := w0.capOk
  have H0 := Lib.hid (step_new 3 (by decide) (by decide) w)
  clear w0 w1
  go_enter Try.func4, Try.ntmps4
  go_wp2_with fail
  refine H0.out.mono ?_
  rintro e w2 ⟨b, rfl, d1, b1⟩
  have D1 := Lib.hid d1
  have B1 := Lib.hid b1
  clear d1 b1 H0
  go_wp2
  go_loopw [6] (fun i wr => ∃ (k : Nat) (D : DS), k ≤ len0 ∧ i = .int .i64 k ∧ WI z0 k D ∧ DiskS w.heap.size b D wr ∧ Below w.heap.size w wr)
    (fun i _ => len0 - (intOf i).toNat)
  case atStart => exact ⟨0, _, Nat.zero_le _, rfl, wi_new z0, D1.out, B1.out⟩
  case round =>
    obtain ⟨k, D, hk, rfl, hwi, hds, hbl⟩ := hrel
    have HI := Lib.hid hwi
    have HD := Lib.hid hds
    have HB := Lib.hid hbl
    have hbs := hbl.size
    by_cases hlt : k < len0
    · obtain ⟨kb, ko, ha0, hc, hkb⟩ := HW.out.at k hlt
      have hcx : wr.cell? ⟨kb, ko + k, none⟩ = some (.int .u64 (z0.getD k 0)) := by
        rw [World.cell?_of_block (hbl.block kb hkb)]
        exact hc
      subst ha0
      have HP := step_put hds hwi.good (by decide) hbs k (z0.getD k 0)
      rw [wi_put hwi (by omega)] at HP
      dsimp only at HP
      replace HP := Lib.hid HP
      have hkc : k < cap0 := by omega
      clear hwi hds hbl hbs hc hkb
      go_wp2_with fail
      refine HP.out.mono ?_
      rintro e w3 ⟨rfl, d3, b3⟩
      have B3 := Lib.hid (HB.out.trans b3)
      have HA := step_admit d3 (wi_put_good HI.out (z0.getD k 0)) (by decide) B3.out.size k ((k : Int) + 1)
      rw [wi_admit HI.out (by omega)] at HA
      dsimp only at HA
      replace HA := Lib.hid HA
      clear d3 b3
      go_wp2_with fail
      refine HA.out.mono ?_
      rintro e w4 ⟨rfl, d4, b4⟩
      have B4 := Lib.hid (B3.out.trans b4)
      have D4 := Lib.hid d4
      clear d4 b4
      go_wp2
      go_roundw
      case rel => exact ⟨k + 1, _, by omega, by go_num, wi_step HI.out (by omega), D4.out, B4.out⟩
      case measure => simp [intOf]; omega
    · have hkn : k = len0 := by omega
      subst hkn
      have HC := Lib.hid (step_cut hds hwi.good (by decide) hbs hwi.on a1 len1 cap1 _ (HK.out.below hbl) (HK.out.ne hds.le))
      clear hwi hds hbl hbs
      go_wp2_with fail
      refine HC.out.mono ?_
      rintro e w3 ⟨rfl, d3, b3⟩
      have B3 := Lib.hid (HB.out.trans b3)
      have HR := Lib.hid (step_restore d3 (HI.out.good.cutOn _) B3.out.size)
      clear d3 b3
      go_wp2_with fail
      refine HR.out.mono ?_
      rintro e w4 ⟨rfl, d4, b4⟩
      obtain ⟨DD, hDD⟩ : ∃ DD, DD = restD (cutOn D (z1.take len1)) := ⟨_, rfl⟩
      rw [← hDD] at d4
      have HDD := Lib.hid hDD
      have B4 := Lib.hid (B3.out.trans b4)
      have D4 := Lib.hid d4
      clear d4 b4 hDD HC HR B1 D1
      go_wp2
      go_loopw [7] (fun i wr => ∃ (j : Nat), j ≤ k ∧ i = .int .i64 j ∧ DiskS w.heap.size b DD wr ∧ Below w.heap.size w wr)
        (fun i _ => k - (intOf i).toNat)
      case atStart => exact ⟨0, Nat.zero_le _, rfl, D4.out, B4.out⟩
      case round =>
        obtain ⟨j, hj, rfl, hds, hbl⟩ := hrel
        have hDD := HDD.out
        by_cases hlt2 : j < k
        · obtain ⟨kb, ko, ha0, hc, hkb⟩ := HW.out.at j hlt2
          have hcx : wr.cell? ⟨kb, ko + j, none⟩ = some (.int .u64 (z0.getD j 0)) := by
            rw [World.cell?_of_block (hbl.block kb hkb)]
            exact hc
          subst ha0
          have hww : atNode DD.words j = z0.getD j 0 := by
            unfold atNode
            rw [if_neg (by omega), Int.toNat_natCast, hDD]
            exact HI.out.words j hlt2
          have hee : atNode DD.table j = (j : Int) + 1 := by
            unfold atNode
            rw [if_neg (by omega), Int.toNat_natCast, hDD]
            exact HI.out.table j hlt2
          have q1 : ∀ n, Calls Try.prog 26 #[.pointer (some ⟨b, 0, none⟩), .int .i64 j] (wr.drewN n) fun e w' => e = .returned (.int .u64 (z0.getD j 0)) ∧ w' = wr.drewN n := fun n => by
            have := step_word (hds.drewN n) j
            rw [hww] at this
            exact this.mono fun e w' ⟨h1, h2⟩ => ⟨h1, h2.symm⟩
          have q2 : ∀ n, Calls Try.prog 27 #[.pointer (some ⟨b, 0, none⟩), .int .i64 j] (wr.drewN n) fun e w' => e = .returned (.int .u64 ((j : Int) + 1)) ∧ w' = wr.drewN n := fun n => by
            have := step_epoch (hds.drewN n) j
            rw [hee] at this
            exact this.mono fun e w' ⟨h1, h2⟩ => ⟨h1, h2.symm⟩
          have Q1 := Lib.hid q1
          have Q2 := Lib.hid q2
          have HD2 := Lib.hid hds
          have HB2 := Lib.hid hbl
          have hkc : j < cap0 := by omega
          clear q1 q2 hww hee hc hkb hds hbl hDD
          generalize hzz : z0.getD j 0 = zz at *
          go_upto_region 16 with fail
          go_quiet (first
            | (go_at_call 26
               refine Calls.quiet_of_same (Q1.out _))
            | (go_at_call 27
               refine Calls.quiet_of_same (Q2.out _)))
          go_wp2
          go_roundw
          case rel => exact ⟨j + 1, by omega, by go_num, HD2.out.drewN _, below_drewN HB2.out _⟩
          case measure => simp [intOf]; omega
        · have hjk : j = k := by omega
          subst hjk
          have hla : DD.last = (j : Int) := by rw [hDD]; exact HI.out.last
          have HLA := Lib.hid hla
          have HD2 := Lib.hid hds
          have HB2 := Lib.hid hbl
          clear hla hds hbl hDD
          go_wp2_with fail
          refine (HAL.out wr).mono ?_
          rintro e w6 ⟨rfl, b6⟩
          have d6 := HD2.out.below b6
          have HL := step_last d6
          rw [HLA.out] at HL
          replace HL := Lib.hid HL
          have B6 := Lib.hid (HB2.out.trans (b6.mono HB2.out.size))
          clear b6 d6
          go_wp2_with fail
          refine HL.out.mono ?_
          rintro e w7 ⟨rfl, rfl⟩
          go_wp2
          go_ret
          exact ⟨rfl, B6.out⟩

end Go.Proofs.Ytkgdpmeheakdcaa
