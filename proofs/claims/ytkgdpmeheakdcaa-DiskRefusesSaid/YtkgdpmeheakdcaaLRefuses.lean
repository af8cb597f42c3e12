/- DiskRefuses: the walk of the law. -/
import Derived.Test.YtkgdpmeheakdcaaPlain
import Derived.Test.YtkgdpmeheakdcaaAlive
import Derived.Deep.CutRange
namespace Go.Proofs.Ytkgdpmeheakdcaa
open Go.RowKit
set_option linter.all false
set_option maxRecDepth 100000

def rf1 : DS := (admitR (newDS 6) 1 3).2
def rf2 : DS := (writeR rf1 1 3 0 (fillB 113 384)).2
theorem rf1_ok : admitR (newDS 6) 1 3 = (0, rf1) := Prod.ext (by kernel_rfl) rfl
theorem rf2_ok : writeR rf1 1 3 0 (fillB 113 384) = (0, rf2) := Prod.ext (by kernel_rfl) rfl
theorem rf0_good : Good 0 (newDS 6) := good_new 6 (by decide) (by decide)
theorem rf1_good : Good 0 rf1 := rf0_good.admitted 1 3
theorem rf2_good : Good 16 rf2 := rf1_good.write 1 3 0 _
theorem rf2_on : rf2.on = true := by kernel_rfl
theorem rf2_armed : rf2.armed = false := by kernel_rfl
theorem rf2_table : rf2.table = (List.replicate 17 0).set 1 3 := by kernel_rfl
theorem rf2_sectors : rf2.sectors = 6 := by kernel_rfl
theorem rf2_read : readR rf2 0 6 = (fillB 113 384, 0) := by kernel_rfl

def rfGood (node epoch a : Int) (L : Nat) : Prop := node = 1 ∧ epoch = 3 ∧ 0 < L ∧ L % 64 = 0 ∧ L ≤ 1024 ∧ 0 ≤ a ∧ a ≤ 6 - ((L / 64 : Nat) : Int)

theorem rf_table_at (n : Nat) (e : Int) (he : e ≠ 0) (h : ((List.replicate 17 (0 : Int)).set 1 3).getD n 0 = e) : n = 1 ∧ e = 3 := by
  by_cases hn : n = 1
  · subst hn; exact ⟨rfl, h.symm⟩
  · exfalso
    apply he
    rw [← h, List.getD_eq_getElem?_getD, List.getElem?_set_ne (by omega)]
    rw [List.getElem?_replicate]
    split <;> rfl

theorem admE_zero {t e : Int} (h : admE t e = 0) : e ≠ 0 ∧ t = e := by
  unfold admE at h
  by_cases h5 : e = 0
  · simp [h5] at h
  · by_cases h6 : t = e
    · exact ⟨h5, h6⟩
    · simp [h5, h6] at h

theorem rf_bad {node epoch a : Int} {data : ByteArray} (h : ¬ rfGood node epoch a data.size) : ∃ v, v ≠ 0 ∧ writeR rf2 node epoch a data = (v, rf2) := by
  unfold writeR
  rw [rf2_on, rf2_table, rf2_sectors, (goesD_off rf2_armed).2]
  by_cases h1 : mayE true node = 0
  · rw [if_neg (by simpa using h1)]
    obtain ⟨-, n0, n16⟩ := mayE_zero h1
    cases h2 : goodB data with
    | false => exact ⟨1, by decide, by rw [if_pos rfl]⟩
    | true =>
      rw [if_neg (by simp)]
      have hg : 1 ≤ data.size / 64 ∧ data.size / 64 ≤ 16 ∧ data.size % 64 = 0 := by simpa [goodB] using h2
      by_cases h3 : admE (((List.replicate 17 (0 : Int)).set 1 3).getD node.toNat 0) epoch = 0
      · rw [if_neg (by simpa using h3)]
        cases h4 : thereB 6 a (data.size / 64 : Nat) with
        | false => exact ⟨30, by decide, by rw [if_pos rfl]⟩
        | true =>
          exfalso
          apply h
          have ht : 0 ≤ a ∧ a ≤ 6 ∧ ((data.size / 64 : Nat) : Int) ≤ 6 - a := by
            unfold thereB at h4
            exact of_decide_eq_true h4
          have he : epoch ≠ 0 ∧ ((List.replicate 17 (0 : Int)).set 1 3).getD node.toNat 0 = epoch := by
            exact admE_zero h3
          obtain ⟨hn, he3⟩ := rf_table_at _ _ he.1 he.2
          exact ⟨by omega, he3, by omega, hg.2.2, by omega, ht.1, by omega⟩
      · exact ⟨34, by decide, by rw [if_pos (by simpa using h3)]⟩
  · exact ⟨mayE true node, h1, by rw [if_pos (by simpa using h1)]⟩

theorem rf_good {node epoch a : Int} {data : ByteArray} (h : rfGood node epoch a data.size) : writeR rf2 node epoch a data = (0, wrN rf2 1 a data (data.size / 64)) := by
  obtain ⟨rfl, rfl, h0, h1, h2, h3, h4⟩ := h
  unfold writeR
  rw [rf2_on, rf2_table, rf2_sectors, (goesD_off rf2_armed).2, (goesD_off rf2_armed).1]
  have g : goodB data = true := by simp [goodB]; omega
  have t : thereB 6 a (data.size / 64 : Nat) = true := by simp [thereB]; omega
  rw [g, t]
  rfl

theorem wrN_on (D : DS) (node a : Int) (data : ByteArray) : ∀ q, (wrN D node a data q).on = D.on
  | 0 => rfl
  | q + 1 => wrN_on D node a data q
theorem wrN_sectors (D : DS) (node a : Int) (data : ByteArray) : ∀ q, (wrN D node a data q).sectors = D.sectors
  | 0 => rfl
  | q + 1 => wrN_sectors D node a data q

def rfG (a n : Int) : Int := if 1 ≤ n ∧ n ≤ 6 ∧ 0 ≤ a ∧ a ≤ 6 - n then 0 else 30
theorem rf_read2 {D : DS} (h : D.on = true) (hs : D.sectors = 6) (a n : Int) : (readR D a n).2 = rfG a n := by
  rw [readR_on h, hs]
  unfold rfG
  by_cases hc : 1 ≤ n ∧ n ≤ 6 ∧ 0 ≤ a ∧ a ≤ 6 - n
  · rw [if_pos hc, if_pos (by omega)]
  · rw [if_neg hc, if_neg (by omega)]

end Go.Proofs.Ytkgdpmeheakdcaa
