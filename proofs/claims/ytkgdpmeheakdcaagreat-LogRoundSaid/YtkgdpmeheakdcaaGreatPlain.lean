/- Plain laws of what is read behind a write: no program. -/
import Derived.Test.YtkgdpmeheakdcaaGreatStep
namespace Go.Proofs.YtkgdpmeheakdcaaGreat
open Go.RowKit
set_option linter.all false

theorem readL_split (D : DS) (a : Int) (m : Nat) : ∀ n, readL D a (m + n) = readL D a m ++ readL D (a + m) n
  | 0 => by simp [readL]
  | n + 1 => by
    rw [← Nat.add_assoc]
    simp only [readL, readL_split D a m n, List.append_assoc]
    rw [show a + ((m + n : Nat) : Int) = a + m + n by push_cast; omega]
theorem readL_part {D : DS} (hs : ∀ k s, D.now k = some s → s.size = 64) (a : Int) (p q n : Nat) (h : p + q ≤ n) : ((readL D a n).drop (64 * p)).take (64 * q) = readL D (a + p) q := by
  obtain ⟨r, rfl⟩ : ∃ r, n = p + (q + r) := ⟨n - (p + q), by omega⟩
  rw [readL_split D a p, readL_split D (a + p) q, List.drop_left' (readL_length hs a p), List.take_left' (readL_length hs (a + p) q)]

theorem now_wrN (D : DS) (node a : Int) (data : ByteArray) : ∀ q, (∀ i, i < q → (wrN D node a data q).now (a + i) = some (data.extract (64 * i) (64 * i + 64))) ∧ ∀ j, (j < a ∨ a + q ≤ j) → (wrN D node a data q).now j = D.now j
  | 0 => ⟨fun i h => by omega, fun _ _ => rfl⟩
  | q + 1 => by
    obtain ⟨h1, h2⟩ := now_wrN D node a data q
    have hn : ∀ j, (wrN D node a data (q + 1)).now j = if j = a + q then some (data.extract (64 * q) (64 * q + 64)) else (wrN D node a data q).now j := fun _ => rfl
    constructor
    · intro i hi
      rw [hn]
      by_cases hiq : i = q
      · subst hiq; rw [if_pos rfl]
      · rw [if_neg (by omega)]
        exact h1 i (by omega)
    · intro j hj
      rw [hn, if_neg (by push_cast at hj; omega)]
      exact h2 j (by push_cast at hj; omega)

theorem extract_list (data : ByteArray) (i j : Nat) : (data.extract i j).data.toList = (data.data.toList.drop i).take (j - i) := by
  rw [ByteArray.data_extract, Array.toList_extract, List.extract_eq_drop_take]

theorem readL_data (D : DS) (a : Int) (data : ByteArray) (q : Nat) (h : ∀ i, i < q → D.now (a + i) = some (data.extract (64 * i) (64 * i + 64))) : ∀ k, k ≤ q → 64 * k ≤ data.size → readL D a k = data.data.toList.take (64 * k)
  | 0, _, _ => by simp [readL]
  | k + 1, hk, hd => by
    have hl : data.data.toList.length = data.size := rfl
    rw [readL, readL_data D a data q h k (by omega) (by omega)]
    unfold secAt
    rw [h k (by omega)]
    simp only [Option.getD_some]
    rw [extract_list, show 64 * k + 64 - 64 * k = 64 by omega, show 64 * (k + 1) = 64 * k + 64 by omega, List.take_add]
theorem readL_wrN (D : DS) (node a : Int) (data : ByteArray) (q : Nat) (hq : 64 * q = data.size) : readL (wrN D node a data q) a q = data.data.toList := by
  rw [readL_data _ a data q (now_wrN D node a data q).1 q (Nat.le_refl _) (by omega)]
  have hl : data.data.toList.length = data.size := rfl
  exact List.take_of_length_le (by omega)
theorem readL_same {D E : DS} (a : Int) : ∀ n, (∀ i : Nat, i < n → D.now (a + i) = E.now (a + i)) → readL D a n = readL E a n
  | 0, _ => rfl
  | n + 1, h => by
    rw [readL, readL, readL_same a n (fun i hi => h i (by omega)), secAt, secAt, h n (by omega)]

theorem bytes_of_list {x y : ByteArray} (h : x.data.toList = y.data.toList) : x = y := by
  cases x; cases y
  simp only [ByteArray.mk.injEq]
  exact Array.toList_inj.1 h
/-- What is read of sectors that a write wrote, as the part of a longer read. -/
theorem read_part_wrN {D : DS} {node a : Int} {data : ByteArray} {p q n : Nat} (hs : ∀ k s, (wrN D node a data q).now k = some s → s.size = 64) (ha : a = p) (hq : 64 * q = data.size) (h : p + q ≤ n) :
    (⟨(readL (wrN D node a data q) 0 n).toArray⟩ : ByteArray).extract (64 * p) (64 * p + data.size) = data := by
  apply bytes_of_list
  rw [extract_list]
  show ((readL _ 0 n).drop _).take _ = _
  rw [show 64 * p + data.size - 64 * p = 64 * q by omega, readL_part hs 0 p q n h, show (0 : Int) + p = a by omega]
  exact readL_wrN D node a data q hq

/-- The answer of Read where the disk is on. -/
theorem readR_on {D : DS} (h : D.on = true) (a n : Int) : readR D a n = if 1 ≤ n ∧ n ≤ 400 ∧ 0 ≤ a ∧ a ≤ D.sectors ∧ n ≤ D.sectors - a then (⟨(readL D a n.toNat).toArray⟩, 0) else (⟨#[]⟩, 30) := by
  unfold readR thereB
  rw [if_neg (by simp [h])]
  by_cases h1 : 1 ≤ n ∧ n ≤ 400 ∧ 0 ≤ a ∧ a ≤ D.sectors ∧ n ≤ D.sectors - a
  · rw [if_pos h1, if_neg]
    simp
    omega
  · rw [if_neg h1, if_pos]
    simp
    omega

theorem gb_dec {gb : Bool} {P c : Prop} [Decidable c] (h : gb = true ↔ P) (hc : c ↔ P) : decide c = gb := by
  cases gb with
  | true => exact decide_eq_true (hc.2 (h.1 rfl))
  | false => exact decide_eq_false (fun k => by have := h.2 (hc.1 k); cases this)
theorem gb_false {gb : Bool} {P : Prop} (h : gb = true ↔ P) (hc : ¬ P) : false = gb := by
  cases gb with
  | true => exact absurd (h.1 rfl) hc
  | false => rfl
theorem slice_nat (s : ByteArray) (lo hi : Int) (p q : Nat) (hlo : lo = p) (hhi : hi = q) (h : p ≤ q) (h2 : q ≤ s.size) (wx : World) :
    (Instr.slice 9 (.string s) (some (.int .i64 lo)) (some (.int .i64 hi)) none).run Tryz.prog wx = .ok (.string (s.extract p q)) wx := by
  rw [run_slice_string wx 9 s .i64 .i64 _ _ Tryz.underlying9 (by omega) (by omega) (by omega), hlo, hhi, Int.toNat_natCast, Int.toNat_natCast]

end Go.Proofs.YtkgdpmeheakdcaaGreat
