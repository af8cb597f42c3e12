/- The check sum and the bytes of numbers, as plain functions on lists: no program. -/
import Derived.WalkKit
import Derived.WalkSpells
import Derived.Lib.Hide
import Derived.Laws.BitsAllLaws
namespace Go.Proofs.YtkgdpmeheakdcaaGreat
open Go.RowKit
set_option linter.all false

def crc1 (x : Nat) : Nat := if x % 2 = 1 then (x / 2) ^^^ 3988292384 else x / 2
def crcK : Nat → Nat → Nat
  | 0, x => x
  | k + 1, x => crc1 (crcK k x)
def crcB (x : Nat) (c : UInt8) : Nat := crcK 8 (x ^^^ c.toNat)
def crcL (x : Nat) (l : List UInt8) : Nat := l.foldl crcB x
def crc (l : List UInt8) : Nat := 4294967295 - crcL 4294967295 l

theorem crc1_lt {x : Nat} (h : x < 4294967296) : crc1 x < 4294967296 := by
  unfold crc1
  split
  · exact Nat.xor_lt_two_pow (n := 32) (by omega) (by decide)
  · omega
theorem crcK_lt {x : Nat} (h : x < 4294967296) : ∀ k, crcK k x < 4294967296
  | 0 => h
  | k + 1 => crc1_lt (crcK_lt h k)
theorem crcX_lt {x : Nat} (h : x < 4294967296) (c : UInt8) : x ^^^ c.toNat < 4294967296 := by
  have := c.toNat_lt
  exact Nat.xor_lt_two_pow (n := 32) (by omega) (by omega)
theorem crcB_lt {x : Nat} (h : x < 4294967296) (c : UInt8) : crcB x c < 4294967296 := crcK_lt (crcX_lt h c) 8
theorem crcL_lt : ∀ (l : List UInt8) {x : Nat}, x < 4294967296 → crcL x l < 4294967296
  | [], _, h => h
  | c :: l, _, h => crcL_lt l (crcB_lt h c)
theorem crc_lt (l : List UInt8) : crc l < 4294967296 := by unfold crc; omega
theorem crcL_snoc (x : Nat) (l : List UInt8) (c : UInt8) : crcL x (l ++ [c]) = crcB (crcL x l) c := by
  unfold crcL
  rw [List.foldl_append]
  rfl

theorem xor_cancel {a b c : Nat} (h : a ^^^ c = b ^^^ c) : a = b := by
  have h2 : a ^^^ c ^^^ c = b ^^^ c ^^^ c := by rw [h]
  simpa [Nat.xor_assoc] using h2
theorem crc1_inj {x y : Nat} (hx : x < 4294967296) (hy : y < 4294967296) (h : crc1 x = crc1 y) : x = y := by
  unfold crc1 at h
  have no : ∀ a b : Nat, a < 4294967296 → b < 4294967296 → ¬ (a / 2 ^^^ 3988292384 = b / 2) := by
    intro a b ha hb e
    have h2 : a / 2 ^^^ b / 2 = 3988292384 := by
      rw [← e, ← Nat.xor_assoc, Nat.xor_self, Nat.zero_xor]
    have h3 : a / 2 ^^^ b / 2 < 2 ^ 31 := Nat.xor_lt_two_pow (by omega) (by omega)
    omega
  split at h <;> split at h
  · have := xor_cancel h
    omega
  · exact absurd h (no x y hx hy)
  · exact absurd h.symm (no y x hy hx)
  · omega
theorem crcK_inj {x y : Nat} (hx : x < 4294967296) (hy : y < 4294967296) : ∀ k, crcK k x = crcK k y → x = y
  | 0, h => h
  | k + 1, h => crcK_inj hx hy k (crc1_inj (crcK_lt hx k) (crcK_lt hy k) h)
theorem crcB_inj {x y : Nat} (hx : x < 4294967296) (hy : y < 4294967296) (c : UInt8) (h : crcB x c = crcB y c) : x = y :=
  xor_cancel (crcK_inj (crcX_lt hx c) (crcX_lt hy c) 8 h)
theorem crcB_byte {x : Nat} (hx : x < 4294967296) {c d : UInt8} (h : crcB x c = crcB x d) : c = d := by
  have h2 := crcK_inj (crcX_lt hx c) (crcX_lt hx d) 8 h
  rw [Nat.xor_comm x, Nat.xor_comm x] at h2
  exact UInt8.toNat_inj.1 (xor_cancel h2)
theorem crcL_inj : ∀ (l : List UInt8) {x y : Nat}, x < 4294967296 → y < 4294967296 → crcL x l = crcL y l → x = y
  | [], _, _, _, _, h => h
  | c :: l, _, _, hx, hy, h => crcB_inj hx hy c (crcL_inj l (crcB_lt hx c) (crcB_lt hy c) h)
theorem crcL_append (x : Nat) (l m : List UInt8) : crcL x (l ++ m) = crcL (crcL x l) m := by
  unfold crcL
  rw [List.foldl_append]
/-- One byte changed changes the sum. -/
theorem crc_change (l m : List UInt8) {c d : UInt8} (h : crc (l ++ c :: m) = crc (l ++ d :: m)) : c = d := by
  have hi : (4294967295 : Nat) < 4294967296 := by decide
  have h1 := crcL_lt (l ++ c :: m) hi
  have h2 := crcL_lt (l ++ d :: m) hi
  unfold crc at h
  have h3 : crcL 4294967295 (l ++ c :: m) = crcL 4294967295 (l ++ d :: m) := by omega
  rw [crcL_append, crcL_append] at h3
  have hl := crcL_lt l hi
  exact crcB_byte hl (crcL_inj m (crcB_lt hl c) (crcB_lt hl d) h3)

theorem crc_set (l : List UInt8) (i : Nat) (hi : i < l.length) (c : UInt8) (h : crc (l.set i c) = crc l) : c = l[i] := by
  have s1 : l.take i ++ l[i] :: l.drop (i + 1) = l := by
    rw [List.getElem_cons_drop, List.take_append_drop]
  have s2 : l.set i c = l.take i ++ c :: l.drop (i + 1) := by
    rw [List.set_eq_take_append_cons_drop, if_pos hi]
  rw [s2] at h
  refine crc_change (l.take i) (l.drop (i + 1)) ?_
  rw [s1]
  exact h

/-! ### The bytes of a number, the lowest first -/
def leN : Nat → Nat → List UInt8
  | 0, _ => []
  | n + 1, v => UInt8.ofNat v :: leN n (v / 256)
def unLe : List UInt8 → Nat
  | [] => 0
  | c :: l => c.toNat + 256 * unLe l
theorem leN_length : ∀ n v, (leN n v).length = n
  | 0, _ => rfl
  | n + 1, v => by simp [leN, leN_length n]
theorem leN_snoc : ∀ n v, leN (n + 1) v = leN n v ++ [UInt8.ofNat (v / 256 ^ n)]
  | 0, v => by simp [leN]
  | n + 1, v => by
    rw [leN, leN_snoc n, leN, List.cons_append, Nat.div_div_eq_div_mul, Nat.pow_succ, Nat.mul_comm 256]
theorem unLe_leN : ∀ n v, unLe (leN n v) = v % 256 ^ n
  | 0, v => by simp [leN, unLe, Nat.mod_one]
  | n + 1, v => by
    rw [leN, unLe, unLe_leN n, Nat.pow_succ, Nat.mul_comm (256 ^ n), Nat.mod_mul]
    simp
theorem unLe_leN_lt {n v : Nat} (h : v < 256 ^ n) : unLe (leN n v) = v := by rw [unLe_leN, Nat.mod_eq_of_lt h]
theorem unLe_lt : ∀ l : List UInt8, unLe l < 256 ^ l.length
  | [] => by simp [unLe]
  | c :: l => by
    have := unLe_lt l
    have hc := c.toNat_lt
    rw [unLe, List.length_cons, Nat.pow_succ]
    omega
theorem leN_unLe : ∀ l : List UInt8, leN l.length (unLe l) = l
  | [] => rfl
  | c :: l => by
    rw [List.length_cons, leN, unLe]
    have hc := c.toNat_lt
    have h1 : (c.toNat + 256 * unLe l) / 256 = unLe l := by omega
    rw [h1, leN_unLe l]
    congr 1
    apply UInt8.toNat_inj.1
    rw [UInt8.toNat_ofNat']
    omega
theorem leN_inj {n v u : Nat} (hv : v < 256 ^ n) (hu : u < 256 ^ n) (h : leN n v = leN n u) : v = u := by
  rw [← unLe_leN_lt hv, ← unLe_leN_lt hu, h]

/-! ### Sectors with their sum -/
/-- The four bytes of a sum. -/
def four (l : List UInt8) : List UInt8 := leN 4 (crc l)
def zerosL (n : Nat) : List UInt8 := List.replicate n 0
def stampL (l : List UInt8) (n : Nat) : List UInt8 := (l ++ zerosL (n - 4 - l.length)) ++ four (l ++ zerosL (n - 4 - l.length))
/-- What is read of a sector with its sum: the text and the error. -/
def sumOk (b : List UInt8) : Bool := decide (b.drop (b.length - 4) = four (b.take (b.length - 4)))
theorem four_length (l : List UInt8) : (four l).length = 4 := leN_length 4 _
theorem zerosL_length (n : Nat) : (zerosL n).length = n := by simp [zerosL]
theorem stampL_length {l : List UInt8} {n : Nat} (h : l.length + 4 ≤ n) : (stampL l n).length = n := by
  simp [stampL, four_length, zerosL_length]
  omega
theorem stampL_take {l : List UInt8} {n : Nat} (h : l.length + 4 ≤ n) : (stampL l n).take (n - 4) = l ++ zerosL (n - 4 - l.length) := by
  unfold stampL
  exact List.take_left' (by simp [zerosL_length]; omega)
theorem stampL_drop {l : List UInt8} {n : Nat} (h : l.length + 4 ≤ n) : (stampL l n).drop (n - 4) = four (l ++ zerosL (n - 4 - l.length)) := by
  unfold stampL
  exact List.drop_left' (by simp [zerosL_length]; omega)
theorem stampL_ok {l : List UInt8} {n : Nat} (h : l.length + 4 ≤ n) : sumOk (stampL l n) = true := by
  unfold sumOk
  rw [stampL_length h, stampL_take h, stampL_drop h]
  simp
theorem four_inj {l m : List UInt8} (h : four l = four m) : crc l = crc m := leN_inj (crc_lt l) (crc_lt m) h
/-- A sector whose sum fits, one byte of it changed: the sum does not fit. -/
theorem sumOk_changed {b : List UInt8} (hb : 4 ≤ b.length) (h : sumOk b = true) (i : Nat) (hi : i < b.length) (c : UInt8) (hc : c ≠ b[i]) : sumOk (b.set i c) = false := by
  unfold sumOk at h ⊢
  have h' : b.drop (b.length - 4) = four (b.take (b.length - 4)) := of_decide_eq_true h
  apply decide_eq_false
  rw [List.length_set]
  intro e
  by_cases hlt : i < b.length - 4
  · rw [List.drop_set_of_lt hlt, h'] at e
    have e2 := four_inj e
    rw [List.take_set] at e2
    have hl : i < (b.take (b.length - 4)).length := by rw [List.length_take]; omega
    have := crc_set _ i hl c e2.symm
    exact hc (by rw [this, List.getElem_take])
  · rw [List.take_set_of_le (by omega), ← h'] at e
    have e3 : (b.set i c)[i]'(by rw [List.length_set]; exact hi) = b[i] := by
      have q1 : ((b.set i c).drop (b.length - 4))[i - (b.length - 4)]? = (b.drop (b.length - 4))[i - (b.length - 4)]? := by rw [e]
      rw [List.getElem?_drop, List.getElem?_drop, show b.length - 4 + (i - (b.length - 4)) = i by omega, List.getElem?_eq_getElem (by rw [List.length_set]; exact hi), List.getElem?_eq_getElem hi] at q1
      exact Option.some.inj q1
    rw [List.getElem_set_self] at e3
    exact hc e3

end Go.Proofs.YtkgdpmeheakdcaaGreat
