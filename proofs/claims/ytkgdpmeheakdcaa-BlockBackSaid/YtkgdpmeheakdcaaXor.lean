/- A byte changed by an xor. -/
import Derived.Test.YtkgdpmeheakdcaaSGetX
namespace Go.Proofs.Ytkgdpmeheakdcaa
open Go.RowKit
set_option linter.all false
set_option maxRecDepth 100000

theorem str_ext_to (X : List UInt8) (n : Nat) : (str X).extract 0 n = str (X.take n) := by
  apply ByteArray.ext
  apply Array.ext'
  rw [ByteArray.data_extract, Array.toList_extract, List.extract_eq_drop_take]
  simp [str]

/-- A byte that an xor makes. -/
def xorB (c : UInt8) (by_ : Int) : UInt8 := UInt8.ofNat (c.toNat ^^^ (by_ % 256).toNat)
theorem xorB_val (c : UInt8) (y : Int) : bits BinOp.xor IntKind.u8 (c.toNat : Int) (y % 256) = ((xorB c y).toNat : Int) := by
  have h1 := c.toNat_lt
  have h2 : 0 ≤ y % 256 := Int.emod_nonneg _ (by decide)
  have h3 : y % 256 < 256 := Int.emod_lt_of_pos _ (by decide)
  have h4 : c.toNat ^^^ (y % 256).toNat < 2 ^ 8 := Nat.xor_lt_two_pow (by omega) (by omega)
  have h5 := u8_xor (c.toNat : Int) (y % 256) (by omega) (by omega) h2 h3
  rw [h5]
  unfold xorB
  rw [UInt8.toNat_ofNat', Int.toNat_natCast]
  omega
theorem xorB_zero (c : UInt8) (y : Int) (h : y % 256 = 0) : xorB c y = c := by
  unfold xorB
  rw [h]
  apply UInt8.toNat_inj.1
  rw [UInt8.toNat_ofNat']
  have := c.toNat_lt
  simp
theorem xorB_ne (c : UInt8) (y : Int) (h : y % 256 ≠ 0) : xorB c y ≠ c := by
  intro e
  have e2 : (xorB c y).toNat = c.toNat := by rw [e]
  have h1 := c.toNat_lt
  have h3 : y % 256 < 256 := Int.emod_lt_of_pos _ (by decide)
  have h2 : 0 ≤ y % 256 := Int.emod_nonneg _ (by decide)
  have h4 : c.toNat ^^^ (y % 256).toNat < 2 ^ 8 := Nat.xor_lt_two_pow (by omega) (by omega)
  unfold xorB at e2
  rw [UInt8.toNat_ofNat', Nat.mod_eq_of_lt h4] at e2
  have e3 : c.toNat ^^^ (y % 256).toNat = c.toNat ^^^ 0 := by rw [e2, Nat.xor_zero]
  rw [Nat.xor_comm c.toNat, Nat.xor_comm c.toNat] at e3
  have := xor_cancel e3
  omega

theorem below_bytes {B : Nat} {w w' : World} (h : Below B w w') (hB : B ≤ w'.heap.size) (e : TypeId) (s : ByteArray) : Below B w (Lib.bytesWorld w' e s) :=
  h.trans ⟨rfl, rfl, rfl, by rw [Lib.bytesWorld_size]; omega, fun k hk => Lib.bytesWorld_at_old w' e s k (by omega)⟩

end Go.Proofs.Ytkgdpmeheakdcaa
