/- DiskOrder: the plain law. -/
import Derived.Test.YtkgdpmeheakdcaaLLasts
namespace Go.Proofs.Ytkgdpmeheakdcaa
open Go.RowKit
set_option linter.all false
set_option maxRecDepth 100000

theorem part_whole {a : ByteArray} (h : a.size = 64) : part a 0 = a := by
  apply bytes_of_list
  unfold part
  rw [extract_list]
  have hl : a.data.toList.length = 64 := h
  simp only [Nat.mul_zero, List.drop_zero, Nat.zero_add, Nat.sub_zero]
  exact List.take_of_length_le (by omega)
theorem read_one {D : DS} (hs : ∀ k s, D.now k = some s → s.size = 64) (hon : D.on = true) (j : Int) (h0 : 0 ≤ j) (h1 : j < D.sectors) (h2 : D.sectors ≤ 20000) : readR D j 1 = (secAt D j, 0) := by
  rw [readR_on hon, if_pos (by omega)]
  congr 1
  have hp := part_readL hs j 1 0 (by decide)
  simp only [Int.natCast_zero, Int.add_zero] at hp
  have hsz : (⟨(readL D j (1 : Int).toNat).toArray⟩ : ByteArray).size = 64 := by
    show (readL D j 1).toArray.size = 64
    rw [List.size_toArray, readL_length hs]
  rw [← hp]
  exact (part_whole hsz).symm
theorem zero64_eq : zero64 = fillB 0 64 := by kernel_rfl

def or1 : DS := (admitR (newDS 2) 1 1).2
def or2 : DS := (admitR or1 2 2).2
def or3 (a : ByteArray) : DS := wrN or2 1 0 a 1
def or4 (a b : ByteArray) : DS := wrN (or3 a) 2 0 b 1
def or5 (a b : ByteArray) (sc : Bool) : DS := if sc = true then settle (or4 a b) 2 else or4 a b
def or6 (a b : ByteArray) (fs sc : Bool) : DS := if fs = true then settle (or5 a b sc) 1 else or5 a b sc
def or7 (a b : ByteArray) (fs sc : Bool) (zs : List Int) : DS := restD (cutOn (or6 a b fs sc) zs)
theorem or1_ok : admitR (newDS 2) 1 1 = (0, or1) := Prod.ext (by kernel_rfl) rfl
theorem or2_ok : admitR or1 2 2 = (0, or2) := Prod.ext (by kernel_rfl) rfl
theorem or0_good : Good 0 (newDS 2) := good_new 2 (by decide) (by decide)
theorem or1_good : Good 0 or1 := or0_good.admitted 1 1
theorem or2_good : Good 0 or2 := or1_good.admitted 2 2
theorem or2_armed : or2.armed = false := by kernel_rfl
theorem or2_on : or2.on = true := by kernel_rfl
theorem or2_at1 : or2.table.getD (1 : Int).toNat 0 = 1 := by kernel_rfl
theorem or2_at2 : or2.table.getD (2 : Int).toNat 0 = 2 := by kernel_rfl
theorem or2_sectors : or2.sectors = 2 := by kernel_rfl
theorem or3_ok {a : ByteArray} (h : a.size = 64) : writeR or2 1 1 0 a = (0, or3 a) := by
  rw [writeR_way 1 or2_on (goesD_off or2_armed).2 (by decide) (by decide) (by decide) or2_at1 h (by decide) (by decide) (by decide) (by rw [or2_sectors]; decide), (goesD_off or2_armed).1]
  rfl
theorem or3_good {a : ByteArray} (h : a.size = 64) : Good 16 (or3 a) := by
  have := or2_good.write 1 1 0 a
  rw [or3_ok h] at this
  exact this
theorem or4_ok {a b : ByteArray} (h : b.size = 64) : writeR (or3 a) 2 2 0 b = (0, or4 a b) := by
  rw [writeR_way 1 (show (or3 a).on = true from or2_on) (goesD_off (show (or3 a).armed = false from or2_armed)).2 (by decide) (by decide) (by decide) or2_at2 h (by decide) (by decide) (by decide) (by rw [show (or3 a).sectors = 2 from or2_sectors]; decide), (goesD_off (show (or3 a).armed = false from or2_armed)).1]
  rfl
theorem or4_good {a b : ByteArray} (ha : a.size = 64) (h : b.size = 64) : Good 32 (or4 a b) := by
  have := (or3_good ha).write 2 2 0 b
  rw [or4_ok h] at this
  exact this
theorem or5_ok (a b : ByteArray) : barrierR (or4 a b) 2 2 = (0, or5 a b true) := by
  rw [barrierR_way (show (or4 a b).on = true from or2_on) (goesD_off (show (or4 a b).armed = false from or2_armed)).2 (by decide) (by decide) (by decide) or2_at2, (goesD_off (show (or4 a b).armed = false from or2_armed)).1]
  rfl
theorem or5_same (a b : ByteArray) (sc : Bool) : (or5 a b sc).on = true ∧ (or5 a b sc).armed = false ∧ (or5 a b sc).table = or2.table ∧ (or5 a b sc).sectors = 2 := by
  cases sc <;> exact ⟨or2_on, or2_armed, rfl, or2_sectors⟩
theorem or6_same (a b : ByteArray) (fs sc : Bool) : (or6 a b fs sc).on = true ∧ (or6 a b fs sc).armed = false ∧ (or6 a b fs sc).sectors = 2 := by
  have h := or5_same a b sc
  cases fs <;> exact ⟨h.1, h.2.1, h.2.2.2⟩
theorem or6_ok (a b : ByteArray) (sc : Bool) : barrierR (or5 a b sc) 1 1 = (0, or6 a b true sc) := by
  have h := or5_same a b sc
  rw [barrierR_way h.1 (goesD_off h.2.1).2 (by decide) (by decide) (by decide) (by rw [h.2.2.1]; exact or2_at1), (goesD_off h.2.1).1]
  rfl
theorem or5_good {a b : ByteArray} (ha : a.size = 64) (hb : b.size = 64) (sc : Bool) : Good 32 (or5 a b sc) := by
  cases sc
  · exact or4_good ha hb
  · exact (or4_good ha hb).settle 2
theorem or6_good {a b : ByteArray} (ha : a.size = 64) (hb : b.size = 64) (fs sc : Bool) : Good 32 (or6 a b fs sc) := by
  cases fs
  · exact or5_good ha hb sc
  · exact (or5_good ha hb sc).settle 1

theorem or6_now (a b : ByteArray) (fs sc : Bool) : (or6 a b fs sc).now 0 = some (part b 0) := by
  cases fs <;> cases sc <;> rfl
theorem or6_read {a b : ByteArray} (ha : a.size = 64) (hb : b.size = 64) (fs sc : Bool) : readR (or6 a b fs sc) 0 1 = (b, 0) := by
  have h := or6_same a b fs sc
  rw [read_one (or6_good ha hb fs sc).zn h.1 0 (by decide) (by rw [h.2.2]; decide) (by rw [h.2.2]; decide)]
  unfold secAt
  rw [or6_now, Option.getD_some, part_whole hb]

def orW (fs sc : Bool) : Int := 2 - (if fs = true then 1 else 0) - (if sc = true then 1 else 0)
theorem or6_waits (a b : ByteArray) (fs sc : Bool) : ((or6 a b fs sc).waits.length : Int) = orW fs sc := by
  cases fs <;> cases sc <;> rfl

def orWant (a b : ByteArray) (fs sc : Bool) (zs : List Int) : ByteArray :=
  if (sc || stayB zs (if fs = true then 0 else 1)) = true then b else if (fs || stayB zs 0) = true then a else fillB 0 64
theorem or7_read {a b : ByteArray} (ha : a.size = 64) (hb : b.size = 64) (fs sc : Bool) (zs : List Int) : readR (or7 a b fs sc zs) 0 1 = (orWant a b fs sc zs, 0) := by
  have h := or6_same a b fs sc
  have hg : Good 32 (or7 a b fs sc zs) := ((or6_good ha hb fs sc).cutOn zs).restore
  rw [read_one hg.zn rfl 0 (by decide) (by show (0 : Int) < (or6 a b fs sc).sectors; rw [h.2.2]; decide) (by show (or6 a b fs sc).sectors ≤ _; rw [h.2.2]; decide)]
  congr 1
  unfold secAt orWant
  show (((cutL zs 0 (or6 a b fs sc).lasts (or6 a b fs sc).waits 0).map (·.data))).getD zero64 = _
  rw [zero64_eq]
  have hwa : part a 0 = a := part_whole ha
  have hwb : part b 0 = b := part_whole hb
  cases fs <;> cases sc
  · show (((cutL zs 0 (fun _ => none) [⟨1, 0, 1, part a 0⟩, ⟨2, 0, 2, part b 0⟩] 0).map (·.data))).getD (fillB 0 64) = _
    cases h0 : stayB zs 0 <;> cases h1 : stayB zs 1 <;> simp [cutL, h0, h1, keepW, seqAt, hwa, hwb]
  · show (((cutL zs 0 (settleL 2 (fun _ => none) [⟨1, 0, 1, part a 0⟩, ⟨2, 0, 2, part b 0⟩]) [⟨1, 0, 1, part a 0⟩] 0).map (·.data))).getD (fillB 0 64) = _
    cases h0 : stayB zs 0 <;> simp [cutL, settleL, h0, keepW, seqAt, hwa, hwb]
  · show (((cutL zs 0 (settleL 1 (fun _ => none) [⟨1, 0, 1, part a 0⟩, ⟨2, 0, 2, part b 0⟩]) [⟨2, 0, 2, part b 0⟩] 0).map (·.data))).getD (fillB 0 64) = _
    cases h0 : stayB zs 0 <;> simp [cutL, settleL, h0, keepW, seqAt, hwa, hwb]
  · show (((cutL zs 0 (settleL 1 (settleL 2 (fun _ => none) [⟨1, 0, 1, part a 0⟩, ⟨2, 0, 2, part b 0⟩]) [⟨1, 0, 1, part a 0⟩]) [] 0).map (·.data))).getD (fillB 0 64) = _
    simp [cutL, settleL, keepW, seqAt, hwa, hwb]

end Go.Proofs.Ytkgdpmeheakdcaa
