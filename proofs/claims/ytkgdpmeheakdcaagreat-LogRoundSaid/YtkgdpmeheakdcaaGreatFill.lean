/- fill, and the bytes that make gives. -/
import Derived.Test.YtkgdpmeheakdcaaGreatRead
import Derived.Laws.MakeOwn
import Derived.Laws.IdiomStrings
namespace Go.Proofs.YtkgdpmeheakdcaaGreat
open Go.RowKit
set_option linter.all false
set_option maxRecDepth 100000

theorem infoU8 : (Tryz.prog.info? 5).map (fun i => (i.zero, i.size, i.bytes)) = some (some (.int .u8 0), 1, 1) := by kernel_rfl

/-- So many of a byte. -/
def fillB (c : UInt8) (m : Nat) : ByteArray := ⟨(List.replicate m c).toArray⟩
theorem fillB_size (c : UInt8) (m : Nat) : (fillB c m).size = m := by simp [fillB, ByteArray.size]

def fillRow (c : UInt8) (m k : Nat) : Array Value := (List.replicate k (Value.int .u8 c.toNat) ++ List.replicate (m - k) (Value.int .u8 0)).toArray
theorem fillRow_at (c : UInt8) (m k : Nat) (h : k < m) : (fillRow c m k)[k]? = some (.int .u8 0) := by
  unfold fillRow
  rw [List.getElem?_toArray, List.getElem?_append_right (by simp), List.length_replicate, Nat.sub_self, List.getElem?_replicate, if_pos (by omega)]
theorem fillRow_set (c : UInt8) (m k : Nat) (h : k < m) : (fillRow c m k).setIfInBounds k (.int .u8 c.toNat) = fillRow c m (k + 1) := by
  obtain ⟨r, hr⟩ : ∃ r, m - k = r + 1 := ⟨m - k - 1, by omega⟩
  have hr' : m - (k + 1) = r := by omega
  unfold fillRow
  rw [hr, hr', List.setIfInBounds_toArray, List.set_append_right _ _ (by simp), List.length_replicate, Nat.sub_self, List.replicate_succ (n := r), List.set_cons_zero, List.replicate_succ' (n := k), List.append_assoc]
  rfl
theorem fillRow_full (c : UInt8) (m j : Nat) (h : j < m) : (fillRow c m m)[j]? = some (.int .u8 c.toNat) := by
  simp [fillRow, h]

theorem made_u8 (w : World) (m : Nat) (hm : m ≤ 1000000) : (Instr.makeSlice 95 (.int .i64 (m : Int)) (.int .i64 (m : Int))).run Tryz.prog w = .ok (.slice (some ⟨w.heap.size, 0, none⟩) m m) (w.alloc (.cells (fillRow 0 m 0) 5)) := by
  obtain ⟨i0, hi, hz0, hz1, hz2⟩ := info_parts infoU8
  rw [run_makeSlice (P := Tryz.prog) w 95 5 i0 (.int .u8 0) Tryz.underlying95 hi hz0 .i64 .i64 m m (by omega) (Int.le_refl _) (by rw [hz1]; simp; omega) (by rw [hz2]; omega) (by omega)]
  have hma : madeCells (Value.cells (.int .u8 0)) m = fillRow 0 m 0 := by
    apply Array.ext
    · simp [madeCells, fillRow]
    · intro i h1 h2
      simp [madeCells, fillRow, Value.cells, Nat.mod_one]
  simp only [hz1, Int.toNat_natCast, Nat.mul_one, hma]

/-- The bytes of a row of 64 zeros, in any world where the row stands. -/
theorem zero_conv' {w : World} {g : Nat} (m : Nat) (hrow : w.heap[g]? = some (.cells (fillRow 0 m 0) 5 (0, 0))) :
    (convert 95 9 (.slice (some ⟨g, 0, none⟩) m m)).run Tryz.prog w = .ok (.string (fillB 0 m)) w := by
  have h := run_convert_bytes_back (P := Tryz.prog) w 95 9 5 ⟨g, 0, none⟩ m (List.replicate m 0) Tryz.underlying95 Tryz.underlying5 Tryz.underlying9 (fun j hj => by
    simp only [List.length_replicate] at hj
    have hadd : (Addr.add ⟨g, 0, none⟩ j) = ⟨g, j, none⟩ := by
      by_cases hj0 : j = 0
      · subst hj0; rfl
      · simp [Addr.add, hj0]
    rw [hadd]
    simp only [World.cell?, hrow]
    have hz : (fillRow 0 m 0)[j]? = some (.int .u8 0) := by simp [fillRow, hj]
    rw [show (fillRow 0 m 0)[j]? = _ from hz]
    simp)
  rw [List.length_replicate] at h
  exact h
theorem zero_conv {w : World} {g : Nat} (hrow : w.heap[g]? = some (.cells (fillRow 0 64 0) 5 (0, 0))) :
    (convert 95 9 (.slice (some ⟨g, 0, none⟩) 64 64)).run Tryz.prog w = .ok (.string (fillB 0 64)) w := zero_conv' 64 hrow
theorem made64 (w : World) : (Instr.makeSlice 95 (.int .i64 64) (.int .i64 64)).run Tryz.prog w = .ok (.slice (some ⟨w.heap.size, 0, none⟩) 64 64) (w.alloc (.cells (fillRow 0 64 0) 5)) := made_u8 w 64 (by decide)
theorem zero_conv_new (w : World) : (convert 95 9 (.slice (some ⟨w.heap.size, 0, none⟩) 64 64)).run Tryz.prog (w.alloc (.cells (fillRow 0 64 0) 5)) = .ok (.string (fillB 0 64)) (w.alloc (.cells (fillRow 0 64 0) 5)) := zero_conv (heap_alloc_new w _)
theorem zero_conv_new_d (w : World) : (convert 95 9 (.slice (some ⟨w.heap.size, 0, none⟩) 64 64)).run Tryz.prog (w.alloc (.cells (fillRow 0 64 0) 5)).drew = .ok (.string (fillB 0 64)) (w.alloc (.cells (fillRow 0 64 0) 5)).drew := zero_conv (w := (w.alloc (.cells (fillRow 0 64 0) 5)).drew) (heap_alloc_new w _)
theorem zero_conv_keep {w x : World} (h : Below (w.alloc (.cells (fillRow 0 64 0) 5)).drew.heap.size (w.alloc (.cells (fillRow 0 64 0) 5)).drew x) :
    (convert 95 9 (.slice (some ⟨w.heap.size, 0, none⟩) 64 64)).run Tryz.prog x = .ok (.string (fillB 0 64)) x :=
  zero_conv (by
    rw [h.block w.heap.size (by show w.heap.size < (w.alloc _).heap.size; simp)]
    exact heap_alloc_new w _)

end Go.Proofs.YtkgdpmeheakdcaaGreat
