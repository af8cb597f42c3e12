/- super.Get of what is no superblock: walks. -/
import Derived.Test.YtkgdpmeheakdcaaGreatFmtA
namespace Go.Proofs.YtkgdpmeheakdcaaGreat
open Go.RowKit
set_option linter.all false
set_option maxRecDepth 100000

theorem sget_short (L : List UInt8) (h : L.length ≠ 64) (w : World) : Calls Tryz.prog 79 #[.string (str L)] w fun e w' => e = .returned (.tuple #[.agg #[.int .i64 0, .int .i64 0, .int .i64 0, .int .i64 0, .int .i64 0], .int .i64 5]) ∧ Below w.heap.size w w' := by
  have hsz : ((str L).size : Int) = L.length := by rw [str_size]
  have hne : ((L.length : Int) == 64) = false := by simp; omega
  have hne2 : ((L.length : Int) != 64) = true := by simp; omega
  go_enter Tryz.func79, Tryz.ntmps79
  go_wp2
  exact bodyPost_ret (v := .tuple #[.agg #[.int .i64 0, .int .i64 0, .int .i64 0, .int .i64 0, .int .i64 0], .int .i64 5]) (by simp [results, Tryz.results79, go_sem]) rfl ⟨rfl, (Below.refl _ _).alloc (Nat.le_refl _) _⟩

theorem sget_bad (L : List UInt8) (h : L.length = 64) (hs : sumOk L = false) (w : World) : Calls Tryz.prog 79 #[.string (str L)] w fun e w' => e = .returned (.tuple #[.agg #[.int .i64 0, .int .i64 0, .int .i64 0, .int .i64 0, .int .i64 0], .int .i64 6]) ∧ Below w.heap.size w w' := by
  have hsz : ((str L).size : Int) = 64 := by rw [str_size, h]; rfl
  have HR := sumread_any L (by omega) (by omega)
  rw [hs, h, if_neg (by decide), if_neg (by decide)] at HR
  replace HR := Lib.hid HR
  clear h hs
  go_enter Tryz.func79, Tryz.ntmps79
  go_wp2_with fail
  refine (HR.out _).mono ?_
  rintro e w1 ⟨rfl, hb⟩
  have z1 : zBlk 29 w1 w.heap.size := by
    unfold zBlk
    rw [hb.block _ (by simp)]
    exact heap_alloc_new w _
  have HB := Lib.hid (((Below.refl w.heap.size w).alloc (Nat.le_refl _) _).trans (hb.mono (by simp)))
  obtain ⟨r0, r1, r2, r3, r4⟩ := five_cells z1
  have fz : ∀ i, w1.frozen? ⟨w.heap.size, i, none⟩ = false := fun i => by unfold zBlk at z1; simp [World.frozen?, z1]
  have f0 := fz 0
  have f1 := fz 1
  have f2 := fz 2
  have f3 := fz 3
  have f4 := fz 4
  have T2 := Lib.hid (five_set (a := .int .i64 0) (b := .int .i64 0) (c := .int .i64 0) (d := .int .i64 0) (e := .int .i64 0) z1)
  have hlt5 := z1.lt
  clear fz hb z1
  go_wp2
  have t2 := T2.out
  generalize hWf : ((((w1.setCell ⟨w.heap.size, 0, none⟩ (.int .i64 0)).setCell ⟨w.heap.size, 1, none⟩ (.int .i64 0)).setCell ⟨w.heap.size, 2, none⟩ (.int .i64 0)).setCell ⟨w.heap.size, 3, none⟩ (.int .i64 0)).setCell ⟨w.heap.size, 4, none⟩ (.int .i64 0) = Wf at *
  have HWF : Hid (Below w.heap.size w Wf) := Lib.hid (by
    rw [← hWf]
    exact ((((HB.out.setCell (Nat.le_refl _) _).setCell (Nat.le_refl _) _).setCell (Nat.le_refl _) _).setCell (Nat.le_refl _) _).setCell (Nat.le_refl _) _)
  clear r0 r1 r2 r3 r4 T2 hWf
  obtain ⟨r0, r1, r2, r3, r4⟩ := five_cells t2
  exact bodyPost_ret (v := .tuple #[.agg #[.int .i64 0, .int .i64 0, .int .i64 0, .int .i64 0, .int .i64 0], .int .i64 6]) (by simp [results, Tryz.results79, go_sem, r0, r1, r2, r3, r4]) rfl ⟨rfl, HWF.out⟩

/-! ### A string as bytes, one of them changed, and back -/
theorem back_conv {w : World} {B cap : Nat} {L : List UInt8} (hc : ∀ j (hj : j < L.length), w.cell? ⟨B, j, none⟩ = some (.int .u8 (L[j].toNat : Int))) :
    (convert 95 9 (.slice (some ⟨B, 0, none⟩) L.length cap)).run Tryz.prog w = .ok (.string (str L)) w := by
  refine run_convert_bytes_back (P := Tryz.prog) w 95 9 5 ⟨B, 0, none⟩ cap L Tryz.underlying95 Tryz.underlying5 Tryz.underlying9 (fun j hj => ?_)
  have hadd : (Addr.add ⟨B, 0, none⟩ j) = ⟨B, j, none⟩ := by
    by_cases hj0 : j = 0
    · subst hj0; rfl
    · simp [Addr.add, hj0]
  rw [hadd]
  exact hc j hj
theorem bytesCells_le (w : World) (e : TypeId) (s : ByteArray) : s.size ≤ (Lib.bytesCells w e s).size := by
  unfold Lib.bytesCells
  rw [Array.size_append, Array.size_map]
  exact Nat.le_add_right _ _
theorem bytesWorld_frozen (w : World) (e : TypeId) (s : ByteArray) (j : Nat) (hj : j < s.size) : (Lib.bytesWorld w e s).frozen? ⟨w.heap.size, j, none⟩ = false := by
  have hz : s.size ≤ (Lib.bytesCells w e s).size := bytesCells_le w e s
  simp [World.frozen?, Lib.bytesWorld_at_new]
  omega
/-- Behind a byte's store. -/
theorem byte_set {w : World} {s : List UInt8} (i : Nat) (hi : i < s.length) (c : UInt8) (j : Nat) (hj : j < (s.set i c).length) :
    ((Lib.bytesWorld w 5 (str s)).setCell ⟨w.heap.size, i, none⟩ (.int .u8 c.toNat)).cell? ⟨w.heap.size, j, none⟩ = some (.int .u8 ((s.set i c)[j].toNat : Int)) := by
  have hj' : j < s.length := by simpa using hj
  have hb := Lib.bytesWorld_at_new w 5 (str s)
  have hs := block_setCell (i := i) hb (.int .u8 (c.toNat : Int))
  simp only [World.cell?, hs]
  by_cases hij : i = j
  · subst hij
    have hz := bytesCells_le w 5 (str s)
    rw [str_size] at hz
    rw [Array.getElem?_setIfInBounds_self_of_lt (by omega), List.getElem_set_self]
    rfl
  · rw [Array.getElem?_setIfInBounds_ne hij, List.getElem_set_ne hij]
    have h2 := Lib.bytesWorld_cell w 5 (str s) j (by rw [str_size]; exact hj')
    simp only [World.cell?, hb] at h2
    rw [h2]
    simp [str_toList, List.getD_eq_getElem?_getD, List.getElem?_eq_getElem hj']

end Go.Proofs.YtkgdpmeheakdcaaGreat
