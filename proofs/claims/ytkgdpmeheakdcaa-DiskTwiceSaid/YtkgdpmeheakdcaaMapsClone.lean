/- maps.Clone at the disk's two maps: a new map that reads as the old one. -/
import Derived.Test.YtkgdpmeheakdcaaRun
import Derived.Shelf.SlMaps.Clone
namespace Go.Proofs.Ytkgdpmeheakdcaa
open Go.RowKit Go.Shelf Go.Proofs Go.Lib
set_option linter.all false
set_option maxRecDepth 100000

/-- A clone reads as the map it was made of. -/
theorem MapAt.cloned {w : World} {m : Nat} {f : Int → Option Value} (h : MapAt w m f) : ∃ es clock, w.heap[m]? = some (.map es clock) ∧ MapAt (w.alloc (.map es clock)) w.heap.size f ∧ MapAt (w.alloc (.map es clock)) m f := by
  obtain ⟨es, clock, hb, r⟩ := h
  exact ⟨es, clock, hb, ⟨es, clock, heap_alloc_new w _, r⟩, ⟨es, clock, (heap_alloc_old w _ (Array.getElem?_eq_some_iff.1 hb).1).trans hb, r⟩⟩

set_option maxHeartbeats 2000000 in
theorem mclone_s (b : Nat) (es : Array MapEntry) (clock : Nat) (w : World) (hb : w.heap[b]? = some (.map es clock)) :
    Calls Try.prog 68 #[.map (some b)] w fun e w' => e = .returned (.map (some w.heap.size)) ∧ w' = w.alloc (.map es clock) := by
  have hq := fun w => run_eql_map_nil_sl (P := Try.prog) w 54 _ _ (some b) Try.underlying54
  go_enter Try.func68, Try.ntmps68
  go_wp2
  rw [run_callFunc_extern Try.func102 (by kernel_rfl) (by kernel_rfl) (by kernel_rfl) (e := Extern.MapsClone.clone) (by kernel_rfl), run_maps_clone_sl w 54 hb]
  simp only [Result.andThen]
  rw [Oper.upon_value]
  go_wp2
  rw [run_typeAssert_map_sl _ 54 _ _ _ _ Try.underlying54]
  simp only [Result.andThen]
  rw [Oper.upon_value]
  go_wp2
  go_ret
  exact ⟨rfl, rfl⟩

set_option maxHeartbeats 2000000 in
theorem mclone_w (b : Nat) (es : Array MapEntry) (clock : Nat) (w : World) (hb : w.heap[b]? = some (.map es clock)) :
    Calls Try.prog 69 #[.map (some b)] w fun e w' => e = .returned (.map (some w.heap.size)) ∧ w' = w.alloc (.map es clock) := by
  have hq := fun w => run_eql_map_nil_sl (P := Try.prog) w 55 _ _ (some b) Try.underlying55
  go_enter Try.func69, Try.ntmps69
  go_wp2
  rw [run_callFunc_extern Try.func102 (by kernel_rfl) (by kernel_rfl) (by kernel_rfl) (e := Extern.MapsClone.clone) (by kernel_rfl), run_maps_clone_sl w 55 hb]
  simp only [Result.andThen]
  rw [Oper.upon_value]
  go_wp2
  rw [run_typeAssert_map_sl _ 55 _ _ _ _ Try.underlying55]
  simp only [Result.andThen]
  rw [Oper.upon_value]
  go_wp2
  go_ret
  exact ⟨rfl, rfl⟩

end Go.Proofs.Ytkgdpmeheakdcaa
