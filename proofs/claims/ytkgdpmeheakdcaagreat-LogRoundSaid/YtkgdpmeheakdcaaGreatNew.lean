/- New; Waiting. -/
import Derived.Test.YtkgdpmeheakdcaaGreatCalls4
namespace Go.Proofs.YtkgdpmeheakdcaaGreat
open Go.RowKit
set_option linter.all false
set_option maxRecDepth 100000

def newDS (s : Int) : DS := { sectors := s, on := true, seq := 0, now := fun _ => none, lasts := fun _ => none, waits := [], table := List.replicate 17 0, words := List.replicate 17 0, last := 0, armed := false, left := 0, stays := [], nilS := true }

/-- A new disk is handed back, in new memory. -/
def RetDisk (D : DS) (w : World) (e : Ending) (w' : World) : Prop := ∃ b F, e = .returned (.pointer (some ⟨b, 0, none⟩)) ∧ DiskAt F b D w' ∧ Grow (fun _ => False) w w' ∧ ∀ k, F k → w.heap.size ≤ k

theorem newCells (s : Int) (m1 m2 : Nat) (w : World) : (Instr.build 106 #[(0, .int .i64 s), (1, .bool true), (3, .map (some m1)), (4, .map (some m2))]).run Tryz.prog w = .ok (.agg ((newDS s).cells (some m1) (some m2) (.slice none 0 0) (.slice none 0 0))) w := by kernel_rfl

theorem new_any (s : Int) (h1 : 1 ≤ s) (h2 : s ≤ 20000) (w : World) : Calls Tryz.prog 32 #[.int .i64 s] w (RetDisk (newDS s) w) := by
  have hb := newCells s
  have hmm := @run_makeMap Tryz.prog
  have g1 : decide (s < 1) = false := by simp; omega
  have g2 : decide (20000 < s) = false := by simp; omega
  have hfin : RetDisk (newDS s) w (.returned (.pointer (some ⟨w.heap.size + 1 + 1, 0, none⟩))) (((w.alloc (.map #[] 0)).alloc (.map #[] 0)).alloc (.cells ((newDS s).cells (some w.heap.size) (some (w.heap.size + 1)) (.slice none 0 0) (.slice none 0 0)) 106)) := by
    have e1 : (w.alloc (.map #[] 0)).heap.size = w.heap.size + 1 := by simp
    have e2 : ((w.alloc (.map #[] 0)).alloc (.map #[] 0)).heap.size = w.heap.size + 1 + 1 := by simp
    have e3 : (((w.alloc (.map #[] 0)).alloc (.map #[] 0)).alloc (.cells ((newDS s).cells (some w.heap.size) (some (w.heap.size + 1)) (.slice none 0 0) (.slice none 0 0)) 106)).heap.size = w.heap.size + 1 + 1 + 1 := by simp
    refine ⟨_, fun k => w.heap.size ≤ k ∧ k < w.heap.size + 1 + 1 + 1, rfl, ⟨w.heap.size, w.heap.size + 1, .slice none 0 0, .slice none 0 0, ⟨?_, rfl, rfl⟩, ?_, ?_, World.ownsRow_nil _ _ _ _, World.ownsRow_nil _ _ _ _, by omega, by omega, by omega, by omega, (fun g h => by cases h), (fun g h => by cases h), (fun k hk => by rw [e3]; exact hk.2), fun _ => rfl⟩, ?_, fun k hk => hk.1⟩
    · have := heap_alloc_new ((w.alloc (.map #[] 0)).alloc (.map #[] 0)) (.cells ((newDS s).cells (some w.heap.size) (some (w.heap.size + 1)) (.slice none 0 0) (.slice none 0 0)) 106)
      rw [e2] at this
      exact this
    · have := MapAt.made w (((w.alloc (.map #[] 0)).alloc (.map #[] 0)).alloc (.cells ((newDS s).cells (some w.heap.size) (some (w.heap.size + 1)) (.slice none 0 0) (.slice none 0 0)) 106)) (m := w.heap.size) (by
        rw [heap_alloc_old _ _ (by rw [e2]; omega), heap_alloc_old _ _ (by rw [e1]; omega)]
        exact heap_alloc_new w _)
      exact this
    · have := MapAt.made w (((w.alloc (.map #[] 0)).alloc (.map #[] 0)).alloc (.cells ((newDS s).cells (some w.heap.size) (some (w.heap.size + 1)) (.slice none 0 0) (.slice none 0 0)) 106)) (m := w.heap.size + 1) (by
        rw [heap_alloc_old _ _ (by rw [e2]; omega)]
        have := heap_alloc_new (w.alloc (.map #[] 0)) (.map #[] 0)
        rw [e1] at this
        exact this)
      exact this
    · exact ((Grow.alloc (F := fun _ => False) w _).trans (Grow.alloc _ _) (fun x hx => .inl hx)).trans (Grow.alloc _ _) (fun x hx => .inl hx)
  have HF := Lib.hid hfin
  clear hfin
  go_enter Tryz.func32, Tryz.ntmps32
  go_wp2
  go_ret
  exact HF.out

theorem new_nil (s : Int) (h : s < 1 ∨ 20000 < s) (w : World) : Calls Tryz.prog 32 #[.int .i64 s] w fun e w' => e = .returned (.pointer none) ∧ w = w' := by
  by_cases h1 : s < 1
  · have g1 : decide (s < 1) = true := by simpa using h1
    clear h
    go_enter Tryz.func32, Tryz.ntmps32
    go_wp2
    go_ret
    exact ⟨rfl, rfl⟩
  · have g1 : decide (s < 1) = false := by simpa using h1
    have h2 : 20000 < s := by omega
    clear h
    go_enter Tryz.func32, Tryz.ntmps32
    go_wp2
    go_ret
    exact ⟨rfl, rfl⟩

def waiting (D : DS) (node : Int) : Nat := if D.on = true then (D.waits.filter (fun x => x.node == node)).length else 0

end Go.Proofs.YtkgdpmeheakdcaaGreat
