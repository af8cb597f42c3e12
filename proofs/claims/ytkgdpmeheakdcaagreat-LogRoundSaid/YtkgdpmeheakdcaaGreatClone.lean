/- slices.Clone at int, uint64 and the disk's writes; strings.Clone: each makes new memory alone. -/
import Derived.Test.YtkgdpmeheakdcaaGreatMem
import Derived.Outline
import Derived.Deep.DeepMust
namespace Go.Proofs.YtkgdpmeheakdcaaGreat
open Go.RowKit
set_option linter.all false

theorem infoInt : (Tryz.prog.info? 3).map (fun i => (i.zero, i.size, i.bytes)) = some (some (.int .i64 0), 1, 8) := by kernel_rfl
theorem infoU64 : (Tryz.prog.info? 22).map (fun i => (i.zero, i.size, i.bytes)) = some (some (.int .u64 0), 1, 8) := by kernel_rfl
theorem infoWr : (Tryz.prog.info? 125).map (fun i => (i.zero, i.size, i.bytes)) = some (some (.agg #[.int .i64 0, .int .i64 0, .int .i64 0, .string ByteArray.empty]), 4, 40) := by kernel_rfl

/-- A slice whose cells read as these. -/
def CellsOf (w : World) (ao : Option Addr) (xs : List Value) : Prop := xs = [] ∨ ∃ a, ao = some a ∧ ∀ j u, xs[j]? = some u → w.cell? (a.add j) = some u

/-- It hands back a slice in new memory that holds these cells. -/
def RetOwn (w : World) (T size n : Nat) (xs : List Value) (e : Ending) (w' : World) : Prop := ∃ v, e = .returned v ∧ w'.ownsRow w.heap.size T size v n xs ∧ w.grownBy w' none

theorem grown_new {w w' : World} {o : Obj} (h : (w.alloc o).grownBy w' (some w.heap.size)) : w.grownBy w' none :=
  ⟨h.os, h.tape, h.output, Nat.le_trans (by simp) h.size, fun k hk _ => by
    rw [h.block k (by simp; omega) (by simp; omega)]
    exact heap_alloc_old w o hk⟩

theorem cell_lt {w : World} {a : Addr} {u : Value} (h : w.cell? a = some u) : a.block < w.heap.size := by
  unfold World.cell? at h
  split at h
  · rename_i hb
    exact (Array.getElem?_eq_some_iff.1 hb).1
  · cases h

theorem clone_int (ao : Option Addr) (len cap : Nat) (xs : List Value) (w : World) (hl : xs.length = len * 1) (hn : ao = none → len = 0) (hc : ∀ a, ao = some a → ∀ j u, xs[j]? = some u → w.cell? (a.add j) = some u) (h1 : ∀ u ∈ xs, u.oneCell' = true)
    (hb : len * 8 ≤ 140737488355328) :
    Calls Tryz.prog 144 #[.slice ao len cap] w (RetOwn w 3 1 len xs) := by
  obtain ⟨i0, hi, hz0, hz1, hz2⟩ := info_parts infoInt
  have heq := fun wx => Lib.run_eql_slice_nil (P := Tryz.prog) wx 52 3 ao len cap 0 0 Tryz.underlying52
  have hbs : ∀ wx : World, (Instr.buildSlice 52 0 #[]).run Tryz.prog wx = .ok (.slice (some ⟨wx.heap.size, 0, none⟩) 0 0) (wx.alloc (.cells #[] 3)) := fun _ => by kernel_rfl
  cases ao with
  | none =>
    obtain rfl := hn rfl
    obtain rfl : xs = [] := List.eq_nil_of_length_eq_zero (by simpa using hl)
    clear hc h1 hi
    go_enter Tryz.func144, Tryz.ntmps144
    go_wp2
    go_ret
    exact ⟨_, rfl, World.ownsRow_nil _ _ _ _, World.grownBy.refl _ _⟩
  | some a =>
    replace hc := hc a rfl
    clear hn
    have hown0 : (w.alloc (.cells #[] 3)).ownsRow w.heap.size 3 1 (.slice (some ⟨w.heap.size, 0, none⟩) 0 0) 0 [] :=
      ⟨rfl, .inr ⟨w.heap.size, 0, #[], rfl, Nat.le_refl _, heap_alloc_new w _, Nat.le_refl _, Nat.zero_le _, rfl, rfl⟩⟩
    have hcells : ∀ j u, xs[j]? = some u → (w.alloc (.cells #[] 3)).cell? (a.add j) = some u := by
      intro j u hj
      have h := hc j u hj
      exact (World.cell?_of_block (heap_alloc_old w (.cells #[] 3) (cell_lt h))).trans h
    have HC := Lib.hid hcells
    have H1 := Lib.hid h1
    have HL := Lib.hid hl
    clear hc h1 hcells hl
    go_enter Tryz.func144, Tryz.ntmps144
    go_wp2_with (first
      | (at_builtin; refine wpList_append_own_at _ rfl _ _ 52 rfl w.heap.size 3 i0 (.int .i64 0) 1 8 Tryz.underlying52 hi hz0 hz1 hz2 rfl (by decide) (.slice (some ⟨w.heap.size, 0, none⟩) 0 0) 0 [] rfl hown0 a len cap xs rfl HL.out HC.out H1.out (by unfold maxLen; omega) (by omega) (by simp) ?_; intro v' w' hown' hgrow' hnil' hloc')
      | (with_reducible refine wpList_exec (o := ⟨some 5, .buildSlice 52 0 #[], _, _, _, _⟩) rfl _ _ (exec_buildSlice (ps := #[]) (by simp) (hbs _)) ?_))
    go_ret
    exact ⟨_, rfl, by simpa using hown', grown_new hgrow'⟩

end Go.Proofs.YtkgdpmeheakdcaaGreat
