/- The walks of a disk's small methods: what each tells, the world as it was. -/
import Derived.Test.YtkgdpmeheakdcaaGreatBase
import Derived.BigQuiet
import Derived.Deep.QuietTactic
import Derived.Deep.DeepMust
import Derived.Outline
namespace Go.Proofs.YtkgdpmeheakdcaaGreat
open Go.RowKit
set_option linter.all false

theorem ret_int' {k : IntKind} {a b : Int} (h : a = b) : Ending.returned (.int k a) = .returned (.int k b) := by rw [h]

theorem ret_bool' {a b : Bool} (h : a = b) : Ending.returned (.bool a) = .returned (.bool b) := by rw [h]

theorem on_any {b : Nat} {D : DS} {nb lb : Option Nat} {wv sv : Value} {w : World} (h : BlkAt b D nb lb wv sv w) :
    Calls Tryz.prog 94 #[.pointer (some ⟨b, 0, none⟩)] w fun e w' => e = .returned (.bool D.on) ∧ w = w' := by
  have h1 := h.c1
  clear h
  go_enter Tryz.func94, Tryz.ntmps94
  go_wp2
  go_ret
  exact ⟨rfl, rfl⟩

theorem on_nil {w : World} : Calls Tryz.prog 94 #[.pointer none] w fun e w' => e = .returned (.bool false) ∧ w = w' := by
  go_enter Tryz.func94, Tryz.ntmps94
  go_wp2
  go_ret
  exact ⟨rfl, rfl⟩

/-- Why a node can do nothing. -/
def mayE (on : Bool) (node : Int) : Int := if on = false then 14 else if node < 0 then 1 else if 16 < node then 1 else 0

theorem may_any {b : Nat} {D : DS} {nb lb : Option Nat} {wv sv : Value} {w : World} (h : BlkAt b D nb lb wv sv w) (node : Int) :
    Calls Tryz.prog 80 #[.pointer (some ⟨b, 0, none⟩), .int .i64 node] w fun e w' => e = .returned (.int .i64 (mayE D.on node)) ∧ w = w' := by
  unfold mayE
  have hon := on_any h
  clear h
  generalize D.on = on at hon ⊢
  cases on with
  | false =>
    go_enter Tryz.func80, Tryz.ntmps80
    go_wp2_with (go_at_call 94; refine hon.mono ?_; rintro e w' ⟨rfl, rfl⟩)
    go_ret
    exact ⟨rfl, rfl⟩
  | true =>
    by_cases h1 : node < 0
    · have h1d : decide (node < 0) = true := by simpa using h1
      go_enter Tryz.func80, Tryz.ntmps80
      go_wp2_with (go_at_call 94; refine hon.mono ?_; rintro e w' ⟨rfl, rfl⟩)
      go_ret
      exact ⟨ret_int' (by simp [h1]), rfl⟩
    · have h1d : decide (node < 0) = false := by simpa using h1
      by_cases h2 : 16 < node
      · go_enter Tryz.func80, Tryz.ntmps80
        go_wp2_with (go_at_call 94; refine hon.mono ?_; rintro e w' ⟨rfl, rfl⟩)
        go_ret
        exact ⟨ret_int' (by simp [h1, h2]), rfl⟩
      · go_enter Tryz.func80, Tryz.ntmps80
        go_wp2_with (go_at_call 94; refine hon.mono ?_; rintro e w' ⟨rfl, rfl⟩)
        go_ret
        exact ⟨ret_int' (by simp [h1, h2]), rfl⟩

theorem may_nil {w : World} (node : Int) :
    Calls Tryz.prog 80 #[.pointer none, .int .i64 node] w fun e w' => e = .returned (.int .i64 14) ∧ w = w' := by
  go_enter Tryz.func80, Tryz.ntmps80
  go_wp2_with (go_at_call 94; refine on_nil.mono ?_; rintro e w' ⟨rfl, rfl⟩)
  go_ret
  exact ⟨rfl, rfl⟩

/-- Are a node's writes admitted? -/
def admE (t epoch : Int) : Int := if epoch = 0 then 34 else if t = epoch then 0 else 34

theorem admits_any {b : Nat} {D : DS} {nb lb : Option Nat} {wv sv : Value} {w : World} (h : BlkAt b D nb lb wv sv w) (n : Nat) (hn : n < 17) (epoch : Int) :
    Calls Tryz.prog 91 #[.pointer (some ⟨b, 0, none⟩), .int .i64 (n : Int), .int .u64 epoch] w fun e w' => e = .returned (.int .i64 (admE (D.table.getD n 0) epoch)) ∧ w = w' := by
  unfold admE
  have h1 := h.tab n hn
  clear h
  generalize D.table.getD n 0 = t at h1 ⊢
  have hlt : (n : Int) < 17 := by omega
  by_cases h0 : epoch = 0
  · subst h0
    go_enter Tryz.func91, Tryz.ntmps91
    go_wp2
    go_ret
    exact ⟨rfl, rfl⟩
  · have h0b : (epoch == 0) = false := by simpa using h0
    by_cases h2 : t = epoch
    · have h2b : (t != epoch) = false := by simpa using h2
      go_enter Tryz.func91, Tryz.ntmps91
      go_wp2
      go_ret
      exact ⟨ret_int' (by simp [h0, h2]), rfl⟩
    · have h2b : (t != epoch) = true := by simpa using h2
      go_enter Tryz.func91, Tryz.ntmps91
      go_wp2
      go_ret
      exact ⟨ret_int' (by simp [h0, h2]), rfl⟩

/-- Are so many sectors there? -/
def thereB (sectors a n : Int) : Bool := decide (0 ≤ a ∧ a ≤ sectors ∧ n ≤ sectors - a)

theorem there_any {b : Nat} {D : DS} {nb lb : Option Nat} {wv sv : Value} {w : World} (h : BlkAt b D nb lb wv sv w) (hs0 : 0 ≤ D.sectors) (hs1 : D.sectors ≤ 20000) (a n : Int) :
    Calls Tryz.prog 92 #[.pointer (some ⟨b, 0, none⟩), .int .i64 a, .int .i64 n] w fun e w' => e = .returned (.bool (thereB D.sectors a n)) ∧ w = w' := by
  have h1 := h.c0
  clear h
  unfold thereB
  generalize D.sectors = s at *
  by_cases g1 : a < 0
  · have e1 : decide (0 ≤ a) = false := by simp; omega
    go_enter Tryz.func92, Tryz.ntmps92
    go_wp2
    go_ret
    exact ⟨ret_bool' (by simp <;> omega), rfl⟩
  · have e1 : decide (0 ≤ a) = true := by simp; omega
    by_cases g2 : s < a
    · have e2 : decide (a ≤ s) = false := by simp; omega
      go_enter Tryz.func92, Tryz.ntmps92
      go_wp2
      go_ret
      exact ⟨ret_bool' (by simp <;> omega), rfl⟩
    · have e2 : decide (a ≤ s) = true := by simp; omega
      have hle : a ≤ s := by omega
      have hge : 0 ≤ a := by omega
      by_cases g3 : n ≤ s - a
      all_goals
        go_enter Tryz.func92, Tryz.ntmps92
        go_wp2
        go_ret
      · exact ⟨ret_bool' (by simp [g3] <;> omega), rfl⟩
      · exact ⟨ret_bool' (by simp [g3] <;> omega), rfl⟩


theorem sectors_any {b : Nat} {D : DS} {nb lb : Option Nat} {wv sv : Value} {w : World} (h : BlkAt b D nb lb wv sv w) :
    Calls Tryz.prog 73 #[.pointer (some ⟨b, 0, none⟩)] w fun e w' => e = .returned (.int .i64 D.sectors) ∧ w = w' := by
  have h1 := h.c0
  clear h
  go_enter Tryz.func73, Tryz.ntmps73
  go_wp2
  go_ret
  exact ⟨rfl, rfl⟩

theorem last_any {b : Nat} {D : DS} {nb lb : Option Nat} {wv sv : Value} {w : World} (h : BlkAt b D nb lb wv sv w) :
    Calls Tryz.prog 77 #[.pointer (some ⟨b, 0, none⟩)] w fun e w' => e = .returned (.int .u64 D.last) ∧ w = w' := by
  have h1 := h.c40
  clear h
  go_enter Tryz.func77, Tryz.ntmps77
  go_wp2
  go_ret
  exact ⟨rfl, rfl⟩

/-- A node's number in a table of 17. -/
def atNode (l : List Int) (node : Int) : Int := if node < 0 ∨ 16 < node then 0 else l.getD node.toNat 0

end Go.Proofs.YtkgdpmeheakdcaaGreat
