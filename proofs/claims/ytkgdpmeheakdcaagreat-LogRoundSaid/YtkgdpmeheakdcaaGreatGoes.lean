/- goes; Barrier, Admit, Fence, Put. -/
import Derived.Test.YtkgdpmeheakdcaaGreatCut
namespace Go.Proofs.YtkgdpmeheakdcaaGreat
open Go.RowKit
set_option linter.all false
set_option maxRecDepth 100000

/-- The bounds that hold of every disk here. -/
structure DS.Ok (D : DS) : Prop where
  s0 : 1 ≤ D.sectors
  s1 : D.sectors ≤ 20000
  q0 : 0 ≤ D.seq
  q1 : D.seq ≤ 1000000000
  l0 : -9223372036854775808 ≤ D.left
  l1 : D.left ≤ 9223372036854775807
  wn : D.waits.length ≤ 900000
  sn : D.stays.length ≤ 1000000000
  tl : D.table.length = 17
  wl : D.words.length = 17

def goesB (D : DS) : Bool := D.armed && !decide (0 < D.left)
def goesD (D : DS) : DS := if D.armed = true then (if 0 < D.left then { D with left := D.left - 1 } else cutOn D D.stays) else D

theorem goesD_off {D : DS} (h : D.armed = false) : goesD D = D ∧ goesB D = false := by simp [goesD, goesB, h]
theorem goesD_left {D : DS} (h : D.armed = true) (hl : 0 < D.left) : goesD D = { D with left := D.left - 1 } ∧ goesB D = false := by simp [goesD, goesB, h, hl]
theorem goesD_cut {D : DS} (h : D.armed = true) (hl : ¬ 0 < D.left) : goesD D = cutOn D D.stays ∧ goesB D = true := by simp [goesD, goesB, h, hl]

theorem goes_any {F : Nat → Prop} {b : Nat} {D : DS} {nb lb : Nat} {wv sv : Value} {w : World} (h : DiskIn F b D nb lb wv sv w) (hon : D.on = true) (ok : D.Ok) :
    Calls Tryz.prog 81 #[.pointer (some ⟨b, 0, none⟩)] w fun e w' => e = .returned (.bool (goesB D)) ∧ DiskTo F b (goesD D) w w' := by
  have c41 := h.blk.c41
  have c42 := h.blk.c42
  have c43 := h.blk.c43
  have f42 := h.blk.fz 42
  cases ha : D.armed with
  | false =>
    obtain ⟨e1, e2⟩ := goesD_off ha
    rw [e1, e2]
    rw [ha] at c41
    have HF := Lib.hid (DiskTo.same h)
    clear h hon ok ha e1 e2 c42 c43
    go_enter Tryz.func81, Tryz.ntmps81
    go_wp2
    go_ret
    exact ⟨rfl, HF.out⟩
  | true =>
    rw [ha] at c41
    by_cases hl : 0 < D.left
    · obtain ⟨e1, e2⟩ := goesD_left ha hl
      rw [e1, e2]
      have hst := h.store (D' := { D with left := D.left - 1 }) (h.blk.set42 (D.left - 1)) rfl rfl rfl rfl
      have HF := Lib.hid (DiskTo.mk' hst (Grow.setCell h.fb _) (fun k hk => .inl hk))
      have l1 := ok.l1
      clear h hon ok ha e1 e2 hst c43
      generalize D.left = q at *
      go_enter Tryz.func81, Tryz.ntmps81
      go_wp2
      go_ret
      exact ⟨rfl, HF.out⟩
    · obtain ⟨e1, e2⟩ := goesD_cut ha hl
      rw [e1, e2]
      obtain ⟨ao, cap, hsv, -, -, hno⟩ := ownsRow_shape h.stays
      subst hsv
      have hkeep : Keep w ao D.stays.length D.stays := ⟨rfl, fun e => (hno e).1, fun a ha j u hu => by
        subst ha
        rcases h.stays.2 with ⟨he, -⟩ | ⟨g, cap', cur, he, -⟩
        · simp at he
        · simp at he
          obtain ⟨rfl, -⟩ := he
          exact h.stays.cells rfl j u hu, ok.sn⟩
      have hne : ∀ a, ao = some a → a.block ≠ b := fun a ha => by
        subst ha
        exact h.b_ne_sv rfl
      have HC := Lib.hid (cut_on h hon ao D.stays.length cap D.stays hkeep (fun a ha _ => hne a ha) (by have := ok.wn; omega))
      clear h hon ok ha e1 e2 hkeep hne hno
      go_enter Tryz.func81, Tryz.ntmps81
      go_wp2_with fail
      refine HC.out.mono ?_
      rintro e w1 ⟨rfl, hd⟩
      have HF := Lib.hid hd
      clear hd
      go_wp2
      go_ret
      exact ⟨rfl, HF.out⟩

end Go.Proofs.YtkgdpmeheakdcaaGreat
