/- A slice of steps that came in, opened. -/
import Derived.Test.YtkgdpmeheakdcaaLight
import Derived.WalkKit
import Derived.ProofKit
import Derived.OpenShut
import Derived.ShutString
import Derived.ChangeOld
import Derived.Below
import Derived.Deep.Slices
namespace Go.Proofs.Ytkgdpmeheakdcaa
open Go.ChangeShapes Go.WideShapes Go.ChangeAt Go.RowKit
set_option linter.all false
set_option maxRecDepth 100000

theorem list_of {α : Type} (p : Nat → α → Prop) : ∀ n, (∀ i, i < n → ∃ o, p i o) → ∃ l : List α, l.length = n ∧ ∀ i, i < n → ∃ o, l[i]? = some o ∧ p i o
  | 0, _ => ⟨[], rfl, fun i h => by omega⟩
  | n + 1, h => by
    obtain ⟨l, hl, hx⟩ := list_of p n (fun i hi => h i (by omega))
    obtain ⟨o, ho⟩ := h n (by omega)
    refine ⟨l ++ [o], by simp [hl], fun i hi => ?_⟩
    by_cases hin : i < n
    · obtain ⟨o', h1, h2⟩ := hx i hin
      exact ⟨o', by rw [List.getElem?_append_left (by omega)]; exact h1, h2⟩
    · have : i = n := by omega
      subst this
      exact ⟨o, by rw [List.getElem?_append_right (by omega), hl, Nat.sub_self]; rfl, ho⟩

section
variable {H : Type} {enc : TypeId × Value → H} {W : World} {held : Value → Bool} {base fuel n : Nat}

theorem open_ops {x : DataW H × List MemPlace} {a : Option Addr} {len cap : Nat} (h : DataW.trod enc Try.prog W base (fun _ => true) true fuel 43 [Value.slice a len cap] = some x) : ∃ os, OpsRow W a len cap os := by
  rcases Go.Deep.open_slice Try.underlying43 h with ⟨hcs, _⟩ | ⟨a', len', cap', m, k, D, Pl, hcs, hb, hl, hm, hmm, _, hx⟩
  · simp at hcs
    obtain ⟨rfl, rfl, rfl⟩ := hcs
    exact ⟨[], rfl, Nat.le_refl _, Nat.zero_le _, fun i hi => by omega⟩
  · simp at hcs
    obtain ⟨rfl, rfl, rfl⟩ := hcs
    have hc8 : Try.prog.cellsOf 47 = 8 := by kernel_rfl
    have hm' : m = cap := by simpa using hmm
    have each : ∀ i, i < len → ∃ o : OpV, ∃ kb ko, a' = ⟨kb, ko, none⟩ ∧ kb < W.heap.size ∧ OpAt W kb ko i o := by
      intro i hi
      obtain ⟨cs, h1, h2⟩ := hx i (by omega)
      rw [hc8] at h1
      obtain ⟨_, hlen, hcell⟩ := World.cells?_some h1
      obtain ⟨xs, f, _, _, _, hxl, hf⟩ := DataW.trod_struct Try.underlying47 h2
      have c3 : Try.prog.cellsOf 3 = 1 := by kernel_rfl
      have c9 : Try.prog.cellsOf 9 = 1 := by kernel_rfl
      have c22 : Try.prog.cellsOf 22 = 1 := by kernel_rfl
      have c4 : Try.prog.cellsOf 4 = 1 := by kernel_rfl
      have c34 : Try.prog.cellsOf 34 = 1 := by kernel_rfl
      have hblk : a'.block < W.heap.size := by
        have := World.cells?_block h1 (by decide)
        have e : (a'.add (i * 8)).block = a'.block := by
          unfold Addr.add
          split <;> rfl
        omega
      match cs, hlen with
      | [v0, v1, v2, v3, v4, v5, v6, v7], _ =>
        match xs, hxl with
        | [x0, x1, x2, x3, x4, x5, x6, x7], _ =>
          have t0 : DataW.trod enc Try.prog W base (fun _ => true) true f 3 [v0] = some x0 := by
            have : DataW.trod enc Try.prog W base (fun _ => true) true f 3 (List.take (Try.prog.cellsOf 3) (List.drop 0 [v0, v1, v2, v3, v4, v5, v6, v7])) = some x0 := hf 0 _ rfl
            rw [c3] at this
            exact this
          have t1 : DataW.trod enc Try.prog W base (fun _ => true) true f 3 [v1] = some x1 := by
            have : DataW.trod enc Try.prog W base (fun _ => true) true f 3 (List.take (Try.prog.cellsOf 3) (List.drop 1 [v0, v1, v2, v3, v4, v5, v6, v7])) = some x1 := hf 1 _ rfl
            rw [c3] at this
            exact this
          have t2 : DataW.trod enc Try.prog W base (fun _ => true) true f 3 [v2] = some x2 := by
            have : DataW.trod enc Try.prog W base (fun _ => true) true f 3 (List.take (Try.prog.cellsOf 3) (List.drop 2 [v0, v1, v2, v3, v4, v5, v6, v7])) = some x2 := hf 2 _ rfl
            rw [c3] at this
            exact this
          have t5 : DataW.trod enc Try.prog W base (fun _ => true) true f 9 [v5] = some x5 := by
            have : DataW.trod enc Try.prog W base (fun _ => true) true f 9 (List.take (Try.prog.cellsOf 9) (List.drop 5 [v0, v1, v2, v3, v4, v5, v6, v7])) = some x5 := hf 5 _ rfl
            rw [c9] at this
            exact this
          have t6 : DataW.trod enc Try.prog W base (fun _ => true) true f 34 [v6] = some x6 := by
            have : DataW.trod enc Try.prog W base (fun _ => true) true f 34 (List.take (Try.prog.cellsOf 34) (List.drop 6 [v0, v1, v2, v3, v4, v5, v6, v7])) = some x6 := hf 6 _ rfl
            rw [c34] at this
            exact this
          have t3 : DataW.trod enc Try.prog W base (fun _ => true) true f 3 [v3] = some x3 := by
            have : DataW.trod enc Try.prog W base (fun _ => true) true f 3 (List.take (Try.prog.cellsOf 3) (List.drop 3 [v0, v1, v2, v3, v4, v5, v6, v7])) = some x3 := hf 3 _ rfl
            rw [c3] at this
            exact this
          have t4 : DataW.trod enc Try.prog W base (fun _ => true) true f 22 [v4] = some x4 := by
            have : DataW.trod enc Try.prog W base (fun _ => true) true f 22 (List.take (Try.prog.cellsOf 22) (List.drop 4 [v0, v1, v2, v3, v4, v5, v6, v7])) = some x4 := hf 4 _ rfl
            rw [c22] at this
            exact this
          have t7 : DataW.trod enc Try.prog W base (fun _ => true) true f 4 [v7] = some x7 := by
            have : DataW.trod enc Try.prog W base (fun _ => true) true f 4 (List.take (Try.prog.cellsOf 4) (List.drop 7 [v0, v1, v2, v3, v4, v5, v6, v7])) = some x7 := hf 7 _ rfl
            rw [c4] at this
            exact this
          obtain ⟨z3, e3, -, -⟩ := DataW.trod_int Try.underlying3 t3
          obtain ⟨z4, e4, -, -⟩ := DataW.trod_int Try.underlying22 t4
          obtain ⟨o7, e7, -⟩ := DataW.trod_bool Try.underlying4 t7
          obtain ⟨z0, e0, -, -⟩ := DataW.trod_int Try.underlying3 t0
          obtain ⟨z1, e1, -, -⟩ := DataW.trod_int Try.underlying3 t1
          obtain ⟨z2, e2, -, -⟩ := DataW.trod_int Try.underlying3 t2
          obtain ⟨s5, e5, -, m5⟩ := DataW.trod_string Try.underlying9 t5
          have e6 : ∃ (ka : Option Addr) (kl kc : Nat), v6 = .slice ka kl kc ∧ kl ≤ maxLen := by
            rcases DataW.trod_slice Try.underlying34 t6 with ⟨h0, -⟩ | ⟨ka, kl, kc, _, _, _, -, h0, -, -, q1, q2, -⟩
            · exact ⟨none, 0, 0, by simpa using h0, Nat.zero_le _⟩
            · exact ⟨some ka, kl, kc, by simpa using h0, Nat.le_trans q1 q2⟩
          obtain ⟨ka, kl, kc, e6, m6⟩ := e6
          simp only [List.cons.injEq, and_true] at e0 e1 e2 e3 e4 e5 e7
          obtain ⟨kb, ko, spot⟩ := a'
          have hs : spot = none := by
            obtain ⟨cs0, g1, -⟩ := hx 0 (by omega)
            rw [hc8] at g1
            obtain ⟨-, gl, gc⟩ := World.cells?_some g1
            have g0 := gc 0 (by decide)
            rw [List.getElem?_eq_getElem (show 0 < cs0.length by omega)] at g0
            have g2 : W.cell? ⟨kb, ko, spot⟩ = some cs0[0] := g0
            simpa using World.cell?_spot g2
          subst hs
          have hcl : ∀ j, j < 8 → W.cell? ⟨kb, ko + i * 8 + j, none⟩ = [v0, v1, v2, v3, v4, v5, v6, v7][j]? := by
            intro j hj
            have := hcell j hj
            rw [Addr.add_lit, Addr.add_lit] at this
            exact this
          refine ⟨⟨z0, z1, z2, z3, z4, s5, ka, kl, kc, o7⟩, kb, ko, rfl, hblk, ⟨?_, ?_, ?_, ?_, ?_, ?_, ?_, ?_, m5, m6⟩⟩
          · have := hcl 0 (by decide)
            rw [e0] at this
            exact this
          · have := hcl 1 (by decide)
            rw [e1] at this
            exact this
          · have := hcl 2 (by decide)
            rw [e2] at this
            exact this
          · have := hcl 3 (by decide)
            rw [e3] at this
            exact this
          · have := hcl 4 (by decide)
            rw [e4] at this
            exact this
          · have := hcl 5 (by decide)
            rw [e5] at this
            exact this
          · have := hcl 6 (by decide)
            rw [e6] at this
            exact this
          · have := hcl 7 (by decide)
            rw [e7] at this
            exact this
    obtain ⟨os, ho, hall⟩ := list_of _ len each
    refine ⟨os, ho, hl, hm, fun i hi => ?_⟩
    obtain ⟨o, h1, kb, ko, h2, h3, h4⟩ := hall i hi
    exact ⟨o, kb, ko, h1, by rw [h2], h3, h4⟩
end

end Go.Proofs.Ytkgdpmeheakdcaa
