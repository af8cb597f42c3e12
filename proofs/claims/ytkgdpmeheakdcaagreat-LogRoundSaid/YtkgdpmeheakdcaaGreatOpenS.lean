/- A shape that came in by value, opened. -/
import Derived.Test.YtkgdpmeheakdcaaGreatShape
import Derived.Lib.SmallJoins
import Derived.ProofKit
import Derived.OpenShut
import Derived.Deep.Slices
namespace Go.Proofs.YtkgdpmeheakdcaaGreat
open Go.ChangeShapes Go.WideShapes Go.ChangeAt Go.RowKit
set_option linter.all false
set_option maxRecDepth 100000

def i64In (n : Int) : Prop := -9223372036854775808 ≤ n ∧ n ≤ 9223372036854775807
theorem i64In_wf {n : Int} (h : (Lit.int .i64 n).wf = true) : i64In n := by
  unfold i64In
  simpa [Lit.wf, IntKind.min, IntKind.max, IntKind.bits, IntKind.signed] using h

section
variable {H : Type} {enc : TypeId × Value → H} {W : World} {held : Bool} {spare : Nat → Bool} {base : Nat}

theorem open_shape {r : Reach} {b0 : Nat} {v : Value} {d : DataW H} {p : List MemPlace} (hv : Value.okWide Tryz.prog W r b0 29 v)
    (h : DataW.Trod enc Tryz.prog W base spare held 29 v d p) : ∃ s : Sh, v = s.val ∧ i64In s.n ∧ i64In s.b ∧ i64In s.l ∧ i64In s.c ∧ i64In s.e := by
  obtain ⟨cs, rfl, hsz⟩ := okWide_struct Tryz.underlying29 hv
  obtain ⟨l⟩ := cs
  have hC : Tryz.prog.cellsOf 29 = 5 := by kernel_rfl
  have c3 : Tryz.prog.cellsOf 3 = 1 := by kernel_rfl
  match l, hsz.trans hC with
  | [v0, v1, v2, v3, v4], _ =>
    obtain ⟨fuel, hf⟩ := h
    obtain ⟨xs, n, _, _, _, hlen, hg⟩ := DataW.trod_struct Tryz.underlying29 hf
    match xs, hlen with
    | [x0, x1, x2, x3, x4], _ =>
      have t0 : DataW.trod enc Tryz.prog W base spare held n 3 [v0] = some x0 := by
        have : DataW.trod enc Tryz.prog W base spare held n 3 (List.take (Tryz.prog.cellsOf 3) (List.drop 0 [v0, v1, v2, v3, v4])) = some x0 := hg 0 _ rfl
        rw [c3] at this
        exact this
      have t1 : DataW.trod enc Tryz.prog W base spare held n 3 [v1] = some x1 := by
        have : DataW.trod enc Tryz.prog W base spare held n 3 (List.take (Tryz.prog.cellsOf 3) (List.drop 1 [v0, v1, v2, v3, v4])) = some x1 := hg 1 _ rfl
        rw [c3] at this
        exact this
      have t2 : DataW.trod enc Tryz.prog W base spare held n 3 [v2] = some x2 := by
        have : DataW.trod enc Tryz.prog W base spare held n 3 (List.take (Tryz.prog.cellsOf 3) (List.drop 2 [v0, v1, v2, v3, v4])) = some x2 := hg 2 _ rfl
        rw [c3] at this
        exact this
      have t3 : DataW.trod enc Tryz.prog W base spare held n 3 [v3] = some x3 := by
        have : DataW.trod enc Tryz.prog W base spare held n 3 (List.take (Tryz.prog.cellsOf 3) (List.drop 3 [v0, v1, v2, v3, v4])) = some x3 := hg 3 _ rfl
        rw [c3] at this
        exact this
      have t4 : DataW.trod enc Tryz.prog W base spare held n 3 [v4] = some x4 := by
        have : DataW.trod enc Tryz.prog W base spare held n 3 (List.take (Tryz.prog.cellsOf 3) (List.drop 4 [v0, v1, v2, v3, v4])) = some x4 := hg 4 _ rfl
        rw [c3] at this
        exact this
      obtain ⟨z0, e0, -, q0⟩ := DataW.trod_int Tryz.underlying3 t0
      obtain ⟨z1, e1, -, q1⟩ := DataW.trod_int Tryz.underlying3 t1
      obtain ⟨z2, e2, -, q2⟩ := DataW.trod_int Tryz.underlying3 t2
      obtain ⟨z3, e3, -, q3⟩ := DataW.trod_int Tryz.underlying3 t3
      obtain ⟨z4, e4, -, q4⟩ := DataW.trod_int Tryz.underlying3 t4
      simp only [List.cons.injEq, and_true] at e0 e1 e2 e3 e4
      subst e0 e1 e2 e3 e4
      exact ⟨⟨z0, z1, z2, z3, z4⟩, rfl, i64In_wf q0, i64In_wf q1, i64In_wf q2, i64In_wf q3, i64In_wf q4⟩
end

end Go.Proofs.YtkgdpmeheakdcaaGreat
