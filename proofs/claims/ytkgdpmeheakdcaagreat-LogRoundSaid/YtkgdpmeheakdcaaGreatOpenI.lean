/- An image that came in by value, opened. -/
import Derived.Test.YtkgdpmeheakdcaaGreatBlkA
namespace Go.Proofs.YtkgdpmeheakdcaaGreat
open Go.ChangeShapes Go.WideShapes Go.ChangeAt Go.RowKit
set_option linter.all false
set_option maxRecDepth 100000

theorem u64_wf {n : Int} (h : (Lit.int .u64 n).wf = true) : ∃ v : Nat, n = v ∧ v < 18446744073709551616 := by
  have h2 : 0 ≤ n ∧ n ≤ 18446744073709551615 := by simpa [Lit.wf, IntKind.min, IntKind.max, IntKind.bits, IntKind.signed] using h
  exact ⟨n.toNat, by omega, by omega⟩

section
variable {H : Type} {enc : TypeId × Value → H} {W : World} {held : Bool} {spare : Nat → Bool} {base : Nat}

theorem open_image {r : Reach} {b0 : Nat} {v : Value} {d : DataW H} {p : List MemPlace} (hv : Value.okWide Tryz.prog W r b0 24 v)
    (h : DataW.Trod enc Tryz.prog W base spare held 24 v d p) : ∃ s : Im, v = s.val ∧ i64In s.b ∧ s.v < 18446744073709551616 ∧ s.d.length ≤ maxLen := by
  obtain ⟨cs, rfl, hsz⟩ := okWide_struct Tryz.underlying24 hv
  obtain ⟨l⟩ := cs
  have hC : Tryz.prog.cellsOf 24 = 3 := by kernel_rfl
  have c3 : Tryz.prog.cellsOf 3 = 1 := by kernel_rfl
  have cu : Tryz.prog.cellsOf 22 = 1 := by kernel_rfl
  have cs : Tryz.prog.cellsOf 9 = 1 := by kernel_rfl
  match l, hsz.trans hC with
  | [v0, v1, v2], _ =>
    obtain ⟨fuel, hf⟩ := h
    obtain ⟨xs, n, _, _, _, hlen, hg⟩ := DataW.trod_struct Tryz.underlying24 hf
    match xs, hlen with
    | [x0, x1, x2], _ =>
      have t0 : DataW.trod enc Tryz.prog W base spare held n 3 [v0] = some x0 := by
        have : DataW.trod enc Tryz.prog W base spare held n 3 (List.take (Tryz.prog.cellsOf 3) (List.drop 0 [v0, v1, v2])) = some x0 := hg 0 _ rfl
        rw [c3] at this
        exact this
      have t1 : DataW.trod enc Tryz.prog W base spare held n 22 [v1] = some x1 := by
        have : DataW.trod enc Tryz.prog W base spare held n 22 (List.take (Tryz.prog.cellsOf 22) (List.drop 1 [v0, v1, v2])) = some x1 := hg 1 _ rfl
        rw [cu] at this
        exact this
      have t2 : DataW.trod enc Tryz.prog W base spare held n 9 [v2] = some x2 := by
        have : DataW.trod enc Tryz.prog W base spare held n 9 (List.take (Tryz.prog.cellsOf 9) (List.drop 2 [v0, v1, v2])) = some x2 := hg 2 _ rfl
        rw [cs] at this
        exact this
      obtain ⟨z0, e0, -, q0⟩ := DataW.trod_int Tryz.underlying3 t0
      obtain ⟨z1, e1, -, q1⟩ := DataW.trod_int Tryz.underlying22 t1
      obtain ⟨z2, e2, -, m2⟩ := DataW.trod_string Tryz.underlying9 t2
      simp only [List.cons.injEq, and_true] at e0 e1 e2
      subst e0 e1 e2
      obtain ⟨u, rfl, hu⟩ := u64_wf q1
      refine ⟨⟨z0, u, z2.data.toList⟩, ?_, i64In_wf q0, hu, m2⟩
      unfold Im.val
      rw [str_list]
end

end Go.Proofs.YtkgdpmeheakdcaaGreat
