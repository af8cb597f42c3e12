/- A slice of images that came in, opened. -/
import Derived.Test.YtkgdpmeheakdcaaGreatOpenI
import Derived.WalkKit
import Derived.ProofKit
import Derived.OpenShut
import Derived.ShutString
import Derived.ChangeOld
import Derived.Below
import Derived.Deep.Slices
namespace Go.Proofs.YtkgdpmeheakdcaaGreat
open Go.ChangeShapes Go.WideShapes Go.ChangeAt Go.RowKit
set_option linter.all false
set_option maxRecDepth 100000

structure ImAt (w : World) (kb ko i : Nat) (x : Im) : Prop where
  c0 : w.cell? ⟨kb, ko + i * 3, none⟩ = some (.int .i64 x.b)
  c1 : w.cell? ⟨kb, ko + i * 3 + 1, none⟩ = some (.int .u64 x.v)
  c2 : w.cell? ⟨kb, ko + i * 3 + 2, none⟩ = some (.string (str x.d))
  vm : x.v < 18446744073709551616
  dm : x.d.length ≤ maxLen

/-- Images that came in. -/
structure ImgsRow (w : World) (a : Option Addr) (len cap : Nat) (l : List Im) : Prop where
  hlen : l.length = len
  hcap : len ≤ cap
  hmax : cap ≤ maxLen
  ims : ∀ i, i < len → ∃ x kb ko, l[i]? = some x ∧ a = some ⟨kb, ko, none⟩ ∧ kb < w.heap.size ∧ ImAt w kb ko i x

theorem ImAt.of_same {w w' : World} {kb ko i : Nat} {x : Im} (h : ImAt w kb ko i x) (hb : w'.heap[kb]? = w.heap[kb]?) : ImAt w' kb ko i x := by
  have hc : ∀ n, w'.cell? ⟨kb, n, none⟩ = w.cell? ⟨kb, n, none⟩ := fun n => World.cell?_of_block hb
  exact ⟨by rw [hc]; exact h.c0, by rw [hc]; exact h.c1, by rw [hc]; exact h.c2, h.vm, h.dm⟩
theorem ImgsRow.of_same {w w' : World} {a : Option Addr} {len cap : Nat} {l : List Im} (h : ImgsRow w a len cap l) (hs : ∀ x, a = some x → 0 < len → x.block < w.heap.size → w'.heap[x.block]? = w.heap[x.block]?) (hz : w.heap.size ≤ w'.heap.size) : ImgsRow w' a len cap l := by
  refine ⟨h.hlen, h.hcap, h.hmax, fun i hi => ?_⟩
  obtain ⟨x, kb, ko, h1, h2, h3, h4⟩ := h.ims i hi
  exact ⟨x, kb, ko, h1, h2, Nat.lt_of_lt_of_le h3 hz, h4.of_same (hs _ h2 (by omega) h3)⟩
theorem ImgsRow.below {w w' : World} {a : Option Addr} {len cap : Nat} {l : List Im} (h : ImgsRow w a len cap l) (hb : Below w.heap.size w w') : ImgsRow w' a len cap l :=
  h.of_same (fun x _ _ hx => hb.block _ hx) hb.size
theorem ImgsRow.grow {G : Nat → Prop} {w w' : World} {a : Option Addr} {len cap : Nat} {l : List Im} (h : ImgsRow w a len cap l) (hb : Grow G w w') (hG : ∀ x, a = some x → 0 < len → x.block < w.heap.size → ¬ G x.block) : ImgsRow w' a len cap l :=
  h.of_same (fun x hx hl hz => hb.block _ hz (hG x hx hl hz)) hb.size

theorem listI_of {α : Type} (p : Nat → α → Prop) : ∀ n, (∀ i, i < n → ∃ o, p i o) → ∃ l : List α, l.length = n ∧ ∀ i, i < n → ∃ o, l[i]? = some o ∧ p i o
  | 0, _ => ⟨[], rfl, fun i h => by omega⟩
  | n + 1, h => by
    obtain ⟨l, hl, hx⟩ := listI_of p n (fun i hi => h i (by omega))
    obtain ⟨o, ho⟩ := h n (by omega)
    refine ⟨l ++ [o], by simp [hl], fun i hi => ?_⟩
    by_cases hin : i < n
    · obtain ⟨o', h1, h2⟩ := hx i hin
      exact ⟨o', by rw [List.getElem?_append_left (by omega)]; exact h1, h2⟩
    · have : i = n := by omega
      subst this
      exact ⟨o, by rw [List.getElem?_append_right (by omega), hl, Nat.sub_self]; rfl, ho⟩

section
variable {H : Type} {enc : TypeId × Value → H} {W : World} {held : Value → Bool} {base fuel n : Nat}

theorem open_images {x : DataW H × List MemPlace} {a : Option Addr} {len cap : Nat} (h : DataW.trod enc Tryz.prog W base (fun _ => true) true fuel 41 [Value.slice a len cap] = some x) : ∃ l, ImgsRow W a len cap l := by
  rcases Go.Deep.open_slice Tryz.underlying41 h with ⟨hcs, _⟩ | ⟨a', len', cap', m, k, D, Pl, hcs, hb, hl, hm, hmm, _, hx⟩
  · simp at hcs
    obtain ⟨rfl, rfl, rfl⟩ := hcs
    exact ⟨[], rfl, Nat.le_refl _, Nat.zero_le _, fun i hi => by omega⟩
  · simp at hcs
    obtain ⟨rfl, rfl, rfl⟩ := hcs
    have hc8 : Tryz.prog.cellsOf 24 = 3 := by kernel_rfl
    have hm' : m = cap := by simpa using hmm
    have each : ∀ i, i < len → ∃ o : Im, ∃ kb ko, a' = ⟨kb, ko, none⟩ ∧ kb < W.heap.size ∧ ImAt W kb ko i o := by
      intro i hi
      obtain ⟨cs, h1, h2⟩ := hx i (by omega)
      rw [hc8] at h1
      obtain ⟨_, hlen, hcell⟩ := World.cells?_some h1
      obtain ⟨xs, f, _, _, _, hxl, hf⟩ := DataW.trod_struct Tryz.underlying24 h2
      have c3 : Tryz.prog.cellsOf 3 = 1 := by kernel_rfl
      have c9 : Tryz.prog.cellsOf 9 = 1 := by kernel_rfl
      have c22 : Tryz.prog.cellsOf 22 = 1 := by kernel_rfl
      have hblk : a'.block < W.heap.size := by
        have := World.cells?_block h1 (by decide)
        have e : (a'.add (i * 3)).block = a'.block := by
          unfold Addr.add
          split <;> rfl
        omega
      match cs, hlen with
      | [v0, v1, v2], _ =>
        match xs, hxl with
        | [x0, x1, x2], _ =>
          have t0 : DataW.trod enc Tryz.prog W base (fun _ => true) true f 3 [v0] = some x0 := by
            have : DataW.trod enc Tryz.prog W base (fun _ => true) true f 3 (List.take (Tryz.prog.cellsOf 3) (List.drop 0 [v0, v1, v2])) = some x0 := hf 0 _ rfl
            rw [c3] at this
            exact this
          have t1 : DataW.trod enc Tryz.prog W base (fun _ => true) true f 22 [v1] = some x1 := by
            have : DataW.trod enc Tryz.prog W base (fun _ => true) true f 22 (List.take (Tryz.prog.cellsOf 22) (List.drop 1 [v0, v1, v2])) = some x1 := hf 1 _ rfl
            rw [c22] at this
            exact this
          have t2 : DataW.trod enc Tryz.prog W base (fun _ => true) true f 9 [v2] = some x2 := by
            have : DataW.trod enc Tryz.prog W base (fun _ => true) true f 9 (List.take (Tryz.prog.cellsOf 9) (List.drop 2 [v0, v1, v2])) = some x2 := hf 2 _ rfl
            rw [c9] at this
            exact this
          obtain ⟨z0, e0, -, -⟩ := DataW.trod_int Tryz.underlying3 t0
          obtain ⟨z1, e1, -, q1⟩ := DataW.trod_int Tryz.underlying22 t1
          obtain ⟨s2, e2, -, m2⟩ := DataW.trod_string Tryz.underlying9 t2
          simp only [List.cons.injEq, and_true] at e0 e1 e2
          obtain ⟨u, rfl, hu⟩ := u64_wf q1
          obtain ⟨kb, ko, spot⟩ := a'
          have hs : spot = none := by
            obtain ⟨cs0, g1, -⟩ := hx 0 (by omega)
            rw [hc8] at g1
            obtain ⟨-, gl, gc⟩ := World.cells?_some g1
            have g0 := gc 0 (by decide)
            rw [List.getElem?_eq_getElem (show 0 < cs0.length by omega)] at g0
            have g2 : W.cell? ⟨kb, ko, spot⟩ = some cs0[0] := g0
            simpa using World.cell?_spot g2
          subst hs
          have hcl : ∀ j, j < 3 → W.cell? ⟨kb, ko + i * 3 + j, none⟩ = [v0, v1, v2][j]? := by
            intro j hj
            have := hcell j hj
            rw [Addr.add_lit, Addr.add_lit] at this
            exact this
          refine ⟨⟨z0, u, s2.data.toList⟩, kb, ko, rfl, hblk, ⟨?_, ?_, ?_, hu, m2⟩⟩
          · have := hcl 0 (by decide)
            rw [e0] at this
            exact this
          · have := hcl 1 (by decide)
            rw [e1] at this
            exact this
          · have := hcl 2 (by decide)
            rw [e2] at this
            rw [str_list]
            exact this
    obtain ⟨os, ho, hall⟩ := listI_of _ len each
    refine ⟨os, ho, hl, hm, fun i hi => ?_⟩
    obtain ⟨o, h1, kb, ko, h2, h3, h4⟩ := hall i hi
    exact ⟨o, kb, ko, h1, by rw [h2], h3, h4⟩
end

end Go.Proofs.YtkgdpmeheakdcaaGreat
