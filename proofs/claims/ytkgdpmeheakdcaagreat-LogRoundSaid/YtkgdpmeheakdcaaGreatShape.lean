/- super: walks of in, Valid, Size, LogAt, BlockAt. -/
import Derived.Test.YtkgdpmeheakdcaaGreatReader
namespace Go.Proofs.YtkgdpmeheakdcaaGreat
open Go.RowKit
set_option linter.all false
set_option maxRecDepth 100000

/-- A shape, as plain data. -/
structure Sh where
  n : Int
  b : Int
  l : Int
  c : Int
  e : Int
def Sh.val (s : Sh) : Value := .agg #[.int .i64 s.n, .int .i64 s.b, .int .i64 s.l, .int .i64 s.c, .int .i64 s.e]
def inB (n lo hi : Int) : Bool := decide (lo ≤ n ∧ n ≤ hi)
def Sh.ok (s : Sh) : Bool := inB s.n 1 16 && (inB s.b 1 4096 && (inB s.l 8 256 && (inB s.c 2 1000 && inB s.e 32 1000)))
def Sh.size (s : Sh) : Int := 1 + s.n * s.l + 2 * s.b

theorem inB_iff {n lo hi : Int} : inB n lo hi = true ↔ lo ≤ n ∧ n ≤ hi := by unfold inB; simp
theorem inB_no {n lo hi : Int} : inB n lo hi = false ↔ ¬ (lo ≤ n ∧ n ≤ hi) := by unfold inB; simp
theorem Sh.ok_iff {s : Sh} : s.ok = true ↔ (1 ≤ s.n ∧ s.n ≤ 16) ∧ (1 ≤ s.b ∧ s.b ≤ 4096) ∧ (8 ≤ s.l ∧ s.l ≤ 256) ∧ (2 ≤ s.c ∧ s.c ≤ 1000) ∧ (32 ≤ s.e ∧ s.e ≤ 1000) := by
  unfold Sh.ok
  simp only [Bool.and_eq_true, inB_iff]

theorem bcell {W w1 : World} (hb : Below W.heap.size W w1) : (∀ b o, b < W.heap.size → w1.cell? ⟨b, o, none⟩ = W.cell? ⟨b, o, none⟩) ∧ (∀ b o, b < W.heap.size → w1.frozen? ⟨b, o, none⟩ = W.frozen? ⟨b, o, none⟩) :=
  ⟨fun b o h => hb.cell (p := ⟨b, o, none⟩) h, fun b o h => hb.frozen (p := ⟨b, o, none⟩) h⟩

theorem in_any (n lo hi : Int) (w : World) :
    Calls Tryz.prog 88 #[.int .i64 n, .int .i64 lo, .int .i64 hi] w fun e w' => e = .returned (.bool (inB n lo hi)) ∧ w = w' := by
  unfold inB
  by_cases h1 : lo ≤ n
  · have e1 : decide (lo ≤ n) = true := by simpa using h1
    by_cases h2 : n ≤ hi
    all_goals
      go_enter Tryz.func88, Tryz.ntmps88
      go_wp2
      go_ret
    · exact ⟨ret_bool' (by simp [h1, h2]), rfl⟩
    · exact ⟨ret_bool' (by simp [h2]), rfl⟩
  · have e1 : decide (lo ≤ n) = false := by simpa using h1
    go_enter Tryz.func88, Tryz.ntmps88
    go_wp2
    go_ret
    exact ⟨ret_bool' (by simp [h1]), rfl⟩

theorem valid_any (s : Sh) (w : World) : Calls Tryz.prog 72 #[s.val] w fun e w' => e = .returned (.bool s.ok) ∧ Below w.heap.size w w' := by
  obtain ⟨n, b, l, c, e⟩ := s
  unfold Sh.ok Sh.val
  dsimp only
  have hB : ∀ o : Obj, Below w.heap.size w (w.alloc o) := fun o => (Below.refl _ _).alloc (Nat.le_refl _) o
  have HB := Lib.hid hB
  clear hB
  have I1 := fun w => in_any n 1 16 w
  have I2 := fun w => in_any b 1 4096 w
  have I3 := fun w => in_any l 8 256 w
  have I4 := fun w => in_any c 2 1000 w
  have I5 := fun w => in_any e 32 1000 w
  generalize inB n 1 16 = g1 at *
  generalize inB b 1 4096 = g2 at *
  generalize inB l 8 256 = g3 at *
  generalize inB c 2 1000 = g4 at *
  generalize inB e 32 1000 = g5 at *
  have H1 := Lib.hid I1
  have H2 := Lib.hid I2
  have H3 := Lib.hid I3
  have H4 := Lib.hid I4
  have H5 := Lib.hid I5
  clear I1 I2 I3 I4 I5
  cases g1 with
  | false =>
    go_enter Tryz.func72, Tryz.ntmps72
    go_wp2_with fail
    refine (H1.out _).mono ?_
    rintro e w' ⟨rfl, rfl⟩
    go_wp2
    go_ret
    exact ⟨rfl, HB.out _⟩
  | true =>
    cases g2 with
    | false =>
      go_enter Tryz.func72, Tryz.ntmps72
      go_wp2_with fail
      refine (H1.out _).mono ?_
      rintro e w' ⟨rfl, rfl⟩
      go_wp2_with fail
      refine (H2.out _).mono ?_
      rintro e w' ⟨rfl, rfl⟩
      go_wp2
      go_ret
      exact ⟨rfl, HB.out _⟩
    | true =>
      cases g3 with
      | false =>
        go_enter Tryz.func72, Tryz.ntmps72
        go_wp2_with fail
        refine (H1.out _).mono ?_
        rintro e w' ⟨rfl, rfl⟩
        go_wp2_with fail
        refine (H2.out _).mono ?_
        rintro e w' ⟨rfl, rfl⟩
        go_wp2_with fail
        refine (H3.out _).mono ?_
        rintro e w' ⟨rfl, rfl⟩
        go_wp2
        go_ret
        exact ⟨rfl, HB.out _⟩
      | true =>
        cases g4 with
        | false =>
          go_enter Tryz.func72, Tryz.ntmps72
          go_wp2_with fail
          refine (H1.out _).mono ?_
          rintro e w' ⟨rfl, rfl⟩
          go_wp2_with fail
          refine (H2.out _).mono ?_
          rintro e w' ⟨rfl, rfl⟩
          go_wp2_with fail
          refine (H3.out _).mono ?_
          rintro e w' ⟨rfl, rfl⟩
          go_wp2_with fail
          refine (H4.out _).mono ?_
          rintro e w' ⟨rfl, rfl⟩
          go_wp2
          go_ret
          exact ⟨rfl, HB.out _⟩
        | true =>
          go_enter Tryz.func72, Tryz.ntmps72
          go_wp2_with fail
          refine (H1.out _).mono ?_
          rintro e w' ⟨rfl, rfl⟩
          go_wp2_with fail
          refine (H2.out _).mono ?_
          rintro e w' ⟨rfl, rfl⟩
          go_wp2_with fail
          refine (H3.out _).mono ?_
          rintro e w' ⟨rfl, rfl⟩
          go_wp2_with fail
          refine (H4.out _).mono ?_
          rintro e w' ⟨rfl, rfl⟩
          go_wp2_with fail
          refine (H5.out _).mono ?_
          rintro e w' ⟨rfl, rfl⟩
          go_wp2
          go_ret
          exact ⟨rfl, HB.out _⟩

theorem size_any (s : Sh) (hs : s.ok = true) (w : World) : Calls Tryz.prog 74 #[s.val] w fun e w' => e = .returned (.int .i64 s.size) ∧ Below w.heap.size w w' := by
  have HV := fun w => valid_any s w
  rw [hs] at HV
  obtain ⟨⟨a1, a2⟩, ⟨a3, a4⟩, ⟨a5, a6⟩, -⟩ := Sh.ok_iff.1 hs
  obtain ⟨n, b, l, c, e⟩ := s
  unfold Sh.size
  unfold Sh.val at *
  dsimp only at *
  replace HV := Lib.hid HV
  clear hs
  have hp0 : 0 ≤ n * l := Int.mul_nonneg (by omega) (by omega)
  have hp1 : n * l ≤ 16 * 256 := Int.mul_le_mul a2 a6 (by omega) (by omega)
  go_enter Tryz.func74, Tryz.ntmps74
  go_wp2_with fail
  refine (HV.out _).mono ?_
  rintro e w' ⟨rfl, hb⟩
  obtain ⟨hc, hf⟩ := bcell hb
  have HB := Lib.hid hb
  clear hb
  go_wp2
  go_ret
  exact ⟨ret_int' rfl, ((Below.refl _ _).alloc (Nat.le_refl _) _).trans (HB.out.mono (by simp))⟩

def Sh.log (s : Sh) (k : Int) : Int := 1 + (k - 1) * s.l
def Sh.blk (s : Sh) (k : Int) : Int := 1 + s.n * s.l + 2 * k

theorem logat_any (s : Sh) (hs : s.ok = true) (k : Int) (h1 : 1 ≤ k) (h2 : k ≤ s.n) (w : World) :
    Calls Tryz.prog 52 #[s.val, .int .i64 k] w fun e w' => e = .returned (.tuple #[.int .i64 (s.log k), .int .i64 0]) ∧ Below w.heap.size w w' := by
  have HV := fun w => valid_any s w
  rw [hs] at HV
  obtain ⟨⟨a1, a2⟩, ⟨a3, a4⟩, ⟨a5, a6⟩, -⟩ := Sh.ok_iff.1 hs
  obtain ⟨n, b, l, c, e⟩ := s
  unfold Sh.log
  unfold Sh.val at *
  dsimp only at *
  replace HV := Lib.hid HV
  clear hs
  have HI := fun w => in_any k 1 n w
  rw [inB_iff.2 ⟨h1, h2⟩] at HI
  replace HI := Lib.hid HI
  have hp0 : 0 ≤ (k - 1) * l := Int.mul_nonneg (by omega) (by omega)
  have hp1 : (k - 1) * l ≤ 16 * 256 := Int.mul_le_mul (by omega) a6 (by omega) (by omega)
  go_enter Tryz.func52, Tryz.ntmps52
  go_wp2_with fail
  refine (HV.out _).mono ?_
  rintro e w' ⟨rfl, hb⟩
  obtain ⟨hc, hf⟩ := bcell hb
  have HB := Lib.hid hb
  clear hb
  go_wp2_with fail
  refine (HI.out _).mono ?_
  rintro e w' ⟨rfl, rfl⟩
  go_wp2
  go_ret2
  exact ⟨rfl, ((Below.refl _ _).alloc (Nat.le_refl _) _).trans (HB.out.mono (by simp))⟩

def blockAtR (s : Sh) (k : Int) : Int × Int := if inB k 0 (s.b - 1) = true then (s.blk k, 0) else (0, 30)

theorem blockat_any (s : Sh) (hs : s.ok = true) (k : Int) (w : World) :
    Calls Tryz.prog 42 #[s.val, .int .i64 k] w fun e w' => e = .returned (.tuple #[.int .i64 (blockAtR s k).1, .int .i64 (blockAtR s k).2]) ∧ Below w.heap.size w w' := by
  have HV := fun w => valid_any s w
  rw [hs] at HV
  obtain ⟨⟨a1, a2⟩, ⟨a3, a4⟩, ⟨a5, a6⟩, -⟩ := Sh.ok_iff.1 hs
  obtain ⟨n, b, l, c, e⟩ := s
  unfold blockAtR Sh.blk
  unfold Sh.val at *
  dsimp only at *
  replace HV := Lib.hid HV
  clear hs
  have HI := fun w => in_any k 0 (b - 1) w
  have hk : inB k 0 (b - 1) = true → 0 ≤ k ∧ k ≤ 4096 := fun h => by have := inB_iff.1 h; omega
  have hp0 : 0 ≤ n * l := Int.mul_nonneg (by omega) (by omega)
  have hp1 : n * l ≤ 16 * 256 := Int.mul_le_mul a2 a6 (by omega) (by omega)
  generalize inB k 0 (b - 1) = g at *
  replace HI := Lib.hid HI
  cases g with
  | true =>
    obtain ⟨k0, k1⟩ := hk rfl
    clear hk
    go_enter Tryz.func42, Tryz.ntmps42
    go_wp2_with fail
    refine (HV.out _).mono ?_
    rintro e w' ⟨rfl, hb⟩
    obtain ⟨hc, hf⟩ := bcell hb
    have HB := Lib.hid hb
    clear hb
    go_wp2_with fail
    refine (HI.out _).mono ?_
    rintro e w' ⟨rfl, rfl⟩
    go_wp2
    go_ret2
    exact ⟨rfl, ((Below.refl _ _).alloc (Nat.le_refl _) _).trans (HB.out.mono (by simp))⟩
  | false =>
    clear hk
    go_enter Tryz.func42, Tryz.ntmps42
    go_wp2_with fail
    refine (HV.out _).mono ?_
    rintro e w' ⟨rfl, hb⟩
    obtain ⟨hc, hf⟩ := bcell hb
    have HB := Lib.hid hb
    clear hb
    go_wp2_with fail
    refine (HI.out _).mono ?_
    rintro e w' ⟨rfl, rfl⟩
    go_wp2
    go_ret2
    exact ⟨rfl, ((Below.refl _ _).alloc (Nat.le_refl _) _).trans (HB.out.mono (by simp))⟩

end Go.Proofs.YtkgdpmeheakdcaaGreat
