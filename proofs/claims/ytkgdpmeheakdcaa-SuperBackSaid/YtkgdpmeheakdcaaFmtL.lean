/- super: walks of lay, Format, Load at the laws' shape. -/
import Derived.Test.YtkgdpmeheakdcaaFmtW
namespace Go.Proofs.Ytkgdpmeheakdcaa
open Go.RowKit
set_option linter.all false
set_option maxRecDepth 100000

def sh0 : Sh := ⟨2, 10, 8, 4, 32⟩
theorem sh0_ok : sh0.ok = true := by decide
def sb0 : ByteArray := str sh0.bytes
theorem sb0_size : sb0.size = 64 := by unfold sb0; rw [str_size, Sh.bytes_length]

theorem put0 (w : World) : Calls Try.prog 44 #[.agg #[.int .i64 2, .int .i64 10, .int .i64 8, .int .i64 4, .int .i64 32]] w fun e w' => e = .returned (.tuple #[.string sb0, .int .i64 0]) ∧ Below w.heap.size w w' := sput_ok sh0 sh0_ok w
theorem valid0 (w : World) : Calls Try.prog 39 #[.agg #[.int .i64 2, .int .i64 10, .int .i64 8, .int .i64 4, .int .i64 32]] w fun e w' => e = .returned (.bool true) ∧ Below w.heap.size w w' := by
  have h := valid_any sh0 w
  rw [sh0_ok] at h
  exact h
theorem size0 (w : World) : Calls Try.prog 43 #[.agg #[.int .i64 2, .int .i64 10, .int .i64 8, .int .i64 4, .int .i64 32]] w fun e w' => e = .returned (.int .i64 37) ∧ Below w.heap.size w w' := size_any sh0 sh0_ok w
theorem get0 (w : World) : Calls Try.prog 45 #[.string sb0] w fun e w' => e = .returned (.tuple #[.agg #[.int .i64 2, .int .i64 10, .int .i64 8, .int .i64 4, .int .i64 32], .int .i64 0]) ∧ Below w.heap.size w w' := sget_ok sh0 sh0_ok w

/-- The cells of a block of five numbers. -/
theorem five_cells {w : World} {q : Nat} {T : TypeId} {a b c d e : Value} (h : w.heap[q]? = some (.cells #[a, b, c, d, e] T (0, 0))) :
    w.cell? ⟨q, 0, none⟩ = some a ∧ w.cell? ⟨q, 1, none⟩ = some b ∧ w.cell? ⟨q, 2, none⟩ = some c ∧ w.cell? ⟨q, 3, none⟩ = some d ∧ w.cell? ⟨q, 4, none⟩ = some e := by
  simp [World.cell?, h]
def shBlk (w : World) (q : Nat) : Prop := w.heap[q]? = some (.cells #[.int .i64 2, .int .i64 10, .int .i64 8, .int .i64 4, .int .i64 32] 64 (0, 0))

/-- A disk, and a shape in a block q of the call's own. -/
structure Bx (R : Nat → Prop) (q b : Nat) (D : DS) (w0 w : World) : Prop where
  d : DiskP (fun k => R k ∧ k ≠ q) b D w
  s : shBlk w q
  g : Grow R w0 w
  r : ∀ k, w.heap.size ≤ k → R k ∧ k ≠ q

section
variable {R : Nat → Prop} {b q : Nat} {w w0 : World} {n : Int} {D : DS}

theorem Bx.start (d : DiskP R b D w) (hR : ∀ k, w.heap.size ≤ k → R k) : Bx R w.heap.size b D w (w.alloc (.cells #[.int .i64 2, .int .i64 10, .int .i64 8, .int .i64 4, .int .i64 32] 64)) :=
  ⟨d.alloc _, heap_alloc_new w _, Grow.alloc w _, fun k hk => ⟨hR k (by simp at hk; omega), by simp at hk; omega⟩⟩
theorem Bx.lt (h : Bx R q b D w0 w) : q < w.heap.size := (Array.getElem?_eq_some_iff.1 h.s).1
theorem Bx.below {w' : World} (h : Bx R q b D w0 w) (hb : Below w.heap.size w w') : Bx R q b D w0 w' :=
  ⟨h.d.below hb, (hb.block q h.lt).trans h.s, h.g.trans (Grow.of_below (F := fun _ => False) hb) (fun _ h => h.elim), fun k hk => h.r k (Nat.le_trans hb.size hk)⟩
theorem Bx.ans {D' : DS} {w' : World} (h : Bx R q b D w0 w) (hd : DiskP (fun k => R k ∧ k ≠ q) b D' w') (hg : Grow (fun k => R k ∧ k ≠ q) w w') : Bx R q b D' w0 w' :=
  ⟨hd, (hg.block q h.lt (fun h => h.2 rfl)).trans h.s, h.g.trans hg (fun k hk => .inl hk.1), fun k hk => h.r k (Nat.le_trans hg.size hk)⟩
theorem Bx.fin (h : Bx R q b D w0 w) (v : Value) : AnsP R b D w0 v (.returned v) w := ⟨rfl, h.d.mono (fun k hk => hk.1), h.g⟩

set_option maxHeartbeats 1000000 in
theorem lay_any (hn : 37 ≤ n) (hn2 : n ≤ 20000) (d : DiskP R b (fmZ n 0) w) (hR : ∀ k, w.heap.size ≤ k → R k) :
    Calls Try.prog 103 #[.pointer (some ⟨b, 0, none⟩), .int .u64 1, .agg #[.int .i64 2, .int .i64 10, .int .i64 8, .int .i64 4, .int .i64 32]] w (AnsP R b (fm7 n sb0) w (.int .i64 0)) := by
  have B0 := Lib.hid (Bx.start d hR)
  have HP := Lib.hid (put0 (w.alloc (.cells #[.int .i64 2, .int .i64 10, .int .i64 8, .int .i64 4, .int .i64 32] 64)))
  clear d hR
  go_enter Try.func103, Try.ntmps103
  go_wp2_with fail
  refine HP.out.mono ?_
  rintro e w1 ⟨rfl, hb⟩
  have B1 := Lib.hid (B0.out.below hb)
  obtain ⟨c0, c1, c2, c3, c4⟩ := five_cells B1.out.s
  have HS := Lib.hid (size0 w1)
  clear hb B0 HP
  go_wp2_with fail
  refine HS.out.mono ?_
  rintro e w2 ⟨rfl, hb⟩
  have B2 := Lib.hid (B1.out.below hb)
  have HZ := Lib.hid (zeros_any hn hn2 B2.out.d B2.out.r)
  clear hb B1 HS c0 c1 c2 c3 c4
  go_wp2_with fail
  refine HZ.out.mono ?_
  rintro e w3 ⟨rfl, hd, hg⟩
  have B3 := Lib.hid (B2.out.ans hd hg)
  have HW := stepP_write B3.out.d (good_fm5 n (by omega) hn2) (by decide) B3.out.r 0 1 0 sb0 (by rw [sb0_size]; decide)
  rw [write_fm5 n hn sb0 sb0_size] at HW
  replace HW := Lib.hid HW
  clear hd hg B2 HZ
  go_wp2_with fail
  refine HW.out.mono ?_
  rintro e w4 ⟨rfl, hd, hg⟩
  have B4 := Lib.hid (B3.out.ans hd hg)
  have HB := stepP_barrier B4.out.d (good_fm6 n (by omega) hn2 sb0 sb0_size) (by decide) B4.out.r 0 1
  rw [barrier_fm6 n sb0] at HB
  replace HB := Lib.hid HB
  clear hd hg B3 HW
  go_wp2_with fail
  refine HB.out.mono ?_
  rintro e w5 ⟨rfl, hd, hg⟩
  have B5 := Lib.hid (B4.out.ans hd hg)
  clear hd hg B4 HB
  go_wp2
  go_ret
  exact B5.out.fin _

theorem bool_sect (n : Int) (hn : 37 ≤ n) : decide (n < 37) = false := by simp; omega

set_option maxHeartbeats 2000000 in
theorem format_any (hn : 37 ≤ n) (hn2 : n ≤ 20000) (d : DiskP R b (newDS n) w) (hR : ∀ k, w.heap.size ≤ k → R k) :
    Calls Try.prog 74 #[.pointer (some ⟨b, 0, none⟩), .agg #[.int .i64 2, .int .i64 10, .int .i64 8, .int .i64 4, .int .i64 32]] w (AnsP R b (fm8 n sb0) w (.int .i64 0)) := by
  have B0 := Lib.hid (Bx.start d hR)
  have HP := Lib.hid (valid0 (w.alloc (.cells #[.int .i64 2, .int .i64 10, .int .i64 8, .int .i64 4, .int .i64 32] 64)))
  have HDS := bool_sect n hn
  clear d hR
  go_enter Try.func74, Try.ntmps74
  go_wp2_with fail
  refine HP.out.mono ?_
  rintro e w1 ⟨rfl, hb⟩
  have B1 := Lib.hid (B0.out.below hb)
  obtain ⟨c0, c1, c2, c3, c4⟩ := five_cells B1.out.s
  clear hb B0 HP
  go_wp2_with fail
  go_cut [19] from 20 to 24 (fun s wx => s = .bool false ∧ Bx R w.heap.size b (newDS n) w wx)
  case first =>
    have hx1 : ∀ wx : World, Below w1.heap.size w1 wx → Calls Try.prog 37 #[.pointer (some ⟨b, 0, none⟩)] wx fun e w' => e = .returned (.int .i64 n) ∧ wx = w' := fun wx hb => stepP_sectors (B1.out.below hb).d
    have HX1 := Lib.hid hx1
    clear hx1
    go_region_with (first
      | (go_at_call 37
         refine (HX1.out _ ?_).mono ?_
         · repeat (first | exact Below.refl _ _ | assumption | apply below_alloc | apply Below.drew)
         rintro e x1 ⟨rfl, rfl⟩)
      | (go_at_call 43
         refine (size0 _).mono ?_
         rintro e x1 ⟨rfl, bx⟩))
    all_goals go_wp2_with fail
    all_goals go_meet
    all_goals exact ⟨rfl, B1.out.below ((Below.refl _ _).drew.trans bx)⟩
  case rest =>
    obtain ⟨rfl, hB⟩ := hcut
    have B2 := Lib.hid hB
    clear hB B1 c0 c1 c2 c3 c4
    go_wp2
    go_loopw [5] (fun i wr => ∃ k : Nat, k ≤ 17 ∧ i = .int .i64 k ∧ Bx R w.heap.size b (newDS n) w wr) (fun i _ => 17 - (intOf i).toNat)
    case atStart => exact ⟨0, by omega, rfl, B2.out⟩
    case round =>
      obtain ⟨k, hk, rfl, hbx⟩ := hrel
      have BK := Lib.hid hbx
      clear hbx B2
      by_cases hlt : k < 17
      · have HF := stepP_fence BK.out.d (good_new n (by omega) hn2) (by decide) BK.out.r k
        rw [fence_new n k (by omega)] at HF
        replace HF := Lib.hid HF
        have hle : (k : Int) ≤ 16 := by omega
        go_wp2_with fail
        refine HF.out.mono ?_
        rintro e w3 ⟨rfl, hd, hg⟩
        have B3 := Lib.hid (BK.out.ans hd hg)
        have HQ := stepP_put B3.out.d (good_new n (by omega) hn2) (by decide) B3.out.r k 0
        rw [put_new n k (by omega)] at HQ
        replace HQ := Lib.hid HQ
        clear hd hg HF BK
        go_wp2_with fail
        refine HQ.out.mono ?_
        rintro e w4 ⟨rfl, hd, hg⟩
        have B4 := Lib.hid (B3.out.ans hd hg)
        clear hd hg HQ B3
        go_wp2
        go_roundw
        case rel => exact ⟨k + 1, by omega, by go_num, B4.out⟩
        case measure => simp [intOf]; omega
      · have hk17 : k = 17 := by omega
        subst hk17
        have HL := Lib.hid (stepP_last BK.out.d)
        have HA := stepP_admit BK.out.d (good_new n (by omega) hn2) (by decide) BK.out.r 0 1
        rw [admit_new n] at HA
        replace HA := Lib.hid HA
        go_wp2_with fail
        refine HL.out.mono ?_
        rintro e w3 ⟨rfl, rfl⟩
        go_wp2_with fail
        refine HA.out.mono ?_
        rintro e w4 ⟨rfl, hd, hg⟩
        have B4 := Lib.hid (BK.out.ans hd hg)
        obtain ⟨c0, c1, c2, c3, c4⟩ := five_cells B4.out.s
        have HY := Lib.hid (lay_any (b := b) hn hn2 B4.out.d B4.out.r)
        clear hd hg HA BK HL
        go_wp2_with fail
        refine HY.out.mono ?_
        rintro e w5 ⟨rfl, hd, hg⟩
        have B5 := Lib.hid (B4.out.ans hd hg)
        have HF := stepP_fence B5.out.d (good_fm7 n (by omega) hn2 sb0 sb0_size) (by decide) B5.out.r 0
        rw [fence_fm7 n sb0] at HF
        replace HF := Lib.hid HF
        clear hd hg HY B4 c0 c1 c2 c3 c4
        go_wp2_with fail
        refine HF.out.mono ?_
        rintro e w6 ⟨rfl, hd, hg⟩
        have B6 := Lib.hid (B5.out.ans hd hg)
        clear hd hg HF B5
        go_wp2
        go_ret
        exact B6.out.fin _

end

end Go.Proofs.Ytkgdpmeheakdcaa
