/- ring.New, Open, law11.One: walks. -/
import Derived.Test.YtkgdpmeheakdcaaGreatLogC
namespace Go.Proofs.YtkgdpmeheakdcaaGreat
open Go.RowKit
set_option linter.all false
set_option maxRecDepth 100000

theorem ringnew_any (w : World) : Calls Tryz.prog 53 #[.int .i64 100000] w fun e w' => e = .returned (.pointer (some ⟨w.heap.size, 0, none⟩)) ∧ w' = w.alloc (.cells #[.slice none 0 0, .int .i64 100000] 143) := by
  have HR : Hid (∀ w, Calls Tryz.prog 102 #[.int .i64 100000] w fun e w' => e = .returned (.int .i64 100000) ∧ w = w') := Lib.hid (fun w => by
    go_enter Tryz.func102, Tryz.ntmps102
    go_wp2
    go_ret
    exact ⟨rfl, rfl⟩)
  go_enter Tryz.func53, Tryz.ntmps53
  go_wp2_with fail
  refine (HR.out w).mono ?_
  rintro e w1 ⟨rfl, rfl⟩
  go_wp2
  go_ret
  exact ⟨rfl, rfl⟩

/-- One of the laws' images. -/
def oneL (k : Nat) : List UInt8 := UInt8.ofNat k :: zerosL 95
theorem oneL_length (k : Nat) : (oneL k).length = 96 := by simp [oneL, zerosL_length]
def oneI (k v : Nat) : Im := ⟨k, v, oneL k⟩
theorem oneI_ok (k v : Nat) (h : k < 4096) : (oneI k v).ok = true := Im.ok_iff.2 ⟨by show (0 : Int) ≤ (k : Int); omega, by show (k : Int) < 4096; omega, oneL_length k⟩

theorem made96 (w : World) : (Instr.makeSlice 95 (.int .i64 96) (.int .i64 96)).run Tryz.prog w = .ok (.slice (some ⟨w.heap.size, 0, none⟩) 96 96) (w.alloc (.cells (fillRow 0 96 0) 5)) := made_u8 w 96 (by decide)

theorem one_row (k : Nat) (hk : k < 256) : (fillRow 0 96 0).setIfInBounds 0 (.int .u8 (k : Int)) = (byCells (oneL k)).toArray := by
  have h1 : fillRow 0 96 0 = (List.replicate 96 (Value.int .u8 0)).toArray := by simp [fillRow]
  have h2 : (UInt8.ofNat k).toNat = k := by rw [UInt8.toNat_ofNat']; omega
  have h3 : byCells (oneL k) = .int .u8 (k : Int) :: List.replicate 95 (Value.int .u8 0) := by
    simp [byCells, oneL, byV, zerosL, h2]
  rw [h1, h3, List.setIfInBounds_toArray]
  rfl

set_option maxHeartbeats 1000000 in
theorem one_any (k v : Nat) (hk : k < 256) (w : World) : Calls Tryz.prog 17 #[.int .i64 k, .int .u64 v] w fun e w' => e = .returned ((oneI k v).val) ∧ Below w.heap.size w w' := by
  have hm := made96
  have hwk : IntKind.u8.wrap (k : Int) = (k : Int) := by
    rw [IntKind.wrap_u8, Int.emod_eq_of_lt (by omega) (by omega)]
  have HROW := Lib.hid (one_row k hk)
  have HB0 : Hid (∀ o : Obj, Below w.heap.size w ((w.alloc (.cells #[.int .i64 0, .int .u64 0, .string ⟨#[]⟩] 24)).alloc o)) := Lib.hid (fun o => ((Below.refl _ _).alloc (Nat.le_refl _) _).alloc (by simp) _)
  have hz : (w.alloc (.cells #[.int .i64 0, .int .u64 0, .string ⟨#[]⟩] 24)).heap.size = w.heap.size + 1 := by simp
  have HI0 : Hid (imBlk zIm (w.alloc (.cells #[.int .i64 0, .int .u64 0, .string ⟨#[]⟩] 24)) w.heap.size) := Lib.hid (heap_alloc_new w _)
  go_enter Tryz.func17, Tryz.ntmps17
  go_upto_region 2 with fail
  have hq0 : ((w.alloc (.cells #[.int .i64 0, .int .u64 0, .string ⟨#[]⟩] 24)).alloc (.cells (fillRow 0 96 0) 5)).heap[w.heap.size + 1]? = some (.cells (fillRow 0 96 0) 5 (0, 0)) := by
    have h := heap_alloc_new (w.alloc (.cells #[.int .i64 0, .int .u64 0, .string ⟨#[]⟩] 24)) (.cells (fillRow 0 96 0) 5)
    rw [hz] at h
    exact h
  have hi1 : imBlk zIm ((w.alloc (.cells #[.int .i64 0, .int .u64 0, .string ⟨#[]⟩] 24)).alloc (.cells (fillRow 0 96 0) 5)) w.heap.size := (heap_alloc_old _ _ (by simp)).trans HI0.out
  have hb1 := HB0.out (.cells (fillRow 0 96 0) 5)
  generalize (w.alloc (.cells #[.int .i64 0, .int .u64 0, .string ⟨#[]⟩] 24)).alloc (.cells (fillRow 0 96 0) 5) = V at *
  have c0 : V.cell? ⟨w.heap.size + 1, 0, none⟩ = some (.int .u8 0) := by simp only [World.cell?, hq0]; exact fillRow_at 0 96 0 (by decide)
  have f0 : V.frozen? ⟨w.heap.size + 1, 0, none⟩ = false := by simp [World.frozen?, hq0]
  have hq1 : (V.setCell ⟨w.heap.size + 1, 0, none⟩ (.int .u8 (k : Int))).heap[w.heap.size + 1]? = some (.cells (byCells (oneL k)).toArray 5 (0, 0)) := by rw [block_setCell hq0, HROW.out]
  have hi2 : imBlk zIm (V.setCell ⟨w.heap.size + 1, 0, none⟩ (.int .u8 (k : Int))) w.heap.size := (block_setCell_ne (by omega) _).trans hi1
  have hb2 : Below w.heap.size w (V.setCell ⟨w.heap.size + 1, 0, none⟩ (.int .u8 (k : Int))) := hb1.trans ((Grow.setCell (F := fun k => k = w.heap.size + 1) rfl (.int .u8 (k : Int))).below hb1.size (fun k hk => by omega))
  have hcv : (convert 95 9 (.slice (some ⟨w.heap.size + 1, 0, none⟩) 96 96)).run Tryz.prog (V.setCell ⟨w.heap.size + 1, 0, none⟩ (.int .u8 (k : Int))) = .ok (.string (str (oneL k))) (V.setCell ⟨w.heap.size + 1, 0, none⟩ (.int .u8 (k : Int))) := by
    refine rowQ_conv (rowQ.of_owns (base := 0) ⟨?_, .inr ⟨w.heap.size + 1, 96, _, ?_, Nat.zero_le _, hq1, ?_, by decide, ?_, ?_⟩⟩)
    · rw [byCells_length, Nat.mul_one]
    · rw [oneL_length]
    · rw [oneL_length]; exact Nat.le_refl _
    · rw [List.size_toArray, byCells_length, oneL_length]
    · rw [List.toList_toArray, Nat.mul_one, List.take_of_length_le (by rw [byCells_length]; exact Nat.le_refl _)]
  have I2 := Lib.hid hi2
  have B2 := Lib.hid hb2
  have HCV := Lib.hid hcv
  clear hq0 hi1 hb1 hq1 hi2 hb2 hcv hm HB0 HI0 hz
  go_upto_region 3 with fail
  have hcv := HCV.out
  clear HCV
  generalize V.setCell ⟨w.heap.size + 1, 0, none⟩ (.int .u8 (k : Int)) = W2 at *
  obtain ⟨r0, r1, r2⟩ := I2.out.cells
  have g0 := I2.out.fz 0
  have g1 := I2.out.fz 1
  have g2 := I2.out.fz 2
  have I4 := Lib.hid (I2.out.set (oneI k v))
  clear c0 f0
  go_wp2
  have i4 : imBlk (oneI k v) (((W2.setCell ⟨w.heap.size, 0, none⟩ (.int .i64 k)).setCell ⟨w.heap.size, 1, none⟩ (.int .u64 v)).setCell ⟨w.heap.size, 2, none⟩ (.string (str (oneL k)))) w.heap.size := I4.out
  have b4 := below_set3 B2.out w.heap.size (Nat.le_refl _) (.int .i64 k) (.int .u64 v) (.string (str (oneL k)))
  clear r0 r1 r2
  generalize ((W2.setCell ⟨w.heap.size, 0, none⟩ (.int .i64 k)).setCell ⟨w.heap.size, 1, none⟩ (.int .u64 v)).setCell ⟨w.heap.size, 2, none⟩ (.string (str (oneL k))) = Wf at *
  obtain ⟨r0, r1, r2⟩ := i4.cells
  exact bodyPost_ret (v := (oneI k v).val) (by simp [results, Tryz.results17, go_sem, r0, r1, r2]; rfl) rfl ⟨rfl, b4⟩

/-- The log that was just opened. -/
def L0 : LS := ⟨1, 1, 0, 0, 0, []⟩

theorem log1 (w : World) : Calls Tryz.prog 52 #[.agg #[.int .i64 2, .int .i64 10, .int .i64 8, .int .i64 4, .int .i64 32], .int .i64 1] w fun e w' => e = .returned (.tuple #[.int .i64 1, .int .i64 0]) ∧ Below w.heap.size w w' :=
  logat_any sh0 sh0_ok 1 (by decide) (by decide) w
theorem built0 (b r : Nat) (w : World) : (Instr.build 61 #[(0, .pointer (some ⟨b, 0, none⟩)), (1, .agg #[.int .i64 2, .int .i64 10, .int .i64 8, .int .i64 4, .int .i64 32]), (2, .int .i64 1), (3, .int .u64 9), (4, .int .i64 1), (5, .int .u64 1), (6, .int .u64 1), (10, .pointer (some ⟨r, 0, none⟩))]).run Tryz.prog w = .ok (.agg (L0.cells b r)) w := by kernel_rfl

/-- What Open leaves. -/
def OpenTo (R : Nat → Prop) (b n : Nat) (w : World) (e : Ending) (w' : World) : Prop := ∃ g r, e = .returned (.tuple #[.pointer (some ⟨g, 0, none⟩), .int .i64 0]) ∧ LP R g r b L0 (n + 16) w' ∧ Grow R w w'

theorem lp_new {R : Nat → Prop} {b n : Nat} {D : DS} {w : World} (d : DiskP R b D w) (di : DI n D) (hR : ∀ k, w.heap.size ≤ k → R k) :
    LP R (w.heap.size + 1) w.heap.size b L0 n ((w.alloc (.cells #[.slice none 0 0, .int .i64 100000] 143)).alloc (.cells (L0.cells b w.heap.size) 61)) := by
  obtain ⟨F, ⟨nb, lb, wv, sv, hd⟩, hF⟩ := d
  have hz : (w.alloc (.cells #[.slice none 0 0, .int .i64 100000] 143)).heap.size = w.heap.size + 1 := by simp
  have hg : Grow (fun _ => False) w ((w.alloc (.cells #[.slice none 0 0, .int .i64 100000] 143)).alloc (.cells (L0.cells b w.heap.size) 61)) := (Grow.alloc _ _).trans (Grow.alloc _ _) (F' := fun _ => False) (fun _ h => h.elim)
  refine ⟨F, .slice none 0 0, D, ⟨nb, lb, wv, sv, hd.grow hg (fun _ _ h => h)⟩, di, ?_, ?_, World.ownsRow_nil _ _ _ _, hF, hR _ (by omega), hR _ (Nat.le_refl _), (fun k hk => by cases hk), (fun hf => by have := hd.flt _ hf; omega), (fun hf => by have := hd.flt _ hf; omega), fun k hk => by cases hk⟩
  · have h := heap_alloc_new (w.alloc (.cells #[.slice none 0 0, .int .i64 100000] 143)) (.cells (L0.cells b w.heap.size) 61)
    rw [hz] at h
    exact h
  · exact (heap_alloc_old _ _ (by omega)).trans (heap_alloc_new w _)

set_option maxHeartbeats 2000000 in
theorem open_any {R : Nat → Prop} {b n : Nat} {D : DS} {w : World} (d : DiskP R b D w) (di : DI n D) (hR : ∀ k, w.heap.size ≤ k → R k) (hn : n ≤ 600000) :
    Calls Tryz.prog 15 #[.pointer (some ⟨b, 0, none⟩), .agg #[.int .i64 2, .int .i64 10, .int .i64 8, .int .i64 4, .int .i64 32], .int .i64 1, .int .u64 9] w (OpenTo R b n w) := by
  have ha : Below w.heap.size w (w.alloc (.cells #[.int .i64 2, .int .i64 10, .int .i64 8, .int .i64 4, .int .i64 32] 31)) := (Below.refl _ _).alloc (Nat.le_refl _) _
  have D0 := Lib.hid ((d.cap.below ha).mono (R' := fun k => R k ∧ k ≠ w.heap.size) (fun k hk => ⟨hk.1, by have := hk.2; omega⟩))
  have HA := Lib.hid ha
  have Y0 : Hid (lyBlk (w.alloc (.cells #[.int .i64 2, .int .i64 10, .int .i64 8, .int .i64 4, .int .i64 32] 31)) w.heap.size) := Lib.hid (heap_alloc_new w _)
  have HR := Lib.hid hR
  have HD := Lib.hid di
  have HLG := Lib.hid log1
  have HB := Lib.hid built0
  clear d di hR ha
  go_enter Tryz.func15, Tryz.ntmps15
  go_wp2_with fail
  refine (HLG.out _).mono ?_
  rintro e V ⟨rfl, hb⟩
  have BV := Lib.hid (HA.out.trans (hb.mono HA.out.size))
  have DV := Lib.hid (D0.out.below hb)
  have YV := Lib.hid (Y0.out.below hb)
  have ZV : Hid (w.heap.size < V.heap.size) := Lib.hid (Array.getElem?_eq_some_iff.1 (Y0.out.below hb)).1
  clear hb
  go_upto_region 6 with fail
  go_cut [12] from 25 to 32 (fun s12 wx => ∃ g r, s12 = .pointer (some ⟨g, 0, none⟩) ∧ LP (fun k => R k ∧ k ≠ w.heap.size) g r b L0 n wx ∧ Grow (fun k => R k ∧ k ≠ w.heap.size) w wx ∧ w.heap.size < wx.heap.size)
  case first =>
    obtain ⟨c0, c1, c2, c3, c4⟩ := five_cells (show lyBlk V.drew w.heap.size from YV.out)
    have hbt := HB.out b V.drew.heap.size (V.drew.alloc (.cells #[.slice none 0 0, .int .i64 100000] 143))
    have hzv : w.heap.size < V.drew.heap.size := ZV.out
    go_region_held3 (fun w' => w'.cell? ⟨w.heap.size, 0, none⟩ = some (.int .i64 2) ∧ w'.cell? ⟨w.heap.size, 1, none⟩ = some (.int .i64 10) ∧ w'.cell? ⟨w.heap.size, 2, none⟩ = some (.int .i64 8) ∧ w'.cell? ⟨w.heap.size, 3, none⟩ = some (.int .i64 4) ∧ w'.cell? ⟨w.heap.size, 4, none⟩ = some (.int .i64 32))
      (first | exact ⟨c0, c1, c2, c3, c4⟩ | exact ⟨alloc_keep c0, alloc_keep c1, alloc_keep c2, alloc_keep c3, alloc_keep c4⟩ | exact ⟨alloc_keep (alloc_keep c0), alloc_keep (alloc_keep c1), alloc_keep (alloc_keep c2), alloc_keep (alloc_keep c3), alloc_keep (alloc_keep c4)⟩ | go_keep)
      (first
        | (go_at_call 53
           refine (ringnew_any _).mono ?_
           rintro e x1 ⟨rfl, rfl⟩))
    all_goals go_wp2_with fail
    all_goals go_meet
    all_goals exact ⟨_, _, rfl, lp_new (DV.out.grow (G := fun _ => False) (Grow.drew V) (fun _ h => h.elim)) HD.out (fun k hk => ⟨HR.out k (by have hk' : V.heap.size ≤ k := hk; have := ZV.out; omega), by have hk' : V.heap.size ≤ k := hk; have := ZV.out; omega⟩), ((Grow.of_below (F := fun k => R k ∧ k ≠ w.heap.size) BV.out).trans (Grow.drew V) (F' := fun _ => False) (fun _ h => h.elim)).trans ((Grow.alloc _ _).trans (Grow.alloc _ _) (F' := fun _ => False) (fun _ h => h.elim)) (F' := fun _ => False) (fun _ h => h.elim), by have := ZV.out; simp; omega⟩
  case rest =>
    obtain ⟨g, r, rfl, hl, hg, hzc⟩ := hcut
    have HH := Lib.hid (head_any hl (fun k hk => ⟨HR.out k (by omega), by omega⟩) (by omega) 1 0 (by decide) (by decide) (by decide))
    have G1 := Lib.hid hg
    clear hl hg
    go_wp2_with fail
    refine HH.out.mono ?_
    rintro e w5 ⟨rfl, hl, hg⟩
    have HF : Hid (OpenTo R b n w (.returned (.tuple #[.pointer (some ⟨g, 0, none⟩), .int .i64 0])) w5) := Lib.hid ⟨g, r, rfl, hl.mono (fun k hk _ => hk.1), (G1.out.trans hg (fun _ h => .inl h)).mono (fun k hk => hk.1)⟩
    clear hl hg
    go_wp2
    go_ret2
    exact HF.out

end Go.Proofs.YtkgdpmeheakdcaaGreat
