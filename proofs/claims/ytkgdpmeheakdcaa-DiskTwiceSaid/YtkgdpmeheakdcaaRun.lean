/- law8.run: steps of a disk that is not armed. -/
import Derived.Test.YtkgdpmeheakdcaaOpens
import Derived.Test.YtkgdpmeheakdcaaWays
import Derived.Deep.CutRange
namespace Go.Proofs.Ytkgdpmeheakdcaa
open Go.RowKit
set_option linter.all false
set_option maxRecDepth 100000

/-- A disk that is on and not armed. -/
structure RI (n : Nat) (D : DS) : Prop where
  on : D.on = true
  armed : D.armed = false
  good : Good n D
  nil : D.nilS = true

theorem wrN_armed (D : DS) (node a : Int) (data : ByteArray) : ∀ q, (wrN D node a data q).armed = D.armed
  | 0 => rfl
  | q + 1 => wrN_armed D node a data q
theorem wrN_nil (D : DS) (node a : Int) (data : ByteArray) : ∀ q, (wrN D node a data q).nilS = D.nilS
  | 0 => rfl
  | q + 1 => wrN_nil D node a data q
theorem wrN_on' (D : DS) (node a : Int) (data : ByteArray) : ∀ q, (wrN D node a data q).on = D.on
  | 0 => rfl
  | q + 1 => wrN_on' D node a data q
theorem ri_write {n : Nat} {D : DS} (h : RI n D) (node epoch a : Int) (data : ByteArray) : RI (n + 16) (writeR D node epoch a data).2 := by
  have hg := h.good.write node epoch a data
  unfold writeR at hg ⊢
  rw [(goesD_off h.armed).2, (goesD_off h.armed).1] at *
  split
  · exact ⟨h.on, h.armed, h.good.more (by omega), h.nil⟩
  split
  · exact ⟨h.on, h.armed, h.good.more (by omega), h.nil⟩
  rename_i hgb
  split
  · exact ⟨h.on, h.armed, h.good.more (by omega), h.nil⟩
  split
  · exact ⟨h.on, h.armed, h.good.more (by omega), h.nil⟩
  split
  · exact ⟨h.on, h.armed, h.good.more (by omega), h.nil⟩
  · have hg' : 1 ≤ data.size / 64 ∧ data.size / 64 ≤ 16 ∧ data.size % 64 = 0 := by simpa [goodB] using hgb
    exact ⟨(wrN_on' ..).trans h.on, (wrN_armed ..).trans h.armed, (h.good.wrN node a data (data.size / 64) (by omega)).more (by omega), (wrN_nil ..).trans h.nil⟩
theorem ri_barrier {n : Nat} {D : DS} (h : RI n D) (node epoch : Int) : RI n (barrierR D node epoch).2 := by
  refine ⟨?_, ?_, h.good.barrier node epoch, ?_⟩
  · unfold barrierR
    rw [(goesD_off h.armed).2, (goesD_off h.armed).1]
    split
    · exact h.on
    split
    · exact h.on
    split
    · exact h.on
    · exact h.on
  · unfold barrierR
    rw [(goesD_off h.armed).2, (goesD_off h.armed).1]
    split
    · exact h.armed
    split
    · exact h.armed
    split
    · exact h.armed
    · exact h.armed
  · unfold barrierR
    rw [(goesD_off h.armed).2, (goesD_off h.armed).1]
    split
    · exact h.nil
    split
    · exact h.nil
    split
    · exact h.nil
    · exact h.nil
theorem ri_admit {n : Nat} {D : DS} (h : RI n D) (node epoch : Int) : RI n (admitR D node epoch).2 := by
  refine ⟨?_, ?_, h.good.admitted node epoch, ?_⟩
  · unfold admitR
    rw [(goesD_off h.armed).2, (goesD_off h.armed).1]
    split
    · exact h.on
    split
    · exact h.on
    split
    · exact h.on
    · exact h.on
  · unfold admitR
    rw [(goesD_off h.armed).2, (goesD_off h.armed).1]
    split
    · exact h.armed
    split
    · exact h.armed
    split
    · exact h.armed
    · exact h.armed
  · unfold admitR
    rw [(goesD_off h.armed).2, (goesD_off h.armed).1]
    split
    · exact h.nil
    split
    · exact h.nil
    split
    · exact h.nil
    · exact h.nil
theorem ri_fence {n : Nat} {D : DS} (h : RI n D) (node : Int) : RI n (fenceR D node).2 := by
  refine ⟨?_, ?_, h.good.fence node, ?_⟩
  · unfold fenceR
    rw [(goesD_off h.armed).2, (goesD_off h.armed).1]
    split
    · exact h.on
    split
    · exact h.on
    · exact h.on
  · unfold fenceR
    rw [(goesD_off h.armed).2, (goesD_off h.armed).1]
    split
    · exact h.armed
    split
    · exact h.armed
    · exact h.armed
  · unfold fenceR
    rw [(goesD_off h.armed).2, (goesD_off h.armed).1]
    split
    · exact h.nil
    split
    · exact h.nil
    · exact h.nil

/-- What run leaves. -/
def RunTo (base b n : Nat) (w : World) (e : Ending) (w' : World) : Prop := e = .returned (.tuple #[]) ∧ (∃ D', RI n D' ∧ DiskS base b D' w') ∧ Below base w w'

set_option maxHeartbeats 8000000 in
theorem run_any {base b n : Nat} {D : DS} {w : World} (hd : DiskS base b D w) (hr : RI n D) (hB : base ≤ w.heap.size) (a1 : Option Addr) (len1 cap1 : Nat) (os : List OpV) (ho : OpsRow w a1 len1 cap1 os)
    (hw0 : ∀ a, a1 = some a → 0 < len1 → a.block < base) (hl : len1 ≤ 40) (hn : n + 16 * len1 ≤ 900000) (hz : ∀ (i : Nat) (o : OpV), os[i]? = some o → o.data.size ≤ 20000) :
    Calls Try.prog 35 #[.pointer (some ⟨b, 0, none⟩), .slice a1 len1 cap1] w (RunTo base b (n + 16 * len1) w) := by
  have HD := Lib.hid hd
  have HR := Lib.hid hr
  have HO := Lib.hid ho
  have HZ := Lib.hid hz
  have HW := Lib.hid hw0
  have hcap := ho.hcap
  clear hd hr ho hz hw0
  go_enter Try.func35, Try.ntmps35
  go_wp2
  go_loopw [4] (fun i wr => ∃ (k : Nat) (D : DS), k ≤ len1 ∧ i = .int .i64 k ∧ RI (n + 16 * k) D ∧ DiskS base b D wr ∧ Below base w wr)
    (fun i _ => len1 - (intOf i).toNat)
  case atStart => exact ⟨0, D, Nat.zero_le _, rfl, by simpa using HR.out, HD.out, Below.refl _ _⟩
  case round =>
    obtain ⟨k, D, hk, rfl, hri, hds, hbl⟩ := hrel
    clear HD HR
    have HI := Lib.hid hri
    have HD := Lib.hid hds
    have HBL := Lib.hid hbl
    by_cases hlt : k < len1
    · obtain ⟨o, kb, ko, hoo, ha1, hkb, hat⟩ := HO.out.ops k hlt
      subst ha1
      have hkb0 : kb < base := HW.out _ rfl (by omega)
      have hcc : ∀ m, wr.cell? ⟨kb, m, none⟩ = w.cell? ⟨kb, m, none⟩ := fun m => World.cell?_of_block (hbl.block kb hkb0)
      have c0 := (hcc _).trans hat.c0
      have c1 := (hcc _).trans hat.c1
      have c2 := (hcc _).trans hat.c2
      have c3 := (hcc _).trans hat.c3
      have c4 := (hcc _).trans hat.c4
      have c5 := (hcc _).trans hat.c5
      have c6 := (hcc _).trans hat.c6
      have c7 := (hcc _).trans hat.c7
      have hdz : o.data.size ≤ 100000 := by have := HZ.out k o hoo; omega
      have hkc : k < cap1 := by omega
      clear hat hcc hri hds hbl hoo hkb
      obtain ⟨o0, o1, o2, o3, o4, o5, o6, o7, o8, o9⟩ := o
      simp only at c0 c1 c2 c3 c4 c5 c6 c7 hdz
      go_upto_region 3 with fail
      go_cut [5] from 6 to 56 (fun s5 wx => ∃ g : Nat, s5 = .pointer (some ⟨g, 0, none⟩) ∧ wx.heap[g]? = some (.cells #[.int .i64 o0, .int .i64 o1, .int .i64 o2, .int .i64 o3, .int .u64 o4, .string o5, .slice o6 o7 o8, .bool o9] 47 (0, 0)) ∧ Below wr.heap.size wr wx)
      case first =>
        go_wp2
        go_meet
        exact ⟨wr.heap.size, rfl, heap_alloc_new wr _, below_alloc (Below.refl _ _) _⟩
      case rest =>
        obtain ⟨g, rfl, hg, hgb⟩ := hcut
        have e0 : wc.cell? ⟨g, 0, none⟩ = some (.int .i64 o0) := by simp [World.cell?, hg]
        have e1 : wc.cell? ⟨g, 1, none⟩ = some (.int .i64 o1) := by simp [World.cell?, hg]
        have e2 : wc.cell? ⟨g, 2, none⟩ = some (.int .i64 o2) := by simp [World.cell?, hg]
        have e5 : wc.cell? ⟨g, 5, none⟩ = some (.string o5) := by simp [World.cell?, hg]
        have hbw : base ≤ wr.heap.size := Nat.le_trans hB HBL.out.size
        have D1 := Lib.hid (HD.out.below hgb)
        have B1 := Lib.hid (HBL.out.trans (hgb.mono hbw))
        have hN : n + 16 * k ≤ 900000 := by omega
        have wb : ∀ wx nd e pl, DiskS base b D wx → Below base w wx → Calls Try.prog 20 #[.pointer (some ⟨b, 0, none⟩), .int .i64 nd, .int .u64 e, .int .i64 pl, .string o5] wx fun e' w' => ∃ v, e' = .returned (.int .i64 v) ∧ (∃ D', RI (n + 16 * (k + 1)) D' ∧ DiskS base b D' w') ∧ Below base w w' := by
          intro wx nd e pl d bl
          refine (step_write d HI.out.good hN (Nat.le_trans hB bl.size) nd e pl o5 hdz).mono ?_
          rintro e' w' ⟨rfl, h1, h2⟩
          exact ⟨_, rfl, ⟨_, ri_write HI.out nd e pl o5, h1⟩, bl.trans h2⟩
        have bb : ∀ wx nd e, DiskS base b D wx → Below base w wx → Calls Try.prog 29 #[.pointer (some ⟨b, 0, none⟩), .int .i64 nd, .int .u64 e] wx fun e' w' => ∃ v, e' = .returned (.int .i64 v) ∧ (∃ D', RI (n + 16 * (k + 1)) D' ∧ DiskS base b D' w') ∧ Below base w w' := by
          intro wx nd e d bl
          refine (step_barrier d HI.out.good hN (Nat.le_trans hB bl.size) nd e).mono ?_
          rintro e' w' ⟨rfl, h1, h2⟩
          have r := ri_barrier HI.out nd e
          exact ⟨_, rfl, ⟨_, ⟨r.on, r.armed, r.good.more (by omega), r.nil⟩, h1⟩, bl.trans h2⟩
        have ab : ∀ wx nd e, DiskS base b D wx → Below base w wx → Calls Try.prog 19 #[.pointer (some ⟨b, 0, none⟩), .int .i64 nd, .int .u64 e] wx fun e' w' => ∃ v, e' = .returned (.int .i64 v) ∧ (∃ D', RI (n + 16 * (k + 1)) D' ∧ DiskS base b D' w') ∧ Below base w w' := by
          intro wx nd e d bl
          refine (step_admit d HI.out.good hN (Nat.le_trans hB bl.size) nd e).mono ?_
          rintro e' w' ⟨rfl, h1, h2⟩
          have r := ri_admit HI.out nd e
          exact ⟨_, rfl, ⟨_, ⟨r.on, r.armed, r.good.more (by omega), r.nil⟩, h1⟩, bl.trans h2⟩
        have fb : ∀ wx nd, DiskS base b D wx → Below base w wx → Calls Try.prog 33 #[.pointer (some ⟨b, 0, none⟩), .int .i64 nd] wx fun e' w' => ∃ v, e' = .returned (.int .i64 v) ∧ (∃ D', RI (n + 16 * (k + 1)) D' ∧ DiskS base b D' w') ∧ Below base w w' := by
          intro wx nd d bl
          refine (step_fence d HI.out.good hN (Nat.le_trans hB bl.size) nd).mono ?_
          rintro e' w' ⟨rfl, h1, h2⟩
          have r := ri_fence HI.out nd
          exact ⟨_, rfl, ⟨_, ⟨r.on, r.armed, r.good.more (by omega), r.nil⟩, h1⟩, bl.trans h2⟩
        have WB := Lib.hid wb
        have BB := Lib.hid bb
        have AB := Lib.hid ab
        have FB := Lib.hid fb
        have RS := Lib.hid (show RI (n + 16 * (k + 1)) D from ⟨HI.out.on, HI.out.armed, HI.out.good.more (by omega), HI.out.nil⟩)
        clear wb bb ab fb hg hgb c0 c1 c2 c3 c4 c5 c6 c7 HBL HD hN
        by_cases k1 : o0 = 1
        · subst k1
          go_upto_region 6 with fail
          refine region_tail 11 (by kernel_rfl) (by kernel_rfl) ?_
          simp only [List.take_succ_cons, List.take_zero, List.drop_succ_cons, List.drop_zero]
          have D2 := Lib.hid (D1.out.grow (Grow.drew wc))
          have B2 := Lib.hid (B1.out.drew)
          have HC := Lib.hid ((step_epoch D2.out o1).mono (fun e w' h => (⟨h.1, h.2.symm⟩ : e = _ ∧ w' = wc.drew)))
          iterate 11 (first | still_step | still_call HC.out)
          refine wpStill_nil ?_
          go_wp2_with fail
          refine (WB.out _ _ _ _ D2.out B2.out).mono ?_
          rintro e x ⟨v, rfl, dx, bx⟩
          obtain ⟨D', q1, q2⟩ := dx
          have Q1 := Lib.hid q1
          have Q2 := Lib.hid q2
          have Q3 := Lib.hid bx
          clear q1 q2 bx
          go_wp2
          go_roundw
          case rel => exact ⟨k + 1, D', by omega, by go_num, Q1.out, Q2.out, Q3.out⟩
          case measure => simp [intOf]; omega
        by_cases k2 : o0 = 2
        · subst k2
          go_upto_region 8 with fail
          refine region_tail 7 (by kernel_rfl) (by kernel_rfl) ?_
          simp only [List.take_succ_cons, List.take_zero, List.drop_succ_cons, List.drop_zero]
          have D2 := Lib.hid (D1.out.grow (Grow.drew wc))
          have B2 := Lib.hid (B1.out.drew)
          have HC := Lib.hid ((step_epoch D2.out o1).mono (fun e w' h => (⟨h.1, h.2.symm⟩ : e = _ ∧ w' = wc.drew)))
          iterate 7 (first | still_step | still_call HC.out)
          refine wpStill_nil ?_
          go_wp2_with fail
          refine (BB.out _ _ _ D2.out B2.out).mono ?_
          rintro e x ⟨v, rfl, dx, bx⟩
          obtain ⟨D', q1, q2⟩ := dx
          have Q1 := Lib.hid q1
          have Q2 := Lib.hid q2
          have Q3 := Lib.hid bx
          clear q1 q2 bx
          go_wp2
          go_roundw
          case rel => exact ⟨k + 1, D', by omega, by go_num, Q1.out, Q2.out, Q3.out⟩
          case measure => simp [intOf]; omega
        by_cases k3 : o0 = 3
        · subst k3
          go_upto_region 10 with fail
          refine region_tail 6 (by kernel_rfl) (by kernel_rfl) ?_
          simp only [List.take_succ_cons, List.take_zero, List.drop_succ_cons, List.drop_zero]
          have D2 := Lib.hid (D1.out.grow (Grow.drew wc))
          have B2 := Lib.hid (B1.out.drew)
          have HC := Lib.hid ((step_last D2.out).mono (fun e w' h => (⟨h.1, h.2.symm⟩ : e = _ ∧ w' = wc.drew)))
          iterate 6 (first | still_step | still_call HC.out)
          refine wpStill_nil ?_
          go_wp2_with fail
          refine (AB.out _ _ _ D2.out B2.out).mono ?_
          rintro e x ⟨v, rfl, dx, bx⟩
          obtain ⟨D', q1, q2⟩ := dx
          have Q1 := Lib.hid q1
          have Q2 := Lib.hid q2
          have Q3 := Lib.hid bx
          clear q1 q2 bx
          go_wp2
          go_roundw
          case rel => exact ⟨k + 1, D', by omega, by go_num, Q1.out, Q2.out, Q3.out⟩
          case measure => simp [intOf]; omega
        by_cases k4 : o0 = 4
        · subst k4
          have HF := Lib.hid (FB.out wc o1 D1.out B1.out)
          go_wp2_with fail
          refine HF.out.mono ?_
          rintro e x ⟨v, rfl, ⟨D', q1, q2⟩, q3⟩
          have Q1 := Lib.hid q1
          have Q2 := Lib.hid q2
          have Q3 := Lib.hid q3
          clear q1 q2 q3
          go_wp2
          go_roundw
          case rel => exact ⟨k + 1, D', by omega, by go_num, Q1.out, Q2.out, Q3.out⟩
          case measure => simp [intOf]; omega
        · go_wp2
          go_roundw
          case rel => exact ⟨k + 1, D, by omega, by go_num, RS.out, D1.out, B1.out⟩
          case measure => simp [intOf]; omega
    · have hkn : k = len1 := by omega
      subst hkn
      clear hri hds hbl
      go_wp2
      go_end0
      exact ⟨rfl, ⟨D, HI.out, HD.out⟩, HBL.out⟩

end Go.Proofs.Ytkgdpmeheakdcaa
