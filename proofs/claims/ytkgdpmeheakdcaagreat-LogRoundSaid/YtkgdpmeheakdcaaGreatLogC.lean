import Derived.Test.YtkgdpmeheakdcaaGreatLogA
import Derived.Deep.MidRow
/- The log's head and put: walks. -/
namespace Go.Proofs.YtkgdpmeheakdcaaGreat
open Go.RowKit
set_option linter.all false
set_option maxRecDepth 100000

section
variable {R F : Nat → Prop} {g r b n : Nat} {v : Value} {D : DS} {L : LS} {w w' : World}

theorem LP.drew (h : LP R g r b L n w) : LP R g r b L n w.drew := h.below ((Below.refl _ _).drew)

set_option maxHeartbeats 2000000 in
theorem head_any (h : LP R g r b L n w) (hR : ∀ k, w.heap.size ≤ k → R k) (hn : n ≤ 700000) (lsn pl : Nat) (h1 : 1 ≤ lsn) (h2 : lsn < 18446744073709551616) (h3 : pl ≤ 256) :
    Calls Tryz.prog 54 #[.pointer (some ⟨g, 0, none⟩), .int .u64 lsn, .int .i64 pl] w (AnsL R g r b L (n + 16) w (.int .i64 0)) := by
  have c7 := h.c7
  have HP := Lib.hid (puthead_any lsn pl h1 h2 h3 w)
  have HL := Lib.hid h
  have HR := Lib.hid hR
  have hsz := headL_length lsn pl
  clear h h1 h2 h3 hR
  generalize headL lsn pl = HB at *
  go_enter Tryz.func54, Tryz.ntmps54
  go_wp2_with fail
  refine HP.out.mono ?_
  rintro e w1 ⟨rfl, hb⟩
  have L1 := Lib.hid (HL.out.below hb)
  have B1 : Hid (Grow R w w1) := Lib.hid (Grow.of_below hb)
  have S1 : Hid (w.heap.size ≤ w1.heap.size) := Lib.hid hb.size
  have d0 := L1.out.drew.c0
  have d6 := L1.out.drew.c6
  have d7 := L1.out.drew.c7
  have d8 := L1.out.drew.c8
  have HW := Lib.hid (L1.out.drew.write (fun k hk => HR.out k (Nat.le_trans S1.out hk)) (by omega) 1 (str HB) 1 (by rw [str_size, hsz]) (by decide) (by decide) (by decide) (by decide))
  clear hb c7 hsz
  go_upto_region 4 with fail
  refine region_tail 17 (by kernel_rfl) (by kernel_rfl) ?_
  simp only [List.take_succ_cons, List.take_zero, List.drop_succ_cons, List.drop_zero]
  iterate 17 still_step
  refine wpStill_nil ?_
  go_wp2_with fail
  refine HW.out.mono ?_
  rintro e w2 ⟨rfl, hl, hg⟩
  have L2 := Lib.hid hl
  have G2 := Lib.hid ((B1.out.trans (Grow.drew w1) (F' := fun _ => False) (fun _ h => h.elim)).trans hg (fun _ h => .inl h))
  have S2 : Hid (w.heap.size ≤ w2.heap.size) := Lib.hid (Nat.le_trans S1.out hg.size)
  have HBR := Lib.hid (L2.out.drew.barrier (fun k hk => HR.out k (Nat.le_trans S2.out hk)) (by omega))
  clear hl hg d0 d6 d7 d8
  have d0 := L2.out.drew.c0
  have d6 := L2.out.drew.c6
  have d7 := L2.out.drew.c7
  go_upto_region 7 with fail
  refine region_tail 12 (by kernel_rfl) (by kernel_rfl) ?_
  simp only [List.take_succ_cons, List.take_zero, List.drop_succ_cons, List.drop_zero]
  iterate 12 still_step
  refine wpStill_nil ?_
  go_wp2_with fail
  refine HBR.out.mono ?_
  rintro e w3 ⟨rfl, hl, hg⟩
  have L3 := Lib.hid hl
  have G3 := Lib.hid ((G2.out.trans (Grow.drew w2) (F' := fun _ => False) (fun _ h => h.elim)).trans hg (fun _ h => .inl h))
  clear hl hg
  go_wp2
  go_ret
  exact ⟨rfl, L3.out, G3.out⟩


set_option maxHeartbeats 4000000 in
theorem lput_any (h : LP R g r b L n w) (hR : ∀ k, w.heap.size ≤ k → R k) (hn : n ≤ 700000) (lsn pl : Nat) (bs : ByteArray) (wf : Bool) (hpl : pl < 7) (hbs : bs.size = 192) :
    Calls Tryz.prog 68 #[.pointer (some ⟨g, 0, none⟩), .agg #[.int .u64 lsn, .int .i64 pl, .int .i64 3, .string bs, .bool wf]] w (AnsL R g r b L (n + 48) w (.int .i64 0)) := by
  have HR := Lib.hid hR
  have HBS := Lib.hid hbs
  have ha : Below w.heap.size w (w.alloc (.cells #[.int .u64 lsn, .int .i64 pl, .int .i64 3, .string bs, .bool wf] 89)) := (Below.refl _ _).alloc (Nat.le_refl _) _
  have L0 := Lib.hid ((h.mono (R' := fun k => R k ∧ k ≠ w.heap.size) (fun k hk hz => ⟨hk, by omega⟩)).below ha)
  have X0 : Hid ((w.alloc (.cells #[.int .u64 lsn, .int .i64 pl, .int .i64 3, .string bs, .bool wf] 89)).heap[w.heap.size]? = some (.cells #[.int .u64 lsn, .int .i64 pl, .int .i64 3, .string bs, .bool wf] 89 (0, 0))) := Lib.hid (heap_alloc_new w _)
  have G0 : Hid (Grow (fun k => R k ∧ k ≠ w.heap.size) w (w.alloc (.cells #[.int .u64 lsn, .int .i64 pl, .int .i64 3, .string bs, .bool wf] 89))) := Lib.hid (Grow.alloc _ _)
  have Z0 : Hid (w.heap.size < (w.alloc (.cells #[.int .u64 lsn, .int .i64 pl, .int .i64 3, .string bs, .bool wf] 89)).heap.size) := Lib.hid (by simp)
  clear h hR hbs ha
  go_enter Tryz.func68, Tryz.ntmps68
  go_wp2
  go_loopw [5] (fun i wr => ∃ k : Nat, k ≤ 3 ∧ i = .int .i64 k ∧ LP (fun k => R k ∧ k ≠ w.heap.size) g r b L (n + 16 * k) wr ∧ Grow (fun k => R k ∧ k ≠ w.heap.size) w wr ∧ w.heap.size < wr.heap.size ∧ wr.heap[w.heap.size]? = some (.cells #[.int .u64 lsn, .int .i64 pl, .int .i64 3, .string bs, .bool wf] 89 (0, 0)))
    (fun i _ => 3 - (intOf i).toNat)
  case atStart => exact ⟨0, by omega, rfl, L0.out, G0.out, Z0.out, X0.out⟩
  case round =>
    obtain ⟨k, hk, rfl, hl, hg, hz, hx⟩ := hrel
    have HL := Lib.hid hl
    have HG := Lib.hid hg
    have HZ := Lib.hid hz
    have HX := Lib.hid hx
    have x0 : wr.cell? ⟨w.heap.size, 0, none⟩ = some (.int .u64 lsn) := by simp [World.cell?, hx]
    have x1 : wr.cell? ⟨w.heap.size, 1, none⟩ = some (.int .i64 pl) := by simp [World.cell?, hx]
    have x2 : wr.cell? ⟨w.heap.size, 2, none⟩ = some (.int .i64 3) := by simp [World.cell?, hx]
    have x3 : wr.cell? ⟨w.heap.size, 3, none⟩ = some (.string bs) := by simp [World.cell?, hx]
    by_cases hlt : k < 3
    · have hlt' : (k : Int) < 3 := by omega
      obtain ⟨pt, hpt⟩ : ∃ pt, pt = (pl + k) % 7 := ⟨_, rfl⟩
      have hpt7 : pt < 7 := by omega
      obtain ⟨m, hm⟩ : ∃ m, m = min (3 - k) (7 - pt) := ⟨_, rfl⟩
      have hm1 : 1 ≤ m := by omega
      have hm2 : m ≤ 3 - k := by omega
      have hm3 : m ≤ 7 - pt := by omega
      have i1 : IntKind.i64.wrap ((pl : Int) + (k : Int)) = (pl : Int) + (k : Int) := IntWalk.i64_in _ (by omega)
      have i2 : ((pl : Int) + (k : Int)).tmod 7 = (pt : Int) := by rw [Int.tmod_eq_emod_of_nonneg (by omega)]; omega
      have i2' : ((pl : Int) + (k : Int)) % 7 = (pt : Int) := by omega
      have i3 : IntKind.i64.wrap (3 - (k : Int)) = 3 - (k : Int) := IntWalk.i64_in _ (by omega)
      have i4 : IntKind.i64.wrap (7 - (pt : Int)) = 7 - (pt : Int) := IntWalk.i64_in _ (by omega)
      have HZ1 : Hid (∀ wx : World, LP (fun k => R k ∧ k ≠ w.heap.size) g r b L (n + 16 * k) wx → Calls Tryz.prog 60 #[.pointer (some ⟨g, 0, none⟩)] wx fun e w' => e = .returned (.int .i64 7) ∧ w' = wx) := Lib.hid (fun wx h => (size_log h).mono (fun e w' h => ⟨h.1, h.2.symm⟩))
      have HC := Lib.hid (HZ1.out wr.drew hl.drew)
      have HC2 := Lib.hid (HZ1.out wr.drew.drew hl.drew.drew)
      have y1 : wr.drew.cell? ⟨w.heap.size, 1, none⟩ = some (.int .i64 pl) := x1
      have HM := Lib.hid hm
      have HPT := Lib.hid hpt
      clear hl hg hz hx hpt hm
      go_upto_region 3 with fail
      refine region_tail 7 (by kernel_rfl) (by kernel_rfl) ?_
      simp only [List.take_succ_cons, List.take_zero, List.drop_succ_cons, List.drop_zero]
      iterate 7 (first | still_step | still_call HC.out)
      refine wpStill_nil ?_
      have y2 : wr.drew.drew.cell? ⟨w.heap.size, 2, none⟩ = some (.int .i64 3) := x2
      go_upto_region 4 with fail
      refine region_tail 8 (by kernel_rfl) (by kernel_rfl) ?_
      simp only [List.take_succ_cons, List.take_zero, List.drop_succ_cons, List.drop_zero]
      iterate 8 (first | still_step | still_call HC2.out)
      refine wpStill_nil ?_
      go_upto_region 5 with fail
      have hmI : (if 7 - (pt : Int) < 3 - (k : Int) then 7 - (pt : Int) else 3 - (k : Int)) = (m : Int) := by
        have := HM.out
        by_cases hq : 7 - (pt : Int) < 3 - (k : Int)
        · rw [if_pos hq]; omega
        · rw [if_neg hq]; omega
      rw [hmI]
      clear hmI
      have y1 : wr.drew.drew.drew.cell? ⟨w.heap.size, 3, none⟩ = some (.string bs) := x3
      have LD := Lib.hid HL.out.drew.drew.drew
      have d0 := LD.out.c0
      have d6 := LD.out.c6
      have d7 := LD.out.c7
      have d8 := LD.out.c8
      have j1 : IntKind.i64.wrap (2 + (pt : Int)) = 2 + (pt : Int) := IntWalk.i64_in _ (by omega)
      have j2 : IntKind.i64.wrap ((k : Int) * 64) = (k : Int) * 64 := IntWalk.i64_in _ (by omega)
      have j3 : IntKind.i64.wrap ((k : Int) + (m : Int)) = (k : Int) + (m : Int) := IntWalk.i64_in _ (by omega)
      have j4 : IntKind.i64.wrap (((k : Int) + (m : Int)) * 64) = ((k : Int) + (m : Int)) * 64 := IntWalk.i64_in _ (by omega)
      have hsl : ∀ wx : World, (Instr.slice 9 (.string bs) (some (.int .i64 ((k : Int) * 64))) (some (.int .i64 (((k : Int) + (m : Int)) * 64))) none).run Tryz.prog wx = .ok (.string (bs.extract (k * 64) ((k + m) * 64))) wx := by
        intro wx
        have hb := HBS.out
        rw [run_slice_string wx 9 bs .i64 .i64 _ _ Tryz.underlying9 (by omega) (by omega) (by omega)]
        rw [show ((k : Int) * 64).toNat = k * 64 by omega, show (((k : Int) + (m : Int)) * 64).toNat = (k + m) * 64 by omega]
      have hds : (bs.extract (k * 64) ((k + m) * 64)).size = 64 * m := by
        have hb := HBS.out
        rw [ByteArray.size_extract]
        omega
      have HW := Lib.hid (LD.out.write (fun q hq => ⟨HR.out q (by have := HZ.out; have hq' : wr.heap.size ≤ q := hq; omega), by have := HZ.out; have hq' : wr.heap.size ≤ q := hq; omega⟩) (by omega) (2 + (pt : Int)) (bs.extract (k * 64) ((k + m) * 64)) m hds hm1 (by omega) (by omega) (by omega))
      clear hds y2 x0 x1 x2
      generalize bs.extract (k * 64) ((k + m) * 64) = PT at *
      refine region_tail 28 (by kernel_rfl) (by kernel_rfl) ?_
      simp only [List.take_succ_cons, List.take_zero, List.drop_succ_cons, List.drop_zero]
      iterate 28 still_step
      refine wpStill_nil ?_
      go_wp2_with fail
      refine HW.out.mono ?_
      rintro e w2 ⟨rfl, hl, hg⟩
      have hrel : LP (fun k => R k ∧ k ≠ w.heap.size) g r b L (n + 16 * (k + m)) w2 ∧ Grow (fun k => R k ∧ k ≠ w.heap.size) w w2 ∧ w.heap.size < w2.heap.size ∧ w2.heap[w.heap.size]? = some (.cells #[.int .u64 lsn, .int .i64 pl, .int .i64 3, .string bs, .bool wf] 89 (0, 0)) := by
        have hz1 : wr.heap.size ≤ w2.heap.size := hg.size
        have hz0 := HZ.out
        refine ⟨hl.more (by omega), ?_, by omega, (hg.block _ hz0 (fun h => h.2 rfl)).trans HX.out⟩
        have g3 : Grow (fun k => R k ∧ k ≠ w.heap.size) wr w2 := (((Grow.drew (F := fun k => R k ∧ k ≠ w.heap.size) wr).trans (Grow.drew (F := fun _ => False) _) (fun _ h => h.elim)).trans (Grow.drew (F := fun _ => False) _) (fun _ h => h.elim)).trans hg (fun _ h => .inl h)
        exact HG.out.trans g3 (fun _ h => .inl h)
      have HREL := Lib.hid hrel
      clear hl hg hrel hsl
      go_wp2
      go_roundw
      case rel => exact ⟨k + m, by omega, by go_num, HREL.out⟩
      case measure => simp [intOf]; omega
    · have hk3 : k = 3 := by omega
      subst hk3
      have HF : Hid (AnsL R g r b L (n + 48) w (.int .i64 0) (.returned (.int .i64 0)) wr) := Lib.hid ⟨rfl, hl.mono (fun k hk _ => hk.1), hg.mono (fun k hk => hk.1)⟩
      clear hl hg hz hx
      go_wp2
      go_ret
      exact HF.out
end

end Go.Proofs.YtkgdpmeheakdcaaGreat

/- The ring of a log: Push, Set, Drop: walks. -/
namespace Go.Proofs.YtkgdpmeheakdcaaGreat
open Go.RowKit
set_option linter.all false
set_option maxRecDepth 100000

section
variable {R F : Nat → Prop} {g r b n : Nat} {v : Value} {D : DS} {L : LS} {w w' : World}

theorem LogSt.rowSet {w1 : World} {l' : List En} (h : LogSt R F g r b v D L n w) (hg : Grow (fun k => v.ownBlock = some k) w w1) (ho : w1.ownsRow 0 89 5 v l'.length (enCells l')) :
    LogSt R F g r b v D { L with live := l' } n w1 ∧ Grow R w w1 := by
  obtain ⟨nb, lb, wv, sv, hd⟩ := h.disk
  exact ⟨⟨⟨nb, lb, wv, sv, hd.grow hg (fun k hk e => h.vF k e hk)⟩, h.di, (hg.block g h.glt h.gv).trans h.blk, (hg.block r h.rlt h.rv).trans h.ring, ho, h.fR, h.gR, h.rR, h.vR, h.gF, h.rF, h.vF⟩, hg.mono h.vR⟩
theorem LogSt.ringSet {w1 : World} {v' : Value} {l' : List En} (h : LogSt R F g r b v D L n w) (hg : Grow (fun k => v.ownBlock = some k) w w1) (ho : w1.ownsRow 0 89 5 v' l'.length (enCells l'))
    (hv : ∀ k, v'.ownBlock = some k → v.ownBlock = some k ∨ w.heap.size ≤ k) (hR : ∀ k, w.heap.size ≤ k → R k) :
    LogSt R F g r b v' D { L with live := l' } n (w1.setCell ⟨r, 0, none⟩ v') ∧ Grow R w (w1.setCell ⟨r, 0, none⟩ v') := by
  obtain ⟨nb, lb, wv, sv, hd⟩ := h.disk
  have hg2 : Grow (fun k => v.ownBlock = some k ∨ k = r) w (w1.setCell ⟨r, 0, none⟩ v') := (hg.mono (fun k hk => .inl hk)).trans (Grow.setCell (F := fun k => k = r) rfl _) (fun k hk => .inl (.inr hk))
  have hrl := h.rlt
  have hvr : ∀ k, v'.ownBlock = some k → k ≠ r := fun k hk e => by
    rcases hv k hk with h1 | h1
    · exact h.rv (by rw [h1, e])
    · omega
  refine ⟨⟨⟨nb, lb, wv, sv, hd.grow hg2 (fun k hk e => e.elim (fun e => h.vF k e hk) (fun e => h.rF (e ▸ hk)))⟩, h.di, (hg2.block g h.glt (fun e => e.elim h.gv h.gr)).trans h.blk, ?_, ?_, h.fR, h.gR, h.rR, ?_, h.gF, h.rF, ?_⟩, hg2.mono (fun k hk => hk.elim (h.vR k) (fun e => e ▸ h.rR))⟩
  · exact two_set0 ((hg.block r hrl h.rv).trans h.ring)
  · exact ownsRow_of_same ho (fun k hk => block_setCell_ne (hvr k hk) _)
  · intro k hk
    rcases hv k hk with h1 | h1
    · exact h.vR k h1
    · exact hR k h1
  · intro k hk hf
    rcases hv k hk with h1 | h1
    · exact h.vF k h1 hf
    · have := hd.flt k hf
      omega

set_option maxHeartbeats 2000000 in
theorem push_any (h : LP R g r b L n w) (hR : ∀ k, w.heap.size ≤ k → R k) (hl : L.live.length ≤ 900) (x : En) (q : Nat) (hq : w.heap[q]? = some (.cells x.cells.toArray 89 (0, 0))) :
    Calls Tryz.prog 59 #[.pointer (some ⟨r, 0, none⟩), .slice (some ⟨q, 0, none⟩) 1 1] w (AnsL R g r b { L with live := L.live ++ [x] } n w (.int .i64 1)) := by
  have HRM := Lib.hid (room_any h (by omega))
  obtain ⟨F, v, D, h⟩ := h
  have HS := Lib.hid h
  have HR := Lib.hid hR
  have HQ := Lib.hid hq
  have hc0 := rcell0 h
  have hrl := h.rlt
  have hne := h.rv
  obtain ⟨len, hlen⟩ : ∃ len, len = L.live.length := ⟨_, rfl⟩
  rw [← hlen] at HRM hl
  have HLN := Lib.hid hlen
  have hfr : w.frozen? ⟨r, 0, none⟩ = false := by simp [World.frozen?, h.ring]
  have hmin : ¬ (100000 - (len : Int) < 1) := by omega
  have hmin2 : min (1 : Int) (100000 - (len : Int)) = 1 := by omega
  have hmx : 1000 ≤ maxLen := by decide
  clear h hR hq hlen
  go_enter Tryz.func59, Tryz.ntmps59
  go_wp2_with fail
  refine HRM.out.mono ?_
  rintro e w1 ⟨rfl, hg⟩
  have G1 := Lib.hid hg
  have c0 : w1.drew.cell? ⟨r, 0, none⟩ = some v := (World.cell?_of_block (hg.block r hrl (fun h => h))).trans hc0
  have hq1 : w1.drew.heap[q]? = some (.cells x.cells.toArray 89 (0, 0)) := (hg.block q (Array.getElem?_eq_some_iff.1 HQ.out).1 (fun h => h)).trans HQ.out
  have f1 : w1.drew.frozen? ⟨r, 0, none⟩ = false := (World.frozen?_of_block (hg.block r hrl (fun h => h))).trans hfr
  have hown : w1.drew.ownsRow 0 89 5 v len (enCells L.live) := by
    have h := ownsRow_of_same (w' := w1.drew) HS.out.own (fun k hk => hg.block k (HS.out.vlt hk) (fun h => h))
    rw [← HLN.out] at h
    exact h
  have OWN := Lib.hid hown
  have Q1 := Lib.hid hq1
  obtain ⟨i0, hi, hz0, hz1, hz2⟩ := info_parts infoEn
  clear hg hown hq1 hc0
  go_upto_region 3 with fail
  refine wp_region_T (fun w' => w'.cell? ⟨r, 0, none⟩ = some v) 11 (by kernel_rfl) ?_
  refine wpAnyT_take (i := 0) (.pointer (some ⟨r, 0, none⟩)) rfl (by kernel_rfl) (by kernel_rfl) (by kernel_rfl) (fun _ _ _ h => h) (by kernel_rfl) rfl (by intro wq hS; go_simp) c0 ?_
  refine wpAnyT_take (i := 1) (.pointer (some ⟨r, 0, none⟩)) rfl (by kernel_rfl) (by kernel_rfl) (by kernel_rfl) (fun _ _ _ h => h) (by kernel_rfl) rfl (by intro wq hS; go_simp) c0 ?_
  refine wpAnyT_take (i := 2) (.pointer (some ⟨r, 0, none⟩)) rfl (by kernel_rfl) (by kernel_rfl) (by kernel_rfl) (fun _ _ _ h => h) (by kernel_rfl) rfl (by intro wq hS; go_simp) c0 ?_
  refine wpAnyT_take (i := 3) (.pointer (some ⟨r, 0, none⟩)) rfl (by kernel_rfl) (by kernel_rfl) (by kernel_rfl) (fun _ _ _ h => h) (by kernel_rfl) rfl (by intro wq hS; go_simp) c0 ?_
  refine wpAnyT_take (i := 4) (v) rfl (by kernel_rfl) (by kernel_rfl) (by kernel_rfl) (fun _ _ _ h => h) (by kernel_rfl) rfl (by intro wq hS; go_simp) c0 ?_
  refine wpAnyT_take (i := 5) (.slice (some ⟨q, 0, none⟩) 1 1) rfl (by kernel_rfl) (by kernel_rfl) (by kernel_rfl) (fun _ _ _ h => h) (by kernel_rfl) rfl (by intro wq hS; go_simp) c0 ?_
  refine wpAnyT_take (i := 6) (.int .i64 1) rfl (by kernel_rfl) (by kernel_rfl) (by kernel_rfl) (fun _ _ _ h => h) (by kernel_rfl) rfl (by intro wq hS; go_simp) c0 ?_
  refine wpAnyT_take (i := 7) (.slice (some ⟨q, 0, none⟩) 1 1) rfl (by kernel_rfl) (by kernel_rfl) (by kernel_rfl) (fun _ _ _ h => h) (by kernel_rfl) rfl (by intro wq hS; go_simp) c0 ?_
  simp only [Act.put, List.setIfInBounds_toArray, List.set_cons_succ, List.set_cons_zero]
  refine wpAnyT_only (i := 8) (oi := ⟨some 21, .call { callee := .builtin .append, args := #[.tmp 17, .tmp 20], argTypes := #[96, 96] }, _, _, _, _⟩) (by kernel_rfl) rfl rfl (wp_append_lies _ _ _ 96 rfl 0 89 i0 _ 5 48 Tryz.underlying96 hi hz0 hz1 hz2 rfl (by decide) v len (enCells L.live) (by simp [Act.eval]) OWN.out ⟨q, 0, none⟩ 1 1 x.cells (by simp [Act.eval]) rfl (World.news_of_block Q1.out) (enCells_one [x]) (by decide) (by omega) (by omega) (Nat.zero_le _) w1.heap.size rfl ?_)
  intro gg cap w6 hown6 hgrow hat hlt6
  have k6 : w6.cell? ⟨r, 0, none⟩ = some v := (hgrow.cell_far ⟨r, 0, none⟩ (cell_lt c0) (fun e => hne e.symm)).trans c0
  have f6 : w6.frozen? ⟨r, 0, none⟩ = false := (hgrow.frozen_far ⟨r, 0, none⟩ (cell_lt c0) (fun e => hne e.symm)).trans f1
  refine ⟨.inr k6, ?_⟩
  simp only [Act.put, List.setIfInBounds_toArray, List.set_cons_succ, List.set_cons_zero]
  refine wpAnyT_exec (i := 9) (oi := ⟨some 22, .nilCheck (.tmp 13), _, _, _, _⟩) (.pointer (some ⟨r, 0, none⟩)) w6 (by kernel_rfl) rfl rfl (by go_simp) (.inr k6) ?_
  simp only [Act.put, List.setIfInBounds_toArray, List.set_cons_succ, List.set_cons_zero]
  refine wpAnyT_exec (i := 10) (oi := ⟨some 23, .fieldAddr 143 (.tmp 22) 0, _, _, _, _⟩) (.pointer (some ⟨r, 0, none⟩)) w6 (by kernel_rfl) rfl rfl (by go_simp) (.inr k6) ?_
  simp only [Act.put, List.setIfInBounds_toArray, List.set_cons_succ, List.set_cons_zero]
  refine wpAnyT_skip (i := 11) (oi := ⟨none, .store 96 (.tmp 23) (.tmp 21), _, _, _, _⟩) (w6.setCell ⟨r, 0, none⟩ (.slice (some ⟨gg, 0, none⟩) (len + 1) cap)) (by kernel_rfl) rfl rfl (by go_simp) (.inl rfl) ?_
  refine wpAnyT_done (by kernel_rfl) ?_
  simp only [Act.put, List.setIfInBounds_toArray, List.set_cons_succ, List.set_cons_zero]
  have hfin : AnsL R g r b { L with live := L.live ++ [x] } n w (.int .i64 1) (.returned (.int .i64 1)) (w6.setCell ⟨r, 0, none⟩ (.slice (some ⟨gg, 0, none⟩) (len + 1) cap)) := by
    have hg6 : Grow (fun k => v.ownBlock = some k) w w6 := ((G1.out.trans (Grow.drew w1) (F' := fun _ => False) (fun _ h => h.elim)).mono (fun _ h => h.elim)).trans (Grow.of_grownBy (F := fun k => v.ownBlock = some k) hgrow (fun _ h => h)) (fun _ h => .inl h)
    have ho6 : w6.ownsRow 0 89 5 (.slice (some ⟨gg, 0, none⟩) (len + 1) cap) (L.live ++ [x]).length (enCells (L.live ++ [x])) := by
      have e1 : (L.live ++ [x]).length = len + 1 := by rw [List.length_append, ← HLN.out]; rfl
      have e2 : enCells (L.live ++ [x]) = enCells L.live ++ x.cells := by rw [enCells_append]; simp [enCells]
      rw [e1, e2]
      exact hown6
    obtain ⟨h1, h2⟩ := HS.out.ringSet hg6 ho6 (fun k hk => by
      cases hk
      rcases hat with h1 | h1
      · exact .inl h1
      · right
        have h2 : gg = w1.heap.size := h1
        have := G1.out.size
        show w.heap.size ≤ gg
        omega) HR.out
    exact ⟨rfl, ⟨F, _, D, h1⟩, h2⟩
  have HF := Lib.hid hfin
  clear hfin hown6 hgrow hat hlt6 k6 f6 c0 f1 hi hz0 hz1 hz2
  go_wp2
  go_ret
  exact HF.out

theorem enCells_set (l : List En) (k : Nat) (hk : k < l.length) (x : En) : (((((enCells l).set (k * 5) (.int .u64 x.lsn)).set (k * 5 + 1) (.int .i64 x.pl)).set (k * 5 + 1 + 1) (.int .i64 x.n)).set (k * 5 + 1 + 1 + 1) (.string x.bs)).set (k * 5 + 1 + 1 + 1 + 1) (.bool x.wr) = enCells (l.set k x) := by
  induction l generalizing k with
  | nil => simp at hk
  | cons y l ih =>
    have e : enCells (y :: l) = y.cells ++ enCells l := rfl
    have hy : y.cells.length = 5 := rfl
    cases k with
    | zero => rfl
    | succ k =>
      rw [e, List.set_append_right _ _ (by rw [hy]; omega), List.set_append_right _ _ (by rw [hy]; omega), List.set_append_right _ _ (by rw [hy]; omega), List.set_append_right _ _ (by rw [hy]; omega), List.set_append_right _ _ (by rw [hy]; omega), hy,
        show (k + 1) * 5 - 5 = k * 5 by omega, show (k + 1) * 5 + 1 - 5 = k * 5 + 1 by omega, show (k + 1) * 5 + 1 + 1 - 5 = k * 5 + 1 + 1 by omega, show (k + 1) * 5 + 1 + 1 + 1 - 5 = k * 5 + 1 + 1 + 1 by omega, show (k + 1) * 5 + 1 + 1 + 1 + 1 - 5 = k * 5 + 1 + 1 + 1 + 1 by omega,
        ih k (by simpa using hk)]
      rfl
/-- A record is stored at place o of block q. -/
def set5W (w : World) (q o : Nat) (x : En) : World := ((((w.setCell ⟨q, o, none⟩ (.int .u64 x.lsn)).setCell ⟨q, o + 1, none⟩ (.int .i64 x.pl)).setCell ⟨q, o + 1 + 1, none⟩ (.int .i64 x.n)).setCell ⟨q, o + 1 + 1 + 1, none⟩ (.string x.bs)).setCell ⟨q, o + 1 + 1 + 1 + 1, none⟩ (.bool x.wr)
theorem set5_heap {w : World} {q o : Nat} {x : En} {cur : Array Value} {T : TypeId} {fz : Nat × Nat} (h : w.heap[q]? = some (.cells cur T fz)) :
    (set5W w q o x).heap[q]? = some (.cells (((((cur.setIfInBounds o (.int .u64 x.lsn)).setIfInBounds (o + 1) (.int .i64 x.pl)).setIfInBounds (o + 1 + 1) (.int .i64 x.n)).setIfInBounds (o + 1 + 1 + 1) (.string x.bs)).setIfInBounds (o + 1 + 1 + 1 + 1) (.bool x.wr)) T fz) :=
  block_setCell (block_setCell (block_setCell (block_setCell (block_setCell h _) _) _) _) _
theorem set5_grow (w : World) (q o : Nat) (x : En) : Grow (fun k => k = q) w (set5W w q o x) := by
  have gs : ∀ (v : World) (j : Nat) (x : Value), Grow (fun k => k = q) v (v.setCell ⟨q, j, none⟩ x) := fun v j x => Grow.setCell (F := fun k => k = q) rfl x
  exact ((((gs _ _ _).trans (gs _ _ _) (fun _ h => .inl h)).trans (gs _ _ _) (fun _ h => .inl h)).trans (gs _ _ _) (fun _ h => .inl h)).trans (gs _ _ _) (fun _ h => .inl h)
theorem setCells5 (w : World) (q o : Nat) (x : En) : w.setCells q o [.int .u64 x.lsn, .int .i64 x.pl, .int .i64 x.n, .string x.bs, .bool x.wr] = set5W w q o x := by
  simp only [World.setCells, set5W]
theorem own_inj {q q' n n' c c' : Nat} (h : Value.slice (some ⟨q, 0, none⟩) n c = .slice (some ⟨q', 0, none⟩) n' c') : q = q' ∧ c = c' := by
  simp at h
  exact ⟨h.1, h.2.2⟩
theorem en_set {q cap : Nat} {l : List En} (h : w.ownsRow 0 89 5 (.slice (some ⟨q, 0, none⟩) l.length cap) l.length (enCells l)) (k : Nat) (hk : k < l.length) (x : En) :
    (set5W w q (k * 5) x).ownsRow 0 89 5 (.slice (some ⟨q, 0, none⟩) l.length cap) l.length (enCells (l.set k x)) := by
  rcases h.2 with ⟨h0, _⟩ | ⟨q', cap', cur, h0, h1, h2, h3, h4, h5, h6⟩
  · cases h0
  · obtain ⟨rfl, rfl⟩ := own_inj h0
    have hs := enCells_set l k hk x
    rw [← h6] at hs
    refine ⟨by rw [enCells_length, List.length_set], .inr ⟨q, cap, _, rfl, h1, set5_heap h2, h3, h4, by simpa using h5, ?_⟩⟩
    rw [← hs]
    simp only [Array.toList_setIfInBounds, List.take_set]

set_option maxHeartbeats 2000000 in
theorem rset_any (h : LP R g r b L n w) (hl : L.live.length ≤ 900) (k : Nat) (hk : k < L.live.length) (x : En) :
    Calls Tryz.prog 69 #[.pointer (some ⟨r, 0, none⟩), .int .i64 k, .agg x.cells.toArray] w (AnsL R g r b { L with live := L.live.set k x } n w (.bool true)) := by
  have ha : Below w.heap.size w (w.alloc (.cells x.cells.toArray 89)) := (Below.refl _ _).alloc (Nat.le_refl _) _
  have HLN := Lib.hid (len_any (h.below ha) (by omega))
  obtain ⟨F, v, D, h⟩ := h
  obtain ⟨q, cap, hv, _, _⟩ := h.own.form (show 0 < L.live.length by omega)
  subst hv
  have hncap : L.live.length ≤ cap := by
    rcases h.own.2 with ⟨h0, _⟩ | ⟨_, _, _, h0, _, _, h3, _⟩
    · cases h0
    · injection h0 with _ _ e3
      omega
  have HS := Lib.hid h
  have h1 := h.agree (w' := (w.alloc (.cells x.cells.toArray 89)).drew) (fun k _ hk => ha.block k hk) ha.size
  have c0 := rcell0 h1
  have X0 : Hid ((w.alloc (.cells x.cells.toArray 89)).drew.heap[w.heap.size]? = some (.cells x.cells.toArray 89 (0, 0))) := Lib.hid (heap_alloc_new w _)
  have HO := Lib.hid h1.own
  have HG : Hid (Grow (fun _ => False) w (w.alloc (.cells x.cells.toArray 89)).drew) := Lib.hid ((Grow.alloc _ _).trans (Grow.drew _) (F' := fun _ => False) (fun _ h => h.elim))
  obtain ⟨len, hlen⟩ : ∃ len, len = L.live.length := ⟨_, rfl⟩
  rw [← hlen] at HLN hl hk hncap c0
  have HL := Lib.hid hlen
  have hk2 : (k : Int) < (len : Int) := by omega
  have hk3 : ¬ (len : Int) ≤ (k : Int) := by omega
  have hkc : k < cap := by omega
  obtain ⟨x0, x1, x2, x3, x4⟩ := x
  have hx := X0.out
  simp only [En.cells] at hx HLN c0 HG X0 HO
  have b0 : (w.alloc (.cells [Value.int .u64 x0, .int .i64 x1, .int .i64 x2, .string x3, .bool x4].toArray 89)).drew.cell? ⟨w.heap.size, 0, none⟩ = some (.int .u64 x0) := by simp only [World.cell?, hx]; rfl
  have b1 : (w.alloc (.cells [Value.int .u64 x0, .int .i64 x1, .int .i64 x2, .string x3, .bool x4].toArray 89)).drew.cell? ⟨w.heap.size, 1, none⟩ = some (.int .i64 x1) := by simp only [World.cell?, hx]; rfl
  have b2 : (w.alloc (.cells [Value.int .u64 x0, .int .i64 x1, .int .i64 x2, .string x3, .bool x4].toArray 89)).drew.cell? ⟨w.heap.size, 2, none⟩ = some (.int .i64 x2) := by simp only [World.cell?, hx]; rfl
  have b3 : (w.alloc (.cells [Value.int .u64 x0, .int .i64 x1, .int .i64 x2, .string x3, .bool x4].toArray 89)).drew.cell? ⟨w.heap.size, 3, none⟩ = some (.string x3) := by simp only [World.cell?, hx]; rfl
  have b4 : (w.alloc (.cells [Value.int .u64 x0, .int .i64 x1, .int .i64 x2, .string x3, .bool x4].toArray 89)).drew.cell? ⟨w.heap.size, 4, none⟩ = some (.bool x4) := by simp only [World.cell?, hx]; rfl
  have hinfo : (Tryz.prog.info? 89).map (·.size) = some (#[Value.int .u64 x0, .int .i64 x1, .int .i64 x2, .string x3, .bool x4]).size := by kernel_rfl
  have hth : (w.alloc (.cells [Value.int .u64 x0, .int .i64 x1, .int .i64 x2, .string x3, .bool x4].toArray 89)).drew.there q (k * 5) (#[Value.int .u64 x0, .int .i64 x1, .int .i64 x2, .string x3, .bool x4]).size := fun j hj => by
    have hkl : k < L.live.length := by rw [← HL.out]; exact hk
    have hc := en_cell HO.out k L.live[k] (List.getElem?_eq_getElem hkl) j hj
    obtain ⟨_, cur, hb⟩ := ownsRow_block HO.out (g := q) rfl
    refine ⟨?_, ?_⟩
    · try simp only [En.cells] at hc
      rw [hc]
      match j, hj with
      | 0, _ => rfl
      | 1, _ => rfl
      | 2, _ => rfl
      | 3, _ => rfl
      | 4, _ => rfl
    · try simp only [En.cells] at hb
      simp [World.frozen?, hb]
  have HTH := Lib.hid hth
  clear h h1 ha hlen hx hth
  simp only [En.cells]
  go_enter Tryz.func69, Tryz.ntmps69
  go_wp2_with fail
  refine HLN.out.mono ?_
  rintro e w1 ⟨rfl, rfl⟩
  go_upto_region 3 with fail
  generalize w.alloc (.cells [Value.int .u64 x0, .int .i64 x1, .int .i64 x2, .string x3, .bool x4].toArray 89) = W at *
  refine region_tail 7 (by kernel_rfl) (by kernel_rfl) ?_
  simp only [List.take_succ_cons, List.take_zero, List.drop_succ_cons, List.drop_zero]
  iterate 7 still_step
  refine wpStill_nil ?_
  refine wpList_store_mid rfl 89 (.tmp 21) (.tmp 20) rfl q (k * 5) #[.int .u64 x0, .int .i64 x1, .int .i64 x2, .string x3, .bool x4] (by rfl) (by rfl) HTH.out hinfo (by simp [Value.oneCell']) ?_
  have hsc : W.drew.setCells q (k * 5) [.int .u64 x0, .int .i64 x1, .int .i64 x2, .string x3, .bool x4] = set5W W.drew q (k * 5) ⟨x0, x1, x2, x3, x4⟩ := by simp only [World.setCells, set5W]
  simp only [List.toList_toArray]
  rw [hsc]
  have hfin : AnsL R g r b { L with live := L.live.set k ⟨x0, x1, x2, x3, x4⟩ } n w (.bool true) (.returned (.bool true)) (set5W W.drew q (k * 5) ⟨x0, x1, x2, x3, x4⟩) := by
    have hkl : k < L.live.length := by rw [← HL.out]; exact hk
    have ho := en_set HO.out k hkl ⟨x0, x1, x2, x3, x4⟩
    have hlenset : (L.live.set k ⟨x0, x1, x2, x3, x4⟩).length = L.live.length := List.length_set ..
    have hg : Grow (fun k' => (Value.slice (some ⟨q, 0, none⟩) L.live.length cap).ownBlock = some k') w (set5W W.drew q (k * 5) ⟨x0, x1, x2, x3, x4⟩) :=
      (HG.out.mono (fun _ h => h.elim)).trans (set5_grow _ q (k * 5) _) (fun x hx => .inl (by rw [hx]; rfl))
    have hq : (set5W W.drew q (k * 5) ⟨x0, x1, x2, x3, x4⟩).ownsRow 0 89 5 (.slice (some ⟨q, 0, none⟩) L.live.length cap) (L.live.set k ⟨x0, x1, x2, x3, x4⟩).length (enCells (L.live.set k ⟨x0, x1, x2, x3, x4⟩)) := by
      rw [hlenset]
      exact ho
    generalize set5W W.drew q (k * 5) ⟨x0, x1, x2, x3, x4⟩ = WF at hg hq ⊢
    generalize L.live.set k ⟨x0, x1, x2, x3, x4⟩ = LL at hq ⊢
    have hh := HS.out.rowSet hg hq
    exact ⟨rfl, ⟨F, _, D, hh.1⟩, hh.2⟩
  have HF := Lib.hid hfin
  clear hfin
  generalize set5W W.drew q (k * 5) ⟨x0, x1, x2, x3, x4⟩ = WF at *
  go_wp2
  go_ret
  exact HF.out
end

end Go.Proofs.YtkgdpmeheakdcaaGreat
