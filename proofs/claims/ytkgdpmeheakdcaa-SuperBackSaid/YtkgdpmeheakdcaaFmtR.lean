/- super.Load: walk. -/
import Derived.Test.YtkgdpmeheakdcaaFmtL
namespace Go.Proofs.Ytkgdpmeheakdcaa
open Go.RowKit
set_option linter.all false
set_option maxRecDepth 100000

def zBlk (T : TypeId) (w : World) (q : Nat) : Prop := w.heap[q]? = some (.cells #[.int .i64 0, .int .i64 0, .int .i64 0, .int .i64 0, .int .i64 0] T (0, 0))
theorem zBlk.below {T : TypeId} {w w' : World} {q : Nat} (h : zBlk T w q) (hb : Below w.heap.size w w') : zBlk T w' q := (hb.block q (Array.getElem?_eq_some_iff.1 h).1).trans h
theorem zBlk.lt {T : TypeId} {w : World} {q : Nat} (h : zBlk T w q) : q < w.heap.size := (Array.getElem?_eq_some_iff.1 h).1

set_option maxHeartbeats 2000000 in
theorem load_any {R : Nat → Prop} {b N : Nat} {D : DS} {w : World} (d : DiskP R b D w) (g : Good N D) (hN : N ≤ 900000) (hr : readR D 0 1 = (sb0, 0)) (hn : 37 ≤ D.sectors) :
    Calls Try.prog 75 #[.pointer (some ⟨b, 0, none⟩)] w fun e w' => e = .returned (.tuple #[.agg #[.int .i64 2, .int .i64 10, .int .i64 8, .int .i64 4, .int .i64 32], .int .i64 0]) ∧ DiskP R b D w' ∧ Below w.heap.size w w' := by
  have d0 := d.cap.below (w' := w.alloc (.cells #[.int .i64 0, .int .i64 0, .int .i64 0, .int .i64 0, .int .i64 0] 67)) ((Below.refl _ _).alloc (Nat.le_refl _) _)
  have HR := stepP_read d0 g hN 0 1
  rw [hr] at HR
  replace HR := Lib.hid HR
  have HB0 := Lib.hid ((Below.refl w.heap.size w).alloc (Nat.le_refl _) (.cells #[.int .i64 0, .int .i64 0, .int .i64 0, .int .i64 0, .int .i64 0] 67))
  have HZ0 : Hid (zBlk 67 (w.alloc (.cells #[.int .i64 0, .int .i64 0, .int .i64 0, .int .i64 0, .int .i64 0] 67)) w.heap.size) := Lib.hid (heap_alloc_new w _)
  obtain ⟨n, hsn⟩ : ∃ n, n = D.sectors := ⟨_, rfl⟩
  have HDS := bool_sect n (by omega)
  have HSN := Lib.hid hsn
  clear d d0 g hN hr hn hsn
  go_enter Try.func75, Try.ntmps75
  go_wp2_with fail
  refine HR.out.mono ?_
  rintro e w1 ⟨rfl, hd, hb⟩
  have D1 := Lib.hid hd
  have B1 := Lib.hid (HB0.out.trans (hb.mono (by simp)))
  have Z1 := Lib.hid (HZ0.out.below hb)
  have HG := Lib.hid (get0 w1)
  clear hd hb HR HB0 HZ0
  go_wp2_with fail
  refine HG.out.mono ?_
  rintro e w2 ⟨rfl, hb⟩
  have D2 := Lib.hid (D1.out.below hb)
  have B2 := Lib.hid (B1.out.trans (hb.mono B1.out.size))
  have Z2 := Lib.hid (Z1.out.below hb)
  clear hb HG D1 B1 Z1
  go_wp2_with fail
  have hS3 : shBlk (w2.alloc (.cells #[.int .i64 2, .int .i64 10, .int .i64 8, .int .i64 4, .int .i64 32] 64)) w2.heap.size := heap_alloc_new w2 _
  have hb3 : Below w2.heap.size w2 (w2.alloc (.cells #[.int .i64 2, .int .i64 10, .int .i64 8, .int .i64 4, .int .i64 32] 64)) := (Below.refl _ _).alloc (Nat.le_refl _) _
  have D3 := Lib.hid (D2.out.below hb3)
  have B3 := Lib.hid (B2.out.trans (hb3.mono B2.out.size))
  have Z3 := Lib.hid (Z2.out.below hb3)
  have S3 := Lib.hid hS3
  obtain ⟨c0, c1, c2, c3, c4⟩ := five_cells hS3
  clear hb3 hS3 D2 B2 Z2
  generalize w2.alloc (.cells #[.int .i64 2, .int .i64 10, .int .i64 8, .int .i64 4, .int .i64 32] 64) = W at *
  generalize w2.heap.size = t6 at *
  go_cut [29] from 21 to 28 (fun s wx => s = .bool false ∧ Below W.heap.size W wx)
  case first =>
    have hx1 : ∀ wx : World, Below W.heap.size W wx → Calls Try.prog 37 #[.pointer (some ⟨b, 0, none⟩)] wx fun e w' => e = .returned (.int .i64 n) ∧ wx = w' := fun wx hb => by
      rw [HSN.out]
      exact stepP_sectors (D3.out.below hb)
    have HX1 := Lib.hid hx1
    clear hx1
    go_region_with (first
      | (go_at_call 37
         refine (HX1.out _ ?_).mono ?_
         · repeat (first | exact Below.refl _ _ | assumption | apply below_alloc | apply Below.drew)
         rintro e x1 ⟨rfl, rfl⟩)
      | (go_at_call 43
         refine (size0 _).mono ?_
         rintro e x1 ⟨rfl, bx⟩))
    all_goals go_wp2_with fail
    all_goals go_meet
    all_goals exact ⟨rfl, (Below.refl _ _).drew.trans bx⟩
  case rest =>
    obtain ⟨rfl, hb⟩ := hcut
    have D4 := Lib.hid (D3.out.below hb)
    have B4 := Lib.hid (B3.out.trans (hb.mono B3.out.size))
    have hz := Z3.out.below hb
    have hs : shBlk wc t6 := (hb.block t6 (Array.getElem?_eq_some_iff.1 S3.out).1).trans S3.out
    have hne : t6 ≠ w.heap.size := fun e => by
      subst e
      have h1 : zBlk _ _ _ := hz
      unfold zBlk at h1
      unfold shBlk at hs
      rw [h1] at hs
      simp at hs
    obtain ⟨q0, q1, q2, q3, q4⟩ := five_cells hs
    obtain ⟨r0, r1, r2, r3, r4⟩ := five_cells hz
    have fz : ∀ i, wc.frozen? ⟨w.heap.size, i, none⟩ = false := fun i => by unfold zBlk at hz; simp [World.frozen?, hz]
    have f0 := fz 0
    have f1 := fz 1
    have f2 := fz 2
    have f3 := fz 3
    have f4 := fz 4
    have T2 := Lib.hid (five_set (a := .int .i64 2) (b := .int .i64 10) (c := .int .i64 8) (d := .int .i64 4) (e := .int .i64 32) hz)
    have hlt5 := hz.lt
    clear fz hz hs hb D3 B3 Z3 S3 c0 c1 c2 c3 c4
    go_wp2
    have t2 := T2.out
    generalize hWf : ((((wc.setCell ⟨w.heap.size, 0, none⟩ (.int .i64 2)).setCell ⟨w.heap.size, 1, none⟩ (.int .i64 10)).setCell ⟨w.heap.size, 2, none⟩ (.int .i64 8)).setCell ⟨w.heap.size, 3, none⟩ (.int .i64 4)).setCell ⟨w.heap.size, 4, none⟩ (.int .i64 32) = Wf at *
    have hgf : Grow (fun k => k = w.heap.size) wc Wf := by
      rw [← hWf]
      have gs : ∀ (v : World) (j : Nat) (x : Value), Grow (fun k => k = w.heap.size) v (v.setCell ⟨w.heap.size, j, none⟩ x) := fun v j x => Grow.setCell (F := fun k => k = w.heap.size) rfl x
      exact ((((gs _ _ _).trans (gs _ _ _) (fun _ h => .inl h)).trans (gs _ _ _) (fun _ h => .inl h)).trans (gs _ _ _) (fun _ h => .inl h)).trans (gs _ _ _) (fun _ h => .inl h)
    have hdf : DiskP R b D Wf := (D4.out.grow hgf (fun k hk h => by have := h.2; omega)).mono (fun k hk => hk.1)
    have hbf : Below w.heap.size w Wf := B4.out.trans (hgf.below B4.out.size (fun k hk => Nat.le_of_eq hk.symm))
    have HDF := Lib.hid hdf
    have HBF := Lib.hid hbf
    clear r0 r1 r2 r3 r4 T2 hWf hgf hdf hbf D4 B4
    obtain ⟨r0, r1, r2, r3, r4⟩ := five_cells t2
    exact bodyPost_ret (v := .tuple #[.agg #[.int .i64 2, .int .i64 10, .int .i64 8, .int .i64 4, .int .i64 32], .int .i64 0]) (by simp [results, Try.results75, go_sem, r0, r1, r2, r3, r4]) rfl ⟨rfl, HDF.out, HBF.out⟩

end Go.Proofs.Ytkgdpmeheakdcaa
