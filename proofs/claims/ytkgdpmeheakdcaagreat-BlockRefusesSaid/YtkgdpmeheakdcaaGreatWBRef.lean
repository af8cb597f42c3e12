/- BlockRefuses: walk. -/
import Derived.Test.YtkgdpmeheakdcaaGreatBRef
import Derived.Test.YtkgdpmeheakdcaaGreatOpenI
import Derived.Deep.RegionHeld3
import Derived.Deep.CutRange
namespace Go.Proofs.YtkgdpmeheakdcaaGreat
open Go.RowKit
set_option linter.all false
set_option maxRecDepth 100000

theorem lyb_alloc {w : World} : lyBlk (w.alloc (.cells #[.int .i64 2, .int .i64 10, .int .i64 8, .int .i64 4, .int .i64 32] 31)) w.heap.size := heap_alloc_new w _

set_option maxHeartbeats 8000000 in
theorem refuses_walk (i : Im) (n node epoch : Int) (W : World) (hv : i.v < 18446744073709551616) :
    Calls Tryz.prog 3 #[i.val, .int .i64 n, .int .i64 node, .int .u64 epoch] W fun e w' => e = .returned (.bool true) ∧ Below W.heap.size W w' := by
  have HAL := Lib.hid alive10_any
  have hsi : ((str i.d).size : Int) = i.d.length := by rw [str_size]
  have hB0 : Below W.heap.size W (W.alloc (.cells #[.int .i64 i.b, .int .u64 i.v, .string (str i.d)] 24)) := (Below.refl _ _).alloc (Nat.le_refl _) _
  have hI0 : imBlk i (W.alloc (.cells #[.int .i64 i.b, .int .u64 i.v, .string (str i.d)] 24)) W.heap.size := heap_alloc_new W _
  have hws : (W.alloc (.cells #[.int .i64 i.b, .int .u64 i.v, .string (str i.d)] 24)).heap.size = W.heap.size + 1 := by simp
  have B0 := Lib.hid hB0
  have I0 := Lib.hid hI0
  have HWS := Lib.hid hws
  clear hB0 hI0 hws
  by_cases h1 : i.d.length ≤ 300
  case neg =>
    have p1 : decide (300 < (i.d.length : Int)) = true := by simp; omega
    unfold Im.val
    go_enter Tryz.func3, Tryz.ntmps3
    go_wp2_with fail
    refine (HAL.out _).mono ?_
    rintro e w9 ⟨rfl, b9⟩
    have B10 := Lib.hid (B0.out.trans (b9.mono B0.out.size))
    clear b9
    go_wp2
    go_ret
    exact ⟨rfl, B10.out⟩
  have p1 : decide (300 < (i.d.length : Int)) = false := by simp; omega
  obtain ⟨c, D', R', hst, hrg, hld, hrs⟩ := store_both node epoch i hv (by omega)
  have hgd : Good 65 D' := by
    have h := good_dk9.store node epoch i
    rw [hst] at h
    exact h
  have HST := Lib.hid hst
  have HRG := Lib.hid hrg
  have HLD := Lib.hid hld
  have HRS := Lib.hid hrs
  have HGD := Lib.hid hgd
  have hil : i.d.length ≤ 1000 := by omega
  have HSB : Hid (∀ (R : Nat → Prop) (b : Nat) (wx : World), DiskP R b dk9 wx → (∀ k, wx.heap.size ≤ k → R k) → Calls Tryz.prog 9 #[.pointer (some ⟨b, 0, none⟩), .agg #[.int .i64 2, .int .i64 10, .int .i64 8, .int .i64 4, .int .i64 32], .int .i64 node, .int .u64 epoch, i.val] wx (AnsP R b D' wx (.int .i64 c))) := Lib.hid (fun R b wx d hR => by
    have h := store_any d good_dk9 (by decide) hR node epoch i hv hil
    rw [hst] at h
    exact h)
  have HR := Lib.hid (ready_any (W.alloc (.cells #[.int .i64 i.b, .int .u64 i.v, .string (str i.d)] 24)))
  clear hst hrg hld hrs hgd hil hv h1 HST
  obtain ⟨ib, iv, idt⟩ := i
  unfold Im.val at *
  dsimp only at *
  go_enter Tryz.func3, Tryz.ntmps3
  go_wp2_with fail
  refine HR.out.mono ?_
  rintro e w1 ⟨bk, p, m, rfl, hd, hr, hb, hM⟩
  rw [HWS.out] at hd hM
  have hMw : m ≤ w1.heap.size := by have := hr.lt; have := hr.ge; omega
  have ha1 : Below w1.heap.size w1 (w1.alloc (.cells #[.int .i64 2, .int .i64 10, .int .i64 8, .int .i64 4, .int .i64 32] 31)) := (Below.refl _ _).alloc (Nat.le_refl _) _
  have I1 := Lib.hid ((I0.out.below hb).below ha1)
  have hb1 := B0.out.trans (hb.mono B0.out.size)
  have B1 := Lib.hid (hb1.trans (ha1.mono hb1.size))
  have Y1 : Hid (lyBlk (w1.alloc (.cells #[.int .i64 2, .int .i64 10, .int .i64 8, .int .i64 4, .int .i64 32] 31)) w1.heap.size) := Lib.hid lyb_alloc
  have D1 := Lib.hid ((hd.below ha1).mono (R' := fun k => W.heap.size + 1 ≤ k ∧ k < m ∨ w1.heap.size < k) (fun k hk => .inl hk))
  have R1 := Lib.hid (((RQ.of_P hr).mono (Q' := fun k => m ≤ k ∧ k < w1.heap.size) (fun k hk hz => ⟨hk, hz⟩)).below ha1)
  have Z1 : Hid ((w1.alloc (.cells #[.int .i64 2, .int .i64 10, .int .i64 8, .int .i64 4, .int .i64 32] 31)).heap.size = w1.heap.size + 1) := Lib.hid (by simp)
  clear hd hr hb ha1 hb1 HR I0 B0
  go_upto_region 6 with fail
  generalize w1.alloc (.cells #[.int .i64 2, .int .i64 10, .int .i64 8, .int .i64 4, .int .i64 32] 31) = V at *
  generalize hq3 : w1.heap.size = q3 at *
  go_cut [13, 14] from 34 to 46 (fun s13 s14 wx => s13 = .int .i64 c ∧ s14 = .int .i64 c ∧ ∃ R2 Q, DiskP R2 bk D' wx ∧ RQ Q p R' wx ∧ lyBlk wx q3 ∧ Below W.heap.size W wx)
  case first =>
    obtain ⟨c0, c1, c2, c3, c4⟩ := five_cells (show lyBlk V.drew q3 from Y1.out)
    obtain ⟨k0, k1, k2⟩ := imBlk.cells (show imBlk ⟨ib, iv, idt⟩ V.drew W.heap.size from I1.out)
    have DD : DiskP (fun k => W.heap.size + 1 ≤ k ∧ k < m ∨ q3 < k) bk dk9 V.drew := D1.out.grow (G := fun _ => False) (Grow.drew V) (fun _ h => h.elim)
    have RR : RQ (fun k => m ≤ k ∧ k < q3) p rd5 V.drew := R1.out.grow (G := fun _ => False) (Grow.drew V) (fun _ _ _ h => h)
    have hz : V.drew.heap.size = q3 + 1 := Z1.out
    have HDD := Lib.hid DD
    have HRR := Lib.hid RR
    have HZ := Lib.hid hz
    have hW3 : W.heap.size < q3 := by omega
    have hgv : ∀ k, k < q3 + 1 → (k = q3 ∨ k ≤ W.heap.size ∨ (m ≤ k ∧ k < q3)) → ¬ (W.heap.size + 1 ≤ k ∧ k < m ∨ q3 < k) := fun k h1 h2 h => by omega
    have HGV := Lib.hid hgv
    clear DD RR hz hgv
    go_region_held3 (fun w' => (w'.cell? ⟨q3, 0, none⟩ = some (.int .i64 2) ∧ w'.cell? ⟨q3, 1, none⟩ = some (.int .i64 10) ∧ w'.cell? ⟨q3, 2, none⟩ = some (.int .i64 8) ∧ w'.cell? ⟨q3, 3, none⟩ = some (.int .i64 4) ∧ w'.cell? ⟨q3, 4, none⟩ = some (.int .i64 32)) ∧ w'.cell? ⟨W.heap.size, 0, none⟩ = some (.int .i64 ib) ∧ w'.cell? ⟨W.heap.size, 1, none⟩ = some (.int .u64 iv) ∧ w'.cell? ⟨W.heap.size, 2, none⟩ = some (.string (str idt)))
      (first | exact ⟨⟨c0, c1, c2, c3, c4⟩, k0, k1, k2⟩ | exact ⟨⟨d0, d1, d2, d3, d4⟩, e0, e1, e2⟩ | exact ⟨⟨j0, j1, j2, j3, j4⟩, l0, l1, l2⟩ | go_keep)
      (first
        | (go_at_call 9
           refine (HSB.out _ _ _ HDD.out ?_).mono ?_
           · intro k hk
             rw [HZ.out] at hk
             exact .inr (by omega)
           rintro e x1 ⟨rfl, hd1, g1⟩
           have n3 : ∀ q, q = q3 ∨ q = W.heap.size → x1.heap[q]? = V.drew.heap[q]? := fun q hq => g1.block q (by rw [HZ.out]; omega) (HGV.out q (by omega) (by omega))
           have y1 : lyBlk x1 q3 := (n3 q3 (.inl rfl)).trans Y1.out
           have im1 : imBlk ⟨ib, iv, idt⟩ x1 W.heap.size := (n3 _ (.inr rfl)).trans I1.out
           obtain ⟨d0, d1, d2, d3, d4⟩ := five_cells y1
           obtain ⟨e0, e1, e2⟩ := imBlk.cells im1)
        | (go_at_call 10
           refine (HRS.out (fun k => m ≤ k ∧ k < q3 ∨ x1.heap.size ≤ k) p x1 ?_ ?_).mono ?_
           · exact (HRR.out.grow g1 (fun k hk hz => HGV.out k (by omega) (.inr (.inr hk)))).mono (fun k hk _ => .inl hk)
           · exact fun k hk => .inr hk
           rintro e x2 ⟨rfl, hr2, g2⟩
           have hz1 := g1.size
           have n4 : ∀ q, q = q3 ∨ q = W.heap.size → x2.heap[q]? = x1.heap[q]? := fun q hq => g2.block q (by rw [HZ.out] at hz1; omega) (by rw [HZ.out] at hz1; omega)
           have y2 : lyBlk x2 q3 := (n4 q3 (.inl rfl)).trans y1
           have im2 : imBlk ⟨ib, iv, idt⟩ x2 W.heap.size := (n4 _ (.inr rfl)).trans im1
           obtain ⟨j0, j1, j2, j3, j4⟩ := five_cells y2
           obtain ⟨l0, l1, l2⟩ := imBlk.cells im2))
    go_wp2_with fail
    go_meet
    refine ⟨rfl, rfl, _, _, hd1.cap.grow g2 (fun k hk h => ?_), hr2, y2, ?_⟩
    · have := h.2
      have := h.1
      have h0 := HGV.out k
      omega
    · have q1 := (B1.out.drew).trans (g1.below (B1.out.drew).size (fun k hk => by omega))
      exact q1.trans (g2.below q1.size (fun k hk => by have := q1.size; rw [HZ.out] at hz1; omega))
  case rest =>
    obtain ⟨rfl, rfl, R2, Q, hd, hr, hy, hb⟩ := hcut
    have L6 := bload_any hd HGD.out (by decide) n
    rw [HLD.out n] at L6
    obtain ⟨G, hG⟩ : ∃ G, G = rloadB R' n := ⟨_, rfl⟩
    rw [← hG] at L6
    have HL6 : Hid (∀ wx, RQ Q p R' wx → Calls Tryz.prog 12 #[.pointer (some ⟨p, 0, none⟩), .agg #[.int .i64 2, .int .i64 10, .int .i64 8, .int .i64 4, .int .i64 32], .int .i64 n] wx fun e w' => e = .returned (.tuple #[G.1.val, .int .i64 G.2]) ∧ Below wx.heap.size wx w') := Lib.hid (fun wx h => by rw [hG]; exact rload_any h HRG.out n)
    obtain ⟨⟨gb, gv, gd⟩, ge⟩ := G
    unfold LoadTo Im.val at L6
    unfold Im.val at HL6
    dsimp only at L6 HL6
    replace L6 := Lib.hid L6
    have R6 := Lib.hid hr
    have Y6 := Lib.hid hy
    have B6 := Lib.hid hb
    have HNL := Lib.hid bload_nil
    unfold Im.val zIm at HNL
    dsimp only at HNL
    clear hG hd hr hy hb HRG HLD HRS HSB HGD D1 R1 Y1 I1 B1
    obtain ⟨c0, c1, c2, c3, c4⟩ := five_cells Y6.out
    go_wp2_with fail
    refine L6.out.mono ?_
    rintro e w7 ⟨rfl, hd, hb⟩
    have hb7 := B6.out.trans (hb.mono B6.out.size)
    have ha7 : Below w7.heap.size w7 (w7.alloc (.cells #[.int .i64 gb, .int .u64 gv, .string (str gd)] 24)) := (Below.refl _ _).alloc (Nat.le_refl _) _
    have B7 := Lib.hid (hb7.trans (ha7.mono hb7.size))
    have Y7 := Lib.hid ((Y6.out.below hb).below ha7)
    have R7 := Lib.hid ((R6.out.below hb).below ha7)
    have X7 : Hid (imBlk ⟨gb, gv, gd⟩ (w7.alloc (.cells #[.int .i64 gb, .int .u64 gv, .string (str gd)] 24)) w7.heap.size) := Lib.hid (heap_alloc_new w7 _)
    have HL7 := Lib.hid (HL6.out _ R7.out)
    clear hd hb hb7 ha7 c0 c1 c2 c3 c4 L6 R6 Y6 B6 HL6
    obtain ⟨c0, c1, c2, c3, c4⟩ := five_cells Y7.out
    go_wp2_with fail
    refine HL7.out.mono ?_
    rintro e w8 ⟨rfl, hb⟩
    generalize hqx : w7.heap.size = qx at *
    have hb8 := B7.out.trans (hb.mono B7.out.size)
    have ha8 : Below w8.heap.size w8 (w8.alloc (.cells #[.int .i64 gb, .int .u64 gv, .string (str gd)] 24)) := (Below.refl _ _).alloc (Nat.le_refl _) _
    have B8 := Lib.hid (hb8.trans (ha8.mono hb8.size))
    have Y8 := Lib.hid ((Y7.out.below hb).below ha8)
    have X8 := Lib.hid ((X7.out.below hb).below ha8)
    have U8 : Hid (imBlk ⟨gb, gv, gd⟩ (w8.alloc (.cells #[.int .i64 gb, .int .u64 gv, .string (str gd)] 24)) w8.heap.size) := Lib.hid (heap_alloc_new w8 _)
    clear hb hb8 ha8 c0 c1 c2 c3 c4 HL7 R7 Y7 X7 B7 hqx
    obtain ⟨c0, c1, c2, c3, c4⟩ := five_cells Y8.out
    go_wp2_with fail
    refine (HNL.out _).mono ?_
    rintro e w9 ⟨rfl, hb⟩
    generalize hqy : w8.heap.size = qy at *
    have hb9 := B8.out.trans (hb.mono B8.out.size)
    have ha9 : Below w9.heap.size w9 (w9.alloc (.cells #[.int .i64 0, .int .u64 0, .string ⟨#[]⟩] 24)) := (Below.refl _ _).alloc (Nat.le_refl _) _
    have B9 := Lib.hid (hb9.trans (ha9.mono hb9.size))
    have X9 := Lib.hid ((X8.out.below hb).below ha9)
    have U9 := Lib.hid ((U8.out.below hb).below ha9)
    clear hb hb9 ha9 c0 c1 c2 c3 c4 Y8 X8 U8 B8 hqy
    go_wp2_with fail
    refine (HAL.out _).mono ?_
    rintro e wA ⟨rfl, hb⟩
    have BA := Lib.hid (B9.out.trans (hb.mono B9.out.size))
    have xA := X9.out.below hb
    have uA := U9.out.below hb
    obtain ⟨c0, c1, c2⟩ := xA.cells
    obtain ⟨d0, d1, d2⟩ := uA.cells
    dsimp only at c0 c1 c2 d0 d1 d2
    clear hb xA uA X9 U9 B9
    go_wp2
    go_ret
    exact ⟨rfl, BA.out⟩

end Go.Proofs.YtkgdpmeheakdcaaGreat
