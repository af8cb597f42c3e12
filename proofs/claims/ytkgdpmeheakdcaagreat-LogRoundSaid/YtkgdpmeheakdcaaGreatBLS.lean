/- block.Load, block.Store at the laws' layout: walks. -/
import Derived.Test.YtkgdpmeheakdcaaGreatBlkA
import Derived.Test.YtkgdpmeheakdcaaGreatFmtA
namespace Go.Proofs.YtkgdpmeheakdcaaGreat
open Go.RowKit
set_option linter.all false
set_option maxRecDepth 100000

theorem blkat0 (n : Int) (w : World) : Calls Tryz.prog 42 #[.agg #[.int .i64 2, .int .i64 10, .int .i64 8, .int .i64 4, .int .i64 32], .int .i64 n] w fun e w' => e = .returned (.tuple #[.int .i64 (blockAtR sh0 n).1, .int .i64 (blockAtR sh0 n).2]) ∧ Below w.heap.size w w' :=
  blockat_any sh0 sh0_ok n w
theorem blockAtR_err (s : Sh) (n : Int) : (blockAtR s n).2 = 0 ∨ (blockAtR s n).2 = 30 := by
  unfold blockAtR
  split
  · exact .inl rfl
  · exact .inr rfl

/-- What Store does. -/
def storeB (D : DS) (node epoch : Int) (i : Im) : Int × DS :=
  if (blockAtR sh0 i.b).2 ≠ 0 then (30, D) else if i.ok = false then (1, D) else writeR D node epoch (blockAtR sh0 i.b).1 (str i.bytes)

theorem Good.store {N : Nat} {D : DS} (h : Good N D) (node epoch : Int) (i : Im) : Good (N + 16) (storeB D node epoch i).2 := by
  unfold storeB
  split
  · exact h.more (by omega)
  split
  · exact h.more (by omega)
  · exact h.write _ _ _ _

section
variable {R : Nat → Prop} {b N : Nat} {D : DS} {w : World}

set_option maxHeartbeats 1000000 in
theorem store_any (d : DiskP R b D w) (g : Good N D) (hN : N ≤ 900000) (hR : ∀ k, w.heap.size ≤ k → R k) (node epoch : Int) (i : Im) (hv : i.v < 18446744073709551616) (hl : i.d.length ≤ 1000) :
    Calls Tryz.prog 9 #[.pointer (some ⟨b, 0, none⟩), .agg #[.int .i64 2, .int .i64 10, .int .i64 8, .int .i64 4, .int .i64 32], .int .i64 node, .int .u64 epoch, i.val] w
      (AnsP R b (storeB D node epoch i).2 w (.int .i64 (storeB D node epoch i).1)) := by
  have hgr : Grow (fun _ => False) w ((w.alloc (.cells #[.int .i64 2, .int .i64 10, .int .i64 8, .int .i64 4, .int .i64 32] 31)).alloc (.cells #[.int .i64 i.b, .int .u64 i.v, .string (str i.d)] 24)) := (Grow.alloc _ _).trans (F' := fun _ => False) (Grow.alloc _ _) (fun _ h => h.elim)
  have hi0 : imBlk i ((w.alloc (.cells #[.int .i64 2, .int .i64 10, .int .i64 8, .int .i64 4, .int .i64 32] 31)).alloc (.cells #[.int .i64 i.b, .int .u64 i.v, .string (str i.d)] 24)) (w.heap.size + 1) := by
    have := heap_alloc_new (w.alloc (.cells #[.int .i64 2, .int .i64 10, .int .i64 8, .int .i64 4, .int .i64 32] 31)) (.cells #[.int .i64 i.b, .int .u64 i.v, .string (str i.d)] 24)
    simpa [imBlk] using this
  have hz0 : ((w.alloc (.cells #[.int .i64 2, .int .i64 10, .int .i64 8, .int .i64 4, .int .i64 32] 31)).alloc (.cells #[.int .i64 i.b, .int .u64 i.v, .string (str i.d)] 24)).heap.size = w.heap.size + 2 := by simp
  have D0 := Lib.hid (d.grow hgr (fun _ h => h.elim))
  have G0 := Lib.hid (hgr.mono (G := R) (fun _ h => h.elim))
  have I0 := Lib.hid hi0
  have Z0 := Lib.hid hz0
  have HBA := Lib.hid (blkat0 i.b)
  have HST : Hid (storeB D node epoch i = if (blockAtR sh0 i.b).2 ≠ 0 then (30, D) else if i.ok = false then (1, D) else writeR D node epoch (blockAtR sh0 i.b).1 (str i.bytes)) := Lib.hid rfl
  have HNO := Lib.hid (fun h w => bput_no i h hl w)
  have HOK := Lib.hid (fun h w => bput_ok i h hv w)
  have HLN := Lib.hid (Im.bytes_length i)
  clear d hgr hi0 hz0 hl
  generalize storeB D node epoch i = SR at *
  generalize i.bytes = IB at *
  generalize i.ok = ok at *
  obtain ⟨ib, iv, idt⟩ := i
  unfold Im.val at *
  dsimp only at *
  rcases blockAtR_err sh0 ib with he | he
  · generalize (blockAtR sh0 ib).1 = pl at *
    generalize (blockAtR sh0 ib).2 = er at *
    subst he
    cases ok with
    | false =>
      have hsr : SR = (1, D) := by rw [HST.out, if_neg (by decide), if_pos rfl]
      subst hsr
      go_enter Tryz.func9, Tryz.ntmps9
      go_wp2_with fail
      refine (HBA.out _).mono ?_
      rintro e w1 ⟨rfl, hb⟩
      have D1 := Lib.hid (D0.out.below hb)
      have G1 := Lib.hid (G0.out.trans (Grow.of_below (F := fun _ => False) hb) (fun _ h => h.elim))
      have I1 := Lib.hid (I0.out.below hb)
      have Z1 : Hid (w.heap.size + 2 ≤ w1.heap.size) := Lib.hid (by rw [← Z0.out]; exact hb.size)
      obtain ⟨c0, c1, c2⟩ := I1.out.cells
      clear hb
      have HP := Lib.hid (HNO.out trivial w1)
      go_wp2_with fail
      refine HP.out.mono ?_
      rintro e w2 ⟨rfl, hb⟩
      have D2 := Lib.hid (D1.out.below hb)
      have G2 := Lib.hid (G1.out.trans (Grow.of_below (F := fun _ => False) hb) (fun _ h => h.elim))
      clear hb
      go_wp2
      go_ret
      exact ⟨rfl, D2.out, G2.out⟩
    | true =>
      have HS2 : Hid (SR = writeR D node epoch pl (str IB)) := Lib.hid (by rw [HST.out, if_neg (by decide), if_neg (by decide)])
      have hibl := HLN.out rfl
      have HIB := Lib.hid hibl
      clear hibl
      go_enter Tryz.func9, Tryz.ntmps9
      go_wp2_with fail
      refine (HBA.out _).mono ?_
      rintro e w1 ⟨rfl, hb⟩
      have D1 := Lib.hid (D0.out.below hb)
      have G1 := Lib.hid (G0.out.trans (Grow.of_below (F := fun _ => False) hb) (fun _ h => h.elim))
      have I1 := Lib.hid (I0.out.below hb)
      have Z1 : Hid (w.heap.size + 2 ≤ w1.heap.size) := Lib.hid (by rw [← Z0.out]; exact hb.size)
      obtain ⟨c0, c1, c2⟩ := I1.out.cells
      clear hb
      have HP := Lib.hid (HOK.out trivial w1)
      go_wp2_with fail
      refine HP.out.mono ?_
      rintro e w2 ⟨rfl, hb⟩
      have D2 := Lib.hid (D1.out.below hb)
      have G2 := Lib.hid (G1.out.trans (Grow.of_below (F := fun _ => False) hb) (fun _ h => h.elim))
      have Z2 : Hid (w.heap.size + 2 ≤ w2.heap.size) := Lib.hid (Nat.le_trans Z1.out hb.size)
      have HW := stepP_write D2.out g hN (fun k hk => hR k (by have := Z2.out; omega)) node epoch pl (str IB) (by rw [str_size, HIB.out]; decide)
      rw [← HS2.out] at HW
      replace HW := Lib.hid HW
      clear hb c0 c1 c2
      go_wp2_with fail
      refine HW.out.mono ?_
      rintro e w3 ⟨rfl, hd, hg⟩
      have D3 := Lib.hid hd
      have G3 := Lib.hid (G2.out.trans hg (fun _ h => .inl h))
      clear hd hg
      go_wp2
      go_ret
      exact ⟨rfl, D3.out, G3.out⟩
  · generalize (blockAtR sh0 ib).1 = pl at *
    generalize (blockAtR sh0 ib).2 = er at *
    subst he
    have hsr : SR = (30, D) := by rw [HST.out, if_pos (by decide)]
    subst hsr
    go_enter Tryz.func9, Tryz.ntmps9
    go_wp2_with fail
    refine (HBA.out _).mono ?_
    rintro e w1 ⟨rfl, hb⟩
    have D1 := Lib.hid (D0.out.below hb)
    have G1 := Lib.hid (G0.out.trans (Grow.of_below (F := fun _ => False) hb) (fun _ h => h.elim))
    clear hb
    go_wp2
    go_ret
    exact ⟨rfl, D1.out, G1.out⟩
end

/-- What Load tells. -/
def loadB (D : DS) (n : Int) : Im × Int :=
  if (blockAtR sh0 n).2 ≠ 0 then (zIm, 30) else if (readR D (blockAtR sh0 n).1 2).2 ≠ 0 then (zIm, (readR D (blockAtR sh0 n).1 2).2) else getB n (readR D (blockAtR sh0 n).1 2).1.data.toList


/-- The zero image is stored, and the call ends: what is left. -/
theorem imBlk.zset {w : World} {q : Nat} (h : imBlk zIm w q) : imBlk zIm (((w.setCell ⟨q, 0, none⟩ (.int .i64 0)).setCell ⟨q, 1, none⟩ (.int .u64 0)).setCell ⟨q, 2, none⟩ (.string ⟨#[]⟩)) q := h.set zIm
theorem grow_set3 {w : World} {q : Nat} (a b c : Value) : Grow (fun k => k = q) w (((w.setCell ⟨q, 0, none⟩ a).setCell ⟨q, 1, none⟩ b).setCell ⟨q, 2, none⟩ c) := by
  have gs : ∀ (v : World) (j : Nat) (x : Value), Grow (fun k => k = q) v (v.setCell ⟨q, j, none⟩ x) := fun v j x => Grow.setCell (F := fun k => k = q) rfl x
  exact ((gs _ _ _).trans (gs _ _ _) (fun _ h => .inl h)).trans (gs _ _ _) (fun _ h => .inl h)

def LoadTo (R : Nat → Prop) (b : Nat) (D : DS) (r : Im × Int) (w : World) (e : Ending) (w' : World) : Prop := e = .returned (.tuple #[r.1.val, .int .i64 r.2]) ∧ DiskP R b D w' ∧ Below w.heap.size w w'

section
variable {R : Nat → Prop} {b N : Nat} {D : DS} {w : World}

set_option maxHeartbeats 2000000 in
theorem bload_any (d : DiskP R b D w) (g : Good N D) (hN : N ≤ 900000) (n : Int) :
    Calls Tryz.prog 11 #[.pointer (some ⟨b, 0, none⟩), .agg #[.int .i64 2, .int .i64 10, .int .i64 8, .int .i64 4, .int .i64 32], .int .i64 n] w (LoadTo R b D (loadB D n) w) := by
  have hgr : Grow (fun _ => False) w ((w.alloc (.cells #[.int .i64 2, .int .i64 10, .int .i64 8, .int .i64 4, .int .i64 32] 31)).alloc (.cells #[.int .i64 0, .int .u64 0, .string ⟨#[]⟩] 24)) := (Grow.alloc _ _).trans (F' := fun _ => False) (Grow.alloc _ _) (fun _ h => h.elim)
  have hi0 : imBlk zIm ((w.alloc (.cells #[.int .i64 2, .int .i64 10, .int .i64 8, .int .i64 4, .int .i64 32] 31)).alloc (.cells #[.int .i64 0, .int .u64 0, .string ⟨#[]⟩] 24)) (w.heap.size + 1) := by
    have := heap_alloc_new (w.alloc (.cells #[.int .i64 2, .int .i64 10, .int .i64 8, .int .i64 4, .int .i64 32] 31)) (.cells #[.int .i64 0, .int .u64 0, .string ⟨#[]⟩] 24)
    have e : (w.alloc (.cells #[.int .i64 2, .int .i64 10, .int .i64 8, .int .i64 4, .int .i64 32] 31)).heap.size = w.heap.size + 1 := by simp
    rw [e] at this
    exact this
  have hz0 : ((w.alloc (.cells #[.int .i64 2, .int .i64 10, .int .i64 8, .int .i64 4, .int .i64 32] 31)).alloc (.cells #[.int .i64 0, .int .u64 0, .string ⟨#[]⟩] 24)).heap.size = w.heap.size + 2 := by simp
  have D0 := Lib.hid (d.cap.grow hgr (fun _ h => h.elim))
  have B0 := Lib.hid (hgr.below (Nat.le_refl w.heap.size) (fun _ h => h.elim))
  have I0 := Lib.hid hi0
  have Z0 := Lib.hid hz0
  have HBA := Lib.hid (blkat0 n)
  have HLB : Hid (loadB D n = if (blockAtR sh0 n).2 ≠ 0 then (zIm, 30) else if (readR D (blockAtR sh0 n).1 2).2 ≠ 0 then (zIm, (readR D (blockAtR sh0 n).1 2).2) else getB n (readR D (blockAtR sh0 n).1 2).1.data.toList) := Lib.hid rfl
  have hg := g
  clear d hgr hi0 hz0
  generalize loadB D n = LB at *
  rcases blockAtR_err sh0 n with he | he
  · generalize (blockAtR sh0 n).1 = pl at *
    generalize (blockAtR sh0 n).2 = er at *
    subst he
    have HRD : Hid (∀ wx, DiskP (fun k => R k ∧ k < w.heap.size) b D wx → Calls Tryz.prog 47 #[.pointer (some ⟨b, 0, none⟩), .int .i64 pl, .int .i64 2] wx fun e w' => e = .returned (.tuple #[.string (readR D pl 2).1, .int .i64 (readR D pl 2).2]) ∧ DiskP (fun k => R k ∧ k < w.heap.size) b D w' ∧ Below wx.heap.size wx w') := Lib.hid (fun wx d => stepP_read d g hN pl 2)
    obtain ⟨rs, hrs⟩ : ∃ rs, rs = (readR D pl 2).1 := ⟨_, rfl⟩
    obtain ⟨re, hre⟩ : ∃ re, re = (readR D pl 2).2 := ⟨_, rfl⟩
    rw [← hrs, ← hre] at HRD HLB
    clear hrs hre g hg
    by_cases h0 : re = 0
    · subst h0
      have HL2 : Hid (LB = getB n rs.data.toList) := Lib.hid (by rw [HLB.out, if_neg (by decide), if_neg (by decide)])
      have HGT : Hid (∀ wx, Calls Tryz.prog 48 #[.int .i64 n, .string rs] wx (GetTo LB wx)) := Lib.hid (fun wx => by
        have h := bget_any n rs.data.toList wx
        rw [str_list, ← HL2.out] at h
        exact h)
      obtain ⟨⟨lb, lv, ld⟩, le⟩ := LB
      unfold GetTo Im.val at HGT
      dsimp only at HGT
      go_enter Tryz.func11, Tryz.ntmps11
      go_wp2_with fail
      refine (HBA.out _).mono ?_
      rintro e w1 ⟨rfl, hb⟩
      have D1 := Lib.hid (D0.out.below hb)
      have B1 := Lib.hid (B0.out.trans (hb.mono B0.out.size))
      have I1 := Lib.hid (I0.out.below hb)
      clear hb
      have HR := Lib.hid (HRD.out _ D1.out)
      go_wp2_with fail
      refine HR.out.mono ?_
      rintro e w2 ⟨rfl, hd, hb⟩
      have D2 := Lib.hid hd
      have B2 := Lib.hid (B1.out.trans (hb.mono B1.out.size))
      have I2 := Lib.hid (I1.out.below hb)
      clear hb hd
      go_wp2_with fail
      refine (HGT.out w2).mono ?_
      rintro e w3 ⟨rfl, hb⟩
      have D3 := Lib.hid (D2.out.below hb)
      have B3 := Lib.hid (B2.out.trans (hb.mono B2.out.size))
      have i3 := I2.out.below hb
      obtain ⟨r0, r1, r2⟩ := i3.cells
      have f0 := i3.fz 0
      have f1 := i3.fz 1
      have f2 := i3.fz 2
      have hlt := i3.lt
      have I4 := Lib.hid (i3.set (Im.mk lb lv ld))
      clear hb i3
      go_wp2
      have i4 : imBlk (Im.mk lb lv ld) (((w3.setCell ⟨w.heap.size + 1, 0, none⟩ (.int .i64 lb)).setCell ⟨w.heap.size + 1, 1, none⟩ (.int .u64 lv)).setCell ⟨w.heap.size + 1, 2, none⟩ (.string (str ld))) (w.heap.size + 1) := I4.out
      have b4 := below_set3 B3.out (w.heap.size + 1) (by omega) (.int .i64 lb) (.int .u64 lv) (.string (str ld))
      have d4 := (D3.out.grow (grow_set3 (q := w.heap.size + 1) (.int .i64 lb) (.int .u64 lv) (.string (str ld))) (fun k hk h => by have := h.2; omega)).mono (fun k hk => hk.1)
      clear r0 r1 r2
      generalize ((w3.setCell ⟨w.heap.size + 1, 0, none⟩ (.int .i64 lb)).setCell ⟨w.heap.size + 1, 1, none⟩ (.int .u64 lv)).setCell ⟨w.heap.size + 1, 2, none⟩ (.string (str ld)) = Wf at *
      obtain ⟨r0, r1, r2⟩ := i4.cells
      exact bodyPost_ret (v := .tuple #[(Im.mk lb lv ld).val, .int .i64 le]) (by simp [results, Tryz.results11, go_sem, r0, r1, r2]; rfl) rfl ⟨rfl, d4, b4⟩
    · have HL2 : Hid (LB = (zIm, re)) := Lib.hid (by rw [HLB.out, if_neg (by decide), if_pos h0])
      have hl2 := HL2.out
      subst hl2
      have h1 : (re == 0) = false := by simpa using h0
      have h2 : (re != 0) = true := by simpa using h0
      clear HLB HL2
      go_enter Tryz.func11, Tryz.ntmps11
      go_wp2_with fail
      refine (HBA.out _).mono ?_
      rintro e w1 ⟨rfl, hb⟩
      have D1 := Lib.hid (D0.out.below hb)
      have B1 := Lib.hid (B0.out.trans (hb.mono B0.out.size))
      have I1 := Lib.hid (I0.out.below hb)
      clear hb
      have HR := Lib.hid (HRD.out _ D1.out)
      go_wp2_with fail
      refine HR.out.mono ?_
      rintro e w2 ⟨rfl, hd, hb⟩
      have D2 := Lib.hid hd
      have B2 := Lib.hid (B1.out.trans (hb.mono B1.out.size))
      have i3 := I1.out.below hb
      obtain ⟨r0, r1, r2⟩ := i3.cells
      have f0 := i3.fz 0
      have f1 := i3.fz 1
      have f2 := i3.fz 2
      have hlt := i3.lt
      have I4 := Lib.hid i3.zset
      clear hb hd i3
      go_wp2
      have i4 := I4.out
      have b4 := below_set3 B2.out (w.heap.size + 1) (by omega) (.int .i64 0) (.int .u64 0) (.string ⟨#[]⟩)
      have d4 := (D2.out.grow (grow_set3 (q := w.heap.size + 1) (.int .i64 0) (.int .u64 0) (.string ⟨#[]⟩)) (fun k hk h => by have := h.2; omega)).mono (fun k hk => hk.1)
      clear r0 r1 r2
      generalize ((w2.setCell ⟨w.heap.size + 1, 0, none⟩ (.int .i64 0)).setCell ⟨w.heap.size + 1, 1, none⟩ (.int .u64 0)).setCell ⟨w.heap.size + 1, 2, none⟩ (.string ⟨#[]⟩) = Wf at *
      obtain ⟨r0, r1, r2⟩ := i4.cells
      exact bodyPost_ret (v := .tuple #[zIm.val, .int .i64 re]) (by simp [results, Tryz.results11, go_sem, r0, r1, r2]; rfl) rfl ⟨rfl, d4, b4⟩
  · generalize (blockAtR sh0 n).1 = pl at *
    generalize (blockAtR sh0 n).2 = er at *
    subst he
    have HL2 : Hid (LB = (zIm, 30)) := Lib.hid (by rw [HLB.out, if_pos (by decide)])
    have hl2 := HL2.out
    subst hl2
    clear HLB HL2 g hg
    go_enter Tryz.func11, Tryz.ntmps11
    go_wp2_with fail
    refine (HBA.out _).mono ?_
    rintro e w1 ⟨rfl, hb⟩
    have D2 := Lib.hid (D0.out.below hb)
    have B2 := Lib.hid (B0.out.trans (hb.mono B0.out.size))
    have i3 := I0.out.below hb
    obtain ⟨r0, r1, r2⟩ := i3.cells
    have f0 := i3.fz 0
    have f1 := i3.fz 1
    have f2 := i3.fz 2
    have hlt := i3.lt
    have I4 := Lib.hid i3.zset
    clear hb i3
    go_wp2
    have i4 := I4.out
    have b4 := below_set3 B2.out (w.heap.size + 1) (by omega) (.int .i64 0) (.int .u64 0) (.string ⟨#[]⟩)
    have d4 := (D2.out.grow (grow_set3 (q := w.heap.size + 1) (.int .i64 0) (.int .u64 0) (.string ⟨#[]⟩)) (fun k hk h => by have := h.2; omega)).mono (fun k hk => hk.1)
    clear r0 r1 r2
    generalize ((w1.setCell ⟨w.heap.size + 1, 0, none⟩ (.int .i64 0)).setCell ⟨w.heap.size + 1, 1, none⟩ (.int .u64 0)).setCell ⟨w.heap.size + 1, 2, none⟩ (.string ⟨#[]⟩) = Wf at *
    obtain ⟨r0, r1, r2⟩ := i4.cells
    exact bodyPost_ret (v := .tuple #[zIm.val, .int .i64 30]) (by simp [results, Tryz.results11, go_sem, r0, r1, r2]; rfl) rfl ⟨rfl, d4, b4⟩
end

end Go.Proofs.YtkgdpmeheakdcaaGreat
