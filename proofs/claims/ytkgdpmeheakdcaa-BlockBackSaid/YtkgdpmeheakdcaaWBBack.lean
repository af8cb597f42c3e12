/- BlockBack: plain laws and walk. -/
import Derived.Test.YtkgdpmeheakdcaaWTells
import Derived.Test.YtkgdpmeheakdcaaXor
namespace Go.Proofs.Ytkgdpmeheakdcaa
open Go.RowKit
set_option linter.all false
set_option maxRecDepth 100000

theorem sec0_set (L : List UInt8) (j : Nat) (c : UInt8) (h : 64 ≤ j) : sec0 (L.set j c) = sec0 L := by
  unfold sec0
  simp only [Nat.mul_zero, List.drop_zero]
  rw [List.take_set, List.set_eq_of_length_le (by rw [List.length_take]; omega)]
theorem sec0_set_in (L : List UInt8) (j : Nat) (c : UInt8) : sec0 (L.set j c) = (sec0 L).set j c := by
  unfold sec0
  simp only [Nat.mul_zero, List.drop_zero]
  rw [List.take_set]
theorem sec1_set (L : List UInt8) (j : Nat) (c : UInt8) (h : j < 64) : sec1 (L.set j c) = sec1 L := by
  unfold sec1
  rw [List.drop_set, if_pos (by omega)]
theorem sec1_set_in (L : List UInt8) (j : Nat) (c : UInt8) (h : 64 ≤ j) : sec1 (L.set j c) = (sec1 L).set (j - 64) c := by
  unfold sec1
  rw [List.drop_set, if_neg (by omega), List.take_set]
theorem sec0_get (L : List UInt8) (hL : L.length = 128) (j : Nat) (h : j < 64) : (sec0 L)[j]'(by rw [sec0_len L hL]; exact h) = L[j] := by
  simp [sec0]
theorem sec1_get (L : List UInt8) (hL : L.length = 128) (j : Nat) (h : 64 ≤ j) (h2 : j < 128) : (sec1 L)[j - 64]'(by rw [sec1_len L hL]; omega) = L[j] := by
  simp only [sec1, List.getElem_take, List.getElem_drop]
  congr 1
  omega
theorem secs_nz (L : List UInt8) (h : sumOk (sec0 L) = true ∨ sumOk (sec1 L) = true) : L ≠ zerosL 128 := by
  rintro rfl
  have h0 : sec0 (zerosL 128) = zerosL 64 := by decide
  have h1 : sec1 (zerosL 128) = zerosL 64 := by decide
  rw [h0, h1, zeros64_bad] at h
  rcases h with h | h <;> cases h
theorem getB_x6 (n : Int) (L : List UInt8) (hL : L.length = 128) (hz : L ≠ zerosL 128) (h : sumOk (sec0 L) = false) : getB n L = (zIm, 6) := by
  unfold getB
  rw [if_neg (by simp [hL]), if_neg hz, readB_no h, if_pos (show (zIm, (6 : Int)).2 ≠ 0 by decide)]
theorem getB_y6 (n : Int) (L : List UInt8) (hL : L.length = 128) (hz : L ≠ zerosL 128) (h : sumOk (sec1 L) = false) : getB n L = (zIm, 6) := by
  cases h0 : sumOk (sec0 L) with
  | false => exact getB_x6 n L hL hz h0
  | true =>
    unfold getB
    rw [if_neg (by simp [hL]), if_neg hz, readB_yes h0, if_neg (fun h => h rfl), readB_no h, if_pos (show (zIm, (6 : Int)).2 ≠ 0 by decide)]
theorem getB_changed (n : Int) (i : Im) (hi : i.ok = true) (j : Nat) (hj : j < i.bytes.length) (c : UInt8) (hc : c ≠ i.bytes[j]) : getB n (i.bytes.set j c) = (zIm, 6) := by
  have hd := (Im.ok_iff.1 hi).2.2
  have hL := Im.bytes_length i hi
  have s0 : sumOk (sec0 i.bytes) = true := by rw [bytes_sec0 i hi]; exact secL_ok _ _ _ hd 0 (by decide)
  have s1 : sumOk (sec1 i.bytes) = true := by rw [bytes_sec1 i hi]; exact secL_ok _ _ _ hd 1 (by decide)
  have l0 := sec0_len _ hL
  have l1 := sec1_len _ hL
  generalize i.bytes = L at *
  have hL2 : (L.set j c).length = 128 := by rw [List.length_set, hL]
  by_cases h : j < 64
  · refine getB_x6 n _ hL2 (secs_nz _ (.inr (by rw [sec1_set L j c h]; exact s1))) ?_
    rw [sec0_set_in]
    exact sumOk_changed (by omega) s0 j (by omega) c (by rw [sec0_get L hL j h]; exact hc)
  · refine getB_y6 n _ hL2 (secs_nz _ (.inl (by rw [sec0_set L j c (by omega)]; exact s0))) ?_
    rw [sec1_set_in L j c (by omega)]
    exact sumOk_changed (by omega) s1 (j - 64) (by omega) c (by rw [sec1_get L hL j (by omega) (by omega)]; exact hc)
theorem getB_other (n : Int) (i : Im) (hi : i.ok = true) (hv : i.v < 18446744073709551616) (hn : n ≠ i.b) : getB n i.bytes = (zIm, 4) := by
  obtain ⟨h0, h1, hd⟩ := Im.ok_iff.1 hi
  have hb : ((i.b.toNat : Nat) : Int) = i.b := Int.toNat_of_nonneg h0
  unfold getB
  rw [if_neg (by simp [Im.bytes_length i hi]), if_neg (bytes_nz i hi), bytes_sec0 i hi, bytes_sec1 i hi, readB_secL _ _ (by omega) hv _ hd 0 (by decide), readB_secL _ _ (by omega) hv _ hd 1 (by decide)]
  rw [if_neg (fun h => h rfl), if_neg (fun h => h rfl), if_pos (.inl (by simp only [hb]; exact fun e => hn e.symm))]

set_option maxHeartbeats 4000000 in
theorem bback_walk (s : Im) (n pl y : Int) (W : World) (hv : s.v < 18446744073709551616) (hsl : s.d.length ≤ maxLen) (hpl : i64In pl) (hy : i64In y) :
    Calls Try.prog 15 #[s.val, .int .i64 n, .int .i64 pl, .int .i64 y] W fun e w' => e = .returned (.bool true) ∧ Below W.heap.size W w' := by
  have hds : ((str s.d).size : Int) = s.d.length := by rw [str_size]
  have HA := Lib.hid alive10_any
  have hB0 : Below W.heap.size W (W.alloc (.cells #[.int .i64 s.b, .int .u64 s.v, .string (str s.d)] 77)) := (Below.refl _ _).alloc (Nat.le_refl _) _
  have hI0 : imBlk s (W.alloc (.cells #[.int .i64 s.b, .int .u64 s.v, .string (str s.d)] 77)) W.heap.size := heap_alloc_new W _
  have hL0 : Ib [(s, W.heap.size)] (W.alloc (.cells #[.int .i64 s.b, .int .u64 s.v, .string (str s.d)] 77)) := by
    intro y hy
    rcases List.mem_cons.1 hy with rfl | hy
    · exact hI0
    · cases hy
  have B0 := Lib.hid hB0
  have L0 := Lib.hid hL0
  clear hB0 hI0 hL0
  by_cases h1 : s.d.length ≤ 300
  · have g1 : decide (300 < (s.d.length : Int)) = false := by simp; omega
    cases hok : s.ok with
    | false =>
      have HP := Lib.hid (fun w => bput_no s hok (by omega) w)
      unfold Im.val at *
      clear hok
      go_enter Try.func15, Try.ntmps15
      go_wp2_with fail
      refine (HP.out _).mono ?_
      rintro e w1 ⟨rfl, hb⟩
      have B1 := Lib.hid (B0.out.trans (hb.mono B0.out.size))
      clear hb
      go_wp2_with fail
      refine (HA.out _).mono ?_
      rintro e w2 ⟨rfl, hb⟩
      have B2 := Lib.hid (B1.out.trans (hb.mono B1.out.size))
      clear hb
      go_wp2
      go_ret
      exact ⟨rfl, B2.out⟩
    | true =>
      have HP := Lib.hid (fun w => bput_ok s hok hv w)
      have HG1 : Hid (∀ w, Calls Try.prog 49 #[.int .i64 s.b, .string (str s.bytes)] w (GetTo (s, 0) w)) := Lib.hid (fun w => by
        have h := bget_any s.b s.bytes w
        rw [getB_bytes s hok hv] at h
        exact h)
      have HG2 := Lib.hid (fun w => bget_any n s.bytes w)
      have HO : Hid (n = s.b ∨ getB n s.bytes = (zIm, 4)) := Lib.hid (by
        by_cases hn : n = s.b
        · exact .inl hn
        · exact .inr (getB_other n s hok hv hn))
      have HCH : Hid (∀ j (hj : j < s.bytes.length) c, c ≠ s.bytes[j] → ∀ w, Calls Try.prog 49 #[.int .i64 s.b, .string (str (s.bytes.set j c))] w (GetTo (zIm, 6) w)) := Lib.hid (fun j hj c hc w => by
        have h := bget_any s.b (s.bytes.set j c) w
        rw [getB_changed s.b s hok j hj c hc] at h
        exact h)
      have hbl := Im.bytes_length s hok
      have hshn : (str s.bytes).size = 128 := by rw [str_size, hbl]
      have hsh : ((str s.bytes).size : Int) = 128 := by rw [hshn]; rfl
      unfold GetTo at HG1 HG2 HCH
      generalize s.bytes = SB at *
      generalize getB n SB = G2 at *
      have HSH := Lib.hid hshn
      have HBL := Lib.hid hbl
      clear hok hshn hbl
      obtain ⟨sb, sv, sd⟩ := s
      obtain ⟨⟨cb, cv, cd⟩, ce⟩ := G2
      unfold Im.val at *
      unfold zIm at *
      dsimp only at *
      have HO2 : Hid (n = sb ∨ ce = 4) := Lib.hid (HO.out.imp id (fun h => by
        have := congrArg Prod.snd h
        exact this))
      clear hv hsl h1 HO
      go_enter Try.func15, Try.ntmps15
      go_wp2_with fail
      refine (HP.out _).mono ?_
      rintro e w1 ⟨rfl, hb⟩
      have L1 := Lib.hid (L0.out.below hb)
      have B1 := Lib.hid (B0.out.trans (hb.mono B0.out.size))
      obtain ⟨c0, c1, c2⟩ := imBlk.cells (L1.out _ (List.mem_cons_self ..))
      dsimp only at c0 c1 c2
      clear hb L0 B0
      go_wp2_with fail
      refine (HG1.out _).mono ?_
      rintro e w2 ⟨rfl, hb⟩
      have l2 := (L1.out.below hb).add ⟨sb, sv, sd⟩
      have L2 := Lib.hid l2
      have B2 := Lib.hid ((B1.out.trans (hb.mono B1.out.size)).alloc (B1.out.trans (hb.mono B1.out.size)).size (.cells #[.int .i64 sb, .int .u64 sv, .string (str sd)] 77))
      dsimp only at L2 B2 l2
      clear L1 B1 c0 c1 c2
      obtain ⟨k0, k1, k2⟩ := imBlk.cells ((L2.out _ (.tail _ (.head _))))
      dsimp only at k0 k1 k2
      clear l2 hb
      go_upto_region 7 with fail
      generalize w2.alloc (.cells #[.int .i64 sb, .int .u64 sv, .string (str sd)] 77) = V2 at *
      generalize w2.heap.size = q11 at *
      obtain ⟨d0, d1, d2⟩ := imBlk.cells ((L2.out _ (.head _)))
      dsimp only at d0 d1 d2
      go_wp2_with fail
      refine (HG2.out _).mono ?_
      rintro e w3 ⟨rfl, hb⟩
      have L3 := Lib.hid ((L2.out.below hb).add ⟨cb, cv, cd⟩)
      have B3 := Lib.hid ((B2.out.trans (hb.mono B2.out.size)).alloc (B2.out.trans (hb.mono B2.out.size)).size (.cells #[.int .i64 cb, .int .u64 cv, .string (str cd)] 77))
      dsimp only at L3 B3
      clear hb L2 B2 k0 k1 k2 d0 d1 d2
      go_upto_region 10 with fail
      generalize w3.alloc (.cells #[.int .i64 cb, .int .u64 cv, .string (str cd)] 77) = V3 at *
      generalize w3.heap.size = q13 at *
      have fin : ∀ (w : World), Ib [(⟨cb, cv, cd⟩, q13), (⟨sb, sv, sd⟩, q11), (⟨sb, sv, sd⟩, W.heap.size)] w → Calls Try.prog 46 #[] w fun e w' => e = .returned (.bool true) ∧ Below w.heap.size w w' ∧ w'.cell? ⟨W.heap.size, 0, none⟩ = some (.int .i64 sb) := fun w hl => by
        refine (HA.out w).mono ?_
        rintro e w' ⟨rfl, hb⟩
        obtain ⟨a0, a1, a2⟩ := imBlk.cells ((hl.below hb) _ (.tail _ (.tail _ (.head _))))
        exact ⟨rfl, hb, a0⟩
      have FIN := Lib.hid fin
      clear fin HA
      by_cases h0 : pl < 0
      · have e0 : decide (pl < 0) = true := by simpa using h0
        have F1 := Lib.hid (FIN.out V3 L3.out)
        rcases HO2.out with rfl | rfl
        · go_wp2_with fail
          refine F1.out.mono ?_
          rintro e w4 ⟨rfl, hb, a0⟩
          have B4 := Lib.hid (B3.out.trans (hb.mono B3.out.size))
          clear hb
          go_wp2
          go_ret
          exact ⟨rfl, B4.out⟩
        · by_cases hn : n = sb
          · have e1 : (n == sb) = true := by simpa using hn
            go_wp2_with fail
            refine F1.out.mono ?_
            rintro e w4 ⟨rfl, hb, a0⟩
            have B4 := Lib.hid (B3.out.trans (hb.mono B3.out.size))
            clear hb
            go_wp2
            go_ret
            exact ⟨rfl, B4.out⟩
          · have e1 : (n == sb) = false := by simpa using hn
            go_wp2_with fail
            refine F1.out.mono ?_
            rintro e w4 ⟨rfl, hb, a0⟩
            have B4 := Lib.hid (B3.out.trans (hb.mono B3.out.size))
            clear hb
            go_wp2
            go_ret
            exact ⟨rfl, B4.out⟩
      · have e0 : decide (pl < 0) = false := by simpa using h0
        by_cases hy0 : y % 256 = 0
        · have hy1 : (y % 256 == 0) = true := by simpa using hy0
          have F1 := Lib.hid (FIN.out V3 L3.out)
          rcases HO2.out with rfl | rfl
          · go_wp2_with fail
            refine F1.out.mono ?_
            rintro e w4 ⟨rfl, hb, a0⟩
            have B4 := Lib.hid (B3.out.trans (hb.mono B3.out.size))
            clear hb
            go_wp2
            go_ret
            exact ⟨rfl, B4.out⟩
          · by_cases hn : n = sb
            · have e1 : (n == sb) = true := by simpa using hn
              go_wp2_with fail
              refine F1.out.mono ?_
              rintro e w4 ⟨rfl, hb, a0⟩
              have B4 := Lib.hid (B3.out.trans (hb.mono B3.out.size))
              clear hb
              go_wp2
              go_ret
              exact ⟨rfl, B4.out⟩
            · have e1 : (n == sb) = false := by simpa using hn
              go_wp2_with fail
              refine F1.out.mono ?_
              rintro e w4 ⟨rfl, hb, a0⟩
              have B4 := Lib.hid (B3.out.trans (hb.mono B3.out.size))
              clear hb
              go_wp2
              go_ret
              exact ⟨rfl, B4.out⟩
        · obtain ⟨i, hi⟩ : ∃ i : Nat, (i : Int) = pl % 128 := ⟨(pl % 128).toNat, by have := Int.emod_nonneg pl (show (128 : Int) ≠ 0 by decide); omega⟩
          have hil : i < 128 := by omega
          have hi1 : pl % 128 = (i : Int) := hi.symm
          have hi2 : pl.tmod 128 = (i : Int) := by rw [Int.tmod_eq_emod_of_nonneg (by omega)]; exact hi1
          have hge : 0 ≤ pl := by omega
          have hib : i < SB.length := by rw [HBL.out]; exact hil
          have hxne : xorB SB[i] y ≠ SB[i] := xorB_ne _ _ hy0
          have HC : Hid _ := Lib.hid (HCH.out i hib (xorB SB[i] y) hxne)
          have hx := xorB_val SB[i] y
          have HB1 : Hid (∀ wx : World, (Lib.bytesWorld wx 5 (str SB)).cell? ⟨wx.heap.size, i, none⟩ = some (.int .u8 (SB[i].toNat : Int))) := Lib.hid (fun wx => by
            rw [Lib.bytesWorld_cell wx _ _ i (by rw [HSH.out]; exact hil)]
            simp [str_toList, List.getD_eq_getElem?_getD, List.getElem?_eq_getElem hib])
          have HB2 : Hid (∀ (wx : World) cap, (convert 40 9 (.slice (some ⟨wx.heap.size, 0, none⟩) 128 cap)).run Try.prog ((Lib.bytesWorld wx 5 (str SB)).setCell ⟨wx.heap.size, i, none⟩ (.int .u8 (xorB SB[i] y).toNat)) = .ok (.string (str (SB.set i (xorB SB[i] y)))) ((Lib.bytesWorld wx 5 (str SB)).setCell ⟨wx.heap.size, i, none⟩ (.int .u8 (xorB SB[i] y).toNat))) := Lib.hid (fun wx cap => by
            have h := back_conv (B := wx.heap.size) (cap := cap) (L := SB.set i (xorB SB[i] y)) (fun j hj => byte_set (w := wx) i hib (xorB SB[i] y) j hj)
            rw [List.length_set, HBL.out] at h
            exact h)
          have hfr : (Lib.bytesWorld V3 5 (str SB)).frozen? ⟨V3.heap.size, i, none⟩ = false := bytesWorld_frozen V3 _ _ i (by rw [HSH.out]; exact hil)
          have hcv : Sem.run Try.prog (convert 9 40 (.string (str SB))) V3 = .ok (.slice (some ⟨V3.heap.size, 0, none⟩) 128 (grownCap V3 128 0 5)) (Lib.bytesWorld V3 5 (str SB)) := by
            have h := Lib.run_convert_string_bytes (P := Try.prog) V3 9 40 5 (str SB) Try.underlying9 Try.underlying40 Try.underlying5
            rw [HSH.out] at h
            exact h
          have HSC : Hid ((SB.set i (xorB SB[i] y)).length = 128) := Lib.hid (by rw [List.length_set]; exact HBL.out)
          have HX := Lib.hid hx
          have hy1 : (y % 256 == 0) = false := by simpa using hy0
          clear hx HCH hi hxne
          generalize xorB SB[i] y = cb at *
          generalize SB.set i cb = SC at *
          generalize SB[i] = ch at *
          have hcl := HB1.out V3
          have hxx := HX.out
          obtain ⟨k0, k1, k2⟩ := imBlk.cells ((L3.out _ (.tail _ (.tail _ (.head _)))))
          dsimp only at k0 k1 k2
          have hqs := imBlk.lt (L3.out _ (.tail _ (.tail _ (.head _))))
          dsimp only at hqs
          go_upto_region 14 with fail
          have hbk := HB2.out V3 (grownCap V3 128 0 5)
          have hbV3 : Below V3.heap.size V3 ((Lib.bytesWorld V3 5 (str SB)).setCell ⟨V3.heap.size, i, none⟩ (.int .u8 cb.toNat)) := (below_bytes (Below.refl _ _) (Nat.le_refl _) _ _).setCell (Nat.le_refl _) _
          have BV := Lib.hid (B3.out.trans (hbV3.mono B3.out.size))
          have LV := Lib.hid (L3.out.below hbV3)
          clear hbV3 hcv hcl hfr hxx B3 L3 k0 k1 k2 hqs
          generalize (Lib.bytesWorld V3 5 (str SB)).setCell ⟨V3.heap.size, i, none⟩ (.int .u8 cb.toNat) = V at *
          obtain ⟨k0, k1, k2⟩ := imBlk.cells ((LV.out _ (.tail _ (.tail _ (.head _)))))
          dsimp only at k0 k1 k2
          go_wp2_with fail
          refine (HC.out _).mono ?_
          rintro e w5 ⟨rfl, hb⟩
          have l5 := LV.out.below hb
          have ha5 : Below w5.heap.size w5 (w5.alloc (.cells #[.int .i64 0, .int .u64 0, .string (str [])] 77)) := (Below.refl _ _).alloc (Nat.le_refl _) _
          have B5 := Lib.hid ((BV.out.trans (hb.mono BV.out.size)).trans (ha5.mono (Nat.le_trans BV.out.size hb.size)))
          have F1 := Lib.hid (FIN.out _ (l5.below ha5))
          clear hb hbk BV LV l5 ha5 k0 k1 k2
          rcases HO2.out with rfl | rfl
          · go_wp2_with fail
            refine F1.out.mono ?_
            rintro e w6 ⟨rfl, hb, a0⟩
            have B6 := Lib.hid (B5.out.trans (hb.mono B5.out.size))
            clear hb
            go_wp2
            go_ret
            exact ⟨rfl, B6.out⟩
          · by_cases hn : n = sb
            · have e1 : (n == sb) = true := by simpa using hn
              go_wp2_with fail
              refine F1.out.mono ?_
              rintro e w6 ⟨rfl, hb, a0⟩
              have B6 := Lib.hid (B5.out.trans (hb.mono B5.out.size))
              clear hb
              go_wp2
              go_ret
              exact ⟨rfl, B6.out⟩
            · have e1 : (n == sb) = false := by simpa using hn
              go_wp2_with fail
              refine F1.out.mono ?_
              rintro e w6 ⟨rfl, hb, a0⟩
              have B6 := Lib.hid (B5.out.trans (hb.mono B5.out.size))
              clear hb
              go_wp2
              go_ret
              exact ⟨rfl, B6.out⟩
  · have g1 : decide (300 < (s.d.length : Int)) = true := by simp; omega
    unfold Im.val
    go_enter Try.func15, Try.ntmps15
    go_wp2_with fail
    refine (HA.out _).mono ?_
    rintro e w1 ⟨rfl, hb⟩
    have B1 := Lib.hid (B0.out.trans (hb.mono B0.out.size))
    clear hb
    go_wp2
    go_ret
    exact ⟨rfl, B1.out⟩

end Go.Proofs.Ytkgdpmeheakdcaa
