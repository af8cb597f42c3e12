/- SuperBack: the law's walk. -/
import Derived.Test.YtkgdpmeheakdcaaWApart
import Derived.Test.YtkgdpmeheakdcaaSGetX
import Derived.Test.YtkgdpmeheakdcaaOpenS
namespace Go.Proofs.Ytkgdpmeheakdcaa
open Go.RowKit
set_option linter.all false
set_option maxRecDepth 100000

theorem str_ext_to (X : List UInt8) (n : Nat) : (str X).extract 0 n = str (X.take n) := by
  apply ByteArray.ext
  apply Array.ext'
  rw [ByteArray.data_extract, Array.toList_extract, List.extract_eq_drop_take]
  simp [str]

/-- A byte that an xor makes. -/
def xorB (c : UInt8) (by_ : Int) : UInt8 := UInt8.ofNat (c.toNat ^^^ (by_ % 256).toNat)
theorem xorB_val (c : UInt8) (y : Int) : bits BinOp.xor IntKind.u8 (c.toNat : Int) (y % 256) = ((xorB c y).toNat : Int) := by
  have h1 := c.toNat_lt
  have h2 : 0 ≤ y % 256 := Int.emod_nonneg _ (by decide)
  have h3 : y % 256 < 256 := Int.emod_lt_of_pos _ (by decide)
  have h4 : c.toNat ^^^ (y % 256).toNat < 2 ^ 8 := Nat.xor_lt_two_pow (by omega) (by omega)
  have h5 := u8_xor (c.toNat : Int) (y % 256) (by omega) (by omega) h2 h3
  rw [h5]
  unfold xorB
  rw [UInt8.toNat_ofNat', Int.toNat_natCast]
  omega
theorem xorB_zero (c : UInt8) (y : Int) (h : y % 256 = 0) : xorB c y = c := by
  unfold xorB
  rw [h]
  apply UInt8.toNat_inj.1
  rw [UInt8.toNat_ofNat']
  have := c.toNat_lt
  simp
theorem xorB_ne (c : UInt8) (y : Int) (h : y % 256 ≠ 0) : xorB c y ≠ c := by
  intro e
  have e2 : (xorB c y).toNat = c.toNat := by rw [e]
  have h1 := c.toNat_lt
  have h3 : y % 256 < 256 := Int.emod_lt_of_pos _ (by decide)
  have h2 : 0 ≤ y % 256 := Int.emod_nonneg _ (by decide)
  have h4 : c.toNat ^^^ (y % 256).toNat < 2 ^ 8 := Nat.xor_lt_two_pow (by omega) (by omega)
  unfold xorB at e2
  rw [UInt8.toNat_ofNat', Nat.mod_eq_of_lt h4] at e2
  have e3 : c.toNat ^^^ (y % 256).toNat = c.toNat ^^^ 0 := by rw [e2, Nat.xor_zero]
  rw [Nat.xor_comm c.toNat, Nat.xor_comm c.toNat] at e3
  have := xor_cancel e3
  omega

/-- What Get tells of a superblock with a byte changed. -/
theorem sget_changed (s : Sh) (hs : s.ok = true) (i : Nat) (hi : i < s.bytes.length) (y : Int) (w : World) :
    Calls Try.prog 45 #[.string (str (s.bytes.set i (xorB s.bytes[i] y)))] w fun e w' => (∃ a0 a1 a2 a3 a4 g : Int, e = .returned (.tuple #[.agg #[.int .i64 a0, .int .i64 a1, .int .i64 a2, .int .i64 a3, .int .i64 a4], .int .i64 g]) ∧ (y % 256 = 0 ∨ g = 6)) ∧ Below w.heap.size w w' := by
  by_cases hy : y % 256 = 0
  · rw [xorB_zero _ _ hy, List.set_getElem_self]
    refine (sget_ok s hs w).mono ?_
    rintro e w' ⟨rfl, hb⟩
    exact ⟨⟨_, _, _, _, _, _, rfl, .inl hy⟩, hb⟩
  · refine (sget_bad _ (by rw [List.length_set, Sh.bytes_length]) (sumOk_changed (by rw [Sh.bytes_length]; decide) s.bytes_ok i hi _ (xorB_ne _ _ hy)) w).mono ?_
    rintro e w' ⟨rfl, hb⟩
    exact ⟨⟨_, _, _, _, _, _, rfl, .inr rfl⟩, hb⟩

theorem below_bytes {B : Nat} {w w' : World} (h : Below B w w') (hB : B ≤ w'.heap.size) (e : TypeId) (s : ByteArray) : Below B w (Lib.bytesWorld w' e s) :=
  h.trans ⟨rfl, rfl, rfl, by rw [Lib.bytesWorld_size]; omega, fun k hk => Lib.bytesWorld_at_old w' e s k (by omega)⟩

set_option maxHeartbeats 2000000 in
theorem back_walk (s : Sh) (pl y : Int) (w : World) (hpl : i64In pl) (hy : i64In y) :
    Calls Try.prog 13 #[s.val, .int .i64 pl, .int .i64 y] w fun e w' => e = .returned (.bool true) ∧ Below w.heap.size w w' := by
  have HV := fun w => valid_any s w
  cases hs : s.ok with
  | false =>
    have HP := fun w => sput_no s hs w
    rw [hs] at HV
    obtain ⟨n, bl, l, c, e⟩ := s
    unfold Sh.val at *
    dsimp only at *
    replace HV := Lib.hid HV
    replace HP := Lib.hid HP
    clear hs
    go_enter Try.func13, Try.ntmps13
    go_wp2_with fail
    refine (HP.out _).mono ?_
    rintro e w1 ⟨rfl, hb⟩
    have s1 : blk5 64 n bl l c e w1 w.heap.size := by
      unfold blk5
      rw [hb.block _ (by simp)]
      exact heap_alloc_new w _
    have S1 := Lib.hid s1
    have B1 := Lib.hid (((Below.refl w.heap.size w).alloc (Nat.le_refl _) _).trans (hb.mono (by simp)))
    have HA := Lib.hid (alive9_any w1)
    clear hb s1
    go_wp2_with fail
    refine HA.out.mono ?_
    rintro e w2 ⟨rfl, hb⟩
    have S2 := Lib.hid (S1.out.below hb)
    have B2 := Lib.hid (B1.out.trans (hb.mono B1.out.size))
    obtain ⟨c0, c1, c2, c3, c4⟩ := five_cells S2.out
    clear hb
    go_wp2_with fail
    refine (HV.out _).mono ?_
    rintro e w3 ⟨rfl, hb⟩
    have B3 := Lib.hid (B2.out.trans (hb.mono B2.out.size))
    clear hb
    go_wp2
    go_ret
    exact ⟨rfl, B3.out⟩
  | true =>
    have HP := fun w => sput_ok s hs w
    have HG := fun w => sget_ok s hs w
    have hbl := Sh.bytes_length s
    have HCH := Lib.hid (fun i hi y w => sget_changed s hs i hi y w)
    have hsh : ((str s.bytes).size : Int) = 64 := by rw [str_size, hbl]; rfl
    have hshn : (str s.bytes).size = 64 := by rw [str_size, hbl]
    generalize s.bytes = SB at *
    rw [hs] at HV
    obtain ⟨n, bl, l, c, e⟩ := s
    unfold Sh.val at *
    dsimp only at *
    replace HV := Lib.hid HV
    replace HP := Lib.hid HP
    replace HG := Lib.hid HG
    have HSH := Lib.hid hshn
    have HBL := Lib.hid hbl
    clear hs hbl hshn
    by_cases h0 : pl < 0
    · go_enter Try.func13, Try.ntmps13
      go_wp2_with fail
      refine (HP.out _).mono ?_
      rintro e w1 ⟨rfl, hb⟩
      have s1 : blk5 64 n bl l c e w1 w.heap.size := by
        unfold blk5
        rw [hb.block _ (by simp)]
        exact heap_alloc_new w _
      have S1 := Lib.hid s1
      have B1 := Lib.hid (((Below.refl w.heap.size w).alloc (Nat.le_refl _) _).trans (hb.mono (by simp)))
      clear hb s1
      go_wp2_with fail
      refine (HG.out _).mono ?_
      rintro e w2 ⟨rfl, hb⟩
      have S2 := Lib.hid (S1.out.below hb)
      have B2 := Lib.hid (B1.out.trans (hb.mono B1.out.size))
      obtain ⟨c0, c1, c2, c3, c4⟩ := five_cells S2.out
      have hlt2 := S2.out.lt
      have HA := Lib.hid (fun o => alive9_any (w2.alloc o))
      clear hb
      go_wp2_with fail
      refine (HA.out _).mono ?_
      rintro e w3 ⟨rfl, hb⟩
      have B3 := Lib.hid ((B2.out.alloc B2.out.size (.cells #[.int .i64 n, .int .i64 bl, .int .i64 l, .int .i64 c, .int .i64 e] 64)).trans (hb.mono (by have := B2.out.size; simp; omega)))
      clear hb
      go_wp2
      go_ret
      exact ⟨rfl, B3.out⟩
    · obtain ⟨i, hi⟩ : ∃ i : Nat, (i : Int) = pl % 64 := ⟨(pl % 64).toNat, by have := Int.emod_nonneg pl (show (64 : Int) ≠ 0 by decide); omega⟩
      have hil : i < 64 := by omega
      have hi1 : pl % 64 = (i : Int) := hi.symm
      have hi2 : pl.tmod 64 = (i : Int) := by rw [Int.tmod_eq_emod_of_nonneg (by omega)]; exact hi1
      have hge : 0 ≤ pl := by omega
      have hib : i < SB.length := by rw [HBL.out]; exact hil
      have HC : Hid _ := Lib.hid (fun w => HCH.out i hib y w)
      have hx := xorB_val SB[i] y
      have HB1 : Hid (∀ wx : World, (Lib.bytesWorld wx 5 (str SB)).cell? ⟨wx.heap.size, i, none⟩ = some (.int .u8 (SB[i].toNat : Int))) := Lib.hid (fun wx => by
        rw [Lib.bytesWorld_cell wx _ _ i (by rw [HSH.out]; exact hil)]
        simp [str_toList, List.getD_eq_getElem?_getD, List.getElem?_eq_getElem hib])
      have HB2 : Hid (∀ (wx : World) cap, (convert 40 9 (.slice (some ⟨wx.heap.size, 0, none⟩) 64 cap)).run Try.prog ((Lib.bytesWorld wx 5 (str SB)).setCell ⟨wx.heap.size, i, none⟩ (.int .u8 (xorB SB[i] y).toNat)) = .ok (.string (str (SB.set i (xorB SB[i] y)))) ((Lib.bytesWorld wx 5 (str SB)).setCell ⟨wx.heap.size, i, none⟩ (.int .u8 (xorB SB[i] y).toNat))) := Lib.hid (fun wx cap => by
        have h := back_conv (B := wx.heap.size) (cap := cap) (L := SB.set i (xorB SB[i] y)) (fun j hj => byte_set (w := wx) i hib (xorB SB[i] y) j hj)
        rw [List.length_set, HBL.out] at h
        exact h)
      have HB3 : Hid (∀ wx : World, (Lib.bytesWorld wx 5 (str SB)).frozen? ⟨wx.heap.size, i, none⟩ = false) := Lib.hid (fun wx => bytesWorld_frozen wx _ _ i (by rw [HSH.out]; exact hil))
      have HB4 : Hid (∀ wx : World, Sem.run Try.prog (convert 9 40 (.string (str SB))) wx = .ok (.slice (some ⟨wx.heap.size, 0, none⟩) 64 (grownCap wx 64 0 5)) (Lib.bytesWorld wx 5 (str SB))) := Lib.hid (fun wx => by
        have h := Lib.run_convert_string_bytes (P := Try.prog) wx 9 40 5 (str SB) Try.underlying9 Try.underlying40 Try.underlying5
        rw [HSH.out] at h
        exact h)
      have HSC : Hid ((SB.set i (xorB SB[i] y)).length = 64) := Lib.hid (by rw [List.length_set]; exact HBL.out)
      have HX := Lib.hid hx
      have HS63 : Hid (∀ w, Calls Try.prog 45 #[.string (str (SB.take 63))] w fun e w' => e = .returned (.tuple #[.agg #[.int .i64 0, .int .i64 0, .int .i64 0, .int .i64 0, .int .i64 0], .int .i64 5]) ∧ Below w.heap.size w w') := Lib.hid (fun w => sget_short (SB.take 63) (by rw [List.length_take, HBL.out]; decide) w)
      have he63 := str_ext_to SB 63
      have HE63 := Lib.hid he63
      clear hx HCH hi he63
      generalize xorB SB[i] y = cb at *
      generalize SB.set i cb = SC at *
      generalize SB[i] = ch at *
      go_enter Try.func13, Try.ntmps13
      go_wp2_with fail
      refine (HP.out _).mono ?_
      rintro e w1 ⟨rfl, hb⟩
      have s1 : blk5 64 n bl l c e w1 w.heap.size := by
        unfold blk5
        rw [hb.block _ (by simp)]
        exact heap_alloc_new w _
      have S1 := Lib.hid s1
      have B1 := Lib.hid (((Below.refl w.heap.size w).alloc (Nat.le_refl _) _).trans (hb.mono (by simp)))
      clear hb s1
      go_wp2_with fail
      refine (HG.out _).mono ?_
      rintro e w2 ⟨rfl, hb⟩
      have S2 := Lib.hid (S1.out.below hb)
      have B2 := Lib.hid (B1.out.trans (hb.mono B1.out.size))
      obtain ⟨c0, c1, c2, c3, c4⟩ := five_cells S2.out
      have hlt2 := S2.out.lt
      clear hb
      go_upto_region 7 with fail
      have B3 := Lib.hid (B2.out.alloc B2.out.size (.cells #[.int .i64 n, .int .i64 bl, .int .i64 l, .int .i64 c, .int .i64 e] 64))
      clear c0 c1 c2 c3 c4 S1 S2 B1 B2 hlt2
      generalize w2.alloc (.cells #[.int .i64 n, .int .i64 bl, .int .i64 l, .int .i64 c, .int .i64 e] 64) = W3 at *
      have hcv := HB4.out W3
      have hcl := HB1.out W3
      have hfr := HB3.out W3
      have hxx := HX.out
      go_upto_region 9 with fail
      have hbk := HB2.out W3 (grownCap W3 64 0 5)
      have hbV : Below w.heap.size w ((Lib.bytesWorld W3 5 (str SB)).setCell ⟨W3.heap.size, i, none⟩ (.int .u8 cb.toNat)) := (below_bytes B3.out B3.out.size _ _).setCell B3.out.size _
      have BV := Lib.hid hbV
      clear hbV hcv hcl hfr hxx B3
      generalize (Lib.bytesWorld W3 5 (str SB)).setCell ⟨W3.heap.size, i, none⟩ (.int .u8 cb.toNat) = V at *
      go_wp2_with fail
      refine (HC.out _).mono ?_
      rintro e w5 ⟨⟨a0, a1, a2, a3, a4, g, rfl, hg⟩, hb⟩
      have B5 := Lib.hid ((BV.out.trans (hb.mono BV.out.size)).alloc (Nat.le_trans BV.out.size hb.size) (.cells #[.int .i64 a0, .int .i64 a1, .int .i64 a2, .int .i64 a3, .int .i64 a4] 64))
      have HGG := Lib.hid hg
      have he63 := HE63.out
      clear hb hbk BV hg
      go_wp2_with fail
      refine (HS63.out _).mono ?_
      rintro e w6 ⟨rfl, hb⟩
      have B6 := Lib.hid ((B5.out.trans (hb.mono B5.out.size)).alloc (Nat.le_trans B5.out.size hb.size) (.cells #[.int .i64 0, .int .i64 0, .int .i64 0, .int .i64 0, .int .i64 0] 64))
      have HA := Lib.hid (fun w => alive9_any w)
      clear hb he63 B5
      rcases HGG.out with hy0 | rfl
      · have hy1 : (y % 256 == 0) = true := by simpa using hy0
        go_wp2_with fail
        refine (HA.out _).mono ?_
        rintro e w7 ⟨rfl, hb⟩
        have B7 := Lib.hid (B6.out.trans (hb.mono B6.out.size))
        clear hb
        go_wp2
        go_ret
        exact ⟨rfl, B7.out⟩
      · by_cases hy0 : y % 256 = 0
        · have hy1 : (y % 256 == 0) = true := by simpa using hy0
          go_wp2_with fail
          refine (HA.out _).mono ?_
          rintro e w7 ⟨rfl, hb⟩
          have B7 := Lib.hid (B6.out.trans (hb.mono B6.out.size))
          clear hb
          go_wp2
          go_ret
          exact ⟨rfl, B7.out⟩
        · have hy1 : (y % 256 == 0) = false := by simpa using hy0
          go_wp2_with fail
          refine (HA.out _).mono ?_
          rintro e w7 ⟨rfl, hb⟩
          have B7 := Lib.hid (B6.out.trans (hb.mono B6.out.size))
          clear hb
          go_wp2
          go_ret
          exact ⟨rfl, B7.out⟩

end Go.Proofs.Ytkgdpmeheakdcaa
