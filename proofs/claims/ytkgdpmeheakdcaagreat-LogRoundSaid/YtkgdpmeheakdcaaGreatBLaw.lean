/- What is stored is read back: plain laws of the block. -/
import Derived.Test.YtkgdpmeheakdcaaGreatReady
namespace Go.Proofs.YtkgdpmeheakdcaaGreat
open Go.RowKit
set_option linter.all false
set_option maxRecDepth 100000

theorem zeros64_bad : sumOk (zerosL 64) = false := by decide +kernel
theorem blockAt_in (n : Int) (h0 : 0 ≤ n) (h1 : n < 10) : blockAtR sh0 n = (17 + 2 * n, 0) := by
  unfold blockAtR
  rw [if_pos (inB_iff.2 ⟨h0, by show n ≤ 10 - 1; omega⟩)]
  show (sh0.blk n, (0 : Int)) = _
  simp [Sh.blk, sh0]
theorem blockAt_out (n : Int) (h : ¬ (0 ≤ n ∧ n < 10)) : blockAtR sh0 n = (0, 30) := by
  unfold blockAtR
  rw [if_neg (fun e => h (by have := inB_iff.1 e; have h2 : n ≤ 10 - 1 := this.2; omega))]

theorem half_tag_len (b v : Nat) (d : List UInt8) (h : d.length = 96) (k : Nat) (hk : k < 2) : (halfL d k ++ tagL b v).length = 60 := by
  rw [List.length_append, halfL_length d h k hk, tagL_length]
theorem secL_take (b v : Nat) (d : List UInt8) (h : d.length = 96) (k : Nat) (hk : k < 2) : (secL b v d k).take 60 = halfL d k ++ tagL b v := by
  have hl := half_tag_len b v d h k hk
  have h1 := stampL_take (l := halfL d k ++ tagL b v) (n := 64) (by omega)
  rw [hl] at h1
  unfold secL
  rw [show (60 : Nat) = 64 - 4 from rfl, h1]
  simp [zerosL]
theorem secL_ok (b v : Nat) (d : List UInt8) (h : d.length = 96) (k : Nat) (hk : k < 2) : sumOk (secL b v d k) = true :=
  stampL_ok (by rw [half_tag_len b v d h k hk]; decide)
theorem readB_secL (b v : Nat) (hb : b < 4096) (hv : v < 18446744073709551616) (d : List UInt8) (h : d.length = 96) (k : Nat) (hk : k < 2) : readB (secL b v d k) = (⟨b, v, halfL d k⟩, 0) := by
  unfold readB
  rw [if_pos (secL_ok b v d h k hk), secL_take b v d h k hk]
  have hh := halfL_length d h k hk
  unfold readX tagL
  have e1 : (halfL d k ++ (leN 4 b ++ leN 8 v)).drop 48 = leN 4 b ++ leN 8 v := by rw [List.drop_left' hh]
  have e2 : (halfL d k ++ (leN 4 b ++ leN 8 v)).take 48 = halfL d k := by rw [List.take_left' hh]
  have e3 : (leN 4 b ++ leN 8 v).take 4 = leN 4 b := by rw [List.take_left' (leN_length 4 b)]
  have e4 : (leN 4 b ++ leN 8 v).drop 4 = leN 8 v := by rw [List.drop_left' (leN_length 4 b)]
  have e5 : (leN 8 v).take 8 = leN 8 v := List.take_of_length_le (by rw [leN_length]; exact Nat.le_refl _)
  rw [e1, e2, e3, e4, e5, unLe_leN_lt (Nat.lt_of_lt_of_le hb (by decide)), unLe_leN_lt (show v < 256 ^ 8 from hv)]
theorem halves (d : List UInt8) (h : d.length = 96) : halfL d 0 ++ halfL d 1 = d := by
  unfold halfL
  have h1 : (d.drop (48 * 1)).take 48 = d.drop 48 := List.take_of_length_le (by rw [List.length_drop, h]; decide)
  rw [h1]
  simp
theorem bytes_sec0 (i : Im) (h : i.ok = true) : sec0 i.bytes = secL i.b.toNat i.v i.d 0 := by
  have hd := (Im.ok_iff.1 h).2.2
  unfold sec0 Im.bytes
  simp only [imK, List.nil_append, Nat.mul_zero, List.drop_zero]
  rw [List.take_left' (secL_length _ _ _ hd 0 (by decide))]
theorem bytes_sec1 (i : Im) (h : i.ok = true) : sec1 i.bytes = secL i.b.toNat i.v i.d 1 := by
  have hd := (Im.ok_iff.1 h).2.2
  unfold sec1 Im.bytes
  simp only [imK, List.nil_append, Nat.mul_one]
  rw [List.drop_left' (secL_length _ _ _ hd 0 (by decide)), List.take_of_length_le (by rw [secL_length _ _ _ hd 1 (by decide)]; decide)]
theorem bytes_nz (i : Im) (h : i.ok = true) : i.bytes ≠ zerosL 128 := by
  intro e
  have hd := (Im.ok_iff.1 h).2.2
  have h0 := bytes_sec0 i h
  rw [e] at h0
  have h1 : sec0 (zerosL 128) = zerosL 64 := by decide
  have h2 := secL_ok i.b.toNat i.v i.d hd 0 (by decide)
  rw [← h0, h1, zeros64_bad] at h2
  cases h2
theorem getB_bytes (i : Im) (h : i.ok = true) (hv : i.v < 18446744073709551616) : getB i.b i.bytes = (i, 0) := by
  obtain ⟨h0, h1, hd⟩ := Im.ok_iff.1 h
  have hb : ((i.b.toNat : Nat) : Int) = i.b := Int.toNat_of_nonneg h0
  unfold getB
  rw [if_neg (by simp [Im.bytes_length i h]), if_neg (bytes_nz i h), bytes_sec0 i h, bytes_sec1 i h, readB_secL _ _ (by omega) hv _ hd 0 (by decide), readB_secL _ _ (by omega) hv _ hd 1 (by decide)]
  rw [if_neg (fun h => h rfl), if_neg (fun h => h rfl), if_neg (by simp only [hb, not_or]; exact ⟨fun h => h rfl, fun h => h rfl, by omega⟩), if_neg (fun h => h rfl)]
  show (Im.mk i.b i.v (halfL i.d 0 ++ halfL i.d 1), (0 : Int)) = _
  rw [halves i.d hd]
theorem getB_zeros (n : Int) : getB n (zerosL 128) = (⟨n, 0, zerosL 96⟩, 0) := by
  unfold getB
  rw [if_neg (by rw [zerosL_length]; decide), if_pos rfl]

theorem Lv.to {D : DS} (h : Lv 0 D) (hw : D.waits = []) (nd : Int) : Lv nd D :=
  ⟨h.on, h.armed, (by rw [hw]; intro x hx; cases hx), h.sw, h.sl, h.q0, fun k => by have := h.syn k; rw [hw] at this ⊢; exact this⟩
theorem adm9_waits (D : DS) : (adm9 D).waits = D.waits := rfl
theorem adm9_sectors (D : DS) : (adm9 D).sectors = D.sectors := rfl
theorem adm9_now (D : DS) : (adm9 D).now = D.now := rfl
theorem adm9_table (D : DS) : (adm9 D).table = (List.replicate 17 (0 : Int)).set 1 9 := rfl
theorem adm9_lv {nd : Int} {D : DS} (h : Lv nd D) : Lv nd (adm9 D) := ⟨h.on, h.armed, h.w0, h.sw, h.sl, h.q0, h.syn⟩
theorem dk9_waits : dk9.waits = [] := by rw [dk9, adm9_waits, fm8_waits]
theorem dk9_sectors : dk9.sectors = 37 := by rw [dk9, adm9_sectors, fm8_sectors]
theorem dk9_table : dk9.table = (List.replicate 17 (0 : Int)).set 1 9 := by rw [dk9, adm9_table]
theorem dk9_lv (nd : Int) : Lv nd dk9 := Lv.to (adm9_lv (fm8_lv 37 sb0)) dk9_waits nd
theorem dk9_now (j : Int) (h0 : 1 ≤ j) (h1 : j < 37) : dk9.now j = some zero64 := by
  have h := fm8_now 37 sb0 sb0_size j
  rw [if_neg (by omega), if_pos (by omega)] at h
  rw [dk9, adm9_now]
  exact h
theorem zero64_list : zero64.data.toList = zerosL 64 := by decide +kernel
theorem loadB_of {D : DS} (hon : D.on = true) (hs : D.sectors = 37) (n : Int) (h0 : 0 ≤ n) (h1 : n < 10) : loadB D n = getB n (readL D (17 + 2 * n) 2) := by
  have hr := readR_on hon (17 + 2 * n) 2
  rw [if_pos (by rw [hs]; omega)] at hr
  unfold loadB
  rw [blockAt_in n h0 h1, if_neg (fun h => h rfl)]
  dsimp only
  rw [hr, if_neg (fun h => h rfl)]
  rfl
theorem loadB_zero (n : Int) (h0 : 0 ≤ n) (h1 : n < 10) : loadB dk9 n = (⟨n, 0, zerosL 96⟩, 0) := by
  have hr : readL dk9 (17 + 2 * n) 2 = zerosL 128 := by
    simp only [readL, secAt]
    rw [dk9_now _ (by omega) (by omega), dk9_now _ (by omega) (by omega)]
    simp only [Option.getD_some, zero64_list, List.nil_append]
    decide
  rw [loadB_of (dk9_lv 0).on dk9_sectors n h0 h1, hr, getB_zeros]

theorem storeB_ok {nd : Int} {D : DS} (h : Lv nd D) (hs : D.sectors = 37) (h0 : 0 ≤ nd) (h1 : nd ≤ 16) (epoch : Int) (he : epoch ≠ 0) (ht : D.table.getD nd.toNat 0 = epoch) (i : Im) (hi : i.ok = true) (hb : i.b < 10) :
    storeB D nd epoch i = (0, wrN D nd (17 + 2 * i.b) (str i.bytes) 2) := by
  have h2 := (Im.ok_iff.1 hi).1
  unfold storeB
  rw [blockAt_in i.b h2 hb, if_neg (fun h => h rfl), if_neg (by rw [hi]; decide),
    writeR_way 2 h.on (goesD_off h.armed).2 h0 h1 he ht (by rw [str_size, Im.bytes_length i hi]) (by decide) (by decide) (by show 0 ≤ 17 + 2 * i.b; omega) (by show 17 + 2 * i.b + (2 : Nat) ≤ D.sectors; rw [hs]; omega), (goesD_off h.armed).1]
theorem loadB_wr {nd : Int} {D : DS} (h : Lv nd D) (hs : D.sectors = 37) (i : Im) (hi : i.ok = true) (hv : i.v < 18446744073709551616) (hb : i.b < 10) : loadB (wrN D nd (17 + 2 * i.b) (str i.bytes) 2) i.b = (i, 0) := by
  have h2 := (Im.ok_iff.1 hi).1
  rw [loadB_of (h.wrN _ _ _).on (by rw [wrN_sectors, hs]) i.b h2 hb, readL_wrN _ _ _ _ _ (by rw [str_size, Im.bytes_length i hi]), str_toList, getB_bytes i hi hv]

end Go.Proofs.YtkgdpmeheakdcaaGreat
